/- A part of the proof: a logic for calls over plain values, and a runner that is shown to be right. -/
import Derived.Tactics
import Derived.Orders
namespace Go.Am
set_option linter.unusedVariables false
set_option linter.unusedSimpArgs false

/-- Abstract values. -/
inductive AV where
  | bool (b : Bool)
  | int (k : IntKind) (n : Int)
  | str (s : ByteArray)
  | flt (n : Nat)
  | nil
  | ptr (id off : Nat)
  | aptr (id esz i off : Nat)
  | ep (cells : List AV)
  | nils
  | sl (esz : Nat) (es : List (List AV))
  | os (id esz off len : Nat)
  | mp (id : Nat)
  | nilmap
  | fn (f : Nat) (caps : List AV)
  | nilfn
  | agg (cells : List AV)
  | tup (vs : List AV)
  | iface (t : Nat) (v : AV)
  | nilIface

def AV.flat : AV → Bool
  | .agg _ | .tup _ => false
  | _ => true

def AV.cells : AV → List AV
  | .agg cs => cs
  | v => [v]

inductive Obj where
  | box (cells : List AV)
  | arr (esz : Nat) (es : List (List AV))
  | map (es : List (AV × AV))

abbrev Store := Nat → Option Obj

/-- The ghost: where an id lies (block, first cell), and which blocks never change again. -/
structure Gh where
  ρ : Nat → Option (Nat × Nat)
  I : Nat → Prop

inductive Rels {α β : Type} (R : α → β → Prop) : List α → List β → Prop
  | nil : Rels R [] []
  | cons {a b as bs} : R a b → Rels R as bs → Rels R (a :: as) (b :: bs)

theorem Rels.length {α β : Type} {R : α → β → Prop} {as : List α} {bs : List β} (h : Rels R as bs) : as.length = bs.length := by
  induction h with
  | nil => rfl
  | cons _ _ ih => simp [ih]

theorem Rels.get {α β : Type} {R : α → β → Prop} {as : List α} {bs : List β} (h : Rels R as bs) :
    ∀ (k : Nat) (a : α), as[k]? = some a → ∃ b, bs[k]? = some b ∧ R a b := by
  induction h with
  | nil => intro k a h; simp at h
  | cons hr _ ih =>
    intro k a h
    cases k with
    | zero => simp at h; subst h; exact ⟨_, by simp, hr⟩
    | succ k => simp at h; obtain ⟨b, hb, hr'⟩ := ih k a h; exact ⟨b, by simpa using hb, hr'⟩

theorem Rels.mono {α β : Type} {R R' : α → β → Prop} {as : List α} {bs : List β} (h : Rels R as bs) (hr : ∀ a b, R a b → R' a b) : Rels R' as bs := by
  induction h with
  | nil => exact .nil
  | cons h1 _ ih => exact .cons (hr _ _ h1) ih

theorem Rels.append {α β : Type} {R : α → β → Prop} {as as' : List α} {bs bs' : List β} (h : Rels R as bs) (h' : Rels R as' bs') : Rels R (as ++ as') (bs ++ bs') := by
  induction h with
  | nil => exact h'
  | cons h1 _ ih => exact .cons h1 ih

theorem Rels.of_get {α β : Type} {R : α → β → Prop} : ∀ {as : List α} {bs : List β}, as.length = bs.length →
    (∀ k (h : k < as.length) (h' : k < bs.length), R as[k] bs[k]) → Rels R as bs
  | [], [], _, _ => .nil
  | a :: as, b :: bs, hl, h => .cons (h 0 (by simp) (by simp)) (Rels.of_get (by simpa using hl) fun k hk hk' => h (k + 1) (by simpa using hk) (by simpa using hk'))
  | [], _ :: _, hl, _ => by simp at hl
  | _ :: _, [], hl, _ => by simp at hl

theorem Rels.take {α β : Type} {R : α → β → Prop} {as : List α} {bs : List β} (h : Rels R as bs) (n : Nat) : Rels R (as.take n) (bs.take n) := by
  induction h generalizing n with
  | nil => simp; exact .nil
  | cons h1 _ ih => cases n with
    | zero => simp; exact .nil
    | succ n => simp; exact .cons h1 (ih n)

theorem Rels.drop {α β : Type} {R : α → β → Prop} {as : List α} {bs : List β} (h : Rels R as bs) (n : Nat) : Rels R (as.drop n) (bs.drop n) := by
  induction h generalizing n with
  | nil => simp; exact .nil
  | cons h1 h2 ih => cases n with
    | zero => simp; exact .cons h1 h2
    | succ n => simp; exact ih n

/-- An abstract value stands for a value, in this world. -/
inductive VRel (G : Gh) (w : World) : AV → Value → Prop
  | bool (b) : VRel G w (.bool b) (.bool b)
  | int (k n) : VRel G w (.int k n) (.int k n)
  | str (s) : VRel G w (.str s) (.string s)
  | flt (n) : VRel G w (.flt n) (.float .f64 n)
  | nil : VRel G w .nil (.pointer none)
  | ptr {id off b base} (h : G.ρ id = some (b, base)) : VRel G w (.ptr id off) (.pointer (some ⟨b, base + off, none⟩))
  | aptr {id esz i off b base} (h : G.ρ id = some (b, base)) :
      VRel G w (.aptr id esz i off) (.pointer (some ⟨b, base + (i * esz + off), none⟩))
  | ep {cells b off} (vs : Nat → Value) (hb : G.I b) (hf : ∀ c ∈ cells, c.flat = true)
      (hc : ∀ k, k < cells.length → w.cell? ⟨b, off + k, none⟩ = some (vs k))
      (hv : ∀ k (h : k < cells.length), VRel G w cells[k] (vs k)) : VRel G w (.ep cells) (.pointer (some ⟨b, off, none⟩))
  | nils : VRel G w .nils (.slice none 0 0)
  | sl0 {esz a c} : VRel G w (.sl esz []) (.slice a 0 c)
  | sl {esz es b off c} (vs : Nat → Nat → Value) (hb : G.I b) (hne : es ≠ []) (hcap : es.length ≤ c)
      (hl : ∀ cs ∈ es, cs.length = esz) (hf : ∀ cs ∈ es, ∀ x ∈ cs, x.flat = true)
      (hc : ∀ i j, i < es.length → j < esz → w.cell? ⟨b, off + (i * esz + j), none⟩ = some (vs i j))
      (hv : ∀ i j (hi : i < es.length) (hj : j < (es[i]'hi : List AV).length), VRel G w ((es[i]'hi : List AV)[j]'hj) (vs i j)) :
      VRel G w (.sl esz es) (.slice (some ⟨b, off, none⟩) es.length c)
  | os {id esz off len b base c} (h : G.ρ id = some (b, base)) (hlen : len ≤ c)
      (hs : ∃ ty n, w.shape? b = some (ty, n) ∧ base + (off + c) * esz ≤ n) :
      VRel G w (.os id esz off len) (.slice (some ⟨b, base + off * esz, none⟩) len c)
  | os0 {id esz off b base x} (h : G.ρ id = some (b, base)) : VRel G w (.os id esz off 0) (.slice (some x) 0 0)
  | mp {id b base} (h : G.ρ id = some (b, base)) : VRel G w (.mp id) (.map (some b))
  | nilmap : VRel G w .nilmap (.map none)
  | fn {f caps} {cs : List Value} (hl : caps.length = cs.length) (hv : ∀ k (h : k < caps.length) (h' : k < cs.length), VRel G w caps[k] cs[k]) :
      VRel G w (.fn f caps) (.func (.func f) #[] cs.toArray)
  | nilfn : VRel G w .nilfn .nilFunc
  | agg {cells} {cs : List Value} (hl : cells.length = cs.length) (hf : ∀ c ∈ cells, c.flat = true)
      (hv : ∀ k (h : k < cells.length) (h' : k < cs.length), VRel G w cells[k] cs[k]) : VRel G w (.agg cells) (.agg cs.toArray)
  | tup {vs} {cs : List Value} (hl : vs.length = cs.length)
      (hv : ∀ k (h : k < vs.length) (h' : k < cs.length), VRel G w vs[k] cs[k]) : VRel G w (.tup vs) (.tuple cs.toArray)
  | iface {t a v} (h : VRel G w a v) : VRel G w (.iface t a) (.iface t v)
  | nilIface : VRel G w .nilIface .nilIface

theorem VRel.oneCell {G : Gh} {w : World} {a : AV} {v : Value} (h : VRel G w a v) (hf : a.flat = true) : v.oneCell' = true := by
  cases h <;> first | rfl | (simp [AV.flat] at hf)

theorem VRel.cells {G : Gh} {w : World} {a : AV} {v : Value} (h : VRel G w a v) (hf : a.flat = true) : v.cells = #[v] ∧ a.cells = [a] := by
  cases h <;> first | exact ⟨rfl, rfl⟩ | (simp [AV.flat] at hf)

/-- How an object lies in its block from the cell 'base' on. -/
inductive ORel (G : Gh) (w : World) (b base : Nat) : Obj → Prop
  | box {cells} {cs : Array Value} {ty} (hb : w.heap[b]? = some (.cells cs ty (0, 0))) (hs : base + cells.length ≤ cs.size)
      (hf : ∀ c ∈ cells, c.flat = true)
      (hv : ∀ k (h : k < cells.length), VRel G w cells[k] (cs.getD (base + k) undef)) : ORel G w b base (.box cells)
  | arr {esz es} {cs : Array Value} {ty} (hb : w.heap[b]? = some (.cells cs ty (0, 0))) (hs : base + es.length * esz ≤ cs.size)
      (hl : ∀ e ∈ es, e.length = esz) (hf : ∀ e ∈ es, ∀ c ∈ e, c.flat = true)
      (hv : ∀ i j (hi : i < es.length) (hj : j < (es[i]'hi : List AV).length), VRel G w ((es[i]'hi : List AV)[j]'hj) (cs.getD (base + (i * esz + j)) undef)) : ORel G w b base (.arr esz es)
  | map {es} {ents : Array MapEntry} {clock} (hb : w.heap[b]? = some (.map ents clock)) (h0 : base = 0)
      (hl : es.length = ents.size)
      (hv : ∀ k (h : k < es.length) (h' : k < ents.size), VRel G w es[k].1 ents[k].key ∧ VRel G w es[k].2 ents[k].val)
      (hborn : ∀ k (h : k < ents.size), ents[k].born < clock) (hinj : ∀ i j (hi : i < ents.size) (hj : j < ents.size), ents[i].born = ents[j].born → i = j) :
      ORel G w b base (.map es)

structure Sim (G : Gh) (σ : Store) (w : World) : Prop where
  lt : ∀ b, G.I b → b < w.heap.size
  fin : ∃ N, ∀ id, N ≤ id → G.ρ id = none
  blk : ∀ id b base, G.ρ id = some (b, base) → b < w.heap.size
  used : ∀ id o, σ id = some o → ∃ b base, G.ρ id = some (b, base) ∧ ORel G w b base o
  inj : ∀ i j oi oj b base base', σ i = some oi → σ j = some oj → G.ρ i = some (b, base) → G.ρ j = some (b, base') → i = j
  apart : ∀ i o b base, σ i = some o → G.ρ i = some (b, base) → ¬ G.I b

def own (G : Gh) (σ : Store) (b : Nat) : Prop := ∃ id o base, σ id = some o ∧ G.ρ id = some (b, base)

structure Ext (G : Gh) (σ : Store) (w : World) (G' : Gh) (σ' : Store) (w' : World) : Prop where
  tape : w'.tape = w.tape
  os : w'.os = w.os
  output : w'.output = w.output
  size : w.heap.size ≤ w'.heap.size
  keep : ∀ b, b < w.heap.size → ¬ own G σ b → w'.heap[b]? = w.heap[b]?
  shape : ∀ b, b < w.heap.size → w'.shape? b = w.shape? b
  ρ : ∀ id x, G.ρ id = some x → G'.ρ id = some x
  I : ∀ b, G.I b → G'.I b
  newI : ∀ b, G'.I b → G.I b ∨ own G σ b ∨ w.heap.size ≤ b
  newOwn : ∀ b, own G' σ' b → own G σ b ∨ w.heap.size ≤ b
  newId : ∀ id o, σ' id = some o → (∃ o', σ id = some o') ∨ G.ρ id = none

theorem Ext.refl (G : Gh) (σ : Store) (w : World) : Ext G σ w G σ w :=
  ⟨rfl, rfl, rfl, Nat.le_refl _, fun _ _ _ => rfl, fun _ _ => rfl, fun _ _ h => h, fun _ h => h, fun _ h => .inl h, fun _ h => .inl h, fun _ o h => .inl ⟨o, h⟩⟩

theorem Ext.trans {G G1 G2 : Gh} {σ σ1 σ2 : Store} {w w1 w2 : World} (h : Ext G σ w G1 σ1 w1) (h' : Ext G1 σ1 w1 G2 σ2 w2) : Ext G σ w G2 σ2 w2 where
  tape := h'.tape.trans h.tape
  os := h'.os.trans h.os
  output := h'.output.trans h.output
  size := Nat.le_trans h.size h'.size
  keep b hb hn := by
    have h1 : ¬ own G1 σ1 b := fun ho => (h.newOwn b ho).elim hn (fun hs => by omega)
    rw [h'.keep b (Nat.lt_of_lt_of_le hb h.size) h1, h.keep b hb hn]
  shape b hb := by rw [h'.shape b (Nat.lt_of_lt_of_le hb h.size), h.shape b hb]
  ρ id x hx := h'.ρ id x (h.ρ id x hx)
  I b hb := h'.I b (h.I b hb)
  newI b hb := by
    rcases h'.newI b hb with h1 | h1 | h1
    · exact h.newI b h1
    · exact (h.newOwn b h1).elim (fun x => .inr (.inl x)) (fun x => .inr (.inr x))
    · exact .inr (.inr (Nat.le_trans h.size h1))
  newOwn b hb := by
    rcases h'.newOwn b hb with h1 | h1
    · exact h.newOwn b h1
    · exact .inr (Nat.le_trans h.size h1)
  newId id o ho := by
    rcases h'.newId id o ho with ⟨o', h1⟩ | h1
    · exact h.newId id o' h1
    · cases hx : G.ρ id with
      | none => exact .inr rfl
      | some x => rw [h.ρ id x hx] at h1; cases h1

theorem cell?_of_heap {w w' : World} {b : Nat} (h : w'.heap[b]? = w.heap[b]?) (o : Nat) : w'.cell? ⟨b, o, none⟩ = w.cell? ⟨b, o, none⟩ := by
  simp only [World.cell?, h]

/-- What a value stands for does not change when the world goes on. -/
theorem VRel.grow {G G' : Gh} {w w' : World} (hI : ∀ b, G.I b → G'.I b) (hρ : ∀ id x, G.ρ id = some x → G'.ρ id = some x)
    (hk : ∀ b, G.I b → w'.heap[b]? = w.heap[b]?) (hsh : ∀ b x, w.shape? b = some x → w'.shape? b = some x)
    {a : AV} {v : Value} (h : VRel G w a v) : VRel G' w' a v := by
  induction h with
  | bool b => exact .bool b
  | int k n => exact .int k n
  | str s => exact .str s
  | flt n => exact .flt n
  | nil => exact .nil
  | ptr h => exact .ptr (hρ _ _ h)
  | aptr h => exact .aptr (hρ _ _ h)
  | ep vs hb hf hc hv ih => exact .ep vs (hI _ hb) hf (fun k hk' => by rw [cell?_of_heap (hk _ hb)]; exact hc k hk') ih
  | nils => exact .nils
  | sl0 => exact .sl0
  | sl vs hb hne hcap hl hf hc hv ih => exact .sl vs (hI _ hb) hne hcap hl hf (fun i j hi hj => by rw [cell?_of_heap (hk _ hb)]; exact hc i j hi hj) ih
  | os h hlen hs =>
    obtain ⟨ty, n, h1, h2⟩ := hs
    exact .os (hρ _ _ h) hlen ⟨ty, n, hsh _ _ h1, h2⟩
  | os0 h => exact .os0 (hρ _ _ h)
  | mp h => exact .mp (hρ _ _ h)
  | nilmap => exact .nilmap
  | fn hl _ ih => exact .fn hl ih
  | nilfn => exact .nilfn
  | agg hl hf _ ih => exact .agg hl hf ih
  | tup hl _ ih => exact .tup hl ih
  | iface _ ih => exact .iface ih
  | nilIface => exact .nilIface

theorem shape?_lt {w : World} {b : Nat} {x : TypeId × Nat} (h : w.shape? b = some x) : b < w.heap.size := by
  unfold World.shape? at h
  cases hb : w.heap[b]? with
  | none => rw [hb] at h; cases h
  | some o =>
    rcases Nat.lt_or_ge b w.heap.size with h' | h'
    · exact h'
    · simp [h'] at hb

theorem Sim.notOwn {G : Gh} {σ : Store} {w : World} (hs : Sim G σ w) {b : Nat} (hb : G.I b) : ¬ own G σ b := by
  rintro ⟨id, o, base, h1, h2⟩
  exact hs.apart id o b base h1 h2 hb

theorem Ext.vrel {G G' : Gh} {σ σ' : Store} {w w' : World} (hx : Ext G σ w G' σ' w') (hs : Sim G σ w) {a : AV} {v : Value} (h : VRel G w a v) : VRel G' w' a v :=
  h.grow hx.I hx.ρ (fun b hb => hx.keep b (hs.lt b hb) (hs.notOwn hb)) (fun b x hb => by rw [hx.shape b (shape?_lt hb)]; exact hb)

/-- A world that differs in the count of draws alone. -/
theorem VRel.heap {G : Gh} {w w' : World} (hw : w'.heap = w.heap) {a : AV} {v : Value} (h : VRel G w a v) : VRel G w' a v :=
  h.grow (fun _ h => h) (fun _ _ h => h) (fun b _ => by rw [hw]) (fun b x hb => by unfold World.shape? at *; rw [hw]; exact hb)

theorem ORel.grow {G G' : Gh} {w w' : World} {b base : Nat} {o : Obj} (h : ORel G w b base o) (hb' : w'.heap[b]? = w.heap[b]?)
    (hv : ∀ a v, VRel G w a v → VRel G' w' a v) : ORel G' w' b base o := by
  cases h with
  | box hb hs hf hr => exact .box (hb'.trans hb) hs hf fun k h => hv _ _ (hr k h)
  | arr hb hs hl hf hr => exact .arr (hb'.trans hb) hs hl hf fun i j hi hj => hv _ _ (hr i j hi hj)
  | map hb h0 hl hr h1 h2 => exact .map (hb'.trans hb) h0 hl (fun k h h' => ⟨hv _ _ (hr k h h').1, hv _ _ (hr k h h').2⟩) h1 h2

/-- Forgetting: a part of a store. -/
def Store.sub (σ σ' : Store) : Prop := ∀ id o, σ id = some o → σ' id = some o

theorem Store.sub_refl (σ : Store) : σ.sub σ := fun _ _ h => h
theorem Store.sub_trans {a b c : Store} (h : a.sub b) (h' : b.sub c) : a.sub c := fun id o ho => h' id o (h id o ho)

theorem Sim.sub {G : Gh} {σ σ' : Store} {w : World} (h : Sim G σ' w) (hs : σ.sub σ') : Sim G σ w where
  lt := h.lt
  fin := h.fin
  blk := h.blk
  used id o ho := h.used id o (hs id o ho)
  inj i j oi oj b base base' hi hj := h.inj i j oi oj b base base' (hs i oi hi) (hs j oj hj)
  apart i o b base hi := h.apart i o b base (hs i o hi)

theorem own_sub {G : Gh} {σ σ' : Store} {b : Nat} (hs : σ.sub σ') (h : own G σ b) : own G σ' b := by
  obtain ⟨id, o, base, h1, h2⟩ := h
  exact ⟨id, o, base, hs id o h1, h2⟩

theorem Ext.sub {G G' : Gh} {σ σ' σ'' : Store} {w w' : World} (h : Ext G σ w G' σ' w') (hs : σ''.sub σ') : Ext G σ w G' σ'' w' :=
  { h with newOwn := fun b hb => h.newOwn b (own_sub hs hb), newId := fun id o ho => h.newId id o (hs id o ho) }

def Store.set (σ : Store) (i : Nat) (o : Obj) : Store := fun j => if j = i then some o else σ j
def Store.del (σ : Store) (i : Nat) : Store := fun j => if j = i then none else σ j
def Store.union (σ φ : Store) : Store := fun j => match σ j with | some o => some o | none => φ j
def Store.disj (σ φ : Store) : Prop := ∀ id o, σ id = some o → φ id = none

@[simp] theorem Store.set_same (σ : Store) (i : Nat) (o : Obj) : σ.set i o i = some o := by simp [Store.set]
theorem Store.set_ne (σ : Store) {i j : Nat} (o : Obj) (h : j ≠ i) : σ.set i o j = σ j := by simp [Store.set, h]
@[simp] theorem Store.del_same (σ : Store) (i : Nat) : σ.del i i = none := by simp [Store.del]
theorem Store.del_ne (σ : Store) {i j : Nat} (h : j ≠ i) : σ.del i j = σ j := by simp [Store.del, h]
@[simp] theorem Store.set_set (σ : Store) (i : Nat) (o o' : Obj) : (σ.set i o).set i o' = σ.set i o' := by
  funext j; simp only [Store.set]; split <;> rfl
theorem Store.set_comm (σ : Store) {i j : Nat} (o o' : Obj) (h : i ≠ j) : (σ.set i o).set j o' = (σ.set j o').set i o := by
  funext k; simp only [Store.set]; (repeat' split) <;> first | rfl | omega
theorem Store.del_set (σ : Store) (i : Nat) (o : Obj) (h : σ i = none) : (σ.set i o).del i = σ := by
  funext k; simp only [Store.set, Store.del]; split
  · rename_i hk; subst hk; exact h.symm
  · rfl
theorem Store.del_set_ne (σ : Store) {i j : Nat} (o : Obj) (h : i ≠ j) : (σ.set i o).del j = (σ.del j).set i o := by
  funext k; simp only [Store.set, Store.del]; (repeat' split) <;> first | rfl | omega
theorem Store.sub_set (σ : Store) (i : Nat) (o : Obj) (h : σ i = none) : σ.sub (σ.set i o) := by
  intro id x hx
  by_cases he : id = i
  · subst he; rw [h] at hx; cases hx
  · rw [Store.set_ne _ _ he]; exact hx
theorem Store.sub_del (σ : Store) (i : Nat) : (σ.del i).sub σ := by
  intro id x hx
  by_cases he : id = i
  · subst he; simp at hx
  · rwa [Store.del_ne _ he] at hx

theorem Sim.fresh {G : Gh} {σ : Store} {w : World} (h : Sim G σ w) : ∃ id, G.ρ id = none ∧ σ id = none := by
  obtain ⟨N, hN⟩ := h.fin
  refine ⟨N, hN N (Nat.le_refl _), ?_⟩
  cases hσ : σ N with
  | none => rfl
  | some o =>
    obtain ⟨b, base, h1, _⟩ := h.used N o hσ
    rw [hN N (Nat.le_refl _)] at h1; cases h1

/-- Draws alone. -/
theorem Sim.heap {G : Gh} {σ : Store} {w w' : World} (h : Sim G σ w) (hw : w'.heap = w.heap) : Sim G σ w' where
  lt b hb := by rw [hw]; exact h.lt b hb
  fin := h.fin
  blk id b base hb := by rw [hw]; exact h.blk id b base hb
  used id o ho := by
    obtain ⟨b, base, h1, h2⟩ := h.used id o ho
    exact ⟨b, base, h1, h2.grow (by rw [hw]) fun a v hv => hv.heap hw⟩
  inj := h.inj
  apart := h.apart

/-- A new block, owned by a fresh id. -/
theorem Sim.alloc {G : Gh} {σ : Store} {w : World} (h : Sim G σ w) {id : Nat} (hρ : G.ρ id = none) (hσ : σ id = none) (ob : Go.Obj) {o : Obj}
    (ho : ∀ G' : Gh, (∀ i x, G.ρ i = some x → G'.ρ i = some x) → (∀ b, G.I b → G'.I b) → G'.ρ id = some (w.heap.size, 0) → ORel G' (w.alloc ob) w.heap.size 0 o) :
    ∃ G', Ext G σ w G' (σ.set id o) (w.alloc ob) ∧ Sim G' (σ.set id o) (w.alloc ob) ∧ G'.ρ id = some (w.heap.size, 0) := by
  let G' : Gh := ⟨fun i => if i = id then some (w.heap.size, 0) else G.ρ i, G.I⟩
  have hρ' : ∀ i x, G.ρ i = some x → G'.ρ i = some x := fun i x hx => by
    have : i ≠ id := fun e => by subst e; rw [hρ] at hx; cases hx
    simp [G', this, hx]
  have hid : G'.ρ id = some (w.heap.size, 0) := by simp [G']
  have hne : ∀ i o, σ i = some o → i ≠ id := fun i o hi e => by subst e; rw [hσ] at hi; cases hi
  have hG : ∀ i, i ≠ id → G'.ρ i = G.ρ i := fun i hi => by simp [G', hi]
  have hheap : ∀ b, b < w.heap.size → (w.alloc ob).heap[b]? = w.heap[b]? := fun b hb => by
    show (w.heap.push ob)[b]? = w.heap[b]?
    rw [Array.getElem?_push, if_neg (Nat.ne_of_lt hb)]
  have hshape : ∀ b, b < w.heap.size → (w.alloc ob).shape? b = w.shape? b := fun b hb => by simp only [World.shape?, hheap b hb]
  have hext : Ext G σ w G' (σ.set id o) (w.alloc ob) :=
    { tape := rfl, os := rfl, output := rfl, size := by simp
      keep := fun b hb _ => hheap b hb
      shape := hshape
      ρ := hρ', I := fun _ h => h, newI := fun _ h => .inl h
      newOwn := fun b ⟨i, o', base, h1, h2⟩ => by
        by_cases hi : i = id
        · subst hi; rw [hid] at h2; cases h2; exact .inr (Nat.le_refl _)
        · rw [Store.set_ne _ _ hi] at h1; rw [hG i hi] at h2; exact .inl ⟨i, o', base, h1, h2⟩
      newId := fun i o' h1 => by
        by_cases hi : i = id
        · subst hi; exact .inr hρ
        · rw [Store.set_ne _ _ hi] at h1; exact .inl ⟨o', h1⟩ }
  refine ⟨G', hext, ?_, hid⟩
  have hv : ∀ a v, VRel G w a v → VRel G' (w.alloc ob) a v := fun a v hv => hext.vrel h hv
  exact
    { lt := fun b hb => by have := h.lt b hb; simp; omega
      fin := by
        obtain ⟨N, hN⟩ := h.fin
        refine ⟨max N (id + 1), fun i hi => ?_⟩
        rw [hG i (by omega)]; exact hN i (by omega)
      blk := fun i b base hb => by
        by_cases hi : i = id
        · subst hi; rw [hid] at hb; cases hb; simp
        · rw [hG i hi] at hb; have := h.blk i b base hb; simp; omega
      used := fun i o' h1 => by
        by_cases hi : i = id
        · subst hi; simp at h1; subst h1; exact ⟨_, _, hid, ho G' hρ' (fun _ h => h) hid⟩
        · rw [Store.set_ne _ _ hi] at h1
          obtain ⟨b, base, h2, h3⟩ := h.used i o' h1
          exact ⟨b, base, hρ' _ _ h2, h3.grow (hheap b (h.blk i b base h2)) hv⟩
      inj := fun i j oi oj b base base' h1 h2 h3 h4 => by
        by_cases hi : i = id <;> by_cases hj : j = id
        · rw [hi, hj]
        · subst hi; rw [hid] at h3; cases h3; rw [hG j hj] at h4; have := h.blk _ _ _ h4; omega
        · subst hj; rw [hid] at h4; cases h4; rw [hG i hi] at h3; have := h.blk _ _ _ h3; omega
        · rw [Store.set_ne _ _ hi] at h1; rw [Store.set_ne _ _ hj] at h2; rw [hG i hi] at h3; rw [hG j hj] at h4
          exact h.inj i j oi oj b base base' h1 h2 h3 h4
      apart := fun i o' b base h1 h2 => by
        by_cases hi : i = id
        · subst hi; rw [hid] at h2; cases h2; intro hb; have := h.lt _ hb; omega
        · rw [Store.set_ne _ _ hi] at h1; rw [hG i hi] at h2; exact h.apart i o' b base h1 h2 }

/-- A block that has come meanwhile, owned by a fresh id: what lay stands. -/
theorem Sim.adopt {G : Gh} {σ : Store} {w w' : World} (h : Sim G σ w) {id : Nat} (hρ : G.ρ id = none) (hσ : σ id = none) {g : Nat} (hg : w.heap.size ≤ g) (hg' : g < w'.heap.size) (hsize : w.heap.size ≤ w'.heap.size)
    (htape : w'.tape = w.tape) (hos : w'.os = w.os) (hout : w'.output = w.output) (hheap : ∀ b, b < w.heap.size → w'.heap[b]? = w.heap[b]?) {o : Obj}
    (ho : ∀ G' : Gh, (∀ i x, G.ρ i = some x → G'.ρ i = some x) → (∀ b, G.I b → G'.I b) → (∀ a v, VRel G w a v → VRel G' w' a v) → ORel G' w' g 0 o) :
    ∃ G', Ext G σ w G' (σ.set id o) w' ∧ Sim G' (σ.set id o) w' ∧ G'.ρ id = some (g, 0) := by
  let G' : Gh := ⟨fun i => if i = id then some (g, 0) else G.ρ i, G.I⟩
  have hρ' : ∀ i x, G.ρ i = some x → G'.ρ i = some x := fun i x hx => by
    have : i ≠ id := fun e => by subst e; rw [hρ] at hx; cases hx
    simp [G', this, hx]
  have hid : G'.ρ id = some (g, 0) := by simp [G']
  have hne : ∀ i o, σ i = some o → i ≠ id := fun i o hi e => by subst e; rw [hσ] at hi; cases hi
  have hG : ∀ i, i ≠ id → G'.ρ i = G.ρ i := fun i hi => by simp [G', hi]
  have hshape : ∀ b, b < w.heap.size → w'.shape? b = w.shape? b := fun b hb => by simp only [World.shape?, hheap b hb]
  have hext : Ext G σ w G' (σ.set id o) w' :=
    { tape := htape, os := hos, output := hout, size := hsize
      keep := fun b hb _ => hheap b hb
      shape := hshape
      ρ := hρ', I := fun _ h => h, newI := fun _ h => .inl h
      newOwn := fun b ⟨i, o', base, h1, h2⟩ => by
        by_cases hi : i = id
        · subst hi; rw [hid] at h2; cases h2; exact .inr hg
        · rw [Store.set_ne _ _ hi] at h1; rw [hG i hi] at h2; exact .inl ⟨i, o', base, h1, h2⟩
      newId := fun i o' h1 => by
        by_cases hi : i = id
        · subst hi; exact .inr hρ
        · rw [Store.set_ne _ _ hi] at h1; exact .inl ⟨o', h1⟩ }
  refine ⟨G', hext, ?_, hid⟩
  have hv : ∀ a v, VRel G w a v → VRel G' w' a v := fun a v hv => hext.vrel h hv
  exact
    { lt := fun b hb => by have := h.lt b hb; omega
      fin := by
        obtain ⟨N, hN⟩ := h.fin
        refine ⟨max N (id + 1), fun i hi => ?_⟩
        rw [hG i (by omega)]; exact hN i (by omega)
      blk := fun i b base hb => by
        by_cases hi : i = id
        · subst hi; rw [hid] at hb; cases hb; exact hg'
        · rw [hG i hi] at hb; have := h.blk i b base hb; omega
      used := fun i o' h1 => by
        by_cases hi : i = id
        · subst hi; simp at h1; subst h1; exact ⟨_, _, hid, ho G' hρ' (fun _ h => h) hv⟩
        · rw [Store.set_ne _ _ hi] at h1
          obtain ⟨b, base, h2, h3⟩ := h.used i o' h1
          exact ⟨b, base, hρ' _ _ h2, h3.grow (hheap b (h.blk i b base h2)) hv⟩
      inj := fun i j oi oj b base base' h1 h2 h3 h4 => by
        by_cases hi : i = id <;> by_cases hj : j = id
        · rw [hi, hj]
        · subst hi; rw [hid] at h3; cases h3; rw [hG j hj] at h4; have := h.blk _ _ _ h4; omega
        · subst hj; rw [hid] at h4; cases h4; rw [hG i hi] at h3; have := h.blk _ _ _ h3; omega
        · rw [Store.set_ne _ _ hi] at h1; rw [Store.set_ne _ _ hj] at h2; rw [hG i hi] at h3; rw [hG j hj] at h4
          exact h.inj i j oi oj b base base' h1 h2 h3 h4
      apart := fun i o' b base h1 h2 => by
        by_cases hi : i = id
        · subst hi; rw [hid] at h2; cases h2; intro hb; have := h.lt _ hb; omega
        · rw [Store.set_ne _ _ hi] at h1; rw [hG i hi] at h2; exact h.apart i o' b base h1 h2 }


end Go.Am
