/- A part of the proof: a logic for calls over plain values, and the functions that the law reaches, each walked once. -/
import Derived.Test.YtpadlfhopcfakaaPA20
set_option linter.unusedVariables false
set_option linter.unusedSimpArgs false
set_option linter.unusedSectionVars false

/- W13 -/
namespace Go.Am
open Go.Proofs Go.Sort

/-- A write, without the question where its hops lie. -/
abbrev WK := Bool × Int × Int × HL
def Wr.k (w : Wr) : WK := (w.cut, w.e.a, w.e.n, w.e.h.getD [])
def needs (old : List En) (e : En) : Bool := !((lookE old e.a e.n).isSome && decide (((lookE old e.a e.n).getD none).getD [] = e.h.getD []))
def setK (e : En) : WK := (false, e.a, e.n, e.h.getD [])
def cutK (e : En) : WK := (true, e.a, e.n, [])
def gone (new : List En) (e : En) : Bool := !(lookE new e.a e.n).isSome
def setsK (old new : List En) : List WK := (new.filter (needs old)).map setK
def cutsK (old new : List En) : List WK := (old.filter (gone new)).map cutK
/-- What Plan answers. -/
def IsPlan (old new : List En) (W : List (List AV)) : Prop := ∃ S C : List RW, W = (S ++ C).map RW.c ∧
  (S.map fun w => w.1.k).Perm (setsK old new) ∧ (C.map fun w => w.1.k).Perm (cutsK old new) ∧
  S.Pairwise (fun x y => ltC setC y x = false) ∧ C.Pairwise (fun x y => ltC cutC y x = false)

theorem lessF_both {a n b m : Int} (h : lessF a n b m = true) : rightF a n = true ∧ rightF b m = true ∧ (a < b ∨ (a = b ∧ n < m)) := by
  unfold lessF at h
  simp only [Bool.and_eq_true, Bool.or_eq_true, decide_eq_true_eq] at h
  exact ⟨h.1.1, h.1.2, h.2⟩
theorem enLess_trans {x y z : En} (h1 : enLess x y = true) (h2 : enLess y z = true) : enLess x z = true := by
  obtain ⟨a1, a2, a3⟩ := lessF_both h1
  obtain ⟨b1, b2, b3⟩ := lessF_both h2
  exact (lessF_iff a1 b2).2 (by omega)
theorem ensB_all : ∀ (l : List En) (p : Option En), ensB p l = true → (∀ e ∈ l, rightF e.a e.n = true ∧ hopsR (e.h.getD []) = true) ∧ l.Pairwise (fun x y => enLess x y = true) ∧ ∀ q, p = some q → ∀ e ∈ l, enLess q e = true
  | [], _, _ => by simp
  | x :: l, p, h => by
    simp only [ensB, Bool.and_eq_true] at h
    obtain ⟨⟨⟨h1, h2⟩, h3⟩, h4⟩ := h
    obtain ⟨g1, g2, g3⟩ := ensB_all l (some x) h4
    have g3 := g3 x rfl
    refine ⟨fun e he => ?_, List.pairwise_cons.2 ⟨g3, g2⟩, fun q hq e he => ?_⟩
    · rcases List.mem_cons.1 he with rfl | he
      · exact ⟨h1, h2⟩
      · exact g1 e he
    · subst hq
      simp only at h3
      rcases List.mem_cons.1 he with rfl | he
      · exact h3
      · exact enLess_trans h3 (g3 e he)
theorem ens_all {l : List En} (h : ensR l = true) : (∀ e ∈ l, rightF e.a e.n = true ∧ hopsR (e.h.getD []) = true) ∧ l.Pairwise (fun x y => enLess x y = true) := by
  simp only [ensR, Bool.and_eq_true] at h
  obtain ⟨a, b, _⟩ := ensB_all l none h.1
  exact ⟨a, b⟩
theorem once_of {l : List En} (h : ensR l = true) : Once l := by
  refine (ens_all h).2.imp fun {x y} hxy => ?_
  have := (lessF_both hxy).2.2
  omega
theorem right_of {l : List En} (h : ensR l = true) {e : En} (he : e ∈ l) : rightF e.a e.n = true := ((ens_all h).1 e he).1
theorem hops_of {l : List En} (h : ensR l = true) {e : En} (he : e ∈ l) : (e.h.getD []).length ≤ 16 := by
  have := ((ens_all h).1 e he).2
  simp only [hopsR, Bool.and_eq_true, decide_eq_true_eq] at this
  exact this.2

theorem look_small {l : List En} (h : ∀ e ∈ l, e.ok) {a n : Int} : Small (((lookE l a n).getD none).getD []) := by
  unfold lookE
  cases hf : l.find? (fun e => decide (e.a = a ∧ e.n = n)) with
  | none => simp [Small]
  | some e => exact h e (List.mem_of_find?_eq_some hf)

theorem sub_set2 {s : Store} {b c : Nat} {o p : Obj} (hb : s b = none) (hc : s c = none) (hcb : ¬ c = b) : Store.sub s ((s.set b o).set c p) :=
  Store.sub_trans (Store.sub_set s b o hb) (Store.sub_set _ c p (by rw [Store.set_ne _ _ hcb]; exact hc))
theorem sub_none {σ τ : Store} (h : Store.sub σ τ) {i : Nat} (hi : τ i = none) : σ i = none := by
  cases hc : σ i with
  | none => rfl
  | some o => rw [h _ _ hc] at hi; cases hi
theorem sub_upd' {σ τ : Store} {i : Nat} {o : Obj} (h : Store.sub σ τ) (hi : σ i = none) : Store.sub σ (τ.set i o) := fun j p hj => by
  have : j ≠ i := fun e => by subst e; rw [hi] at hj; cases hj
  rw [Store.set_ne _ _ this]; exact h j p hj
theorem own_facts {τ s : Store} {L : List RW} {v : AV} (h : OwnW τ L v s) : slc s 4 v = some (L.map RW.c) ∧ v.isTup = false ∧ v.cells = [v] ∧ pLen v = some (.int .i64 L.length) := by
  rcases h with ⟨rfl, rfl⟩ | ⟨g, rfl, h1, h2⟩
  · exact ⟨rfl, rfl, rfl, rfl⟩
  · exact ⟨slc_os0 h2 (by simp), rfl, rfl, rfl⟩
theorem own_mono {τ s s' : Store} {L : List RW} {v : AV} (h : OwnW τ L v s) (hs : Store.sub s s') : OwnW τ L v s' := by
  rcases h with h | ⟨g, h1, h2, h3⟩
  · exact .inl h
  · exact .inr ⟨g, h1, h2, hs _ _ h3⟩

theorem take_filter {α : Type} {p : α → Bool} {l : List α} {k : Nat} (h : k < l.length) : (l.take (k + 1)).filter p = (l.take k).filter p ++ (if p l[k] then [l[k]] else []) := by
  rw [List.take_add_one, List.getElem?_eq_getElem h, List.filter_append]
  simp only [Option.toList_some, List.filter_cons, List.filter_nil]

theorem s13 (old new : List En) (h1 : Small old) (h2 : Small new) (ho1 : ∀ e ∈ old, e.ok) (ho2 : ∀ e ∈ new, e.ok) (σ : Store) :
    ACalls Try.prog 13 [.sl 3 (old.map En.c), .sl 3 (new.map En.c)] σ (fun r s => s = σ ∧ ∃ W, r = .tup [.sl 4 W, .int .i64 (if ensR old && ensR new then 0 else 12)] ∧
      (if ensR old && ensR new then IsPlan old new W else W = [])) := by
  refine calls_of Tst.F13 (by simp [Tst.F13, Fn.mk']) ?_
  simp only [Tst.F13, Fn.mk', Tst.b13]
  simp only [↓vcPre, ↓wit_get, ↓reduceIte, vcPost, vcStd, Nat.reduceEqDiff, reduceCtorEq, Nat.reduceAdd, Nat.reduceLeDiff, Int.reduceLT, Int.reduceLE, ↓u_setN]
  refine (c35 old h1 ho1).Q ?_
  cases hr1 : ensR old with
  | false =>
    simp only [↓vcPre, ↓wit_get, ↓reduceIte, vcPost, vcStd, Nat.reduceEqDiff, reduceCtorEq, Nat.reduceAdd, Nat.reduceLeDiff, Int.reduceLT, Int.reduceLE, ↓u_setN]
    exact EndQ.twoNil _ 4 σ rfl (Store.sub_refl _) ⟨rfl, [], by simp, by simp⟩
  | true =>
  simp only [↓vcPre, ↓wit_get, ↓reduceIte, vcPost, vcStd, Nat.reduceEqDiff, reduceCtorEq, Nat.reduceAdd, Nat.reduceLeDiff, Int.reduceLT, Int.reduceLE, ↓u_setN]
  refine (c35 new h2 ho2).Q ?_
  cases hr2 : ensR new with
  | false =>
    simp only [↓vcPre, ↓wit_get, ↓reduceIte, vcPost, vcStd, Nat.reduceEqDiff, reduceCtorEq, Nat.reduceAdd, Nat.reduceLeDiff, Int.reduceLT, Int.reduceLE, ↓u_setN]
    exact EndQ.twoNil _ 4 σ rfl (Store.sub_refl _) ⟨rfl, [], by simp, by simp⟩
  | true =>
  have hO1 := once_of hr1
  have hO2 := once_of hr2
  simp only [↓vcPre, ↓wit_get, ↓reduceIte, vcPost, vcStd, Nat.reduceEqDiff, reduceCtorEq, Nat.reduceAdd, Nat.reduceLeDiff, Int.reduceLT, Int.reduceLE, ↓u_setN]
  refine (s36 old h1 hO1 σ).Q ?_
  rintro r s ⟨i, rfl, hi, rfl⟩
  simp only [↓vcPre, ↓wit_get, ↓reduceIte, vcPost, vcStd, Nat.reduceEqDiff, reduceCtorEq, Nat.reduceAdd, Nat.reduceLeDiff, Int.reduceLT, Int.reduceLE, ↓u_setN]
  refine (s36 new h2 hO2 _).Q ?_
  rintro r s ⟨j, rfl, hj, rfl⟩
  simp only [↓vcPre, ↓wit_get, ↓reduceIte, vcPost, vcStd, Nat.reduceEqDiff, reduceCtorEq, Nat.reduceAdd, Nat.reduceLeDiff, Int.reduceLT, Int.reduceLE, ↓u_setN]
  have hl1 : old.length ≤ 4096 := by simp [ensR] at hr1; exact hr1.2
  have hl2 : new.length ≤ 4096 := by simp [ensR] at hr2; exact hr2.2
  have hji : ¬ j = i := fun e => by subst e; rw [Store.set_same] at hj; cases hj
  rw [Store.set_ne _ _ hji] at hj
  generalize hτ : (σ.set i (.map (old.map kvE))).set j (.map (new.map kvE)) = τ
  have hτi : τ i = some (.map (old.map kvE)) := by rw [← hτ, Store.set_ne _ _ (fun e => hji e.symm), Store.set_same]
  have hτj : τ j = some (.map (new.map kvE)) := by rw [← hτ, Store.set_same]
  have hτσ : Store.sub σ τ := by
    rw [← hτ]
    exact Store.sub_trans (Store.sub_set σ i _ hi) (Store.sub_set _ j _ (by rw [Store.set_ne _ _ hji]; exact hj))
  refine LoopQ.inv (S := Nat × List RW × AV × Store) (fun q => [(0, .sl 3 (old.map En.c)), (6, .mp i), (7, .mp j), (8, q.2.2.1), (9, .nils), (30, .sl 3 (new.map En.c)), (31, .int .i64 new.length), (32, .int .i64 (q.1 : Int))]) (fun q => q.2.2.2)
    (fun q => q.1 ≤ new.length ∧ q.2.1.length ≤ q.1 ∧ Store.sub τ q.2.2.2 ∧ OwnW τ q.2.1 q.2.2.1 q.2.2.2 ∧ (q.2.1.map fun w => w.1.k) = setsK old (new.take q.1)) (fun q => new.length + 1 - q.1) (0, [], .nils, τ) rfl (Store.sub_refl _) ⟨by simp only; omega, by simp, Store.sub_refl _, .inl ⟨rfl, rfl⟩, rfl⟩ ?_
  rintro ⟨k, L, v, s⟩ ⟨hk, hLk, hs, hw, hL⟩
  simp only at hk hLk hs hw hL
  simp only [↓vcPre, ↓wit_get, ↓reduceIte, vcPost, vcStd, Nat.reduceEqDiff, reduceCtorEq, Nat.reduceAdd, Nat.reduceLeDiff, Int.reduceLT, Int.reduceLE, ↓u_setN]
  refine ⟨fun c1 => ?_, fun c1 => ?_⟩
  · refine ⟨by simpa using c1, by simp [En.c], ?_⟩
    refine AllocQ.i0 fun b hb => ?_
    have ek : IntKind.i64.wrap ((k : Int) + 1) = ((k + 1 : Nat) : Int) := by rw [wrap64 (by unfold I64; omega)]; omega
    have hlk := look_E (σ := s.set b (.box (En.c new[k]))) new[k].a new[k].n (show (s.set b (.box (En.c new[k]))) i = some (.map (old.map kvE)) by
      rw [Store.set_ne _ _ (fun e => by subst e; rw [hs _ _ hτi] at hb; cases hb)]; exact hs _ _ hτi)
    simp only [En.c] at hlk ⊢
    simp only [hlk, Store.set_set, ↓vcPre, ↓wit_get, ↓reduceIte, vcPost, vcStd, Nat.reduceEqDiff, reduceCtorEq, Nat.reduceAdd, Nat.reduceLeDiff, Int.reduceLT, Int.reduceLE, ↓u_setN]
    cases hq : (lookE old new[k].a new[k].n).isSome with
    | false =>
      simp only [↓vcPre, ↓wit_get, ↓reduceIte, vcPost, vcStd, Nat.reduceEqDiff, reduceCtorEq, Nat.reduceAdd, Nat.reduceLeDiff, Int.reduceLT, Int.reduceLE, ↓u_setN]
      have hnd : needs old new[k] = true := (by simp [needs, hq])
      refine (s38 new[k].h (by have := hops_of hr2 (List.getElem_mem c1); omega) _).Q ?_
      rintro r s' ⟨rfl, h', rfl, hh⟩
      simp only [↓vcPre, ↓wit_get, ↓reduceIte, vcPost, vcStd, Nat.reduceEqDiff, reduceCtorEq, Nat.reduceAdd, Nat.reduceLeDiff, Int.reduceLT, Int.reduceLE, ↓u_setN]
      refine AllocQ.i1 fun c hcb hbc hc => ?_
      simp only [↓vcPre, ↓wit_get, ↓reduceIte, vcPost, vcStd, Nat.reduceEqDiff, reduceCtorEq, Nat.reduceAdd, Nat.reduceLeDiff, Int.reduceLT, Int.reduceLE, ↓u_setN]
      refine own_app (τ := τ) (L := L) (w := ⟨⟨false, new[k].a, new[k].n, h'⟩, right_of hr2 (e := new[k]) (List.getElem_mem c1)⟩) (Store.sub_trans hs (sub_set2 hb hc hcb)) (own_mono hw (sub_set2 hb hc hcb)) (slc_os0 (Store.set_same _ _ _) rfl) (by omega) fun v' s' hs' hw' => ?_
      rw [ek]
      refine NextQ.to (k + 1, L ++ [_], v', s') rfl (Store.sub_refl _) (by simp only; omega) ⟨by simp only; omega, by simp; omega, hs', hw', ?_⟩
      rw [List.map_append, hL]
      simp only [setsK, take_filter c1, hnd, if_true, List.map_append, List.map_cons, List.map_nil, Wr.k, setK, hh]
    | true =>
      simp only [↓vcPre, ↓wit_get, ↓reduceIte, vcPost, vcStd, Nat.reduceEqDiff, reduceCtorEq, Nat.reduceAdd, Nat.reduceLeDiff, Int.reduceLT, Int.reduceLE, ↓u_setN]
      refine (c37O _ _ (look_small ho1)).Q ?_
      cases hd : decide (((lookE old new[k].a new[k].n).getD none).getD [] = new[k].h.getD []) with
      | false =>
        simp only [↓vcPre, ↓wit_get, ↓reduceIte, vcPost, vcStd, Nat.reduceEqDiff, reduceCtorEq, Nat.reduceAdd, Nat.reduceLeDiff, Int.reduceLT, Int.reduceLE, ↓u_setN]
        have hnd : needs old new[k] = true := (by simp [needs, hq, hd])
        refine (s38 new[k].h (by have := hops_of hr2 (List.getElem_mem c1); omega) _).Q ?_
        rintro r s' ⟨rfl, h', rfl, hh⟩
        simp only [↓vcPre, ↓wit_get, ↓reduceIte, vcPost, vcStd, Nat.reduceEqDiff, reduceCtorEq, Nat.reduceAdd, Nat.reduceLeDiff, Int.reduceLT, Int.reduceLE, ↓u_setN]
        refine AllocQ.i1 fun c hcb hbc hc => ?_
        simp only [↓vcPre, ↓wit_get, ↓reduceIte, vcPost, vcStd, Nat.reduceEqDiff, reduceCtorEq, Nat.reduceAdd, Nat.reduceLeDiff, Int.reduceLT, Int.reduceLE, ↓u_setN]
        refine own_app (τ := τ) (L := L) (w := ⟨⟨false, new[k].a, new[k].n, h'⟩, right_of hr2 (e := new[k]) (List.getElem_mem c1)⟩) (Store.sub_trans hs (sub_set2 hb hc hcb)) (own_mono hw (sub_set2 hb hc hcb)) (slc_os0 (Store.set_same _ _ _) rfl) (by omega) fun v' s' hs' hw' => ?_
        rw [ek]
        refine NextQ.to (k + 1, L ++ [_], v', s') rfl (Store.sub_refl _) (by simp only; omega) ⟨by simp only; omega, by simp; omega, hs', hw', ?_⟩
        rw [List.map_append, hL]
        simp only [setsK, take_filter c1, hnd, if_true, List.map_append, List.map_cons, List.map_nil, Wr.k, setK, hh]
      | true =>
        simp only [↓vcPre, ↓wit_get, ↓reduceIte, vcPost, vcStd, Nat.reduceEqDiff, reduceCtorEq, Nat.reduceAdd, Nat.reduceLeDiff, Int.reduceLT, Int.reduceLE, ↓u_setN]
        rw [ek]
        refine NextQ.to (k + 1, L, v, s) rfl (Store.sub_set s b _ hb) (by simp only; omega) ⟨by simp only; omega, by simp only; omega, hs, hw, ?_⟩
        have hnd : needs old new[k] = false := by simp [needs, hq, hd]
        simp only [hL, setsK, take_filter c1, hnd, Bool.false_eq_true, if_false, List.append_nil]
  · have hkn : new.take k = new := List.take_of_length_le (by omega)
    rw [hkn] at hL
    clear hk c1
    have hLn : L.length ≤ 4096 := by
      have := congrArg List.length hL
      simp only [List.length_map, setsK] at this
      have := List.length_filter_le (needs old) new
      omega
    refine LoopQ.inv (S := Nat × List RW × AV × Store) (fun q => [(7, .mp j), (8, v), (9, q.2.2.1), (63, .sl 3 (old.map En.c)), (64, .int .i64 old.length), (65, .int .i64 (q.1 : Int))]) (fun q => q.2.2.2)
      (fun q => q.1 ≤ old.length ∧ q.2.1.length ≤ q.1 ∧ Store.sub s q.2.2.2 ∧ OwnW s q.2.1 q.2.2.1 q.2.2.2 ∧ (q.2.1.map fun w => w.1.k) = cutsK (old.take q.1) new) (fun q => old.length + 1 - q.1) (0, [], .nils, s) rfl (Store.sub_refl _) ⟨by simp only; omega, by simp, Store.sub_refl _, .inl ⟨rfl, rfl⟩, rfl⟩ ?_
    rintro ⟨k, C, u, t⟩ ⟨hk, hCk, ht, hu, hC⟩
    simp only at hk hCk ht hu hC
    simp only [↓vcPre, ↓wit_get, ↓reduceIte, vcPost, vcStd, Nat.reduceEqDiff, reduceCtorEq, Nat.reduceAdd, Nat.reduceLeDiff, Int.reduceLT, Int.reduceLE, ↓u_setN]
    refine ⟨fun c1 => ?_, fun c1 => ?_⟩
    · refine ⟨by simpa using c1, by simp [En.c], ?_⟩
      refine AllocQ.i0 fun b hb => ?_
      have ek : IntKind.i64.wrap ((k : Int) + 1) = ((k + 1 : Nat) : Int) := by rw [wrap64 (by unfold I64; omega)]; omega
      have hlk := look_E (σ := t.set b (.box (En.c old[k]))) old[k].a old[k].n (show (t.set b (.box (En.c old[k]))) j = some (.map (new.map kvE)) by
        rw [Store.set_ne _ _ (fun e => by subst e; rw [ht _ _ (hs _ _ hτj)] at hb; cases hb)]; exact ht _ _ (hs _ _ hτj))
      simp only [En.c] at hlk ⊢
      simp only [hlk, Store.set_set, ↓vcPre, ↓wit_get, ↓reduceIte, vcPost, vcStd, Nat.reduceEqDiff, reduceCtorEq, Nat.reduceAdd, Nat.reduceLeDiff, Int.reduceLT, Int.reduceLE, ↓u_setN]
      cases hq : (lookE new old[k].a old[k].n).isSome with
      | true =>
        simp only [↓vcPre, ↓wit_get, ↓reduceIte, vcPost, vcStd, Nat.reduceEqDiff, reduceCtorEq, Nat.reduceAdd, Nat.reduceLeDiff, Int.reduceLT, Int.reduceLE, ↓u_setN]
        rw [ek]
        refine NextQ.to (k + 1, C, u, t) rfl (Store.sub_set t b _ hb) (by simp only; omega) ⟨by simp only; omega, by simp only; omega, ht, hu, ?_⟩
        have hnd : gone new old[k] = false := by simp [gone, hq]
        simp only [hC, cutsK, take_filter c1, hnd, Bool.false_eq_true, if_false, List.append_nil]
      | false =>
        simp only [↓vcPre, ↓wit_get, ↓reduceIte, vcPost, vcStd, Nat.reduceEqDiff, reduceCtorEq, Nat.reduceAdd, Nat.reduceLeDiff, Int.reduceLT, Int.reduceLE, ↓u_setN]
        refine AllocQ.i1 fun c hcb hbc hc => ?_
        simp only [↓vcPre, ↓wit_get, ↓reduceIte, vcPost, vcStd, Nat.reduceEqDiff, reduceCtorEq, Nat.reduceAdd, Nat.reduceLeDiff, Int.reduceLT, Int.reduceLE, ↓u_setN]
        have hnd : gone new old[k] = true := by simp [gone, hq]
        refine own_app (τ := s) (L := C) (w := ⟨⟨true, old[k].a, old[k].n, none⟩, right_of hr1 (e := old[k]) (List.getElem_mem c1)⟩) (Store.sub_trans ht (sub_set2 hb hc hcb)) (own_mono hu (sub_set2 hb hc hcb)) (slc_os0 (Store.set_same _ _ _) rfl) (by omega) fun v' s' hs' hw' => ?_
        rw [ek]
        refine NextQ.to (k + 1, C ++ [_], v', s') rfl (Store.sub_refl _) (by simp only; omega) ⟨by simp only; omega, by simp; omega, hs', hw', ?_⟩
        rw [List.map_append, hC]
        simp only [cutsK, take_filter c1, hnd, if_true, List.map_append, List.map_cons, List.map_nil, Wr.k, cutK]
        rfl
    · have hkn : old.take k = old := List.take_of_length_le (by omega)
      rw [hkn] at hC
      refine (sort_own cmp40 swo_set (τ := τ) (own_mono hw ht) (by omega)).Q ?_
      rintro r t1 ⟨rfl, S', hS1, hS2, hS3⟩
      simp only [↓vcPre, ↓wit_get, ↓reduceIte, vcPost, vcStd, Nat.reduceEqDiff, reduceCtorEq, Nat.reduceAdd, Nat.reduceLeDiff, Int.reduceLT, Int.reduceLE, ↓u_setN]
      have hu1 : OwnW s C u t1 := by
        rcases hS3 with ⟨_, _, rfl⟩ | ⟨g, hg1, hg2, hg3, rfl⟩
        · exact hu
        · rcases hu with h | ⟨g', h1, h2, h3⟩
          · exact .inl h
          · have hw' := hw
            rcases hw' with ⟨_, h4⟩ | ⟨g'', h4, h5, h6⟩
            · rw [h4] at hg1; cases hg1
            · rw [hg1] at h4
              have hgg : g = g'' := by injection h4
              subst hgg
              refine .inr ⟨g', h1, h2, ?_⟩
              rw [Store.set_ne _ _ (fun e => by subst e; rw [h2] at h6; cases h6)]; exact h3
      refine (sort_own cmp44 swo_cut (τ := s) hu1 (by omega)).Q ?_
      rintro r t2 ⟨rfl, C', hC1, hC2, hC3⟩
      simp only [↓vcPre, ↓wit_get, ↓reduceIte, vcPost, vcStd, Nat.reduceEqDiff, reduceCtorEq, Nat.reduceAdd, Nat.reduceLeDiff, Int.reduceLT, Int.reduceLE, ↓u_setN]
      have hS : OwnW τ S' v t1 := hS3.imp (fun h => ⟨h.1, h.2.1⟩) fun ⟨g, h1, h2, _, h3⟩ => ⟨g, h1, h2, by rw [h3, Store.set_same]⟩
      have hS : OwnW τ S' v t2 := by
        rcases hC3 with ⟨_, _, rfl⟩ | ⟨g, hg1, hg2, hg3, rfl⟩
        · exact hS
        · rcases hS with h | ⟨g', h1, h2, h3⟩
          · exact .inl h
          · refine .inr ⟨g', h1, h2, ?_⟩
            have hne : g' ≠ g := fun e => by
              subst e
              rcases hw with ⟨_, h4⟩ | ⟨g'', h4, h5, h6⟩
              · rw [h4] at h1; cases h1
              · rw [h1] at h4
                have hgg : g' = g'' := by injection h4
                subst hgg
                rw [hg2] at h6; cases h6
            rw [Store.set_ne _ _ hne]; exact h3
      have hC' : OwnW s C' u t2 := hC3.imp (fun h => ⟨h.1, h.2.1⟩) fun ⟨g, h1, h2, _, h3⟩ => ⟨g, h1, h2, by rw [h3, Store.set_same]⟩
      obtain ⟨a1, a2, a3, a4⟩ := own_facts hS
      obtain ⟨b1, b2, b3, b4⟩ := own_facts hC'
      have hσt : Store.sub σ t2 := by
        have q1 : Store.sub σ t := Store.sub_trans hτσ (Store.sub_trans hs ht)
        have q2 : Store.sub σ t1 := by
          rcases hS3 with ⟨_, _, rfl⟩ | ⟨g, hg1, hg2, hg3, rfl⟩
          · exact q1
          · exact sub_upd' q1 (sub_none hτσ hg2)
        rcases hC3 with ⟨_, _, rfl⟩ | ⟨g, hg1, hg2, hg3, rfl⟩
        · exact q2
        · exact sub_upd' q2 (sub_none (Store.sub_trans hτσ hs) hg2)
      refine ⟨⟨⟨a2, by rw [a3]; rfl⟩, b2, by rw [b3]; rfl⟩, ?_⟩
      have e1 := hS1.length_eq
      have e2 := hC1.length_eq
      refine AllocQ.i0 fun c hc => ?_
      simp only [↓vcPre, ↓wit_get, ↓reduceIte, vcPost, vcStd, Nat.reduceEqDiff, reduceCtorEq, Nat.reduceAdd, Nat.reduceLeDiff, Int.reduceLT, Int.reduceLE, ↓u_setN]
      simp only [a3, b3]
      have hq := fun x => Store.sub_set t2 c x hc
      refine (s45 v u _ _ (t2.set c (.arr 1 [[v], [u]])) c (slc_sub a1 (hq _)) (slc_sub b1 (hq _)) (Store.set_same _ _ _) (by simp; omega) (by simpa using a4) (by simpa using b4)).Q ?_
      intro r t3 hcat
      simp only [↓vcPre, ↓wit_get, ↓reduceIte, vcPost, vcStd, Nat.reduceEqDiff, reduceCtorEq, Nat.reduceAdd, Nat.reduceLeDiff, Int.reduceLT, Int.reduceLE, ↓u_setN]
      refine EndQ.cat rfl hcat (Store.sub_refl _) (Store.sub_trans hσt (hq _)) ⟨rfl, S'.map RW.c ++ C'.map RW.c, by simp, ?_⟩
      simp only [Bool.and_self, if_true]
      refine ⟨S', C', (List.map_append ..).symm, ?_, ?_, hS2, hC2⟩
      · exact (hS1.map _).trans (by rw [hL])
      · exact (hC1.map _).trans (by rw [hC])
end Go.Am

/- W14 -/
namespace Go.Am
open Go.Proofs Go.Sort

def isAt (a n : Int) (e : En) : Bool := decide (e.a = a ∧ e.n = n)
def fnd (l : List En) (a n : Int) : Int := match l.findIdx? (isAt a n) with | some i => (i : Int) | none => -1

theorem c55 (l : List En) (a n : Int) (h : Small l) : Pur Try.prog 55 [.sl 3 (l.map En.c), .agg [.int .u32 a, .int .i64 n]] (.int .i64 (fnd l a n)) := by
  refine pur_of Tst.F55 (by simp [Tst.F55, Fn.mk']) fun σ => ?_
  simp only [Tst.F55, Fn.mk', Tst.b55]
  simp only [↓vcPre, ↓wit_get, ↓reduceIte, vcPost, vcStd, Nat.reduceEqDiff, reduceCtorEq, Nat.reduceAdd, Nat.reduceLeDiff, Int.reduceLT, Int.reduceLE, ↓u_setN]
  refine AllocQ.i0 fun b hb => ?_
  simp only [↓vcPre, ↓wit_get, ↓reduceIte, vcPost, vcStd, Nat.reduceEqDiff, reduceCtorEq, Nat.reduceAdd, Nat.reduceLeDiff, Int.reduceLT, Int.reduceLE, ↓u_setN]
  unfold Small at h
  refine LoopQ.inv (S := Nat) (fun k => [(0, .sl 3 (l.map En.c)), (3, .ptr b 0), (5, .int .i64 (k : Int))]) (fun _ => σ.set b (.box [.int .u32 a, .int .i64 n])) (fun k => k ≤ l.length ∧ ∀ j, (hj : j < l.length) → j < k → isAt a n l[j] = false) (fun k => l.length + 1 - k) 0 rfl (Store.sub_refl _) ⟨by omega, fun j _ h => by omega⟩ ?_
  rintro k ⟨hk, hp⟩
  simp only [↓vcPre, ↓wit_get, ↓reduceIte, vcPost, vcStd, Nat.reduceEqDiff, reduceCtorEq, Nat.reduceAdd, Nat.reduceLeDiff, Int.reduceLT, Int.reduceLE, ↓u_setN]
  refine ⟨fun c1 => ⟨by simpa using c1, by simp [En.c], ?_⟩, fun c1 => ?_⟩
  · simp only [En.c]
    simp only [↓vcPre, ↓wit_get, ↓reduceIte, vcPost, vcStd, Nat.reduceEqDiff, reduceCtorEq, Nat.reduceAdd, Nat.reduceLeDiff, Int.reduceLT, Int.reduceLE, ↓u_setN]
    refine ⟨fun c2 c3 => ?_, fun c2 => ?_⟩
    · have : l.findIdx? (isAt a n) = some k := by
        rw [List.findIdx?_eq_some_iff_getElem]
        refine ⟨c1, by simp [isAt]; exact ⟨c2, c3⟩, fun j hj => ?_⟩
        have := hp j (by omega) hj
        simp [this]
      simp [fnd, this]
      exact Store.sub_set σ b _ hb
    · have e1 : IntKind.i64.wrap ((k : Int) + 1) = ((k + 1 : Nat) : Int) := by rw [wrap64 (by unfold I64; omega)]; omega
      rw [e1]
      refine NextQ.to (k + 1) rfl (Store.sub_refl _) (by omega) ⟨by omega, fun j hj hjk => ?_⟩
      by_cases hjk' : j = k
      · subst hjk'; simp only [isAt]; exact decide_eq_false c2
      · exact hp j hj (by omega)
  · have : l.findIdx? (isAt a n) = none := by
      rw [List.findIdx?_eq_none_iff]
      intro x hx
      obtain ⟨j, hj, rfl⟩ := List.getElem_of_mem hx
      exact hp j hj (by omega)
    simp [fnd, this]
    exact Store.sub_set σ b _ hb

theorem find_idx {α : Type} (p : α → Bool) : ∀ (l : List α), (l.findIdx? p = none ∧ l.find? p = none) ∨ ∃ i, ∃ h : i < l.length, l.findIdx? p = some i ∧ l.find? p = some l[i]
  | [] => .inl ⟨rfl, rfl⟩
  | x :: l => by
    simp only [List.findIdx?_cons, List.find?_cons]
    cases hp : p x with
    | true => exact .inr ⟨0, by simp, rfl, rfl⟩
    | false =>
      rcases find_idx p l with ⟨h1, h2⟩ | ⟨i, h, h1, h2⟩
      · exact .inl ⟨by simp [h1], h2⟩
      · exact .inr ⟨i + 1, by simp; omega, by simp [h1], by simpa using h2⟩
theorem fnd_spec (l : List En) (a n : Int) : (fnd l a n = -1 ∧ lookE l a n = none) ∨ ∃ i, ∃ h : i < l.length, fnd l a n = (i : Int) ∧ lookE l a n = some l[i].h := by
  have h0 : lookE l a n = (l.find? (isAt a n)).map En.h := rfl
  rw [h0]
  rcases find_idx (isAt a n) l with ⟨h1, h2⟩ | ⟨i, h, h1, h2⟩
  · exact .inl ⟨by simp [fnd, h1], by rw [h2]; rfl⟩
  · exact .inr ⟨i, h, by simp [fnd, h1], by rw [h2]; rfl⟩

/-- op of the law. -/
theorem c33 (x y : Wr) (hx : x.e.ok) : Pur Try.prog 33 [.agg x.c, .agg y.c] (.bool (decide (x.k = y.k))) := by
  refine pur_of Tst.F33 (by simp [Tst.F33, Fn.mk']) fun σ => ?_
  simp only [Tst.F33, Fn.mk', Tst.b33, Wr.c, En.c]
  simp only [↓vcPre, ↓wit_get, ↓reduceIte, vcPost, vcStd, Nat.reduceEqDiff, reduceCtorEq, Nat.reduceAdd, Nat.reduceLeDiff, Int.reduceLT, Int.reduceLE, ↓u_setN]
  refine AllocQ.i0 fun i hi => ?_
  simp only [↓vcPre, ↓wit_get, ↓reduceIte, vcPost, vcStd, Nat.reduceEqDiff, reduceCtorEq, Nat.reduceAdd, Nat.reduceLeDiff, Int.reduceLT, Int.reduceLE, ↓u_setN]
  refine AllocQ.i1 fun j hj1 hj2 hj => ?_
  simp only [*, ↓vcPre, ↓wit_get, ↓reduceIte, vcPost, vcStd, Nat.reduceEqDiff, reduceCtorEq, Nat.reduceAdd, Nat.reduceLeDiff, Int.reduceLT, Int.reduceLE, ↓u_setN]
  have hb : ∀ p q : Bool, (p == q) = decide (p = q) := fun p q => by cases p <;> cases q <;> rfl
  rw [hb]
  simp only [↓vcPre, ↓wit_get, ↓reduceIte, vcPost, vcStd, Nat.reduceEqDiff, reduceCtorEq, Nat.reduceAdd, Nat.reduceLeDiff, Int.reduceLT, Int.reduceLE, ↓u_setN]
  have hk : x.k = y.k ↔ x.cut = y.cut ∧ x.e.a = y.e.a ∧ x.e.n = y.e.n ∧ x.e.h.getD [] = y.e.h.getD [] := by simp [Wr.k]
  have hs := sub_set2 (s := σ) (o := Obj.box [AV.bool x.cut, AV.int IntKind.u32 x.e.a, AV.int IntKind.i64 x.e.n, hopsO x.e.h]) (p := Obj.box [AV.bool y.cut, AV.int IntKind.u32 y.e.a, AV.int IntKind.i64 y.e.n, hopsO y.e.h]) hi hj hj1
  refine ⟨fun g1 => ⟨fun g2 g3 => (c25O _ _ hx).Q ?_, fun g2 => ?_⟩, fun g1 => ?_⟩
  · simp only [↓vcPre, ↓wit_get, ↓reduceIte, vcPost, vcStd, Nat.reduceEqDiff, reduceCtorEq, Nat.reduceAdd, Nat.reduceLeDiff, Int.reduceLT, Int.reduceLE, ↓u_setN]
    simp [hk, g1, g2, g3]
    exact sub_set2 hi hj hj1
  · simp [hk]
    intro _ h1 h2
    exact absurd ⟨h1, h2⟩ g2
  · simp [hk, g1]
theorem c34 (a n : Int) (h : I64 n) : Pur Try.prog 34 [.int .u32 a, .int .i64 n] (.agg [.int .u32 (ofF a n).1, .int .i64 (ofF a n).2]) := by
  refine pur_of Tst.F34 (by simp [Tst.F34, Fn.mk']) fun σ => ?_
  simp only [Tst.F34, Fn.mk', Tst.b34]
  simp only [↓vcPre, ↓wit_get, ↓reduceIte, vcPost, vcStd, Nat.reduceEqDiff, reduceCtorEq, Nat.reduceAdd, Nat.reduceLeDiff, Int.reduceLT, Int.reduceLE, ↓u_setN]
  refine AllocQ.i0 fun i hi => ?_
  simp only [↓vcPre, ↓wit_get, ↓reduceIte, vcPost, vcStd, Nat.reduceEqDiff, reduceCtorEq, Nat.reduceAdd, Nat.reduceLeDiff, Int.reduceLT, Int.reduceLE, ↓u_setN]
  refine (c54 a n h).Q ?_
  simp only [*, ↓vcPre, ↓wit_get, ↓reduceIte, vcPost, vcStd, Nat.reduceEqDiff, reduceCtorEq, Nat.reduceAdd, Nat.reduceLeDiff, Int.reduceLT, Int.reduceLE, ↓u_setN]
end Go.Am

/- W15 -/
namespace Go.Am
open Go.Proofs Go.Sort

/-- What a function collects, in a slice of its own. -/
def Own (esz : Nat) (τ : Store) (L : List (List AV)) (v : AV) (s : Store) : Prop :=
  (L = [] ∧ v = .nils) ∨ ∃ g, v = .os g esz 0 L.length ∧ τ g = none ∧ s g = some (.arr esz L)

theorem Own.app {esz bytes : Nat} {τ s : Store} {L : List (List AV)} {v wv : AV} {w : List AV} {K : AV → Store → Prop} (hsub : Store.sub τ s) (ho : Own esz τ L v s) (hw : slc s esz wv = some [w]) (hsz : (L.length + 1) * bytes ≤ 140737488355328)
    (h : ∀ v' s', Store.sub τ s' → Own esz τ (L ++ [w]) v' s' → K v' s') : appwp esz bytes v wv s K := by
  rcases ho with ⟨rfl, rfl⟩ | ⟨g, rfl, hg, hs⟩
  · refine app_nil hw (by simpa using hsz) (fun h0 => by cases h0) (fun _ j hj => ?_)
    refine h _ _ (sub_upd' hsub (sub_none hsub hj)) (.inr ⟨j, rfl, sub_none hsub hj, Store.set_same _ _ _⟩)
  · refine app_os (slc_os0 hs rfl) hw (by simpa using hsz) fun j hj => ?_
    have hτ : τ j = none := sub_none hsub hj
    refine h _ _ (fun x q hx => ?_) (.inr ⟨j, by simp, hτ, by rw [Store.set_same]⟩)
    have hxj : x ≠ j := fun e => by subst e; rw [hτ] at hx; cases hx
    have hxg : x ≠ g := fun e => by subst e; rw [hg] at hx; cases hx
    rw [Store.set_ne _ _ hxj, Store.del_ne _ hxg]; exact hsub x q hx
theorem Own.mono {esz : Nat} {τ s s' : Store} {L : List (List AV)} {v : AV} (h : Own esz τ L v s) (hs : Store.sub s s') : Own esz τ L v s' := by
  rcases h with h | ⟨g, h1, h2, h3⟩
  · exact .inl h
  · exact .inr ⟨g, h1, h2, hs _ _ h3⟩
theorem Own.nil {esz : Nat} {τ s : Store} : Own esz τ [] .nils s := .inl ⟨rfl, rfl⟩
theorem EndQ.nil1 {slots : List RS} {Q : AV → Store → Prop} {e : Env} {τ : Store} (esz : Nat) (σ : Store) (h1 : e.res τ slots = some .nils) (h2 : Store.sub σ τ) (h3 : Q (.sl esz []) σ) : @EndQ e τ ⟨slots, Q⟩ := by
  unfold EndQ
  exact ⟨_, h1, Weak.of_one (WeakL.nil 0 esz rfl (WeakL.forget h2 (WeakL.pure ⟨_, rfl, h3⟩)))⟩
theorem EndQ.own {esz : Nat} {slots : List RS} {Q : AV → Store → Prop} {e : Env} {σ τ : Store} {L : List (List AV)} {v : AV} (h1 : e.res τ slots = some v) (ho : Own esz σ L v τ) (hs : Store.sub σ τ) (h4 : Q (.sl esz L) σ) : @EndQ e τ ⟨slots, Q⟩ := by
  rcases ho with ⟨rfl, rfl⟩ | ⟨g, rfl, hg, hh⟩
  · exact EndQ.nil1 esz σ h1 hs h4
  · refine EndQ.frz g esz 0 L.length L σ h1 hh (by omega) (fun i o hi => ?_) (by simpa using h4)
    rw [Store.del_ne _ (fun e => by subst e; rw [hg] at hi; cases hi)]; exact hs i o hi
theorem EndQ.ownTwo {esz : Nat} {slots : List RS} {Q : AV → Store → Prop} {e : Env} {σ τ : Store} {L : List (List AV)} {v x : AV} (h1 : e.res τ slots = some (.tup [v, x])) (ho : Own esz σ L v τ) (hs : Store.sub σ τ) (h4 : Q (.tup [.sl esz L, x]) σ) : @EndQ e τ ⟨slots, Q⟩ := by
  rcases ho with ⟨rfl, rfl⟩ | ⟨g, rfl, hg, hh⟩
  · exact EndQ.twoNil x esz σ h1 hs h4
  · refine EndQ.twoFrz x g esz L.length L σ h1 hh (by omega) (fun i o hi => ?_) (by simpa using h4)
    rw [Store.del_ne _ (fun e => by subst e; rw [hg] at hi; cases hi)]; exact hs i o hi

theorem Own.weak {esz : Nat} {σ τ s : Store} {L : List (List AV)} {v : AV} (h : Own esz τ L v s) (hs : Store.sub σ τ) : Own esz σ L v s := by
  rcases h with h | ⟨g, h1, h2, h3⟩
  · exact .inl h
  · exact .inr ⟨g, h1, sub_none hs h2, h3⟩

/-- One step of Do, and Do. -/
def doS (e : En) (st : List En × Bool) (x : En) : List En × Bool :=
  let st1 := if !st.2 && lessF e.a e.n x.a x.n then (st.1 ++ [e], true) else st
  if isAt e.a e.n x then st1 else (st1.1 ++ [x], st1.2)
def doF (l : List En) (cut : Bool) (e : En) : List En :=
  let r := l.foldl (doS e) ([], cut)
  if r.2 then r.1 else r.1 ++ [e]
theorem doS_len (e : En) (st : List En × Bool) (x : En) : (doS e st x).1.length ≤ st.1.length + 2 := by
  unfold doS
  simp only
  split <;> split <;> simp
theorem doS_fold (e : En) : ∀ (l : List En) (st : List En × Bool), (l.foldl (doS e) st).1.length ≤ st.1.length + 2 * l.length
  | [], st => by simp
  | x :: l, st => by
    have h1 := doS_fold e l (doS e st x)
    have h2 := doS_len e st x
    simp only [List.foldl_cons, List.length_cons]
    omega

theorem foldl_take_succ {α β : Type} (f : β → α → β) (b : β) {l : List α} {k : Nat} (h : k < l.length) : (l.take (k + 1)).foldl f b = f ((l.take k).foldl f b) l[k] := by
  rw [List.take_add_one, List.getElem?_eq_getElem h, List.foldl_append]
  rfl

theorem c14 (l : List En) (cut : Bool) (e : En) (hl : l.length < 1000000) : Pur Try.prog 14 [.sl 3 (l.map En.c), .agg (.bool cut :: e.c)] (.sl 3 ((doF l cut e).map En.c)) := by
  intro σ
  refine calls_of Tst.F14 (by simp [Tst.F14, Fn.mk']) ?_
  simp only [Tst.F14, Fn.mk', Tst.b14, En.c]
  simp only [↓vcPre, ↓wit_get, ↓reduceIte, vcPost, vcStd, Nat.reduceEqDiff, reduceCtorEq, Nat.reduceAdd, Nat.reduceLeDiff, Int.reduceLT, Int.reduceLE, ↓u_setN]
  refine AllocQ.i0 fun b hb => ?_
  simp only [↓vcPre, ↓wit_get, ↓reduceIte, vcPost, vcStd, Nat.reduceEqDiff, reduceCtorEq, Nat.reduceAdd, Nat.reduceLeDiff, Int.reduceLT, Int.reduceLE, ↓u_setN]
  generalize hτ : σ.set b (.box [AV.bool cut, AV.int IntKind.u32 e.a, AV.int IntKind.i64 e.n, hopsO e.h]) = τ
  have hτb : τ b = some (.box [AV.bool cut, AV.int IntKind.u32 e.a, AV.int IntKind.i64 e.n, hopsO e.h]) := by rw [← hτ, Store.set_same]
  have hστ : Store.sub σ τ := by rw [← hτ]; exact Store.sub_set σ b _ hb
  clear hτ
  refine LoopQ.inv (S := Nat × List En × Bool × AV × Store) (fun q => [(0, .sl 3 (l.map En.c)), (3, .ptr b 0), (5, q.2.2.2.1), (6, .bool q.2.2.1), (7, .int .i64 (q.1 : Int))]) (fun q => q.2.2.2.2)
    (fun q => q.1 ≤ l.length ∧ Store.sub τ q.2.2.2.2 ∧ Own 3 τ (q.2.1.map En.c) q.2.2.2.1 q.2.2.2.2 ∧ (l.take q.1).foldl (doS e) ([], cut) = (q.2.1, q.2.2.1)) (fun q => l.length + 1 - q.1) (0, [], cut, .nils, τ) rfl (Store.sub_refl _) ⟨by simp only; omega, Store.sub_refl _, .nil, rfl⟩ ?_
  rintro ⟨k, L, d, v, s⟩ ⟨hk, hs, ho, hL⟩
  simp only at hk hs ho hL
  have hsz : L.length ≤ 2 * k := by
    have := doS_fold e (l.take k) ([], cut)
    rw [hL, List.length_take] at this
    simp at this
    omega
  have hsb := hs _ _ hτb
  simp only [hsb, ↓vcPre, ↓wit_get, ↓reduceIte, vcPost, vcStd, Nat.reduceEqDiff, reduceCtorEq, Nat.reduceAdd, Nat.reduceLeDiff, Int.reduceLT, Int.reduceLE, ↓u_setN]
  refine ⟨fun c1 => ?_, fun c1 => ?_⟩
  · have ek : IntKind.i64.wrap ((k : Int) + 1) = ((k + 1 : Nat) : Int) := by rw [wrap64 (by unfold I64; omega)]; omega
    have hstep : (l.take (k + 1)).foldl (doS e) ([], cut) = doS e (L, d) l[k] := by rw [foldl_take_succ _ _ c1, hL]
    cases d with
    | true =>
      simp only [hsb, En.c, ↓vcPre, ↓wit_get, ↓reduceIte, vcPost, vcStd, Nat.reduceEqDiff, reduceCtorEq, Nat.reduceAdd, Nat.reduceLeDiff, Int.reduceLT, Int.reduceLE, ↓u_setN]
      refine ⟨c1, ?_⟩
      refine ⟨fun g2 => ⟨by simpa using c1, ?_⟩, fun g2 g3 => ?_⟩
      · refine AllocQ.i0 fun c hc => ?_
        simp only [↓vcPre, ↓wit_get, ↓reduceIte, vcPost, vcStd, Nat.reduceEqDiff, reduceCtorEq, Nat.reduceAdd, Nat.reduceLeDiff, Int.reduceLT, Int.reduceLE, ↓u_setN]
        refine Own.app (τ := τ) (L := List.map En.c (L)) (Store.sub_trans hs (Store.sub_set _ c _ hc)) (ho.mono (Store.sub_set _ c _ hc)) (slc_os0 (Store.set_same _ _ _) rfl) (by simp; omega) fun v' s' hs' ho' => ?_
        rw [ek]
        refine NextQ.to (k + 1, L ++ [l[k]], true, v', s') rfl (Store.sub_refl _) (by simp only; omega) ⟨by simp only; omega, hs', by simpa [En.c] using ho', ?_⟩
        rw [hstep]
        simp [doS, isAt, lessF, g2]
      · rw [ek]
        refine NextQ.to (k + 1, L, true, v, s) rfl (Store.sub_refl _) (by simp only; omega) ⟨by simp only; omega, hs, ho, ?_⟩
        rw [hstep]
        simp [doS, isAt, lessF, g2, g3]
        all_goals (rw [g2, g3] at hd; exact hd)
    | false =>
      simp only [hsb, En.c, ↓vcPre, ↓wit_get, ↓reduceIte, vcPost, vcStd, Nat.reduceEqDiff, reduceCtorEq, Nat.reduceAdd, Nat.reduceLeDiff, Int.reduceLT, Int.reduceLE, ↓u_setN]
      refine ⟨c1, ?_⟩
      refine (c16 _ _ _ _).Q ?_
      cases hd : lessF e.a e.n l[k].a l[k].n with
      | true =>
        simp only [hsb, En.c, ↓vcPre, ↓wit_get, ↓reduceIte, vcPost, vcStd, Nat.reduceEqDiff, reduceCtorEq, Nat.reduceAdd, Nat.reduceLeDiff, Int.reduceLT, Int.reduceLE, ↓u_setN]
        refine AllocQ.i0 fun c hc => ?_
        simp only [↓vcPre, ↓wit_get, ↓reduceIte, vcPost, vcStd, Nat.reduceEqDiff, reduceCtorEq, Nat.reduceAdd, Nat.reduceLeDiff, Int.reduceLT, Int.reduceLE, ↓u_setN]
        refine Own.app (τ := τ) (L := L.map En.c) (Store.sub_trans hs (Store.sub_set _ c _ hc)) (ho.mono (Store.sub_set _ c _ hc)) (slc_os0 (Store.set_same _ _ _) rfl) (by simp; omega) fun v1 s1 hs1 ho1 => ?_
        have hsb1 := hs1 _ _ hτb
        have ho1' : Own 3 τ ((L ++ [e]).map En.c) v1 s1 := by simpa [En.c] using ho1
        simp only [hsb1, En.c, ↓vcPre, ↓wit_get, ↓reduceIte, vcPost, vcStd, Nat.reduceEqDiff, reduceCtorEq, Nat.reduceAdd, Nat.reduceLeDiff, Int.reduceLT, Int.reduceLE, ↓u_setN]
        refine ⟨c1, ?_⟩
        refine ⟨fun g2 => ⟨by simpa using c1, ?_⟩, fun g2 g3 => ?_⟩
        · refine AllocQ.i0 fun c hc => ?_
          simp only [↓vcPre, ↓wit_get, ↓reduceIte, vcPost, vcStd, Nat.reduceEqDiff, reduceCtorEq, Nat.reduceAdd, Nat.reduceLeDiff, Int.reduceLT, Int.reduceLE, ↓u_setN]
          refine Own.app (τ := τ) (L := List.map En.c (L ++ [e])) (Store.sub_trans hs1 (Store.sub_set _ c _ hc)) (ho1'.mono (Store.sub_set _ c _ hc)) (slc_os0 (Store.set_same _ _ _) rfl) (by simp; omega) fun v' s' hs' ho' => ?_
          rw [ek]
          refine NextQ.to (k + 1, L ++ [e] ++ [l[k]], true, v', s') rfl (Store.sub_refl _) (by simp only; omega) ⟨by simp only; omega, hs', by simpa [En.c] using ho', ?_⟩
          rw [hstep]
          simp [doS, isAt, hd, g2]
        · rw [ek]
          refine NextQ.to (k + 1, L ++ [e], true, v1, s1) rfl (Store.sub_refl _) (by simp only; omega) ⟨by simp only; omega, hs1, ho1', ?_⟩
          rw [hstep]
          simp [doS, isAt, hd, g2, g3]
          all_goals (rw [g2, g3] at hd; exact hd)
      | false =>
        simp only [hsb, En.c, ↓vcPre, ↓wit_get, ↓reduceIte, vcPost, vcStd, Nat.reduceEqDiff, reduceCtorEq, Nat.reduceAdd, Nat.reduceLeDiff, Int.reduceLT, Int.reduceLE, ↓u_setN]
        refine ⟨c1, ?_⟩
        refine ⟨fun g2 => ⟨by simpa using c1, ?_⟩, fun g2 g3 => ?_⟩
        · refine AllocQ.i0 fun c hc => ?_
          simp only [↓vcPre, ↓wit_get, ↓reduceIte, vcPost, vcStd, Nat.reduceEqDiff, reduceCtorEq, Nat.reduceAdd, Nat.reduceLeDiff, Int.reduceLT, Int.reduceLE, ↓u_setN]
          refine Own.app (τ := τ) (L := List.map En.c (L)) (Store.sub_trans hs (Store.sub_set _ c _ hc)) (ho.mono (Store.sub_set _ c _ hc)) (slc_os0 (Store.set_same _ _ _) rfl) (by simp; omega) fun v' s' hs' ho' => ?_
          rw [ek]
          refine NextQ.to (k + 1, L ++ [l[k]], false, v', s') rfl (Store.sub_refl _) (by simp only; omega) ⟨by simp only; omega, hs', by simpa [En.c] using ho', ?_⟩
          rw [hstep]
          simp [doS, isAt, hd, g2]
        · rw [ek]
          refine NextQ.to (k + 1, L, false, v, s) rfl (Store.sub_refl _) (by simp only; omega) ⟨by simp only; omega, hs, ho, ?_⟩
          rw [hstep]
          simp [doS, isAt, hd, g2, g3]
          all_goals (rw [g2, g3] at hd; exact hd)
  · have hkl : l.take k = l := List.take_of_length_le (by omega)
    rw [hkl] at hL
    cases d with
    | true =>
      simp only [↓vcPre, ↓wit_get, ↓reduceIte, vcPost, vcStd, Nat.reduceEqDiff, reduceCtorEq, Nat.reduceAdd, Nat.reduceLeDiff, Int.reduceLT, Int.reduceLE, ↓u_setN]
      refine EndQ.own rfl (ho.weak hστ) (Store.sub_trans hστ hs) ?_
      simp [doF, hL]
    | false =>
      simp only [hsb, ↓vcPre, ↓wit_get, ↓reduceIte, vcPost, vcStd, Nat.reduceEqDiff, reduceCtorEq, Nat.reduceAdd, Nat.reduceLeDiff, Int.reduceLT, Int.reduceLE, ↓u_setN]
      refine AllocQ.i0 fun c hc => ?_
      simp only [↓vcPre, ↓wit_get, ↓reduceIte, vcPost, vcStd, Nat.reduceEqDiff, reduceCtorEq, Nat.reduceAdd, Nat.reduceLeDiff, Int.reduceLT, Int.reduceLE, ↓u_setN]
      refine Own.app (τ := τ) (L := L.map En.c) (Store.sub_trans hs (Store.sub_set _ c _ hc)) (ho.mono (Store.sub_set _ c _ hc)) (slc_os0 (Store.set_same _ _ _) rfl) (by simp; omega) fun v1 s1 hs1 ho1 => ?_
      refine EndQ.own rfl (ho1.weak hστ) (Store.sub_trans hστ hs1) ?_
      simp [doF, hL, En.c]
end Go.Am

/- W16 -/
namespace Go.Am
open Go.Proofs Go.Sort

theorem hopsO_none : hopsO none = .nils := rfl
def setW (e : En) : Wr := ⟨false, e.a, e.n, e.h⟩
def cutW (e : En) : Wr := ⟨true, e.a, e.n, none⟩
def setP (old : List En) (n : Int) (e : En) : Bool := decide (e.n = n) && needs old e
def cutP (new : List En) (n : Int) (e : En) : Bool := decide (e.n = n) && gone new e
def setsAt (old new : List En) (m : Nat) : List Wr := (new.filter (setP old (32 - (m : Int)))).map setW
def cutsAt (old new : List En) (m : Nat) : List Wr := (old.filter (cutP new (m : Int))).map cutW
def setsR (old new : List En) (m : Nat) : List Wr := (List.range m).flatMap (setsAt old new)
def cutsR (old new : List En) (m : Nat) : List Wr := (List.range m).flatMap (cutsAt old new)
theorem flat_len {α : Type} (f : Nat → List α) (B : Nat) (h : ∀ i, (f i).length ≤ B) : ∀ m, ((List.range m).flatMap f).length ≤ m * B
  | 0 => by simp
  | m + 1 => by
    have h1 := flat_len f B h m
    have h2 := h m
    rw [List.range_succ, List.flatMap_append, List.length_append, Nat.succ_mul]
    simp only [List.flatMap_cons, List.flatMap_nil, List.append_nil]
    omega
theorem setsR_succ (old new : List En) (m : Nat) : setsR old new (m + 1) = setsR old new m ++ setsAt old new m := by
  simp [setsR, List.range_succ, List.flatMap_append]
theorem cutsR_succ (old new : List En) (m : Nat) : cutsR old new (m + 1) = cutsR old new m ++ cutsAt old new m := by
  simp [cutsR, List.range_succ, List.flatMap_append]
def refPlan (old new : List En) : List Wr := setsR old new 33 ++ cutsR old new 33

theorem s32 (old new : List En) (h1 : Small old) (h2 : Small new) (ho1 : ∀ e ∈ old, e.ok) (ho2 : ∀ e ∈ new, e.ok) :
    Pur Try.prog 32 [.sl 3 (old.map En.c), .sl 3 (new.map En.c)] (.tup [.sl 4 ((if ensR old && ensR new then refPlan old new else []).map Wr.c), .int .i64 (if ensR old && ensR new then 0 else 12)]) := by
  intro σ
  refine calls_of Tst.F32 (by simp [Tst.F32, Fn.mk']) ?_
  simp only [Tst.F32, Fn.mk', Tst.b32]
  simp only [↓vcPre, ↓wit_get, ↓reduceIte, vcPost, vcStd, Nat.reduceEqDiff, reduceCtorEq, Nat.reduceAdd, Nat.reduceLeDiff, Int.reduceLT, Int.reduceLE, ↓u_setN]
  refine (c52 old h1 ho1).Q ?_
  cases hr1 : ensR old with
  | false =>
    simp only [↓vcPre, ↓wit_get, ↓reduceIte, vcPost, vcStd, Nat.reduceEqDiff, reduceCtorEq, Nat.reduceAdd, Nat.reduceLeDiff, Int.reduceLT, Int.reduceLE, ↓u_setN]
    exact EndQ.twoNil _ 4 σ rfl (Store.sub_refl _) ⟨rfl, by simp⟩
  | true =>
  simp only [↓vcPre, ↓wit_get, ↓reduceIte, vcPost, vcStd, Nat.reduceEqDiff, reduceCtorEq, Nat.reduceAdd, Nat.reduceLeDiff, Int.reduceLT, Int.reduceLE, ↓u_setN]
  refine (c52 new h2 ho2).Q ?_
  cases hr2 : ensR new with
  | false =>
    simp only [↓vcPre, ↓wit_get, ↓reduceIte, vcPost, vcStd, Nat.reduceEqDiff, reduceCtorEq, Nat.reduceAdd, Nat.reduceLeDiff, Int.reduceLT, Int.reduceLE, ↓u_setN]
    exact EndQ.twoNil _ 4 σ rfl (Store.sub_refl _) ⟨rfl, by simp⟩
  | true =>
  simp only [↓vcPre, ↓wit_get, ↓reduceIte, vcPost, vcStd, Nat.reduceEqDiff, reduceCtorEq, Nat.reduceAdd, Nat.reduceLeDiff, Int.reduceLT, Int.reduceLE, ↓u_setN]
  have hl1 : old.length ≤ 4096 := by simp [ensR] at hr1; exact hr1.2
  have hl2 : new.length ≤ 4096 := by simp [ensR] at hr2; exact hr2.2
  have hB1 : ∀ i, (setsAt old new i).length ≤ 4096 := fun i => by
    have := List.length_filter_le (setP old (32 - (i : Int))) new
    simp only [setsAt, List.length_map]; omega
  have hB2 : ∀ i, (cutsAt old new i).length ≤ 4096 := fun i => by
    have := List.length_filter_le (cutP new (i : Int)) old
    simp only [cutsAt, List.length_map]; omega
  have hC1 := fun m => flat_len _ _ hB1 m
  have hC2 := fun m => flat_len _ _ hB2 m
  refine LoopQ.inv (S := Nat × AV × Store) (fun q => [(0, .sl 3 (old.map En.c)), (1, .sl 3 (new.map En.c)), (6, q.2.1), (7, .int .i64 (32 - (q.1 : Int)))]) (fun q => q.2.2)
    (fun q => q.1 ≤ 33 ∧ Store.sub σ q.2.2 ∧ Own 4 σ ((setsR old new q.1).map Wr.c) q.2.1 q.2.2) (fun q => 33 - q.1) (0, .nils, σ) rfl (Store.sub_refl _) ⟨by simp only; omega, Store.sub_refl _, .nil⟩ ?_
  rintro ⟨m, v, s⟩ ⟨hm, hs, ho⟩
  simp only at hm hs ho
  simp only [↓vcPre, ↓wit_get, ↓reduceIte, vcPost, vcStd, Nat.reduceEqDiff, reduceCtorEq, Nat.reduceAdd, Nat.reduceLeDiff, Int.reduceLT, Int.reduceLE, ↓u_setN]
  refine ⟨fun c0 => ?_, fun c0 => ?_⟩
  · have hm33 : m < 33 := by omega
    generalize hP : setsR old new m = P at ho
    have hPl : P.length ≤ 135168 := by
      have := hC1 m
      rw [← hP]
      unfold setsR
      omega
    refine LoopQ.inv (S := Nat × AV × Store) (fun q => [(0, .sl 3 (old.map En.c)), (1, .sl 3 (new.map En.c)), (6, q.2.1), (7, .int .i64 (32 - (m : Int))), (8, .int .i64 (q.1 : Int))]) (fun q => q.2.2)
      (fun q => q.1 ≤ new.length ∧ Store.sub σ q.2.2 ∧ Own 4 σ ((P ++ ((new.take q.1).filter (setP old (32 - (m : Int)))).map setW).map Wr.c) q.2.1 q.2.2) (fun q => new.length + 1 - q.1) (0, v, s) rfl (Store.sub_refl _) ⟨by simp only; omega, hs, by simpa using ho⟩ ?_
    rintro ⟨k, u, t⟩ ⟨hk, ht, hu⟩
    simp only at hk ht hu
    have hfl := List.length_filter_le (setP old (32 - (m : Int))) (new.take k)
    rw [List.length_take] at hfl
    simp only [↓vcPre, ↓wit_get, ↓reduceIte, vcPost, vcStd, Nat.reduceEqDiff, reduceCtorEq, Nat.reduceAdd, Nat.reduceLeDiff, Int.reduceLT, Int.reduceLE, ↓u_setN]
    refine ⟨fun c1 => ?_, fun c1 => ?_⟩
    · have ek : IntKind.i64.wrap ((k : Int) + 1) = ((k + 1 : Nat) : Int) := by rw [wrap64 (by unfold I64; omega)]; omega
      refine ⟨c1, by simp [En.c], ?_⟩
      simp only [En.c]
      simp only [↓vcPre, ↓wit_get, ↓reduceIte, vcPost, vcStd, Nat.reduceEqDiff, reduceCtorEq, Nat.reduceAdd, Nat.reduceLeDiff, Int.reduceLT, Int.reduceLE, ↓u_setN]
      refine (c55 old _ _ h1).Q ?_
      simp only [En.c, ↓vcPre, ↓wit_get, ↓reduceIte, vcPost, vcStd, Nat.reduceEqDiff, reduceCtorEq, Nat.reduceAdd, Nat.reduceLeDiff, Int.reduceLT, Int.reduceLE, ↓u_setN]
      refine ⟨c1, fun g1 => ⟨fun g2 => ?_, fun g2 => ?_⟩, fun g1 => ?_⟩
      · rcases fnd_spec old new[k].a new[k].n with ⟨e1, e2⟩ | ⟨j, hj, e1, e2⟩
        · omega
        · simp only [e1]
          refine ⟨by omega, by simpa using hj, c1, ?_⟩
          simp only [Int.toNat_natCast]
          refine (c25O _ _ (ho1 _ (List.getElem_mem hj))).q' ?_
          cases hd : decide (old[j].h.getD [] = new[k].h.getD []) with
          | true =>
            have hn : setP old (32 - (m : Int)) new[k] = false := by simp [setP, needs, e2, hd]
            simp only [↓vcPre, ↓wit_get, ↓reduceIte, vcPost, vcStd, Nat.reduceEqDiff, reduceCtorEq, Nat.reduceAdd, Nat.reduceLeDiff, Int.reduceLT, Int.reduceLE, ↓u_setN]
            rw [ek]
            refine NextQ.to (k + 1, u, t) rfl (Store.sub_refl _) (by simp only; omega) ⟨by simp only; omega, ht, ?_⟩
            simp only [take_filter c1, hn, Bool.false_eq_true, if_false, List.append_nil]
            exact hu
          | false =>
            have hn : setP old (32 - (m : Int)) new[k] = true := by unfold setP; rw [show needs old new[k] = true by simp [needs, e2, hd], decide_eq_true g1]; rfl
            simp only [En.c, ↓vcPre, ↓wit_get, ↓reduceIte, vcPost, vcStd, Nat.reduceEqDiff, reduceCtorEq, Nat.reduceAdd, Nat.reduceLeDiff, Int.reduceLT, Int.reduceLE, ↓u_setN]
            refine ⟨c1, ?_⟩
            refine AllocQ.i0 fun c hc => ?_
            simp only [↓vcPre, ↓wit_get, ↓reduceIte, vcPost, vcStd, Nat.reduceEqDiff, reduceCtorEq, Nat.reduceAdd, Nat.reduceLeDiff, Int.reduceLT, Int.reduceLE, ↓u_setN]
            refine Own.app (τ := σ) (L := List.map Wr.c (P ++ (List.filter (setP old (32 - (m : Int))) (List.take k new)).map setW)) (Store.sub_trans ht (Store.sub_set _ c _ hc)) (hu.mono (Store.sub_set _ c _ hc)) (slc_os0 (Store.set_same _ _ _) rfl) (by simp only [List.length_map, List.length_append]; omega) fun v' s' hs' ho' => ?_
            rw [ek]
            refine NextQ.to (k + 1, v', s') rfl (Store.sub_refl _) (by simp only; omega) ⟨by simp only; omega, hs', ?_⟩
            simp only [take_filter c1, hn, if_true]
            simpa [setW, Wr.c, En.c, hopsO_none] using ho'
      · rcases fnd_spec old new[k].a new[k].n with ⟨e1, e2⟩ | ⟨j, hj, e1, e2⟩
        · have hn : setP old (32 - (m : Int)) new[k] = true := by unfold setP; rw [show needs old new[k] = true by simp [needs, e2], decide_eq_true g1]; rfl
          refine ⟨c1, ?_⟩
          refine AllocQ.i0 fun c hc => ?_
          simp only [↓vcPre, ↓wit_get, ↓reduceIte, vcPost, vcStd, Nat.reduceEqDiff, reduceCtorEq, Nat.reduceAdd, Nat.reduceLeDiff, Int.reduceLT, Int.reduceLE, ↓u_setN]
          refine Own.app (τ := σ) (L := List.map Wr.c (P ++ (List.filter (setP old (32 - (m : Int))) (List.take k new)).map setW)) (Store.sub_trans ht (Store.sub_set _ c _ hc)) (hu.mono (Store.sub_set _ c _ hc)) (slc_os0 (Store.set_same _ _ _) rfl) (by simp only [List.length_map, List.length_append]; omega) fun v' s' hs' ho' => ?_
          rw [ek]
          refine NextQ.to (k + 1, v', s') rfl (Store.sub_refl _) (by simp only; omega) ⟨by simp only; omega, hs', ?_⟩
          simp only [take_filter c1, hn, if_true]
          simpa [setW, Wr.c, En.c, hopsO_none] using ho'
        · omega
      · have hn : setP old (32 - (m : Int)) new[k] = false := by simp [setP, g1]
        rw [ek]
        refine NextQ.to (k + 1, u, t) rfl (Store.sub_refl _) (by simp only; omega) ⟨by simp only; omega, ht, ?_⟩
        simp only [take_filter c1, hn, Bool.false_eq_true, if_false, List.append_nil]
        exact hu
    · have hkl : new.take k = new := List.take_of_length_le (by omega)
      rw [hkl, ← hP] at hu
      have em : IntKind.i64.wrap (32 - (m : Int) - 1) = 32 - ((m + 1 : Nat) : Int) := by rw [wrap64 (by unfold I64; omega)]; omega
      rw [em]
      refine NextQ.to (m + 1, u, t) rfl (Store.sub_refl _) (by simp only; omega) ⟨by simp only; omega, ht, ?_⟩
      simp only [setsR_succ]
      exact hu
  · have hm33 : m = 33 := by omega
    subst hm33
    clear c0 hm
    refine LoopQ.inv (S := Nat × AV × Store) (fun q => [(0, .sl 3 (old.map En.c)), (1, .sl 3 (new.map En.c)), (6, q.2.1), (10, .int .i64 (q.1 : Int))]) (fun q => q.2.2)
      (fun q => q.1 ≤ 33 ∧ Store.sub σ q.2.2 ∧ Own 4 σ ((setsR old new 33 ++ cutsR old new q.1).map Wr.c) q.2.1 q.2.2) (fun q => 34 - q.1) (0, v, s) rfl (Store.sub_refl _) ⟨by simp only; omega, hs, by simpa [cutsR] using ho⟩ ?_
    clear ho hs
    rintro ⟨m, v, s⟩ ⟨hm, hs, ho⟩
    simp only at hm hs ho
    simp only [↓vcPre, ↓wit_get, ↓reduceIte, vcPost, vcStd, Nat.reduceEqDiff, reduceCtorEq, Nat.reduceAdd, Nat.reduceLeDiff, Int.reduceLT, Int.reduceLE, ↓u_setN]
    refine ⟨fun c0 => ?_, fun c0 => ?_⟩
    · have hm33 : m < 33 := by omega
      generalize hP : setsR old new 33 ++ cutsR old new m = P at ho
      have hPl : P.length ≤ 300000 := by
        have q1 := hC1 33
        have q2 := hC2 m
        rw [← hP, List.length_append]
        unfold setsR cutsR
        omega
      refine LoopQ.inv (S := Nat × AV × Store) (fun q => [(0, .sl 3 (old.map En.c)), (1, .sl 3 (new.map En.c)), (6, q.2.1), (10, .int .i64 (m : Int)), (11, .int .i64 (q.1 : Int))]) (fun q => q.2.2)
        (fun q => q.1 ≤ old.length ∧ Store.sub σ q.2.2 ∧ Own 4 σ ((P ++ ((old.take q.1).filter (cutP new (m : Int))).map cutW).map Wr.c) q.2.1 q.2.2) (fun q => old.length + 1 - q.1) (0, v, s) rfl (Store.sub_refl _) ⟨by simp only; omega, hs, by simpa using ho⟩ ?_
      rintro ⟨k, u, t⟩ ⟨hk, ht, hu⟩
      simp only at hk ht hu
      have hfl := List.length_filter_le (cutP new (m : Int)) (old.take k)
      rw [List.length_take] at hfl
      simp only [↓vcPre, ↓wit_get, ↓reduceIte, vcPost, vcStd, Nat.reduceEqDiff, reduceCtorEq, Nat.reduceAdd, Nat.reduceLeDiff, Int.reduceLT, Int.reduceLE, ↓u_setN]
      refine ⟨fun c1 => ?_, fun c1 => ?_⟩
      · have ek : IntKind.i64.wrap ((k : Int) + 1) = ((k + 1 : Nat) : Int) := by rw [wrap64 (by unfold I64; omega)]; omega
        refine ⟨c1, by simp [En.c], ?_⟩
        simp only [En.c]
        simp only [↓vcPre, ↓wit_get, ↓reduceIte, vcPost, vcStd, Nat.reduceEqDiff, reduceCtorEq, Nat.reduceAdd, Nat.reduceLeDiff, Int.reduceLT, Int.reduceLE, ↓u_setN]
        refine ⟨fun g1 => ⟨c1, ?_⟩, fun g1 => ?_⟩
        · refine (c55 new _ _ h2).Q ?_
          simp only [↓vcPre, ↓wit_get, ↓reduceIte, vcPost, vcStd, Nat.reduceEqDiff, reduceCtorEq, Nat.reduceAdd, Nat.reduceLeDiff, Int.reduceLT, Int.reduceLE, ↓u_setN]
          rcases fnd_spec new old[k].a old[k].n with ⟨e1, e2⟩ | ⟨j, hj, e1, e2⟩
          · have hn : cutP new (m : Int) old[k] = true := by unfold cutP; rw [show gone new old[k] = true by simp [gone, e2], decide_eq_true g1]; rfl
            refine ⟨fun g2 => ?_, fun g2 => by omega⟩
            simp only [En.c, ↓vcPre, ↓wit_get, ↓reduceIte, vcPost, vcStd, Nat.reduceEqDiff, reduceCtorEq, Nat.reduceAdd, Nat.reduceLeDiff, Int.reduceLT, Int.reduceLE, ↓u_setN]
            refine ⟨c1, ?_⟩
            refine AllocQ.i0 fun c hc => ?_
            simp only [↓vcPre, ↓wit_get, ↓reduceIte, vcPost, vcStd, Nat.reduceEqDiff, reduceCtorEq, Nat.reduceAdd, Nat.reduceLeDiff, Int.reduceLT, Int.reduceLE, ↓u_setN]
            refine Own.app (τ := σ) (L := List.map Wr.c (P ++ (List.filter (cutP new (m : Int)) (List.take k old)).map cutW)) (Store.sub_trans ht (Store.sub_set _ c _ hc)) (hu.mono (Store.sub_set _ c _ hc)) (slc_os0 (Store.set_same _ _ _) rfl) (by simp only [List.length_map, List.length_append]; omega) fun v' s' hs' ho' => ?_
            rw [ek]
            refine NextQ.to (k + 1, v', s') rfl (Store.sub_refl _) (by simp only; omega) ⟨by simp only; omega, hs', ?_⟩
            simp only [take_filter c1, hn, if_true]
            simpa [cutW, Wr.c, En.c, hopsO_none] using ho'
          · have hn : cutP new (m : Int) old[k] = false := by simp [cutP, gone, e2]
            refine ⟨fun g2 => by omega, fun g2 => ?_⟩
            rw [ek]
            refine NextQ.to (k + 1, u, t) rfl (Store.sub_refl _) (by simp only; omega) ⟨by simp only; omega, ht, ?_⟩
            simp only [take_filter c1, hn, Bool.false_eq_true, if_false, List.append_nil]
            exact hu
        · have hn : cutP new (m : Int) old[k] = false := by simp [cutP, g1]
          rw [ek]
          refine NextQ.to (k + 1, u, t) rfl (Store.sub_refl _) (by simp only; omega) ⟨by simp only; omega, ht, ?_⟩
          simp only [take_filter c1, hn, Bool.false_eq_true, if_false, List.append_nil]
          exact hu
      · have hkl : old.take k = old := List.take_of_length_le (by omega)
        rw [hkl, ← hP] at hu
        have em : IntKind.i64.wrap ((m : Int) + 1) = ((m + 1 : Nat) : Int) := by rw [wrap64 (by unfold I64; omega)]; omega
        rw [em]
        refine NextQ.to (m + 1, u, t) rfl (Store.sub_refl _) (by simp only; omega) ⟨by simp only; omega, ht, ?_⟩
        simp only [cutsR_succ, ← List.append_assoc]
        exact hu
    · have hm33 : m = 33 := by omega
      subst hm33
      refine EndQ.ownTwo rfl ho hs ⟨rfl, ?_⟩
      simp [refPlan]
end Go.Am

/- W17 -/
namespace Go.Am
open Go.Proofs Go.Sort

theorem once_look : ∀ {l : List En}, Once l → ∀ e ∈ l, lookE l e.a e.n = some e.h
  | [], _, e, he => by cases he
  | x :: l, ho, e, he => by
    obtain ⟨h1, h2⟩ := List.pairwise_cons.1 ho
    rcases List.mem_cons.1 he with rfl | he'
    · simp [lookE]
    · have := h1 e he'
      have ih := once_look h2 e he'
      have hd : decide (x.a = e.a ∧ x.n = e.n) = false := decide_eq_false this
      simp only [lookE, List.find?_cons, hd] at ih ⊢
      exact ih

def ltS (x y : WK) : Prop := y.2.2.1 < x.2.2.1 ∨ (y.2.2.1 = x.2.2.1 ∧ x.2.1 < y.2.1)
def ltD (x y : WK) : Prop := x.2.2.1 < y.2.2.1 ∨ (x.2.2.1 = y.2.2.1 ∧ x.2.1 < y.2.1)
def leS (x y : WK) : Prop := y.2.2.1 < x.2.2.1 ∨ (y.2.2.1 = x.2.2.1 ∧ x.2.1 ≤ y.2.1)
def leD (x y : WK) : Prop := x.2.2.1 < y.2.2.1 ∨ (x.2.2.1 = y.2.2.1 ∧ x.2.1 ≤ y.2.1)

theorem k_set (e : En) : (setW e).k = setK e := rfl
theorem k_cut (e : En) : (cutW e).k = cutK e := rfl

theorem enLess_lt {x y : En} (h : enLess x y = true) : x.a < y.a ∨ (x.a = y.a ∧ x.n < y.n) := (lessF_both h).2.2

theorem setsR_sorted {old new : List En} (h : ensR new = true) : ((setsR old new 33).map Wr.k).Pairwise ltS := by
  rw [List.pairwise_map, setsR, List.pairwise_flatMap]
  refine ⟨fun i hi => ?_, ?_⟩
  · rw [setsAt, List.pairwise_map]
    have h0 := List.Pairwise.filter (setP old (32 - (i : Int))) (ens_all h).2
    refine List.Pairwise.imp_of_mem (fun {x y} hx hy hxy => ?_) h0
    have hx := (List.mem_filter.1 hx).2
    have hy := (List.mem_filter.1 hy).2
    simp only [setP, Bool.and_eq_true, decide_eq_true_eq] at hx hy
    have := enLess_lt hxy
    simp only [k_set, ltS, setK]
    omega
  · refine List.pairwise_lt_range.imp fun {i j} hij x hx y hy => ?_
    simp only [setsAt, List.mem_map, List.mem_filter, setP, Bool.and_eq_true, decide_eq_true_eq] at hx hy
    obtain ⟨a, ⟨_, h1, _⟩, rfl⟩ := hx
    obtain ⟨b, ⟨_, h2, _⟩, rfl⟩ := hy
    simp only [k_set, ltS, setK]
    omega
theorem cutsR_sorted {old new : List En} (h : ensR old = true) : ((cutsR old new 33).map Wr.k).Pairwise ltD := by
  rw [List.pairwise_map, cutsR, List.pairwise_flatMap]
  refine ⟨fun i hi => ?_, ?_⟩
  · rw [cutsAt, List.pairwise_map]
    have h0 := List.Pairwise.filter (cutP new (i : Int)) (ens_all h).2
    refine List.Pairwise.imp_of_mem (fun {x y} hx hy hxy => ?_) h0
    have hx := (List.mem_filter.1 hx).2
    have hy := (List.mem_filter.1 hy).2
    simp only [cutP, Bool.and_eq_true, decide_eq_true_eq] at hx hy
    have := enLess_lt hxy
    simp only [k_cut, ltD, cutK]
    omega
  · refine List.pairwise_lt_range.imp fun {i j} hij x hx y hy => ?_
    simp only [cutsAt, List.mem_map, List.mem_filter, cutP, Bool.and_eq_true, decide_eq_true_eq] at hx hy
    obtain ⟨a, ⟨_, h1, _⟩, rfl⟩ := hx
    obtain ⟨b, ⟨_, h2, _⟩, rfl⟩ := hy
    simp only [k_cut, ltD, cutK]
    omega

theorem right_n {l : List En} (h : ensR l = true) {e : En} (he : e ∈ l) : 0 ≤ e.n ∧ e.n ≤ 32 := by
  have := right_of h he
  simp only [rightF, Bool.and_eq_true, decide_eq_true_eq] at this
  exact this.1
theorem setsR_perm {old new : List En} (h : ensR new = true) : ((setsR old new 33).map Wr.k).Perm (setsK old new) := by
  rw [List.perm_ext_iff_of_nodup]
  · intro a
    simp only [setsR, setsAt, setsK, List.mem_map, List.mem_flatMap, List.mem_filter, List.mem_range, setP, Bool.and_eq_true, decide_eq_true_eq]
    constructor
    · rintro ⟨w, ⟨i, hi, e, ⟨he, h1, h2⟩, rfl⟩, rfl⟩
      exact ⟨e, ⟨he, h2⟩, rfl⟩
    · rintro ⟨e, ⟨he, h2⟩, rfl⟩
      have := right_n h he
      exact ⟨setW e, ⟨(32 - e.n).toNat, by omega, e, ⟨he, by omega, h2⟩, rfl⟩, rfl⟩
  · refine (setsR_sorted h).imp fun {x y} hxy e => ?_
    subst e
    unfold ltS at hxy
    omega
  · rw [setsK, List.nodup_iff_pairwise_ne, List.pairwise_map]
    refine (List.Pairwise.filter _ (once_of h)).imp fun {x y} hxy e => ?_
    simp only [setK, Prod.mk.injEq] at e
    exact hxy ⟨e.2.1, e.2.2.1⟩
theorem cutsR_perm {old new : List En} (h : ensR old = true) : ((cutsR old new 33).map Wr.k).Perm (cutsK old new) := by
  rw [List.perm_ext_iff_of_nodup]
  · intro a
    simp only [cutsR, cutsAt, cutsK, List.mem_map, List.mem_flatMap, List.mem_filter, List.mem_range, cutP, Bool.and_eq_true, decide_eq_true_eq]
    constructor
    · rintro ⟨w, ⟨i, hi, e, ⟨he, h1, h2⟩, rfl⟩, rfl⟩
      exact ⟨e, ⟨he, h2⟩, rfl⟩
    · rintro ⟨e, ⟨he, h2⟩, rfl⟩
      have := right_n h he
      exact ⟨cutW e, ⟨e.n.toNat, by omega, e, ⟨he, by omega, h2⟩, rfl⟩, rfl⟩
  · refine (cutsR_sorted h).imp fun {x y} hxy e => ?_
    subst e
    unfold ltD at hxy
    omega
  · rw [cutsK, List.nodup_iff_pairwise_ne, List.pairwise_map]
    refine (List.Pairwise.filter _ (once_of h)).imp fun {x y} hxy e => ?_
    simp only [cutK, Prod.mk.injEq] at e
    exact hxy ⟨e.2.1, e.2.2.1⟩

theorem setsK_eq {old new : List En} (h : ensR new = true) {x y : WK} (hx : x ∈ setsK old new) (hy : y ∈ setsK old new) (h1 : x.2.1 = y.2.1) (h2 : x.2.2.1 = y.2.2.1) : x = y := by
  simp only [setsK, List.mem_map, List.mem_filter] at hx hy
  obtain ⟨e, ⟨he, _⟩, rfl⟩ := hx
  obtain ⟨f, ⟨hf, _⟩, rfl⟩ := hy
  simp only [setK] at h1 h2
  have q1 := once_look (once_of h) e he
  have q2 := once_look (once_of h) f hf
  rw [h1, h2, q2] at q1
  have := Option.some.inj q1
  simp [setK, h1, h2, this]
theorem cutsK_eq {old new : List En} {x y : WK} (hx : x ∈ cutsK old new) (hy : y ∈ cutsK old new) (h1 : x.2.1 = y.2.1) (h2 : x.2.2.1 = y.2.2.1) : x = y := by
  simp only [cutsK, List.mem_map, List.mem_filter] at hx hy
  obtain ⟨e, ⟨he, _⟩, rfl⟩ := hx
  obtain ⟨f, ⟨hf, _⟩, rfl⟩ := hy
  simp only [cutK] at h1 h2
  simp [cutK, h1, h2]

/-- What Plan answers is what the document answers. -/
theorem plan_eq {old new : List En} {W : List (List AV)} (h1 : ensR old = true) (h2 : ensR new = true) (h : IsPlan old new W) : ∃ Ws : List Wr, W = Ws.map Wr.c ∧ Ws.map Wr.k = (refPlan old new).map Wr.k := by
  obtain ⟨S, C, rfl, hS, hC, hS2, hC2⟩ := h
  refine ⟨(S ++ C).map (·.1), by rw [List.map_map]; rfl, ?_⟩
  rw [refPlan, List.map_append, List.map_append, List.map_append, List.map_map, List.map_map]
  have e1 : S.map (fun w => w.1.k) = (setsR old new 33).map Wr.k := by
    refine List.Perm.eq_of_pairwise (le := leS) ?_ ?_ ?_ (hS.trans (setsR_perm h2).symm)
    · intro a b ha hb hab hba
      have ha' := hS.mem_iff.1 ha
      have hb' := (setsR_perm h2).mem_iff.1 hb
      unfold leS at hab hba
      exact setsK_eq h2 ha' hb' (by omega) (by omega)
    · rw [List.pairwise_map]
      refine hS2.imp fun {x y} hxy => ?_
      have := set_lt y x
      rw [hxy] at this
      simp only [Wr.k, leS]
      have hn : ¬ _ := fun hh => Bool.false_ne_true (this.2 hh)
      omega
    · refine (setsR_sorted h2).imp fun {x y} hxy => ?_
      unfold ltS at hxy
      unfold leS
      omega
  have e2 : C.map (fun w => w.1.k) = (cutsR old new 33).map Wr.k := by
    refine List.Perm.eq_of_pairwise (le := leD) ?_ ?_ ?_ (hC.trans (cutsR_perm h1).symm)
    · intro a b ha hb hab hba
      have ha' := hC.mem_iff.1 ha
      have hb' := (cutsR_perm h1).mem_iff.1 hb
      unfold leD at hab hba
      exact cutsK_eq ha' hb' (by omega) (by omega)
    · rw [List.pairwise_map]
      refine hC2.imp fun {x y} hxy => ?_
      have := cut_lt y x
      rw [hxy] at this
      simp only [Wr.k, leD]
      have hn : ¬ _ := fun hh => Bool.false_ne_true (this.2 hh)
      omega
    · refine (cutsR_sorted h1).imp fun {x y} hxy => ?_
      unfold ltD at hxy
      unfold leD
      omega
  rw [← e1, ← e2]
  rfl
end Go.Am

/- W18 -/
namespace Go.Am
open Go.Proofs Go.Sort

theorem refPlan_len {old new : List En} (h1 : ensR old = true) (h2 : ensR new = true) : (refPlan old new).length ≤ 270336 := by
  have hl1 : old.length ≤ 4096 := by simp [ensR] at h1; exact h1.2
  have hl2 : new.length ≤ 4096 := by simp [ensR] at h2; exact h2.2
  have hB1 : ∀ i, (setsAt old new i).length ≤ 4096 := fun i => by
    have := List.length_filter_le (setP old (32 - (i : Int))) new
    simp only [setsAt, List.length_map]; omega
  have hB2 : ∀ i, (cutsAt old new i).length ≤ 4096 := fun i => by
    have := List.length_filter_le (cutP new (i : Int)) old
    simp only [cutsAt, List.length_map]; omega
  have hC1 := flat_len _ _ hB1 33
  have hC2 := flat_len _ _ hB2 33
  rw [refPlan, List.length_append]
  unfold setsR cutsR
  omega
theorem refPlan_mem {old new : List En} {x : Wr} (h : x ∈ refPlan old new) : (∃ e ∈ new, x = setW e) ∨ ∃ e ∈ old, x = cutW e := by
  simp only [refPlan, List.mem_append, setsR, cutsR, List.mem_flatMap, setsAt, cutsAt, List.mem_map, List.mem_filter] at h
  rcases h with ⟨i, _, e, ⟨he, _⟩, rfl⟩ | ⟨i, _, e, ⟨he, _⟩, rfl⟩
  · exact .inl ⟨e, he, rfl⟩
  · exact .inr ⟨e, he, rfl⟩
theorem refPlan_ok {old new : List En} (ho : ∀ e ∈ new, e.ok) {x : Wr} (h : x ∈ refPlan old new) : x.e.ok := by
  rcases refPlan_mem h with ⟨e, he, rfl⟩ | ⟨e, he, rfl⟩
  · exact ho e he
  · simp [cutW, En.ok, Small]

theorem c11 (old new : List En) (h1 : Small old) (h2 : Small new) (ho1 : ∀ e ∈ old, e.ok) (ho2 : ∀ e ∈ new, e.ok) : Pur Try.prog 11 [.sl 3 (old.map En.c), .sl 3 (new.map En.c)] (.bool true) := by
  refine pur_of Tst.F11 (by simp [Tst.F11, Fn.mk']) fun σ => ?_
  simp only [Tst.F11, Fn.mk', Tst.b11]
  simp only [↓vcPre, ↓wit_get, ↓reduceIte, vcPost, vcStd, Nat.reduceEqDiff, reduceCtorEq, Nat.reduceAdd, Nat.reduceLeDiff, Int.reduceLT, Int.reduceLE, ↓u_setN]
  refine (s13 old new h1 h2 ho1 ho2 σ).Q ?_
  rintro r s ⟨rfl, W, rfl, hW⟩
  have hW' : ∃ A B : List Wr, W = A.map Wr.c ∧ (if ensR old && ensR new then refPlan old new else []) = B ∧ A.map Wr.k = B.map Wr.k ∧ (A.length : Int) < 4611686018427387904 ∧ ∀ x ∈ A, x.e.ok := by
    cases hr : ensR old && ensR new with
    | false =>
      simp only [hr, Bool.false_eq_true, if_false] at hW
      exact ⟨[], [], by simpa using hW, by simp, rfl, by simp, by simp⟩
    | true =>
      have hr' := hr
      simp only [Bool.and_eq_true] at hr'
      simp only [hr, if_true] at hW
      obtain ⟨A, hA1, hA2⟩ := plan_eq hr'.1 hr'.2 hW
      have hlen : A.length = (refPlan old new).length := by simpa using congrArg List.length hA2
      have hle := refPlan_len hr'.1 hr'.2
      refine ⟨A, _, hA1, rfl, by simpa using hA2, by omega, fun x hx => ?_⟩
      have hm : x.k ∈ (refPlan old new).map Wr.k := by rw [← hA2]; exact List.mem_map_of_mem hx
      obtain ⟨y, hy, hyk⟩ := List.mem_map.1 hm
      have := refPlan_ok ho2 hy
      have hh : y.e.h.getD [] = x.e.h.getD [] := by
        have := congrArg (fun z : WK => z.2.2.2) hyk
        exact this
      unfold En.ok at this ⊢
      rw [← hh]; exact this
  simp only [↓vcPre, ↓wit_get, ↓reduceIte, vcPost, vcStd, Nat.reduceEqDiff, reduceCtorEq, Nat.reduceAdd, Nat.reduceLeDiff, Int.reduceLT, Int.reduceLE, ↓u_setN]
  refine (s32 old new h1 h2 ho1 ho2).Q ?_
  obtain ⟨A, B, rfl, hB, hAB, hAl, hAo⟩ := hW'
  rw [hB]
  have hl : A.length = B.length := by simpa using congrArg List.length hAB
  simp only [hl, ↓vcPre, ↓wit_get, ↓reduceIte, vcPost, vcStd, Nat.reduceEqDiff, reduceCtorEq, Nat.reduceAdd, Nat.reduceLeDiff, Int.reduceLT, Int.reduceLE, ↓u_setN]
  refine LoopQ.inv (S := Nat) (fun k => [(5, .sl 4 (A.map Wr.c)), (7, .sl 4 (B.map Wr.c)), (9, .int .i64 (k : Int))]) (fun _ => s) (fun k => k ≤ A.length) (fun k => A.length + 1 - k) 0 rfl (Store.sub_refl _) (by omega) ?_
  intro k hk
  simp only [↓vcPre, ↓wit_get, ↓reduceIte, vcPost, vcStd, Nat.reduceEqDiff, reduceCtorEq, Nat.reduceAdd, Nat.reduceLeDiff, Int.reduceLT, Int.reduceLE, ↓u_setN]
  intro c1
  have ek : IntKind.i64.wrap ((k : Int) + 1) = ((k + 1 : Nat) : Int) := by rw [wrap64 (by unfold I64; omega)]; omega
  have hkk : decide ((A[k]'c1).k = (B[k]'(by omega)).k) = true := by
    have : (A.map Wr.k)[k]'(by simpa using c1) = (B.map Wr.k)[k]'(by simpa using (by omega : k < B.length)) := by simp only [hAB]
    simpa using this
  have hc1 := fun x => (c33 (A[k]'c1) x (hAo _ (List.getElem_mem c1)))
  refine ⟨c1, by omega, by simp [Wr.c, En.c], by simp [Wr.c, En.c], ?_⟩
  have e4 : ∀ x : Wr, x.c.take 4 = x.c := fun _ => rfl
  rw [e4, e4]
  refine (hc1 _).q' ?_
  rw [hkk]
  simp only [↓vcPre, ↓wit_get, ↓reduceIte, vcPost, vcStd, Nat.reduceEqDiff, reduceCtorEq, Nat.reduceAdd, Nat.reduceLeDiff, Int.reduceLT, Int.reduceLE, ↓u_setN]
  rw [ek]
  exact NextQ.to (k + 1) rfl (Store.sub_refl _) (by omega) (by omega)
end Go.Am

/- W19 -/
namespace Go.Am
open Go.Proofs Go.Sort

theorem WeakL.pos {l : List AV} {σ : Store} {Q : List AV → Store → Prop} (k : Nat) {a : AV} (ha : l[k]? = some a) (h : Weak a σ (fun b s => WeakL (l.set k b) s Q)) : WeakL l σ Q := fun G w vs hs hr => by
  obtain ⟨v, hv, hvr⟩ := hr.get k _ ha
  obtain ⟨G1, b, σ1, e1, s1, r1, h1⟩ := h G w v hs hvr
  obtain ⟨G2, as', σ2, e2, s2, r2, q2⟩ := h1 G1 w vs s1 (Rels.of_get (by simpa using hr.length) fun i hi hi' => by
    by_cases hik : i = k
    · subst hik
      rw [List.getElem?_eq_getElem hi'] at hv; cases hv
      simp; exact r1
    · rw [List.getElem_set_ne (Ne.symm hik)]
      have hi2 : i < l.length := by simpa using hi
      obtain ⟨u, hu, hur⟩ := hr.get i _ (List.getElem?_eq_getElem hi2)
      rw [List.getElem?_eq_getElem hi'] at hu; cases hu
      exact e1.vrel hs hur)
  exact ⟨G2, as', σ2, e1.trans e2, s2, r2, q2⟩

theorem sub_del {σ τ : Store} {i : Nat} (h : Store.sub σ τ) (hi : σ i = none) : Store.sub σ (τ.del i) := fun j p hj => by
  have : j ≠ i := fun e => by subst e; rw [hi] at hj; cases hj
  rw [Store.del_ne _ this]; exact h j p hj

theorem c14O (o : Option (List En)) (cut : Bool) (e : En) (hl : (o.getD []).length < 1000000) : Pur Try.prog 14 [slO 3 En.c o, .agg (.bool cut :: e.c)] (.sl 3 ((doF (o.getD []) cut e).map En.c)) := by
  cases o with
  | none => exact Pur.nil 0 3 rfl (c14 [] cut e (by simp))
  | some l => exact c14 l cut e hl

theorem c14os (o : Option (List En)) (a n k : Int) (hl : (o.getD []).length < 1000000) {s : Store} {id : Nat} (hs : s id = some (.arr 2 [[.int .i64 k, .int .i64 16]])) :
    ACalls Try.prog 14 [slO 3 En.c o, .agg [.bool false, .int .u32 a, .int .i64 n, .os id 2 0 1]] s (fun r s' => r = .sl 3 ((doF (o.getD []) false ⟨a, n, some [(k, 16)]⟩).map En.c) ∧ s' = s.del id) := by
  have h := c14O o false ⟨a, n, some [(k, 16)]⟩ hl
  refine ACalls.weakArgs (h s).1 (WeakL.pos 1 rfl (Weak.agg (WeakL.freeze 3 rfl hs (by simp) (WeakL.pure ⟨by simp [AV.flat], WeakL.pure ?_⟩))))
  exact (h (s.del id)).mono fun a' s' ⟨h1, h2⟩ => ⟨h2, h1⟩

/-- Prefix of the keep. -/
def pfx (a n : Int) : Int × Int := ofF (bitInt .or .u32 167772160 (shlInt .u32 (Int.tmod a 64) 18)) (8 + n % 7)
theorem c31 (a n : Int) (h : I64 n) : Pur Try.prog 31 [.int .u32 a, .int .i64 n] (.agg [.int .u32 (pfx a n).1, .int .i64 (pfx a n).2]) := by
  refine pur_of Tst.F31 (by simp [Tst.F31, Fn.mk']) fun σ => ?_
  simp only [Tst.F31, Fn.mk', Tst.b31]
  simp only [↓vcPre, ↓wit_get, ↓reduceIte, vcPost, vcStd, Nat.reduceEqDiff, reduceCtorEq, Nat.reduceAdd, Nat.reduceLeDiff, Int.reduceLT, Int.reduceLE, ↓u_setN]
  refine AllocQ.i0 fun i hi => ?_
  simp only [↓vcPre, ↓wit_get, ↓reduceIte, vcPost, vcStd, Nat.reduceEqDiff, reduceCtorEq, Nat.reduceAdd, Nat.reduceLeDiff, Int.reduceLT, Int.reduceLE, ↓u_setN]
  refine ⟨by decide, (c28 n 0 6 h (by omega) (by omega) (by omega)).Q ?_⟩
  have e1 : IntKind.i64.wrap (8 + (0 + n % (6 - 0 + 1))) = 8 + n % 7 := by
    rw [show (6 - 0 + 1 : Int) = 7 by omega, wrap64 (by unfold I64; omega)]; omega
  simp only [e1, ↓vcPre, ↓wit_get, ↓reduceIte, vcPost, vcStd, Nat.reduceEqDiff, reduceCtorEq, Nat.reduceAdd, Nat.reduceLeDiff, Int.reduceLT, Int.reduceLE, ↓u_setN]
  refine (c54 _ _ (by unfold I64; omega)).Q ?_
  simp only [*, ↓vcPre, ↓wit_get, ↓reduceIte, vcPost, vcStd, Nat.reduceEqDiff, reduceCtorEq, Nat.reduceAdd, Nat.reduceLeDiff, Int.reduceLT, Int.reduceLE, ↓u_setN]
  exact ⟨rfl, rfl⟩

/-- What the law is told of an entry, in few numbers. -/
abbrev Raw := Int × Int × Int
def Raw.cells (r : Raw) : List AV := [.int .u32 r.1, .int .i64 r.2.1, .int .i64 r.2.2]
def Raw.ok (r : Raw) : Prop := I64 r.2.1 ∧ I64 r.2.2
def rawE (r : Raw) : En := ⟨(pfx r.1 r.2.1).1, (pfx r.1 r.2.1).2, if r.2.2 % 4 > 0 then some [(r.2.2 % 4, 16)] else none⟩
def entS (l : List En) (r : Raw) : List En := if l.any (isAt (rawE r).a (rawE r).n) then l else doF l false (rawE r)
def entF (rs : List Raw) : List En := (rs.take 30).foldl entS []
def doPot (st : List En × Bool) : Nat := st.1.length + (if st.2 then 0 else 1)
theorem doPot_step (e : En) (st : List En × Bool) (x : En) : doPot (doS e st x) ≤ doPot st + 1 := by
  obtain ⟨L, d⟩ := st
  cases d <;> simp only [doS, doPot, Bool.not_true, Bool.not_false, Bool.true_and, Bool.false_and, Bool.false_eq_true, if_false] <;> split <;> (try split) <;> simp_all <;> omega
theorem doPot_fold (e : En) : ∀ (l : List En) (st : List En × Bool), doPot (l.foldl (doS e) st) ≤ doPot st + l.length
  | [], st => by simp
  | x :: l, st => by
    have h1 := doPot_fold e l (doS e st x)
    have h2 := doPot_step e st x
    simp only [List.foldl_cons, List.length_cons]
    omega
theorem doF_len (l : List En) (c : Bool) (e : En) : (doF l c e).length ≤ l.length + 1 := by
  have h := doPot_fold e l ([], c)
  have h0 : doPot ([], c) ≤ 1 := by cases c <;> decide
  unfold doF
  simp only
  generalize l.foldl (doS e) ([], c) = r at h
  have hr : doPot r = r.1.length + (if r.2 then 0 else 1) := rfl
  cases h2 : r.2 <;> simp only [h2, if_true, Bool.false_eq_true, if_false, List.length_append, List.length_cons, List.length_nil] at hr ⊢ <;> omega
theorem entS_len (rs : List Raw) (l : List En) : (rs.foldl entS l).length ≤ l.length + rs.length := by
  induction rs generalizing l with
  | nil => simp
  | cons r rs ih =>
    have h1 := ih (entS l r)
    have h2 : (entS l r).length ≤ l.length + 1 := by
      unfold entS
      split
      · omega
      · exact doF_len _ _ _
    simp only [List.foldl_cons, List.length_cons]
    omega

theorem c10 (rs : List Raw) (h : Small rs) (ho : ∀ r ∈ rs, r.ok) : Pur Try.prog 10 [.sl 3 (rs.map Raw.cells)] (.sl 3 ((entF rs).map En.c)) := by
  intro σ
  refine calls_of Tst.F10 (by simp [Tst.F10, Fn.mk']) ?_
  simp only [Tst.F10, Fn.mk', Tst.b10]
  simp only [↓vcPre, ↓wit_get, ↓reduceIte, vcPost, vcStd, Nat.reduceEqDiff, reduceCtorEq, Nat.reduceAdd, Nat.reduceLeDiff, Int.reduceLT, Int.reduceLE, ↓u_setN]
  refine LoopQ.inv (S := Nat × Option (List En) × Store) (fun q => [(0, .sl 3 (rs.map Raw.cells)), (3, slO 3 En.c q.2.1), (4, .int .i64 (q.1 : Int))]) (fun q => q.2.2)
    (fun q => q.1 ≤ 30 ∧ q.1 ≤ rs.length ∧ Store.sub σ q.2.2 ∧ q.2.1.getD [] = (rs.take q.1).foldl entS []) (fun q => 31 - q.1) (0, none, σ) rfl (Store.sub_refl _) ⟨by simp only; omega, by simp only; omega, Store.sub_refl _, rfl⟩ ?_
  rintro ⟨k, o, s⟩ ⟨hk, hk2, hs, hE⟩
  simp only at hk hk2 hs hE
  simp only [↓vcPre, ↓wit_get, ↓reduceIte, vcPost, vcStd, Nat.reduceEqDiff, reduceCtorEq, Nat.reduceAdd, Nat.reduceLeDiff, Int.reduceLT, Int.reduceLE, ↓u_setN]
  refine ⟨fun c1 => ⟨fun c2 => ?_, fun c2 => ?_⟩, fun c1 => ?_⟩
  · refine ⟨c1, c1, by simp [Raw.cells], ?_⟩
    simp only [Raw.cells]
    have hro := ho _ (List.getElem_mem c1)
    have hlen : (o.getD []).length ≤ 30 := by
      have := entS_len (rs.take k) []
      rw [← hE, List.length_take] at this
      simp at this
      omega
    simp only [↓vcPre, ↓wit_get, ↓reduceIte, vcPost, vcStd, Nat.reduceEqDiff, reduceCtorEq, Nat.reduceAdd, Nat.reduceLeDiff, Int.reduceLT, Int.reduceLE, ↓u_setN]
    refine (c31 _ _ hro.1).q' ?_
    simp only [↓vcPre, ↓wit_get, ↓reduceIte, vcPost, vcStd, Nat.reduceEqDiff, reduceCtorEq, Nat.reduceAdd, Nat.reduceLeDiff, Int.reduceLT, Int.reduceLE, ↓u_setN]
    refine AllocQ.i0 fun b hb => ?_
    simp only [↓vcPre, ↓wit_get, ↓reduceIte, vcPost, vcStd, Nat.reduceEqDiff, reduceCtorEq, Nat.reduceAdd, Nat.reduceLeDiff, Int.reduceLT, Int.reduceLE, ↓u_setN]
    refine ⟨c1, by simp [Raw.cells], ?_⟩
    simp only [Raw.cells]
    simp only [↓vcPre, ↓wit_get, ↓reduceIte, vcPost, vcStd, Nat.reduceEqDiff, reduceCtorEq, Nat.reduceAdd, Nat.reduceLeDiff, Int.reduceLT, Int.reduceLE, ↓u_setN]
    refine (c28 _ 0 3 hro.2 (by omega) (by omega) (by omega)).Q ?_
    simp only [Store.set_set, ↓vcPre, ↓wit_get, ↓reduceIte, vcPost, vcStd, Nat.reduceEqDiff, reduceCtorEq, Nat.reduceAdd, Nat.reduceLeDiff, Int.reduceLT, Int.reduceLE, ↓u_setN]
    refine ⟨fun g1 => ?_, fun g1 => ?_⟩
    · refine AllocQ.i1 fun c hcb hbc hc => ?_
      simp only [*, Store.set_set, ↓vcPre, ↓wit_get, ↓reduceIte, vcPost, vcStd, Nat.reduceEqDiff, reduceCtorEq, Nat.reduceAdd, Nat.reduceLeDiff, Int.reduceLT, Int.reduceLE, ↓u_setN]
      have hstep : (rs.take (k + 1)).foldl entS [] = entS (o.getD []) rs[k] := by rw [foldl_take_succ _ _ c1, hE]
      have ek : IntKind.i64.wrap ((k : Int) + 1) = ((k + 1 : Nat) : Int) := by rw [wrap64 (by unfold I64; omega)]; omega
      generalize ht : ((s.set b (.box [.int .u32 (pfx rs[k].fst rs[k].snd.fst).fst, .int .i64 (pfx rs[k].fst rs[k].snd.fst).snd, .nils])).set c (.arr 2 [[AV.int IntKind.i64 (0 + rs[k].snd.snd % (3 - 0 + 1)), AV.int IntKind.i64 16]])).set b (.box [.int .u32 (pfx rs[k].fst rs[k].snd.fst).fst, .int .i64 (pfx rs[k].fst rs[k].snd.fst).snd, .os c 2 0 1]) = t
      have htb : t b = some (.box [.int .u32 (pfx rs[k].fst rs[k].snd.fst).fst, .int .i64 (pfx rs[k].fst rs[k].snd.fst).snd, .os c 2 0 1]) := by rw [← ht]; exact Store.set_same _ _ _
      have hst : Store.sub s t := by rw [← ht]; exact sub_upd' (sub_set2 hb hc hcb) hb
      refine LoopQ.inv (S := Nat) (fun j => [(0, .sl 3 (rs.map Raw.cells)), (3, slO 3 En.c o), (4, .int .i64 (k : Int)), (5, .ptr b 0), (7, .int .i64 (j : Int))]) (fun _ => t) (fun j => j ≤ (o.getD []).length ∧ ∀ i, (hi : i < (o.getD []).length) → i < j → isAt (rawE rs[k]).a (rawE rs[k]).n (o.getD [])[i] = false) (fun j => 31 - j) 0 rfl (Store.sub_refl _) ⟨by omega, fun i _ h => by omega⟩ ?_
      rintro j ⟨hj, hne⟩
      simp only [htb, ↓vcPre, ↓wit_get, ↓reduceIte, vcPost, vcStd, Nat.reduceEqDiff, reduceCtorEq, Nat.reduceAdd, Nat.reduceLeDiff, Int.reduceLT, Int.reduceLE, ↓u_setN]
      refine ⟨fun d1 => ⟨d1, by simp [En.c], ?_⟩, fun d1 => ⟨fun d2 => ?_, fun d2 => by omega⟩⟩
      · simp only [En.c]
        simp only [htb, ↓vcPre, ↓wit_get, ↓reduceIte, vcPost, vcStd, Nat.reduceEqDiff, reduceCtorEq, Nat.reduceAdd, Nat.reduceLeDiff, Int.reduceLT, Int.reduceLE, ↓u_setN]
        refine ⟨fun g2 => ?_, fun g2 g3 => ⟨fun d2 => by omega, fun d2 => ?_⟩⟩
        · have ej : IntKind.i64.wrap ((j : Int) + 1) = ((j + 1 : Nat) : Int) := by rw [wrap64 (by unfold I64; omega)]; omega
          rw [ej]
          refine NextQ.to (j + 1) rfl (Store.sub_refl _) (by omega) ⟨by omega, fun i hi hij => ?_⟩
          by_cases hij' : i = j
          · subst hij'; simp only [isAt]; exact decide_eq_false g2
          · exact hne i hi (by omega)
        · have hany : (o.getD []).any (isAt (rawE rs[k]).a (rawE rs[k]).n) = true := by
            rw [List.any_eq_true]
            exact ⟨_, List.getElem_mem d1, by simp only [isAt]; exact decide_eq_true ⟨g2, g3⟩⟩
          rw [ek]
          refine NextQ.to (k + 1, o, t) rfl (Store.sub_refl _) (by simp only; omega) ⟨by simp only; omega, by simp only; omega, Store.sub_trans hs hst, ?_⟩
          simp only [hstep, entS, hany, if_true]
      · have hany : (o.getD []).any (isAt (rawE rs[k]).a (rawE rs[k]).n) = false := by
          rw [List.any_eq_false]
          intro x hx
          obtain ⟨i, hi, rfl⟩ := List.getElem_of_mem hx
          rw [hne i hi (by omega)]; exact Bool.false_ne_true
        have he : rawE rs[k] = ⟨(pfx rs[k].fst rs[k].snd.fst).fst, (pfx rs[k].fst rs[k].snd.fst).snd, some [(rs[k].2.2 % 4, 16)]⟩ := by
          unfold rawE
          rw [if_pos (by omega)]
        refine (c14os o _ _ (rs[k].2.2 % 4) (by omega) (s := t) (id := c) (by rw [← ht, Store.set_ne _ _ hcb, Store.set_same]; simp)).Q ?_
        rintro r s' ⟨rfl, rfl⟩
        simp only [↓vcPre, ↓wit_get, ↓reduceIte, vcPost, vcStd, Nat.reduceEqDiff, reduceCtorEq, Nat.reduceAdd, Nat.reduceLeDiff, Int.reduceLT, Int.reduceLE, ↓u_setN]
        rw [ek]
        refine NextQ.to (k + 1, some _, t.del c) rfl (Store.sub_refl _) (by simp only; omega) ⟨by simp only; omega, by simp only; omega, sub_del (Store.sub_trans hs hst) (sub_none hs hc), ?_⟩
        rw [he] at hany
        simp only [hstep, entS, he, hany, Bool.false_eq_true, if_false, Option.getD_some]
    · have hstep : (rs.take (k + 1)).foldl entS [] = entS (o.getD []) rs[k] := by rw [foldl_take_succ _ _ c1, hE]
      have ek : IntKind.i64.wrap ((k : Int) + 1) = ((k + 1 : Nat) : Int) := by rw [wrap64 (by unfold I64; omega)]; omega
      generalize ht : s.set b (.box [.int .u32 (pfx rs[k].fst rs[k].snd.fst).fst, .int .i64 (pfx rs[k].fst rs[k].snd.fst).snd, .nils]) = t
      have htb : t b = some (.box [.int .u32 (pfx rs[k].fst rs[k].snd.fst).fst, .int .i64 (pfx rs[k].fst rs[k].snd.fst).snd, .nils]) := by rw [← ht]; exact Store.set_same _ _ _
      have hst : Store.sub s t := by rw [← ht]; exact Store.sub_set s b _ hb
      refine LoopQ.inv (S := Nat) (fun j => [(0, .sl 3 (rs.map Raw.cells)), (3, slO 3 En.c o), (4, .int .i64 (k : Int)), (5, .ptr b 0), (7, .int .i64 (j : Int))]) (fun _ => t) (fun j => j ≤ (o.getD []).length ∧ ∀ i, (hi : i < (o.getD []).length) → i < j → isAt (rawE rs[k]).a (rawE rs[k]).n (o.getD [])[i] = false) (fun j => 31 - j) 0 rfl (Store.sub_refl _) ⟨by omega, fun i _ h => by omega⟩ ?_
      rintro j ⟨hj, hne⟩
      simp only [htb, ↓vcPre, ↓wit_get, ↓reduceIte, vcPost, vcStd, Nat.reduceEqDiff, reduceCtorEq, Nat.reduceAdd, Nat.reduceLeDiff, Int.reduceLT, Int.reduceLE, ↓u_setN]
      refine ⟨fun d1 => ⟨d1, by simp [En.c], ?_⟩, fun d1 => ⟨fun d2 => ?_, fun d2 => by omega⟩⟩
      · simp only [En.c]
        simp only [htb, ↓vcPre, ↓wit_get, ↓reduceIte, vcPost, vcStd, Nat.reduceEqDiff, reduceCtorEq, Nat.reduceAdd, Nat.reduceLeDiff, Int.reduceLT, Int.reduceLE, ↓u_setN]
        refine ⟨fun g2 => ?_, fun g2 g3 => ⟨fun d2 => by omega, fun d2 => ?_⟩⟩
        · have ej : IntKind.i64.wrap ((j : Int) + 1) = ((j + 1 : Nat) : Int) := by rw [wrap64 (by unfold I64; omega)]; omega
          rw [ej]
          refine NextQ.to (j + 1) rfl (Store.sub_refl _) (by omega) ⟨by omega, fun i hi hij => ?_⟩
          by_cases hij' : i = j
          · subst hij'; simp only [isAt]; exact decide_eq_false g2
          · exact hne i hi (by omega)
        · have hany : (o.getD []).any (isAt (rawE rs[k]).a (rawE rs[k]).n) = true := by
            rw [List.any_eq_true]
            exact ⟨_, List.getElem_mem d1, by simp only [isAt]; exact decide_eq_true ⟨g2, g3⟩⟩
          rw [ek]
          refine NextQ.to (k + 1, o, t) rfl (Store.sub_refl _) (by simp only; omega) ⟨by simp only; omega, by simp only; omega, Store.sub_trans hs hst, ?_⟩
          simp only [hstep, entS, hany, if_true]
      · have hany : (o.getD []).any (isAt (rawE rs[k]).a (rawE rs[k]).n) = false := by
          rw [List.any_eq_false]
          intro x hx
          obtain ⟨i, hi, rfl⟩ := List.getElem_of_mem hx
          rw [hne i hi (by omega)]; exact Bool.false_ne_true
        have he : rawE rs[k] = ⟨(pfx rs[k].fst rs[k].snd.fst).fst, (pfx rs[k].fst rs[k].snd.fst).snd, none⟩ := by
          unfold rawE
          rw [if_neg (by omega)]
        refine (c14O o false ⟨(pfx rs[k].fst rs[k].snd.fst).fst, (pfx rs[k].fst rs[k].snd.fst).snd, none⟩ (by omega)).Q ?_
        simp only [↓vcPre, ↓wit_get, ↓reduceIte, vcPost, vcStd, Nat.reduceEqDiff, reduceCtorEq, Nat.reduceAdd, Nat.reduceLeDiff, Int.reduceLT, Int.reduceLE, ↓u_setN]
        rw [ek]
        refine NextQ.to (k + 1, some _, t) rfl (Store.sub_refl _) (by simp only; omega) ⟨by simp only; omega, by simp only; omega, Store.sub_trans hs hst, ?_⟩
        rw [he] at hany
        simp only [hstep, entS, he, hany, Bool.false_eq_true, if_false, Option.getD_some]
  · have hk30 : k = 30 := by omega
    cases o with
    | none => exact EndQ.nil1 3 σ rfl hs ⟨rfl, by rw [entF, ← hk30, ← hE]; rfl⟩
    | some l => exact EndQ.to σ _ rfl hs ⟨rfl, by rw [entF, ← hk30, ← hE]; rfl⟩
  · have hkl : rs.take 30 = rs.take k := by rw [List.take_of_length_le (by omega), List.take_of_length_le (by omega)]
    cases o with
    | none => exact EndQ.nil1 3 σ rfl hs ⟨rfl, by rw [entF, hkl, ← hE]; rfl⟩
    | some l => exact EndQ.to σ _ rfl hs ⟨rfl, by rw [entF, hkl, ← hE]; rfl⟩
end Go.Am

/- K26 -/
namespace Go.Am.TstRun
open Go.Am Go.Proofs
def b35 : BC := .seq (.ops [⟨some 2, none, .pure (.mov), [.c (.bool false)]⟩] [0]) (.seq (.seq (.ops [⟨some 5, none, .pure (.mov), [.t 0]⟩, ⟨some 6, none, .pure (.len), [.t 5]⟩, ⟨some 7, none, .pure (.mov), [.c (.int .i64 0)]⟩] [0, 5, 6, 7]) (.block 0 (.loop [0, 5, 6, 7] (.seq (.ops [⟨some 8, none, .pure (.bin .lss), [.t 7, .t 6]⟩] [0, 5, 6, 7, 8]) (.seq (.cond (.t 8) (.skip) (.exit 0)) (.seq (.block 1 (.seq (.ops [⟨some 9, none, .pure (.mov), [.t 7]⟩, ⟨some 10, none, .pure (.idx 3), [.t 5, .t 7]⟩, ⟨some 11, none, .load (.ld 3 true), [.t 10]⟩, ⟨some 4, none, .alloc (.alloc [(.int .u32 0), (.int .i64 0), .nils]), []⟩, ⟨some 3, none, .pure (.mov), [.t 9]⟩, ⟨none, none, .loud (.st 3), [.t 4, .t 11]⟩] [0, 3, 4, 5, 6, 7]) (.seq (.ops [⟨some 12, none, .pure (.fld 0), [.t 4]⟩, ⟨some 13, none, .load (.ld 2 true), [.t 12]⟩, ⟨some 14, none, .loud (.call 56), [.t 13]⟩, ⟨some 15, none, .pure (.not), [.t 14]⟩, ⟨some 16, none, .pure (.mov), [.t 15]⟩, ⟨some 17, some (16, false), .pure (.fld 2), [.t 4]⟩, ⟨some 18, some (16, false), .load (.ld 1 false), [.t 17]⟩, ⟨some 19, some (16, false), .loud (.call 57), [.t 18]⟩, ⟨some 20, some (16, false), .pure (.not), [.t 19]⟩, ⟨some 21, none, .pick, [.t 16, .c (.bool true), .t 20]⟩, ⟨some 22, none, .pure (.mov), [.t 21]⟩, ⟨some 23, some (22, false), .pure (.mov), [.t 3]⟩, ⟨some 24, some (22, false), .pure (.bin .gtr), [.t 23, .c (.int .i64 0)]⟩, ⟨some 25, some (22, false), .pure (.mov), [.t 24]⟩, ⟨some 26, some (25, true), .pure (.mov), [.t 0]⟩, ⟨some 27, some (25, true), .pure (.mov), [.t 3]⟩, ⟨some 28, some (25, true), .pure (.bin .sub), [.t 27, .c (.int .i64 1)]⟩, ⟨some 29, some (25, true), .pure (.idx 3), [.t 26, .t 28]⟩, ⟨some 30, some (25, true), .pure (.fld 0), [.t 29]⟩, ⟨some 32, some (25, true), .pure (.fld 0), [.t 4]⟩, ⟨some 31, some (25, true), .load (.ld 2 true), [.t 30]⟩, ⟨some 33, some (25, true), .load (.ld 2 true), [.t 32]⟩, ⟨some 34, some (25, true), .loud (.call 58), [.t 31, .t 33]⟩, ⟨some 35, some (25, true), .pure (.not), [.t 34]⟩, ⟨some 36, some (22, false), .pick, [.t 25, .t 35, .c (.bool false)]⟩, ⟨some 37, none, .pick, [.t 22, .c (.bool true), .t 36]⟩] [0, 5, 6, 7, 37]) (.cond (.t 37) (.seq (.ops [⟨some 2, none, .pure (.mov), [.c (.bool false)]⟩] [2]) (.ret)) (.skip))))) (.ops [⟨some 38, none, .pure (.bin .add), [.t 7, .c (.int .i64 1)]⟩, ⟨some 7, none, .pure (.mov), [.t 38]⟩] [0, 5, 6, 7]))))))) (.seq (.ops [⟨some 39, none, .pure (.mov), [.t 0]⟩, ⟨some 40, none, .pure (.len), [.t 39]⟩, ⟨some 41, none, .pure (.bin .leq), [.t 40, .c (.int .i64 4096)]⟩, ⟨some 2, none, .pure (.mov), [.t 41]⟩] [2]) (.ret)))
def F35 : Fn Try.prog 35 := Fn.mkX false b35 [.t 2] 42 Try.f35 _ Try.func35 (by decide) rfl Try.ntmps35 (by kernel_rfl) (by kernel_rfl)
def table : T ((f : Nat) × Held Try.prog f) := (.node (.node (.node (.node (.node (.node (.node .leaf (some ⟨63, .fn Tst.F63⟩) .leaf) none .leaf) none (.node (.node .leaf (some ⟨79, .fn Tst.F79⟩) .leaf) none .leaf)) none (.node (.node (.node .leaf (some ⟨71, .fn Tst.F71⟩) .leaf) (some ⟨39, .fn Tst.F39⟩) .leaf) none (.node (.node .leaf (some ⟨87, .fn Tst.F87⟩) .leaf) none .leaf))) none (.node (.node (.node .leaf (some ⟨35, .fn F35⟩) .leaf) none .leaf) none (.node (.node (.node .leaf (some ⟨75, .fn Tst.F75⟩) .leaf) (some ⟨43, .fn Tst.F43⟩) .leaf) none (.node (.node .leaf (some ⟨91, .fn Tst.F91⟩) .leaf) (some ⟨59, .fn Tst.F59⟩) .leaf)))) none (.node (.node (.node .leaf none (.node .leaf (some ⟨49, .fn Tst.F49⟩) .leaf)) none (.node (.node (.node .leaf (some ⟨73, .fn Tst.F73⟩) .leaf) (some ⟨41, .fn Tst.F41⟩) .leaf) none (.node (.node .leaf (some ⟨89, .fn Tst.F89⟩) .leaf) (some ⟨57, .fn Tst.F57⟩) .leaf))) none (.node (.node (.node (.node .leaf (some ⟨69, .fn Tst.F69⟩) .leaf) (some ⟨37, .fn Tst.F37⟩) .leaf) none (.node (.node .leaf (some ⟨85, .fn Tst.F85⟩) .leaf) none .leaf)) (some ⟨13, .fn Tst.F13⟩) (.node (.node (.node .leaf (some ⟨77, .fn Tst.F77⟩) .leaf) (some ⟨45, .fn Tst.F45⟩) .leaf) none (.node .leaf (some ⟨61, .fn Tst.F61⟩) .leaf))))) none (.node (.node (.node .leaf none (.node (.node (.node .leaf (some ⟨72, .fn Tst.F72⟩) .leaf) (some ⟨40, .fn Tst.F40⟩) .leaf) none (.node (.node .leaf (some ⟨88, .fn Tst.F88⟩) .leaf) (some ⟨56, .fn Tst.F56⟩) .leaf))) none (.node (.node (.node .leaf (some ⟨36, .fn Tst.F36⟩) .leaf) none .leaf) (some ⟨12, .fn Tst.F12⟩) (.node (.node (.node .leaf (some ⟨76, .fn Tst.F76⟩) .leaf) (some ⟨44, .fn Tst.F44⟩) .leaf) none (.node .leaf (some ⟨60, .fn Tst.F60⟩) .leaf)))) none (.node (.node (.node (.node .leaf (some ⟨34, .fn Tst.F34⟩) .leaf) none .leaf) none (.node (.node (.node .leaf (some ⟨74, .fn Tst.F74⟩) .leaf) (some ⟨42, .fn Tst.F42⟩) .leaf) none (.node .leaf (some ⟨58, .fn Tst.F58⟩) .leaf))) none (.node (.node (.node (.node .leaf (some ⟨70, .fn Tst.F70⟩) .leaf) (some ⟨38, .fn Tst.F38⟩) .leaf) none (.node (.node .leaf (some ⟨86, .fn Tst.F86⟩) .leaf) (some ⟨54, .fn Tst.F54⟩) .leaf)) none (.node (.node (.node .leaf (some ⟨78, .fn Tst.F78⟩) .leaf) none .leaf) none (.node .leaf (some ⟨62, .fn Tst.F62⟩) .leaf))))))
theorem ran : isTrue (runF (tabOf table) 100000 12 []) = true := by kernel_rfl
theorem says : ACalls Try.prog 12 [] (fun _ => none) (fun b _ => b = .bool true) := says_true ran
theorem c12 : Pur Try.prog 12 [] (.bool true) := pur_true says
end Go.Am.TstRun

/- W20 -/
namespace Go.Am
open Go.Proofs Go.Sort

theorem doS_mem (e : En) (st : List En × Bool) (x y : En) (h : y ∈ (doS e st x).1) : y ∈ st.1 ∨ y = e ∨ y = x := by
  unfold doS at h
  simp only at h
  split at h <;> split at h <;> simp_all <;> (rcases h with h | h <;> simp_all)
theorem doS_fold_mem (e : En) : ∀ (l : List En) (st : List En × Bool) (y : En), y ∈ (l.foldl (doS e) st).1 → y ∈ st.1 ∨ y = e ∨ y ∈ l
  | [], st, y, h => .inl h
  | x :: l, st, y, h => by
    rcases doS_fold_mem e l _ y h with h | h | h
    · rcases doS_mem e st x y h with h | h | h
      · exact .inl h
      · exact .inr (.inl h)
      · exact .inr (.inr (by simp [h]))
    · exact .inr (.inl h)
    · exact .inr (.inr (by simp [h]))
theorem doF_mem {l : List En} {c : Bool} {e y : En} (h : y ∈ doF l c e) : y = e ∨ y ∈ l := by
  unfold doF at h
  simp only at h
  split at h
  · rcases doS_fold_mem e l _ y h with h | h | h
    · simp at h
    · exact .inl h
    · exact .inr h
  · rcases List.mem_append.1 h with h | h
    · rcases doS_fold_mem e l _ y h with h | h | h
      · simp at h
      · exact .inl h
      · exact .inr h
    · exact .inl (by simpa using h)
theorem entS_mem {l : List En} {r : Raw} {y : En} (h : y ∈ entS l r) : y = rawE r ∨ y ∈ l := by
  unfold entS at h
  split at h
  · exact .inr h
  · exact doF_mem h
theorem entF_mem : ∀ (rs : List Raw) (l : List En) (y : En), y ∈ rs.foldl entS l → y ∈ l ∨ ∃ r ∈ rs, y = rawE r
  | [], l, y, h => .inl h
  | r :: rs, l, y, h => by
    rcases entF_mem rs _ y h with h | ⟨q, hq, h⟩
    · rcases entS_mem h with h | h
      · exact .inr ⟨r, by simp, h⟩
      · exact .inl h
    · exact .inr ⟨q, by simp [hq], h⟩
theorem entF_raw {rs : List Raw} {y : En} (h : y ∈ entF rs) : ∃ r ∈ rs, y = rawE r := by
  rcases entF_mem _ _ y h with h | ⟨r, hr, h⟩
  · cases h
  · exact ⟨r, List.mem_of_mem_take hr, h⟩
theorem entF_ok {rs : List Raw} : ∀ e ∈ entF rs, e.ok := fun e he => by
  obtain ⟨r, _, rfl⟩ := entF_raw he
  unfold En.ok Small rawE
  simp only
  split <;> simp
theorem entF_len (rs : List Raw) : (entF rs).length ≤ 30 := by
  have := entS_len (rs.take 30) []
  unfold entF
  rw [List.length_take] at this
  simp at this
  omega
theorem entF_small (rs : List Raw) : Small (entF rs) := by
  have := entF_len rs
  unfold Small; omega
theorem small_take {α : Type} {l : List α} (h : Small l) (n : Nat) : Small (l.take n) := by
  unfold Small at *; rw [List.length_take]; omega

theorem k12 : Pur Try.prog 12 [] (.bool true) := TstRun.c12
theorem c3 (l m : List Raw) (raw : List En) (hl : Small l) (hm : Small m) (hr : Small raw) (hlo : ∀ r ∈ l, r.ok) (hmo : ∀ r ∈ m, r.ok) (hro : ∀ e ∈ raw, e.ok) :
    Pur Try.prog 3 [.sl 3 (l.map Raw.cells), .sl 3 (m.map Raw.cells), .sl 3 (raw.map En.c)] (.bool true) := by
  refine pur_of Tst.F3 (by simp [Tst.F3, Fn.mk']) fun σ => ?_
  simp only [Tst.F3, Fn.mk', Tst.b3]
  simp only [↓vcPre, ↓wit_get, ↓reduceIte, vcPost, vcStd, Nat.reduceEqDiff, reduceCtorEq, Nat.reduceAdd, Nat.reduceLeDiff, Int.reduceLT, Int.reduceLE, ↓u_setN]
  simp only [Option.getD_some]
  refine ⟨fun c1 => ?_, fun c1 => ?_⟩
  · refine ⟨by omega, ?_⟩
    have e1 : List.drop (Int.toNat 0) (List.take (((some 10 : Option Int)).getD ↑raw.length).toNat (List.map En.c raw)) = (raw.take 10).map En.c := by rw [List.map_take]; rfl
    refine (c10 l hl hlo).Q ?_
    simp only [↓vcPre, ↓wit_get, ↓reduceIte, vcPost, vcStd, Nat.reduceEqDiff, reduceCtorEq, Nat.reduceAdd, Nat.reduceLeDiff, Int.reduceLT, Int.reduceLE, ↓u_setN]
    refine (c10 m hm hmo).Q ?_
    simp only [↓vcPre, ↓wit_get, ↓reduceIte, vcPost, vcStd, Nat.reduceEqDiff, reduceCtorEq, Nat.reduceAdd, Nat.reduceLeDiff, Int.reduceLT, Int.reduceLE, ↓u_setN]
    have ht := small_take hr 10
    have hto : ∀ e ∈ raw.take 10, e.ok := fun e he => hro e (List.mem_of_mem_take he)
    refine (c11 _ _ (entF_small l) (entF_small m) entF_ok entF_ok).Q ?_
    simp only [↓vcPre, ↓wit_get, ↓reduceIte, vcPost, vcStd, Nat.reduceEqDiff, reduceCtorEq, Nat.reduceAdd, Nat.reduceLeDiff, Int.reduceLT, Int.reduceLE, ↓u_setN]
    rw [e1]
    refine (c11 _ _ (entF_small l) ht entF_ok hto).Q ?_
    simp only [↓vcPre, ↓wit_get, ↓reduceIte, vcPost, vcStd, Nat.reduceEqDiff, reduceCtorEq, Nat.reduceAdd, Nat.reduceLeDiff, Int.reduceLT, Int.reduceLE, ↓u_setN]
    refine (c11 _ _ ht (entF_small m) hto entF_ok).Q ?_
    simp only [↓vcPre, ↓wit_get, ↓reduceIte, vcPost, vcStd, Nat.reduceEqDiff, reduceCtorEq, Nat.reduceAdd, Nat.reduceLeDiff, Int.reduceLT, Int.reduceLE, ↓u_setN]
    refine (c11 _ _ (entF_small m) (entF_small l) entF_ok entF_ok).Q ?_
    simp only [↓vcPre, ↓wit_get, ↓reduceIte, vcPost, vcStd, Nat.reduceEqDiff, reduceCtorEq, Nat.reduceAdd, Nat.reduceLeDiff, Int.reduceLT, Int.reduceLE, ↓u_setN]
    refine k12.Q ?_
    simp only [↓vcPre, ↓wit_get, ↓reduceIte, vcPost, vcStd, Nat.reduceEqDiff, reduceCtorEq, Nat.reduceAdd, Nat.reduceLeDiff, Int.reduceLT, Int.reduceLE, ↓u_setN]
  · refine (c10 l hl hlo).Q ?_
    simp only [↓vcPre, ↓wit_get, ↓reduceIte, vcPost, vcStd, Nat.reduceEqDiff, reduceCtorEq, Nat.reduceAdd, Nat.reduceLeDiff, Int.reduceLT, Int.reduceLE, ↓u_setN]
    refine (c10 m hm hmo).Q ?_
    simp only [↓vcPre, ↓wit_get, ↓reduceIte, vcPost, vcStd, Nat.reduceEqDiff, reduceCtorEq, Nat.reduceAdd, Nat.reduceLeDiff, Int.reduceLT, Int.reduceLE, ↓u_setN]
    refine (c11 _ _ (entF_small l) (entF_small m) entF_ok entF_ok).Q ?_
    simp only [↓vcPre, ↓wit_get, ↓reduceIte, vcPost, vcStd, Nat.reduceEqDiff, reduceCtorEq, Nat.reduceAdd, Nat.reduceLeDiff, Int.reduceLT, Int.reduceLE, ↓u_setN]
    refine (c11 _ _ (entF_small l) hr entF_ok hro).Q ?_
    simp only [↓vcPre, ↓wit_get, ↓reduceIte, vcPost, vcStd, Nat.reduceEqDiff, reduceCtorEq, Nat.reduceAdd, Nat.reduceLeDiff, Int.reduceLT, Int.reduceLE, ↓u_setN]
    refine (c11 _ _ hr (entF_small m) hro entF_ok).Q ?_
    simp only [↓vcPre, ↓wit_get, ↓reduceIte, vcPost, vcStd, Nat.reduceEqDiff, reduceCtorEq, Nat.reduceAdd, Nat.reduceLeDiff, Int.reduceLT, Int.reduceLE, ↓u_setN]
    refine (c11 _ _ (entF_small m) (entF_small l) entF_ok entF_ok).Q ?_
    simp only [↓vcPre, ↓wit_get, ↓reduceIte, vcPost, vcStd, Nat.reduceEqDiff, reduceCtorEq, Nat.reduceAdd, Nat.reduceLeDiff, Int.reduceLT, Int.reduceLE, ↓u_setN]
    refine k12.Q ?_
    simp only [↓vcPre, ↓wit_get, ↓reduceIte, vcPost, vcStd, Nat.reduceEqDiff, reduceCtorEq, Nat.reduceAdd, Nat.reduceLeDiff, Int.reduceLT, Int.reduceLE, ↓u_setN]
end Go.Am

/- D26 -/
namespace Go.Am
open Go.Proofs
theorem small_of {α : Type} {l : List α} {n : Nat} (h1 : 1 ≤ n) (h : l.length * n ≤ reachBytes) : Small l := by
  have h2 : l.length * 1 ≤ l.length * n := Nat.mul_le_mul_left _ h1
  have h3 : reachBytes = 140737488351232 := rfl
  unfold Small
  omega
theorem dRaw (xs : List AV) (h : TOk Try.prog 2 60 xs) : ∃ r : Raw, r.cells = xs ∧ r.ok := by
  obtain ⟨a, b, rfl, h1, c, d, rfl, h2, e, f, rfl, h3, rfl⟩ := TOk.struct (ts := [32, 3, 3]) Try.underlying60 rfl h
  obtain ⟨m1, rfl, g1, g2⟩ := TOk.int Try.underlying32 h1
  obtain ⟨m2, rfl, g3, g4⟩ := TOk.int Try.underlying3 h2
  obtain ⟨m3, rfl, g5, g6⟩ := TOk.int Try.underlying3 h3
  exact ⟨(m1, m2, m3), rfl, ⟨g3, g4⟩, ⟨g5, g6⟩⟩
theorem dHop (xs : List AV) (h : TOk Try.prog 2 71 xs) : ∃ r : Int × Int, hopC r = xs ∧ True := by
  obtain ⟨a, b, rfl, h1, c, d, rfl, h2, rfl⟩ := TOk.struct (ts := [3, 3]) Try.underlying71 rfl h
  obtain ⟨m1, rfl, g1, g2⟩ := TOk.int Try.underlying3 h1
  obtain ⟨m2, rfl, g3, g4⟩ := TOk.int Try.underlying3 h2
  exact ⟨(m1, m2), rfl, trivial⟩
theorem dEn (xs : List AV) (h : TOk Try.prog 4 37 xs) : ∃ e : En, e.c = xs ∧ e.ok := by
  obtain ⟨a, b, rfl, h1, c, d, rfl, h2, rfl⟩ := TOk.struct (ts := [34, 35]) Try.underlying37 rfl h
  obtain ⟨a, b, rfl, h3, e, f, rfl, h4, rfl⟩ := TOk.struct (ts := [32, 3]) Try.underlying34 rfl h1
  obtain ⟨m1, rfl, g1, g2⟩ := TOk.int Try.underlying32 h3
  obtain ⟨m2, rfl, g3, g4⟩ := TOk.int Try.underlying3 h4
  rcases TOk.slice (sz := 2) (by_ := 16) Try.underlying35 (by kernel_rfl) (by kernel_rfl) (by omega) hopC (fun _ => True) dHop h2 with rfl | ⟨rs, rfl, hz, _⟩
  · exact ⟨⟨m1, m2, none⟩, rfl, by simp [En.ok, Small]⟩
  · exact ⟨⟨m1, m2, some rs⟩, rfl, small_of (by omega) hz⟩
theorem aRaws {w : World} {a : AV} {v : Value} (hr : VRel (G0 w) w a v) (h : TOk Try.prog 3 22 [a]) : ∃ rs : List Raw, VRel (G0 w) w (.sl 3 (rs.map Raw.cells)) v ∧ Small rs ∧ ∀ r ∈ rs, r.ok := by
  rcases TOk.slice (sz := 3) (by_ := 24) Try.underlying22 (by kernel_rfl) (by kernel_rfl) (by omega) Raw.cells Raw.ok dRaw h with h | ⟨rs, h, hz, ho⟩
  · cases h; exact ⟨[], nil_empty hr, by simp [Small], by simp⟩
  · cases h; exact ⟨rs, hr, small_of (by omega) hz, ho⟩
theorem aEns {w : World} {a : AV} {v : Value} (hr : VRel (G0 w) w a v) (h : TOk Try.prog 5 23 [a]) : ∃ rs : List En, VRel (G0 w) w (.sl 3 (rs.map En.c)) v ∧ Small rs ∧ ∀ e ∈ rs, e.ok := by
  rcases TOk.slice (sz := 3) (by_ := 40) Try.underlying23 (by kernel_rfl) (by kernel_rfl) (by omega) En.c En.ok dEn h with h | ⟨rs, h, hz, ho⟩
  · cases h; exact ⟨[], nil_empty hr, by simp [Small], by simp⟩
  · cases h; exact ⟨rs, hr, small_of (by omega) hz, ho⟩
end Go.Am

/- W21 -/
namespace Go.Am
open Go.Proofs Go.Sort

theorem u32_wrap (n : Nat) (h : n < 4294967296) : IntKind.u32.wrap (n : Int) = n := by
  simp [IntKind.wrap, IntKind.bits, IntKind.signed]; omega
theorem and_u32 (x m : Int) : bitInt .and .u32 x m = ((BitVec.ofInt 32 x &&& BitVec.ofInt 32 m).toNat : Int) := by
  show IntKind.u32.wrap ((BitVec.ofInt 32 x &&& BitVec.ofInt 32 m).toNat : Int) = _
  exact u32_wrap _ (BitVec.isLt _)
theorem ofInt_toNat (v : BitVec 32) : BitVec.ofInt 32 (v.toNat : Int) = v := by
  simp
theorem andNot_and (x m : Int) : bitInt .andNot .u32 (bitInt .and .u32 x m) m = 0 := by
  rw [and_u32]
  show IntKind.u32.wrap ((BitVec.ofInt 32 ((BitVec.ofInt 32 x &&& BitVec.ofInt 32 m).toNat : Int) &&& ~~~ BitVec.ofInt 32 m).toNat : Int) = 0
  rw [ofInt_toNat, BitVec.and_assoc]
  have : BitVec.ofInt 32 m &&& ~~~ BitVec.ofInt 32 m = 0#32 := by
    ext i hi; simp
  rw [this]
  simp [IntKind.wrap, IntKind.bits, IntKind.signed]
theorem ofF_right (a n : Int) : rightF (ofF a n).1 (ofF a n).2 = true := by
  unfold rightF ofF
  simp only [Bool.and_eq_true, decide_eq_true_eq]
  exact ⟨⟨by omega, by omega⟩, andNot_and _ _⟩
theorem pfx_right (a n : Int) : rightF (pfx a n).1 (pfx a n).2 = true := ofF_right _ _

/-- The order of prefixes. -/
def kLt (x y : En) : Prop := x.a < y.a ∨ (x.a = y.a ∧ x.n < y.n)
instance (x y : En) : Decidable (kLt x y) := by unfold kLt; exact inferInstance
def En.right (e : En) : Prop := rightF e.a e.n = true
/-- A table that stands right: rising, each prefix right. -/
def Tab (l : List En) : Prop := (∀ e ∈ l, e.right) ∧ l.Pairwise kLt
theorem kLt_less {x y : En} (h1 : x.right) (h2 : y.right) : lessF x.a x.n y.a y.n = decide (kLt x y) := by
  have h : lessF x.a x.n y.a y.n = true ↔ kLt x y := lessF_iff h1 h2
  rw [Bool.eq_iff_iff, h, decide_eq_true_eq]
theorem kLt_trans {x y z : En} (h1 : kLt x y) (h2 : kLt y z) : kLt x z := by unfold kLt at *; omega
theorem kLt_irr {x y : En} (h1 : kLt x y) : ¬ kLt y x := by unfold kLt at *; omega
def sameK (x y : En) : Bool := isAt x.a x.n y
theorem tri (x y : En) : kLt x y ∨ isAt x.a x.n y = true ∨ kLt y x := by unfold kLt isAt; simp only [decide_eq_true_eq]; omega
theorem not_at {x y : En} (h : kLt x y) : isAt x.a x.n y = false := by unfold isAt; unfold kLt at h; simp only [decide_eq_false_iff_not]; omega
theorem not_at' {x y : En} (h : kLt y x) : isAt x.a x.n y = false := by unfold isAt; unfold kLt at h; simp only [decide_eq_false_iff_not]; omega
theorem at_lt {x y : En} (h : isAt x.a x.n y = true) : ¬ kLt x y ∧ ¬ kLt y x := by unfold isAt at h; unfold kLt; simp only [decide_eq_true_eq] at h; omega

theorem fold_cut (e : En) : ∀ (l L : List En), l.foldl (doS e) (L, true) = (L ++ l.filter (fun x => !isAt e.a e.n x), true)
  | [], L => by simp
  | x :: l, L => by
    simp only [List.foldl_cons, List.filter_cons]
    cases h : isAt e.a e.n x with
    | true =>
      have : doS e (L, true) x = (L, true) := by simp [doS, h]
      rw [this, fold_cut e l]; simp
    | false =>
      have : doS e (L, true) x = (L ++ [x], true) := by simp [doS, h]
      rw [this, fold_cut e l]; simp
theorem doF_cut (l : List En) (e : En) : doF l true e = l.filter (fun x => !isAt e.a e.n x) := by
  simp [doF, fold_cut]
def cutT (l : List En) (e : En) : List En := l.filter fun x => !isAt e.a e.n x
def setT (l : List En) (e : En) : List En := l.filter (fun x => decide (kLt x e)) ++ [e] ++ l.filter (fun x => decide (kLt e x))
theorem fold_set (e : En) (he : e.right) : ∀ (l L : List En), Tab l → ∃ d, l.foldl (doS e) (L, false) = (L ++ l.filter (fun x => decide (kLt x e)) ++ (if d then e :: l.filter (fun x => decide (kLt e x)) else []), d) ∧ (d = false → l.filter (fun x => decide (kLt e x)) = [])
  | [], L, _ => ⟨false, by simp, by simp⟩
  | x :: l, L, h => by
    obtain ⟨hr, hp⟩ := h
    obtain ⟨hx, hp'⟩ := List.pairwise_cons.1 hp
    have ht : Tab l := ⟨fun y hy => hr y (by simp [hy]), hp'⟩
    have hxr := hr x (by simp)
    have hless := kLt_less he hxr
    simp only [List.foldl_cons, List.filter_cons]
    rcases tri e x with h1 | h1 | h1
    · -- e < x: it goes in ahead
      have hn := not_at h1
      have hall : ∀ y ∈ l, kLt e y := fun y hy => kLt_trans h1 (hx y hy)
      have e1 : doS e (L, false) x = (L ++ [e] ++ [x], true) := by simp [doS, hless, h1, hn]
      have e2 : l.filter (fun x => !isAt e.a e.n x) = l := List.filter_eq_self.2 fun y hy => by simp [not_at (hall y hy)]
      have e3 : l.filter (fun x => decide (kLt e x)) = l := List.filter_eq_self.2 fun y hy => by simp [hall y hy]
      have e4 : l.filter (fun x => decide (kLt x e)) = [] := List.filter_eq_nil_iff.2 fun y hy => by simp [kLt_irr (hall y hy)]
      refine ⟨true, ?_, by simp⟩
      rw [e1, fold_cut, e2, e3, e4]
      simp [h1, kLt_irr h1]
    · have hn := at_lt h1
      have e1 : doS e (L, false) x = (L, false) := by simp [doS, hless, h1, hn.1]
      obtain ⟨d, h2, h3⟩ := fold_set e he l L ht
      refine ⟨d, ?_, ?_⟩
      · rw [e1, h2]; simp [hn.1, hn.2]
      · simp [hn.1]; simpa using h3
    · have hn := not_at' h1
      have e1 : doS e (L, false) x = (L ++ [x], false) := by simp [doS, hless, kLt_irr h1, hn]
      obtain ⟨d, h2, h3⟩ := fold_set e he l (L ++ [x]) ht
      refine ⟨d, ?_, ?_⟩
      · rw [e1, h2]; simp [h1, kLt_irr h1]
      · simp [kLt_irr h1]; simpa using h3
theorem doF_set {l : List En} {e : En} (he : e.right) (h : Tab l) : doF l false e = setT l e := by
  obtain ⟨d, h1, h2⟩ := fold_set e he l [] h
  unfold doF setT
  simp only
  rw [h1]
  cases d with
  | true => simp
  | false => simp [h2 rfl]
theorem tab_set {l : List En} {e : En} (he : e.right) (h : Tab l) : Tab (setT l e) := by
  obtain ⟨hr, hp⟩ := h
  refine ⟨fun x hx => ?_, ?_⟩
  · simp only [setT, List.mem_append, List.mem_filter, List.mem_singleton] at hx
    rcases hx with (⟨hx, _⟩ | rfl) | ⟨hx, _⟩
    · exact hr x hx
    · exact he
    · exact hr x hx
  · unfold setT
    rw [List.pairwise_append, List.pairwise_append]
    refine ⟨⟨hp.filter _, by simp, fun x hx y hy => ?_⟩, hp.filter _, fun x hx y hy => ?_⟩
    · simp only [List.mem_singleton] at hy; subst hy
      simpa using (List.mem_filter.1 hx).2
    · have hy' : kLt e y := by simpa using (List.mem_filter.1 hy).2
      rcases List.mem_append.1 hx with hx | hx
      · have : kLt x e := by simpa using (List.mem_filter.1 hx).2
        exact kLt_trans this hy'
      · simp only [List.mem_singleton] at hx; subst hx; exact hy'
theorem tab_cut {l : List En} {e : En} (h : Tab l) : Tab (cutT l e) :=
  ⟨fun x hx => h.1 x (List.mem_filter.1 hx).1, h.2.filter _⟩
theorem tab_nil : Tab [] := ⟨by simp, .nil⟩

theorem rawE_right (r : Raw) : (rawE r).right := pfx_right _ _
theorem rawE_hops (r : Raw) : hopsR ((rawE r).h.getD []) = true := by
  unfold rawE
  simp only
  split
  · have : r.2.2 % 4 = 1 ∨ r.2.2 % 4 = 2 ∨ r.2.2 % 4 = 3 := by omega
    rcases this with h | h | h <;> rw [h] <;> decide
  · decide
theorem tab_entS {l : List En} (r : Raw) (h : Tab l) : Tab (entS l r) := by
  unfold entS
  split
  · exact h
  · rw [doF_set (rawE_right r) h]; exact tab_set (rawE_right r) h
theorem tab_fold : ∀ (rs : List Raw) (l : List En), Tab l → Tab (rs.foldl entS l)
  | [], _, h => h
  | r :: rs, l, h => tab_fold rs _ (tab_entS r h)
theorem tab_entF (rs : List Raw) : Tab (entF rs) := tab_fold _ _ tab_nil

theorem ensB_of : ∀ (l : List En) (p : Option En), Tab l → (∀ e ∈ l, hopsR (e.h.getD []) = true) → (∀ q, p = some q → q.right ∧ ∀ e ∈ l, kLt q e) → ensB p l = true
  | [], _, _, _, _ => rfl
  | x :: l, p, h, hh, hq => by
    obtain ⟨hr, hp⟩ := h
    obtain ⟨hx, hp'⟩ := List.pairwise_cons.1 hp
    have hxr : x.right := hr x (by simp)
    simp only [ensB, Bool.and_eq_true]
    refine ⟨⟨⟨hxr, hh x (by simp)⟩, ?_⟩, ensB_of l (some x) ⟨fun y hy => hr y (by simp [hy]), hp'⟩ (fun e he => hh e (by simp [he])) (fun q hq => by cases hq; exact ⟨hxr, hx⟩)⟩
    cases p with
    | none => rfl
    | some q =>
      obtain ⟨h1, h2⟩ := hq q rfl
      simp only [enLess]
      rw [kLt_less h1 hxr]
      simp [h2 x (by simp)]
theorem ensR_of {l : List En} (h : Tab l) (hh : ∀ e ∈ l, hopsR (e.h.getD []) = true) (hl : l.length ≤ 4096) : ensR l = true := by
  unfold ensR
  rw [ensB_of l none h hh (by simp)]
  simp [hl]
theorem tab_of {l : List En} (h : ensR l = true) : Tab l := by
  obtain ⟨h1, h2⟩ := ens_all h
  exact ⟨fun e he => (h1 e he).1, h2.imp fun {x y} hxy => (lessF_both hxy).2.2⟩
theorem entF_hops {rs : List Raw} {e : En} (he : e ∈ entF rs) : hopsR (e.h.getD []) = true := by
  obtain ⟨r, _, rfl⟩ := entF_raw he
  exact rawE_hops r
theorem ensR_entF (rs : List Raw) : ensR (entF rs) = true := ensR_of (tab_entF rs) (fun _ h => entF_hops h) (by have := entF_len rs; omega)
end Go.Am

/- S26C -/
namespace Go.Am.Tsc
open Go.Proofs
/-- signpost/signpostlaw26.DownloadOrder -/
def t5_39 : BC := .seq (.seq (.ops [⟨some 39, none, .pure (.fld 0), [.t 10]⟩, ⟨some 40, none, .load (.ld 1 false), [.t 39]⟩, ⟨some 41, none, .pure (.mov), [.t 40]⟩, ⟨some 42, some (41, true), .pure (.fld 0), [.t 11]⟩, ⟨some 43, some (41, true), .load (.ld 1 false), [.t 42]⟩, ⟨some 44, some (41, true), .pure (.not), [.t 43]⟩, ⟨some 45, none, .pick, [.t 41, .t 44, .c (.bool false)]⟩, ⟨some 46, none, .pure (.mov), [.t 45]⟩, ⟨some 47, some (46, false), .pure (.fld 0), [.t 10]⟩, ⟨some 48, some (46, false), .load (.ld 1 false), [.t 47]⟩, ⟨some 49, some (46, false), .pure (.not), [.t 48]⟩, ⟨some 50, some (46, false), .pure (.mov), [.t 49]⟩, ⟨some 51, some (50, true), .pure (.fld 0), [.t 11]⟩, ⟨some 52, some (50, true), .load (.ld 1 false), [.t 51]⟩, ⟨some 53, some (50, true), .pure (.not), [.t 52]⟩, ⟨some 54, some (46, false), .pick, [.t 50, .t 53, .c (.bool false)]⟩, ⟨some 55, some (46, false), .pure (.mov), [.t 54]⟩, ⟨some 56, some (55, true), .pure (.fld 1), [.t 10]⟩, ⟨some 57, some (55, true), .pure (.fld 0), [.t 56]⟩, ⟨some 58, some (55, true), .pure (.fld 1), [.t 57]⟩, ⟨some 59, some (55, true), .load (.ld 1 false), [.t 58]⟩, ⟨some 60, some (55, true), .pure (.fld 1), [.t 11]⟩, ⟨some 61, some (55, true), .pure (.fld 0), [.t 60]⟩, ⟨some 62, some (55, true), .pure (.fld 1), [.t 61]⟩, ⟨some 63, some (55, true), .load (.ld 1 false), [.t 62]⟩, ⟨some 64, some (55, true), .pure (.bin .lss), [.t 59, .t 63]⟩, ⟨some 65, some (46, false), .pick, [.t 55, .t 64, .c (.bool false)]⟩, ⟨some 66, none, .pick, [.t 46, .c (.bool true), .t 65]⟩, ⟨some 67, none, .pure (.mov), [.t 66]⟩, ⟨some 68, some (67, false), .pure (.fld 0), [.t 10]⟩, ⟨some 69, some (67, false), .load (.ld 1 false), [.t 68]⟩, ⟨some 70, some (67, false), .pure (.mov), [.t 69]⟩, ⟨some 71, some (70, true), .pure (.fld 0), [.t 11]⟩, ⟨some 72, some (70, true), .load (.ld 1 false), [.t 71]⟩, ⟨some 73, some (67, false), .pick, [.t 70, .t 72, .c (.bool false)]⟩, ⟨some 74, some (67, false), .pure (.mov), [.t 73]⟩, ⟨some 75, some (74, true), .pure (.fld 1), [.t 10]⟩, ⟨some 76, some (74, true), .pure (.fld 0), [.t 75]⟩, ⟨some 77, some (74, true), .pure (.fld 1), [.t 76]⟩, ⟨some 78, some (74, true), .load (.ld 1 false), [.t 77]⟩, ⟨some 79, some (74, true), .pure (.fld 1), [.t 11]⟩, ⟨some 80, some (74, true), .pure (.fld 0), [.t 79]⟩, ⟨some 81, some (74, true), .pure (.fld 1), [.t 80]⟩, ⟨some 82, some (74, true), .load (.ld 1 false), [.t 81]⟩, ⟨some 83, some (74, true), .pure (.bin .gtr), [.t 78, .t 82]⟩, ⟨some 84, some (67, false), .pick, [.t 74, .t 83, .c (.bool false)]⟩, ⟨some 85, none, .pick, [.t 67, .c (.bool true), .t 84]⟩] [7, 9, 10, 11, 85]) (.cond (.t 85) (.seq (.ops [⟨some 4, none, .pure (.mov), [.c (.bool false)]⟩] [4]) (.ret)) (.skip))) (.seq (.ops [⟨some 86, none, .pure (.fld 0), [.t 10]⟩, ⟨some 87, none, .load (.ld 1 false), [.t 86]⟩, ⟨some 88, none, .pure (.fld 0), [.t 11]⟩, ⟨some 89, none, .load (.ld 1 false), [.t 88]⟩, ⟨some 90, none, .pure (.eqb false), [.t 87, .t 89]⟩, ⟨some 91, none, .pure (.mov), [.t 90]⟩, ⟨some 92, some (91, true), .pure (.fld 1), [.t 10]⟩, ⟨some 93, some (91, true), .pure (.fld 0), [.t 92]⟩, ⟨some 94, some (91, true), .pure (.fld 1), [.t 93]⟩, ⟨some 95, some (91, true), .load (.ld 1 false), [.t 94]⟩, ⟨some 96, some (91, true), .pure (.fld 1), [.t 11]⟩, ⟨some 97, some (91, true), .pure (.fld 0), [.t 96]⟩, ⟨some 98, some (91, true), .pure (.fld 1), [.t 97]⟩, ⟨some 99, some (91, true), .load (.ld 1 false), [.t 98]⟩, ⟨some 100, some (91, true), .pure (.bin .eql), [.t 95, .t 99]⟩, ⟨some 101, none, .pick, [.t 91, .t 100, .c (.bool false)]⟩, ⟨some 102, none, .pure (.mov), [.t 101]⟩, ⟨some 103, some (102, true), .pure (.fld 1), [.t 10]⟩, ⟨some 104, some (102, true), .pure (.fld 0), [.t 103]⟩, ⟨some 105, some (102, true), .load (.ld 2 true), [.t 104]⟩, ⟨some 106, some (102, true), .pure (.fld 1), [.t 11]⟩, ⟨some 107, some (102, true), .pure (.fld 0), [.t 106]⟩, ⟨some 108, some (102, true), .load (.ld 2 true), [.t 107]⟩, ⟨some 109, some (102, true), .loud (.call 16), [.t 105, .t 108]⟩, ⟨some 110, some (102, true), .pure (.not), [.t 109]⟩, ⟨some 111, none, .pick, [.t 102, .t 110, .c (.bool false)]⟩] [7, 9, 111]) (.cond (.t 111) (.seq (.ops [⟨some 4, none, .pure (.mov), [.c (.bool false)]⟩] [4]) (.ret)) (.skip)))
def b5 : BC := .seq (.ops [⟨some 4, none, .pure (.mov), [.c (.bool false)]⟩] [0, 1]) (.seq (.ops [⟨some 12, none, .pure (.mov), [.t 0]⟩, ⟨some 13, none, .loud (.call 10), [.t 12]⟩, ⟨some 14, none, .pure (.mov), [.t 1]⟩, ⟨some 15, none, .loud (.call 10), [.t 14]⟩, ⟨some 5, none, .pure (.mov), [.t 13]⟩, ⟨some 6, none, .pure (.mov), [.t 15]⟩] [5, 6]) (.seq (.ops [⟨some 17, none, .pure (.mov), [.t 5]⟩, ⟨some 18, none, .pure (.mov), [.t 6]⟩, ⟨some 19, none, .loud (.call 13), [.t 17, .t 18]⟩, ⟨some 16, none, .pure (.mov), [.t 19]⟩, ⟨some 20, none, .pure (.ext 0), [.t 16]⟩, ⟨some 21, none, .pure (.ext 1), [.t 16]⟩, ⟨some 7, none, .pure (.mov), [.t 20]⟩, ⟨some 8, none, .pure (.mov), [.t 21]⟩] [7, 8]) (.seq (.seq (.ops [⟨some 22, none, .pure (.mov), [.t 8]⟩, ⟨some 23, none, .pure (.bin .neq), [.t 22, .c (.int .i64 0)]⟩] [7, 23]) (.cond (.t 23) (.seq (.ops [⟨some 4, none, .pure (.mov), [.c (.bool false)]⟩] [4]) (.ret)) (.skip))) (.seq (.seq (.ops [⟨some 9, none, .pure (.mov), [.c (.int .i64 1)]⟩] [7, 9]) (.block 0 (.loop [7, 9] (.seq (.seq (.ops [⟨some 24, none, .pure (.mov), [.t 9]⟩, ⟨some 25, none, .pure (.mov), [.t 7]⟩, ⟨some 26, none, .pure (.len), [.t 25]⟩, ⟨some 27, none, .pure (.bin .lss), [.t 24, .t 26]⟩] [7, 9, 27]) (.cond (.t 27) (.skip) (.exit 0))) (.seq (.block 1 (.seq (.seq (.ops [⟨some 30, none, .pure (.mov), [.t 7]⟩] [7, 9, 30]) (.seq (.ops [⟨some 31, none, .pure (.mov), [.t 9]⟩] [7, 9, 30, 31]) (.seq (.ops [⟨some 32, none, .pure (.bin .sub), [.t 31, .c (.int .i64 1)]⟩] [7, 9, 30, 32]) (.seq (.ops [⟨some 33, none, .pure (.idx 4), [.t 30, .t 32]⟩] [7, 9, 33]) (.seq (.ops [⟨some 35, none, .pure (.mov), [.t 7]⟩] [7, 9, 33, 35]) (.seq (.ops [⟨some 36, none, .pure (.mov), [.t 9]⟩] [7, 9, 33, 35, 36]) (.seq (.ops [⟨some 37, none, .pure (.idx 4), [.t 35, .t 36]⟩] [7, 9, 33, 37]) (.seq (.ops [⟨some 34, none, .load (.ld 4 true), [.t 33]⟩] [7, 9, 34, 37]) (.both (.seq (.ops [⟨some 38, none, .load (.ld 4 true), [.t 37]⟩] [7, 9, 34, 38]) (.seq (.ops [⟨some 10, none, .alloc (.alloc [(.bool false), (.int .u32 0), (.int .i64 0), .nils]), []⟩] [7, 9, 10, 34, 38]) (.seq (.ops [⟨some 11, none, .alloc (.alloc [(.bool false), (.int .u32 0), (.int .i64 0), .nils]), []⟩] [7, 9, 10, 11, 34, 38]) (.seq (.ops [⟨none, none, .loud (.st 4), [.t 10, .t 34]⟩] [7, 9, 10, 11, 38]) (.seq (.ops [⟨none, none, .loud (.st 4), [.t 11, .t 38]⟩] [7, 9, 10, 11]) (.ops [] [7, 9, 10, 11])))))) (.both (.seq (.ops [⟨some 10, none, .alloc (.alloc [(.bool false), (.int .u32 0), (.int .i64 0), .nils]), []⟩] [7, 9, 10, 34, 37]) (.both (.seq (.ops [⟨some 38, none, .load (.ld 4 true), [.t 37]⟩] [7, 9, 10, 34, 38]) (.seq (.ops [⟨some 11, none, .alloc (.alloc [(.bool false), (.int .u32 0), (.int .i64 0), .nils]), []⟩] [7, 9, 10, 11, 34, 38]) (.seq (.ops [⟨none, none, .loud (.st 4), [.t 10, .t 34]⟩] [7, 9, 10, 11, 38]) (.seq (.ops [⟨none, none, .loud (.st 4), [.t 11, .t 38]⟩] [7, 9, 10, 11]) (.ops [] [7, 9, 10, 11]))))) (.both (.seq (.ops [⟨some 11, none, .alloc (.alloc [(.bool false), (.int .u32 0), (.int .i64 0), .nils]), []⟩] [7, 9, 10, 11, 34, 37]) (.both (.seq (.ops [⟨some 38, none, .load (.ld 4 true), [.t 37]⟩] [7, 9, 10, 11, 34, 38]) (.seq (.ops [⟨none, none, .loud (.st 4), [.t 10, .t 34]⟩] [7, 9, 10, 11, 38]) (.seq (.ops [⟨none, none, .loud (.st 4), [.t 11, .t 38]⟩] [7, 9, 10, 11]) (.ops [] [7, 9, 10, 11])))) (.both (.seq (.ops [⟨none, none, .loud (.st 4), [.t 10, .t 34]⟩] [7, 9, 10, 11, 37]) (.seq (.ops [⟨some 38, none, .load (.ld 4 true), [.t 37]⟩] [7, 9, 10, 11, 38]) (.seq (.ops [⟨none, none, .loud (.st 4), [.t 11, .t 38]⟩] [7, 9, 10, 11]) (.ops [] [7, 9, 10, 11])))) (.top)))) (.top)))) (.both (.seq (.ops [⟨some 11, none, .alloc (.alloc [(.bool false), (.int .u32 0), (.int .i64 0), .nils]), []⟩] [7, 9, 11, 34, 37]) (.both (.seq (.ops [⟨some 38, none, .load (.ld 4 true), [.t 37]⟩] [7, 9, 11, 34, 38]) (.seq (.ops [⟨some 10, none, .alloc (.alloc [(.bool false), (.int .u32 0), (.int .i64 0), .nils]), []⟩] [7, 9, 10, 11, 34, 38]) (.seq (.ops [⟨none, none, .loud (.st 4), [.t 10, .t 34]⟩] [7, 9, 10, 11, 38]) (.seq (.ops [⟨none, none, .loud (.st 4), [.t 11, .t 38]⟩] [7, 9, 10, 11]) (.ops [] [7, 9, 10, 11]))))) (.both (.seq (.ops [⟨some 10, none, .alloc (.alloc [(.bool false), (.int .u32 0), (.int .i64 0), .nils]), []⟩] [7, 9, 10, 11, 34, 37]) (.both (.seq (.ops [⟨some 38, none, .load (.ld 4 true), [.t 37]⟩] [7, 9, 10, 11, 34, 38]) (.seq (.ops [⟨none, none, .loud (.st 4), [.t 10, .t 34]⟩] [7, 9, 10, 11, 38]) (.seq (.ops [⟨none, none, .loud (.st 4), [.t 11, .t 38]⟩] [7, 9, 10, 11]) (.ops [] [7, 9, 10, 11])))) (.both (.seq (.ops [⟨none, none, .loud (.st 4), [.t 10, .t 34]⟩] [7, 9, 10, 11, 37]) (.seq (.ops [⟨some 38, none, .load (.ld 4 true), [.t 37]⟩] [7, 9, 10, 11, 38]) (.seq (.ops [⟨none, none, .loud (.st 4), [.t 11, .t 38]⟩] [7, 9, 10, 11]) (.ops [] [7, 9, 10, 11])))) (.top)))) (.top)))) (.top)))))))))))) t5_39)) (.ops [⟨some 28, none, .pure (.mov), [.t 9]⟩, ⟨some 29, none, .pure (.bin .add), [.t 28, .c (.int .i64 1)]⟩, ⟨some 9, none, .pure (.mov), [.t 29]⟩] [7, 9])))))) (.seq (.ops [⟨some 112, none, .loud (.call 12), []⟩, ⟨some 4, none, .pure (.mov), [.t 112]⟩] [4]) (.ret))))))
def F5 : Fn Try.prog 5 := Fn.mkX false b5 [.t 4] 113 Try.f5 _ Try.func5 (by decide) rfl Try.ntmps5 (by kernel_rfl) (by kernel_rfl)
end Go.Am.Tsc

/- W22 -/
namespace Go.Am
open Go.Proofs Go.Sort

/-- How two writes of a plan stand. -/
def ahead (x y : WK) : Prop := (x.1 = false ∧ y.1 = true) ∨ (x.1 = false ∧ y.1 = false ∧ ltS x y) ∨ (x.1 = true ∧ y.1 = true ∧ ltD x y)
theorem refPlan_ahead {old new : List En} (h1 : ensR old = true) (h2 : ensR new = true) : ((refPlan old new).map Wr.k).Pairwise ahead := by
  rw [refPlan, List.map_append, List.pairwise_append]
  have c1 : ∀ x ∈ (setsR old new 33).map Wr.k, x.1 = false := by
    intro x hx
    obtain ⟨w, hw, rfl⟩ := List.mem_map.1 hx
    simp only [setsR, setsAt, List.mem_flatMap, List.mem_map] at hw
    obtain ⟨_, _, e, _, rfl⟩ := hw
    rfl
  have c2 : ∀ x ∈ (cutsR old new 33).map Wr.k, x.1 = true := by
    intro x hx
    obtain ⟨w, hw, rfl⟩ := List.mem_map.1 hx
    simp only [cutsR, cutsAt, List.mem_flatMap, List.mem_map] at hw
    obtain ⟨_, _, e, _, rfl⟩ := hw
    rfl
  refine ⟨List.Pairwise.imp_of_mem (fun {x y} hx hy h => .inr (.inl ⟨c1 x hx, c1 y hy, h⟩)) (setsR_sorted h2), List.Pairwise.imp_of_mem (fun {x y} hx hy h => .inr (.inr ⟨c2 x hx, c2 y hy, h⟩)) (cutsR_sorted h1), fun x hx y hy => .inl ⟨c1 x hx, c2 y hy⟩⟩
theorem refPlan_right {old new : List En} (h1 : ensR old = true) (h2 : ensR new = true) {x : Wr} (h : x ∈ refPlan old new) : x.e.right := by
  rcases refPlan_mem h with ⟨e, he, rfl⟩ | ⟨e, he, rfl⟩
  · exact right_of (e := e) h2 he
  · exact right_of (e := e) h1 he

/-- A plan of the law's tables. -/
structure PlanOk (old new : List En) (A : List Wr) : Prop where
  keys : A.map Wr.k = (refPlan old new).map Wr.k
  sep : (A.map Wr.k).Pairwise ahead
  right : ∀ x ∈ A, x.e.right
  ok : ∀ x ∈ A, x.e.ok
  len : A.length ≤ 270336
theorem planOk_of {old new : List En} {W : List (List AV)} (h1 : ensR old = true) (h2 : ensR new = true) (ho2 : ∀ e ∈ new, e.ok) (h : IsPlan old new W) : ∃ A : List Wr, W = A.map Wr.c ∧ PlanOk old new A := by
  obtain ⟨A, hA1, hA2⟩ := plan_eq h1 h2 h
  have hmem : ∀ x ∈ A, ∃ y ∈ refPlan old new, y.k = x.k := fun x hx => by
    have hm : x.k ∈ (refPlan old new).map Wr.k := by rw [← hA2]; exact List.mem_map_of_mem hx
    obtain ⟨y, hy, hyk⟩ := List.mem_map.1 hm
    exact ⟨y, hy, hyk⟩
  refine ⟨A, hA1, hA2, by rw [hA2]; exact refPlan_ahead h1 h2, fun x hx => ?_, fun x hx => ?_, ?_⟩
  · obtain ⟨y, hy, hyk⟩ := hmem x hx
    have := refPlan_right h1 h2 hy
    have e1 : y.e.a = x.e.a := congrArg (fun z : WK => z.2.1) hyk
    have e2 : y.e.n = x.e.n := congrArg (fun z : WK => z.2.2.1) hyk
    unfold En.right at this ⊢
    rw [← e1, ← e2]; exact this
  · obtain ⟨y, hy, hyk⟩ := hmem x hx
    have := refPlan_ok ho2 hy
    have e1 : y.e.h.getD [] = x.e.h.getD [] := congrArg (fun z : WK => z.2.2.2) hyk
    unfold En.ok at this ⊢
    rw [← e1]; exact this
  · have hlen : A.length = (refPlan old new).length := by simpa using congrArg List.length hA2
    have := refPlan_len h1 h2
    omega

/-- Plan, of tables that stand right. -/
theorem s13r (old new : List En) (h1 : ensR old = true) (h2 : ensR new = true) (ho1 : ∀ e ∈ old, e.ok) (ho2 : ∀ e ∈ new, e.ok) (hs1 : Small old) (hs2 : Small new) (σ : Store) :
    ACalls Try.prog 13 [.sl 3 (old.map En.c), .sl 3 (new.map En.c)] σ (fun r s => s = σ ∧ ∃ A : List Wr, r = .tup [.sl 4 (A.map Wr.c), .int .i64 0] ∧ PlanOk old new A) :=
  (s13 old new hs1 hs2 ho1 ho2 σ).mono fun r s ⟨h3, W, h4, h5⟩ => by
    simp only [h1, h2, Bool.and_self, if_true] at h4 h5
    obtain ⟨A, rfl, hA⟩ := planOk_of h1 h2 ho2 h5
    exact ⟨h3, A, h4, hA⟩

theorem bt_tt : (true == true) = true := rfl
theorem bt_ft : (false == true) = false := rfl
theorem bt_tf : (true == false) = false := rfl
theorem bt_ff : (false == false) = true := rfl
set_option maxRecDepth 20000 in
theorem tail5 (x y : Wr) {L : AV} {m : Int} {t : Store} {a b : Nat} {n r : Env → Store → Prop} {z : Nat → Env → Store → Prop} (hxr : x.e.right) (hyr : y.e.right) (hsep : ahead x.k y.k) (hab : ¬ a = b) (ha : t a = some (.box x.c)) (hb : t b = some (.box y.c))
    (hn : n [(7, L), (9, .int .i64 m), (111, .bool false)] t) : bwp Try.prog Tsc.t5_39 [(7, L), (9, .int .i64 m), (10, .ptr a 0), (11, .ptr b 0)] t n r z := by
  obtain ⟨cx, ax, nx, hx⟩ := x
  obtain ⟨cy, ay, ny, hy⟩ := y
  simp only [ahead, Wr.k, ltS, ltD] at hsep
  simp only [En.right] at hxr hyr
  simp only [Tsc.t5_39]
  simp only [Wr.c, En.c] at ha hb
  rcases hsep with ⟨rfl, rfl⟩ | ⟨rfl, rfl, hlt⟩ | ⟨rfl, rfl, hlt⟩
  · simp only [ha, hb, bt_ft, hn, ↓vcPre, ↓wit_get, ↓reduceIte, vcPost, vcStd, Nat.reduceEqDiff, reduceCtorEq, Nat.reduceAdd, Nat.reduceLeDiff, Int.reduceLT, Int.reduceLE, ↓u_setN]
  · simp only [ha, hb, bt_ff, hn, ↓vcPre, ↓wit_get, ↓reduceIte, vcPost, vcStd, Nat.reduceEqDiff, reduceCtorEq, Nat.reduceAdd, Nat.reduceLeDiff, Int.reduceLT, Int.reduceLE, ↓u_setN]
    exact ⟨fun h1 h2 => (c16 _ _ _ _).Q (by
      have h3 : lessF ax nx ay ny = true := (lessF_iff hxr hyr).2 (by omega)
      rw [h3]
      simp only [hn, ↓vcPre, ↓wit_get, ↓reduceIte, vcPost, vcStd, Nat.reduceEqDiff, reduceCtorEq, Nat.reduceAdd, Nat.reduceLeDiff, Int.reduceLT, Int.reduceLE, ↓u_setN]), fun h1 => by exfalso; omega⟩
  · simp only [ha, hb, bt_tt, hn, ↓vcPre, ↓wit_get, ↓reduceIte, vcPost, vcStd, Nat.reduceEqDiff, reduceCtorEq, Nat.reduceAdd, Nat.reduceLeDiff, Int.reduceLT, Int.reduceLE, ↓u_setN]
    exact ⟨fun h1 => by exfalso; omega, fun h1 h2 => (c16 _ _ _ _).Q (by
      have h3 : lessF ax nx ay ny = true := (lessF_iff hxr hyr).2 (by omega)
      rw [h3]
      simp only [hn, ↓vcPre, ↓wit_get, ↓reduceIte, vcPost, vcStd, Nat.reduceEqDiff, reduceCtorEq, Nat.reduceAdd, Nat.reduceLeDiff, Int.reduceLT, Int.reduceLE, ↓u_setN])⟩
set_option maxRecDepth 20000 in
theorem c5 (l m : List Raw) (hl : Small l) (hm : Small m) (hlo : ∀ r ∈ l, r.ok) (hmo : ∀ r ∈ m, r.ok) :
    Pur Try.prog 5 [.sl 3 (l.map Raw.cells), .sl 3 (m.map Raw.cells)] (.bool true) := by
  refine pur_of Tsc.F5 (by simp [Tsc.F5, Fn.mkX]) fun σ => ?_
  simp only [Tsc.F5, Fn.mkX, Tsc.b5]
  simp only [↓vcPre, ↓wit_get, ↓reduceIte, vcPost, vcStd, Nat.reduceEqDiff, reduceCtorEq, Nat.reduceAdd, Nat.reduceLeDiff, Int.reduceLT, Int.reduceLE, ↓u_setN]
  refine (c10 l hl hlo).Q ?_
  simp only [↓vcPre, ↓wit_get, ↓reduceIte, vcPost, vcStd, Nat.reduceEqDiff, reduceCtorEq, Nat.reduceAdd, Nat.reduceLeDiff, Int.reduceLT, Int.reduceLE, ↓u_setN]
  refine (c10 m hm hmo).Q ?_
  simp only [↓vcPre, ↓wit_get, ↓reduceIte, vcPost, vcStd, Nat.reduceEqDiff, reduceCtorEq, Nat.reduceAdd, Nat.reduceLeDiff, Int.reduceLT, Int.reduceLE, ↓u_setN]
  refine (s13r _ _ (ensR_entF l) (ensR_entF m) entF_ok entF_ok (entF_small l) (entF_small m) σ).Q ?_
  rintro r s ⟨rfl, A, rfl, hA⟩
  simp only [↓vcPre, ↓wit_get, ↓reduceIte, vcPost, vcStd, Nat.reduceEqDiff, reduceCtorEq, Nat.reduceAdd, Nat.reduceLeDiff, Int.reduceLT, Int.reduceLE, ↓u_setN]
  have hAl := hA.len
  refine LoopQ.inv (S := Nat) (fun k => [(7, .sl 4 (A.map Wr.c)), (9, .int .i64 ((k + 1 : Nat) : Int))]) (fun _ => s) (fun k => True) (fun k => A.length + 1 - k) 0 rfl (Store.sub_refl _) trivial ?_
  intro k _
  simp only [↓vcPre, ↓wit_get, ↓reduceIte, vcPost, vcStd, Nat.reduceEqDiff, reduceCtorEq, Nat.reduceAdd, Nat.reduceLeDiff, Int.reduceLT, Int.reduceLE, ↓u_setN]
  refine ⟨fun c1 => ?_, fun c1 => ?_⟩
  · have e1 : IntKind.i64.wrap (((k + 1 : Nat) : Int) - 1) = (k : Int) := by rw [wrap64 (by unfold I64; omega)]; omega
    have e2 : IntKind.i64.wrap (((k + 1 : Nat) : Int) + 1) = ((k + 1 + 1 : Nat) : Int) := by rw [wrap64 (by unfold I64; omega)]; omega
    have hsep : ahead (A[k]'(by omega)).k A[k + 1].k := by
      have := List.pairwise_iff_getElem.1 hA.sep k (k + 1) (by simp; omega) (by simpa using c1) (by omega)
      simpa using this
    have hxr := hA.right _ (List.getElem_mem (show k < A.length by omega))
    have hyr := hA.right _ (List.getElem_mem c1)
    simp only [e1, e2, Int.toNat_natCast]
    refine ⟨by omega, by omega, c1, by simp [Wr.c, En.c], ?_⟩
    obtain ⟨cx, ax, nx, hx, hX⟩ : ∃ c a n h, A[k]'(by omega) = Wr.mk c ⟨a, n, h⟩ := ⟨_, _, _, _, rfl⟩
    obtain ⟨cy, ay, ny, hy, hY⟩ : ∃ c a n h, A[k + 1] = Wr.mk c ⟨a, n, h⟩ := ⟨_, _, _, _, rfl⟩
    rw [hX] at hxr hsep
    rw [hY] at hyr hsep
    simp only [ahead, Wr.k, ltS, ltD] at hsep
    simp only [En.right] at hxr hyr
    simp only [hX, hY]
    refine ⟨⟨by simp [Wr.c, En.c], ?_⟩, ?_, ?_⟩
    · refine AllocQ.i0 fun a ha => ?_
      simp only [↓vcPre, ↓wit_get, ↓reduceIte, vcPost, vcStd, Nat.reduceEqDiff, reduceCtorEq, Nat.reduceAdd, Nat.reduceLeDiff, Int.reduceLT, Int.reduceLE, ↓u_setN]
      refine AllocQ.i1 fun b hb1 hb2 hb => ?_
      simp only [e1, hX, hY, Wr.c, En.c, hb1, hb2, ↓vcPre, ↓wit_get, ↓reduceIte, vcPost, vcStd, Nat.reduceEqDiff, reduceCtorEq, Nat.reduceAdd, Nat.reduceLeDiff, Int.reduceLT, Int.reduceLE, ↓u_setN]
      refine tail5 ⟨cx, ⟨ax, nx, hx⟩⟩ ⟨cy, ⟨ay, ny, hy⟩⟩ hxr hyr hsep hb2 (by simp [Store.set_ne _ _ hb1, Store.set_ne _ _ hb2, Wr.c, En.c]) (by simp [Store.set_ne _ _ hb1, Store.set_ne _ _ hb2, Wr.c, En.c]) ?_
      simp only [e2, ↓vcPre, ↓wit_get, ↓reduceIte, vcPost, vcStd, Nat.reduceEqDiff, reduceCtorEq, Nat.reduceAdd, Nat.reduceLeDiff, Int.reduceLT, Int.reduceLE, ↓u_setN]
      exact NextQ.to (k + 1) rfl (by simp only [*, ↓vcPre, ↓wit_get, ↓reduceIte, vcPost, vcStd, Nat.reduceEqDiff, reduceCtorEq, Nat.reduceAdd, Nat.reduceLeDiff, Int.reduceLT, Int.reduceLE, ↓u_setN]) (by omega) trivial
    · refine AllocQ.i0 fun a ha => ?_
      simp only [hX, hY, ↓vcPre, ↓wit_get, ↓reduceIte, vcPost, vcStd, Nat.reduceEqDiff, reduceCtorEq, Nat.reduceAdd, Nat.reduceLeDiff, Int.reduceLT, Int.reduceLE, ↓u_setN]
      refine ⟨⟨by simp [Wr.c, En.c], ?_⟩, ?_⟩
      · refine AllocQ.i1 fun b hb1 hb2 hb => ?_
        simp only [e1, hX, hY, Wr.c, En.c, hb1, hb2, ↓vcPre, ↓wit_get, ↓reduceIte, vcPost, vcStd, Nat.reduceEqDiff, reduceCtorEq, Nat.reduceAdd, Nat.reduceLeDiff, Int.reduceLT, Int.reduceLE, ↓u_setN]
        refine tail5 ⟨cx, ⟨ax, nx, hx⟩⟩ ⟨cy, ⟨ay, ny, hy⟩⟩ hxr hyr hsep hb2 (by simp [Store.set_ne _ _ hb1, Store.set_ne _ _ hb2, Wr.c, En.c]) (by simp [Store.set_ne _ _ hb1, Store.set_ne _ _ hb2, Wr.c, En.c]) ?_
        simp only [e2, ↓vcPre, ↓wit_get, ↓reduceIte, vcPost, vcStd, Nat.reduceEqDiff, reduceCtorEq, Nat.reduceAdd, Nat.reduceLeDiff, Int.reduceLT, Int.reduceLE, ↓u_setN]
        exact NextQ.to (k + 1) rfl (by simp only [*, ↓vcPre, ↓wit_get, ↓reduceIte, vcPost, vcStd, Nat.reduceEqDiff, reduceCtorEq, Nat.reduceAdd, Nat.reduceLeDiff, Int.reduceLT, Int.reduceLE, ↓u_setN]) (by omega) trivial
      · refine AllocQ.i1 fun b hb1 hb2 hb => ?_
        simp only [e1, hX, hY, Wr.c, En.c, hb1, hb2, ↓vcPre, ↓wit_get, ↓reduceIte, vcPost, vcStd, Nat.reduceEqDiff, reduceCtorEq, Nat.reduceAdd, Nat.reduceLeDiff, Int.reduceLT, Int.reduceLE, ↓u_setN]
        refine ⟨?_, ?_⟩
        · refine tail5 ⟨cx, ⟨ax, nx, hx⟩⟩ ⟨cy, ⟨ay, ny, hy⟩⟩ hxr hyr hsep hb2 (by simp [Store.set_ne _ _ hb1, Store.set_ne _ _ hb2, Wr.c, En.c]) (by simp [Store.set_ne _ _ hb1, Store.set_ne _ _ hb2, Wr.c, En.c]) ?_
          simp only [e2, ↓vcPre, ↓wit_get, ↓reduceIte, vcPost, vcStd, Nat.reduceEqDiff, reduceCtorEq, Nat.reduceAdd, Nat.reduceLeDiff, Int.reduceLT, Int.reduceLE, ↓u_setN]
          exact NextQ.to (k + 1) rfl (by simp only [*, ↓vcPre, ↓wit_get, ↓reduceIte, vcPost, vcStd, Nat.reduceEqDiff, reduceCtorEq, Nat.reduceAdd, Nat.reduceLeDiff, Int.reduceLT, Int.reduceLE, ↓u_setN]) (by omega) trivial
        · refine tail5 ⟨cx, ⟨ax, nx, hx⟩⟩ ⟨cy, ⟨ay, ny, hy⟩⟩ hxr hyr hsep hb2 (by simp [Store.set_ne _ _ hb1, Store.set_ne _ _ hb2, Wr.c, En.c]) (by simp [Store.set_ne _ _ hb1, Store.set_ne _ _ hb2, Wr.c, En.c]) ?_
          simp only [e2, ↓vcPre, ↓wit_get, ↓reduceIte, vcPost, vcStd, Nat.reduceEqDiff, reduceCtorEq, Nat.reduceAdd, Nat.reduceLeDiff, Int.reduceLT, Int.reduceLE, ↓u_setN]
          exact NextQ.to (k + 1) rfl (by simp only [*, ↓vcPre, ↓wit_get, ↓reduceIte, vcPost, vcStd, Nat.reduceEqDiff, reduceCtorEq, Nat.reduceAdd, Nat.reduceLeDiff, Int.reduceLT, Int.reduceLE, ↓u_setN]) (by omega) trivial
    · refine AllocQ.i0 fun a ha => ?_
      simp only [hX, hY, ↓vcPre, ↓wit_get, ↓reduceIte, vcPost, vcStd, Nat.reduceEqDiff, reduceCtorEq, Nat.reduceAdd, Nat.reduceLeDiff, Int.reduceLT, Int.reduceLE, ↓u_setN]
      refine ⟨⟨by simp [Wr.c, En.c], ?_⟩, ?_⟩
      · refine AllocQ.i1 fun b hb1 hb2 hb => ?_
        simp only [e1, hX, hY, Wr.c, En.c, hb1, hb2, ↓vcPre, ↓wit_get, ↓reduceIte, vcPost, vcStd, Nat.reduceEqDiff, reduceCtorEq, Nat.reduceAdd, Nat.reduceLeDiff, Int.reduceLT, Int.reduceLE, ↓u_setN]
        refine tail5 ⟨cx, ⟨ax, nx, hx⟩⟩ ⟨cy, ⟨ay, ny, hy⟩⟩ hxr hyr hsep hb1 (by simp [Store.set_ne _ _ hb1, Store.set_ne _ _ hb2, Wr.c, En.c]) (by simp [Store.set_ne _ _ hb1, Store.set_ne _ _ hb2, Wr.c, En.c]) ?_
        simp only [e2, ↓vcPre, ↓wit_get, ↓reduceIte, vcPost, vcStd, Nat.reduceEqDiff, reduceCtorEq, Nat.reduceAdd, Nat.reduceLeDiff, Int.reduceLT, Int.reduceLE, ↓u_setN]
        exact NextQ.to (k + 1) rfl (by simp only [*, ↓vcPre, ↓wit_get, ↓reduceIte, vcPost, vcStd, Nat.reduceEqDiff, reduceCtorEq, Nat.reduceAdd, Nat.reduceLeDiff, Int.reduceLT, Int.reduceLE, ↓u_setN]) (by omega) trivial
      · refine AllocQ.i1 fun b hb1 hb2 hb => ?_
        simp only [e1, hX, hY, Wr.c, En.c, hb1, hb2, ↓vcPre, ↓wit_get, ↓reduceIte, vcPost, vcStd, Nat.reduceEqDiff, reduceCtorEq, Nat.reduceAdd, Nat.reduceLeDiff, Int.reduceLT, Int.reduceLE, ↓u_setN]
        refine ⟨?_, ?_⟩
        · refine tail5 ⟨cx, ⟨ax, nx, hx⟩⟩ ⟨cy, ⟨ay, ny, hy⟩⟩ hxr hyr hsep hb1 (by simp [Store.set_ne _ _ hb1, Store.set_ne _ _ hb2, Wr.c, En.c]) (by simp [Store.set_ne _ _ hb1, Store.set_ne _ _ hb2, Wr.c, En.c]) ?_
          simp only [e2, ↓vcPre, ↓wit_get, ↓reduceIte, vcPost, vcStd, Nat.reduceEqDiff, reduceCtorEq, Nat.reduceAdd, Nat.reduceLeDiff, Int.reduceLT, Int.reduceLE, ↓u_setN]
          exact NextQ.to (k + 1) rfl (by simp only [*, ↓vcPre, ↓wit_get, ↓reduceIte, vcPost, vcStd, Nat.reduceEqDiff, reduceCtorEq, Nat.reduceAdd, Nat.reduceLeDiff, Int.reduceLT, Int.reduceLE, ↓u_setN]) (by omega) trivial
        · refine tail5 ⟨cx, ⟨ax, nx, hx⟩⟩ ⟨cy, ⟨ay, ny, hy⟩⟩ hxr hyr hsep hb1 (by simp [Store.set_ne _ _ hb1, Store.set_ne _ _ hb2, Wr.c, En.c]) (by simp [Store.set_ne _ _ hb1, Store.set_ne _ _ hb2, Wr.c, En.c]) ?_
          simp only [e2, ↓vcPre, ↓wit_get, ↓reduceIte, vcPost, vcStd, Nat.reduceEqDiff, reduceCtorEq, Nat.reduceAdd, Nat.reduceLeDiff, Int.reduceLT, Int.reduceLE, ↓u_setN]
          exact NextQ.to (k + 1) rfl (by simp only [*, ↓vcPre, ↓wit_get, ↓reduceIte, vcPost, vcStd, Nat.reduceEqDiff, reduceCtorEq, Nat.reduceAdd, Nat.reduceLeDiff, Int.reduceLT, Int.reduceLE, ↓u_setN]) (by omega) trivial
  · refine k12.Q ?_
    simp only [↓vcPre, ↓wit_get, ↓reduceIte, vcPost, vcStd, Nat.reduceEqDiff, reduceCtorEq, Nat.reduceAdd, Nat.reduceLeDiff, Int.reduceLT, Int.reduceLE, ↓u_setN]
end Go.Am

/- W23 -/
namespace Go.Am
open Go.Proofs Go.Sort

/-- Tables held against one another. -/
def entK (e : En) : Int × Int × HL := (e.a, e.n, e.h.getD [])
theorem c15 (l m : List En) (h : Small l) (ho : ∀ e ∈ l, e.ok) : Pur Try.prog 15 [.sl 3 (l.map En.c), .sl 3 (m.map En.c)] (.bool (decide (l.map entK = m.map entK))) := by
  refine pur_of Tst.F15 (by simp [Tst.F15, Fn.mk']) fun σ => ?_
  simp only [Tst.F15, Fn.mk', Tst.b15]
  simp only [↓vcPre, ↓wit_get, ↓reduceIte, vcPost, vcStd, Nat.reduceEqDiff, reduceCtorEq, Nat.reduceAdd, Nat.reduceLeDiff, Int.reduceLT, Int.reduceLE, ↓u_setN]
  refine ⟨fun h1 => by
    simp only [decide_eq_true_eq, Bool.false_eq]
    exact decide_eq_false fun e => h1 (by have := congrArg List.length e; simp at this; omega), fun h1 => ?_⟩
  have hl : l.length = m.length := by omega
  unfold Small at h
  refine LoopQ.inv (S := Nat) (fun k => [(0, .sl 3 (l.map En.c)), (1, .sl 3 (m.map En.c)), (5, .int .i64 (k : Int))]) (fun _ => σ) (fun k => k ≤ l.length ∧ ∀ i (hi : i < l.length), i < k → entK l[i] = entK (m[i]'(by omega))) (fun k => l.length + 1 - k) 0 rfl (Store.sub_refl _) ⟨by omega, fun i _ h => by omega⟩ ?_
  rintro k ⟨hk, hp⟩
  simp only [↓vcPre, ↓wit_get, ↓reduceIte, vcPost, vcStd, Nat.reduceEqDiff, reduceCtorEq, Nat.reduceAdd, Nat.reduceLeDiff, Int.reduceLT, Int.reduceLE, ↓u_setN]
  have ek : (k : Int) < 9000000000000000000 → IntKind.i64.wrap ((k : Int) + 1) = ((k + 1 : Nat) : Int) := fun _ => by rw [wrap64 (by unfold I64; omega)]; omega
  refine ⟨fun c1 => ?_, fun c1 => ?_⟩
  · have hne : entK l[k] ≠ entK (m[k]'(by omega)) → decide (l.map entK = m.map entK) = false := fun hn => decide_eq_false fun e => hn (by
      have h2 : (l.map entK)[k]? = (m.map entK)[k]? := by rw [e]
      rw [List.getElem?_eq_getElem (by simpa using c1), List.getElem?_eq_getElem (by simp; omega)] at h2
      simpa using h2)
    refine ⟨c1, by omega, by simp [En.c], by simp [En.c], ?_⟩
    simp only [En.c]
    simp only [↓vcPre, ↓wit_get, ↓reduceIte, vcPost, vcStd, Nat.reduceEqDiff, reduceCtorEq, Nat.reduceAdd, Nat.reduceLeDiff, Int.reduceLT, Int.reduceLE, ↓u_setN]
    refine ⟨fun g1 g2 => ⟨c1, by omega, ?_⟩, fun g1 => ?_⟩
    · refine (c25O _ _ (ho _ (List.getElem_mem c1))).q' ?_
      cases hd : decide (l[k].h.getD [] = (m[k]'(by omega)).h.getD []) with
      | true =>
        simp only [↓vcPre, ↓wit_get, ↓reduceIte, vcPost, vcStd, Nat.reduceEqDiff, reduceCtorEq, Nat.reduceAdd, Nat.reduceLeDiff, Int.reduceLT, Int.reduceLE, ↓u_setN]
        rw [ek (by omega)]
        refine NextQ.to (k + 1) rfl (Store.sub_refl _) (by omega) ⟨by omega, fun i hi hik => ?_⟩
        by_cases hik' : i = k
        · subst hik'
          simp only [entK, Prod.mk.injEq]
          exact ⟨g1, g2, of_decide_eq_true hd⟩
        · exact hp i hi (by omega)
      | false =>
        simp only [↓vcPre, ↓wit_get, ↓reduceIte, vcPost, vcStd, Nat.reduceEqDiff, reduceCtorEq, Nat.reduceAdd, Nat.reduceLeDiff, Int.reduceLT, Int.reduceLE, ↓u_setN]
        exact (hne fun e => (of_decide_eq_false hd) (congrArg (fun z : Int × Int × HL => z.2.2) e)).symm
    · exact (hne fun e => g1 ⟨congrArg (fun z : Int × Int × HL => z.1) e, congrArg (fun z : Int × Int × HL => z.2.1) e⟩).symm
  · refine (decide_eq_true ?_).symm
    refine List.ext_getElem (by simp [hl]) fun i hi hi' => ?_
    simp at hi
    simpa using hp i hi (by omega)

/-! ## Plans that are played -/
def mem (l : List En) : List (Int × Int × HL) := l.map entK
theorem mem_setT {t : List En} {e : En} {z : Int × Int × HL} : z ∈ (setT t e).map entK ↔ z = entK e ∨ (z ∈ t.map entK ∧ ¬(z.1 = e.a ∧ z.2.1 = e.n)) := by
  simp only [setT, List.map_append, List.mem_append, List.mem_map, List.mem_filter, decide_eq_true_eq, List.map_cons, List.map_nil, List.mem_singleton]
  constructor
  · rintro ((⟨y, ⟨hy, hl⟩, rfl⟩ | rfl) | ⟨y, ⟨hy, hl⟩, rfl⟩)
    · exact .inr ⟨⟨y, hy, rfl⟩, fun h => by simp only [entK] at h; unfold kLt at hl; omega⟩
    · exact .inl rfl
    · exact .inr ⟨⟨y, hy, rfl⟩, fun h => by simp only [entK] at h; unfold kLt at hl; omega⟩
  · rintro (rfl | ⟨⟨y, hy, rfl⟩, hn⟩)
    · exact .inl (.inr rfl)
    · simp only [entK] at hn
      rcases tri y e with h | h | h
      · exact .inl (.inl ⟨y, ⟨hy, h⟩, rfl⟩)
      · simp only [isAt, decide_eq_true_eq] at h; exact absurd ⟨h.1.symm, h.2.symm⟩ hn
      · exact .inr ⟨y, ⟨hy, h⟩, rfl⟩
theorem mem_cutT {t : List En} {e : En} {z : Int × Int × HL} : z ∈ (cutT t e).map entK ↔ (z ∈ t.map entK ∧ ¬(z.1 = e.a ∧ z.2.1 = e.n)) := by
  simp only [cutT, List.mem_map, List.mem_filter, Bool.not_eq_true', isAt, decide_eq_false_iff_not]
  constructor
  · rintro ⟨y, ⟨hy, hl⟩, rfl⟩
    exact ⟨⟨y, hy, rfl⟩, hl⟩
  · rintro ⟨⟨y, hy, rfl⟩, hn⟩
    exact ⟨y, ⟨hy, hn⟩, rfl⟩
def stepT (t : List En) (w : Wr) : List En := doF t w.cut w.e
theorem stepT_eq {t : List En} {w : Wr} (h : Tab t) (hw : w.e.right) : stepT t w = if w.cut then cutT t w.e else setT t w.e := by
  unfold stepT
  cases w.cut with
  | true => exact doF_cut t w.e
  | false => exact doF_set hw h
theorem tab_step {t : List En} {w : Wr} (h : Tab t) (hw : w.e.right) : Tab (stepT t w) := by
  rw [stepT_eq h hw]
  split
  · exact tab_cut h
  · exact tab_set hw h
theorem tab_play : ∀ (A : List Wr) (t : List En), Tab t → (∀ w ∈ A, w.e.right) → Tab (A.foldl stepT t)
  | [], _, h, _ => h
  | w :: A, t, h, hw => tab_play A _ (tab_step h (hw w (by simp))) fun x hx => hw x (by simp [hx])
def keyNe (x y : WK) : Prop := ¬(x.2.1 = y.2.1 ∧ x.2.2.1 = y.2.2.1)
theorem mem_play : ∀ (A : List Wr) (t : List En), Tab t → (∀ w ∈ A, w.e.right) → (A.map Wr.k).Pairwise keyNe → ∀ z, z ∈ (A.foldl stepT t).map entK ↔
    ((∃ κ ∈ A.map Wr.k, κ.1 = false ∧ z = κ.2) ∨ (z ∈ t.map entK ∧ ∀ κ ∈ A.map Wr.k, ¬(z.1 = κ.2.1 ∧ z.2.1 = κ.2.2.1)))
  | [], t, _, _, _, z => by simp
  | w :: A, t, h, hw, hp, z => by
    have hr := hw w (by simp)
    simp only [List.map_cons, List.pairwise_cons] at hp
    have ih := mem_play A (stepT t w) (tab_step h hr) (fun x hx => hw x (by simp [hx])) hp.2 z
    simp only [List.foldl_cons]
    rw [ih]
    have hs : z ∈ (stepT t w).map entK ↔ (w.k.1 = false ∧ z = w.k.2) ∨ (z ∈ t.map entK ∧ ¬(z.1 = w.k.2.1 ∧ z.2.1 = w.k.2.2.1)) := by
      rw [stepT_eq h hr]
      cases hc : w.cut with
      | true => simp only [if_true]; rw [mem_cutT]; simp [Wr.k, hc]
      | false => simp only [Bool.false_eq_true, if_false]; rw [mem_setT]; simp [Wr.k, hc, entK]
    rw [hs]
    simp only [List.map_cons, List.mem_cons, exists_eq_or_imp, forall_eq_or_imp]
    constructor
    · rintro (h1 | ⟨h1 | ⟨h1, h2⟩, h3⟩)
      · exact .inl (.inr h1)
      · exact .inl (.inl h1)
      · exact .inr ⟨h1, h2, h3⟩
    · rintro ((h1 | h1) | ⟨h1, h2, h3⟩)
      · refine .inr ⟨.inl h1, fun κ hκ hh => ?_⟩
        have := hp.1 κ hκ
        rw [h1.2] at hh
        exact this hh
      · exact .inl h1
      · exact .inr ⟨.inr ⟨h1, h2⟩, h3⟩
theorem mem_keys {old new : List En} (h1 : ensR old = true) (h2 : ensR new = true) {κ : WK} : κ ∈ (refPlan old new).map Wr.k ↔ (∃ e ∈ new, needs old e = true ∧ κ = setK e) ∨ (∃ e ∈ old, gone new e = true ∧ κ = cutK e) := by
  rw [refPlan, List.map_append, List.mem_append, (setsR_perm h2).mem_iff, (cutsR_perm h1).mem_iff]
  simp only [setsK, cutsK, List.mem_map, List.mem_filter]
  constructor
  · rintro (⟨e, ⟨a, b⟩, rfl⟩ | ⟨e, ⟨a, b⟩, rfl⟩)
    · exact .inl ⟨e, a, b, rfl⟩
    · exact .inr ⟨e, a, b, rfl⟩
  · rintro (⟨e, a, b, rfl⟩ | ⟨e, a, b, rfl⟩)
    · exact .inl ⟨e, ⟨a, b⟩, rfl⟩
    · exact .inr ⟨e, ⟨a, b⟩, rfl⟩
theorem look_mem {l : List En} {a n : Int} {h : Option HL} (hl : lookE l a n = some h) : ∃ e ∈ l, e.a = a ∧ e.n = n ∧ e.h = h := by
  unfold lookE at hl
  obtain ⟨e, h1, h2⟩ := Option.map_eq_some_iff.1 hl
  have h3 := List.find?_some h1
  simp only [decide_eq_true_eq] at h3
  exact ⟨e, List.mem_of_find?_eq_some h1, h3.1, h3.2, h2⟩
theorem keys_ne {old new : List En} (h1 : ensR old = true) (h2 : ensR new = true) : ((refPlan old new).map Wr.k).Pairwise keyNe := by
  refine List.Pairwise.imp_of_mem (fun {x y} hx hy h => ?_) (refPlan_ahead h1 h2)
  unfold ahead ltS ltD at h
  unfold keyNe
  rcases h with ⟨hx1, hy1⟩ | ⟨_, _, h⟩ | ⟨_, _, h⟩
  · rcases (mem_keys h1 h2).1 hx with ⟨e, he, _, rfl⟩ | ⟨e, he, _, rfl⟩
    · rcases (mem_keys h1 h2).1 hy with ⟨f, hf, _, rfl⟩ | ⟨f, hf, hg, rfl⟩
      · cases hy1
      · simp only [setK, cutK]
        rintro ⟨g1, g2⟩
        have := once_look (once_of h2) e he
        simp only [gone, ← g1, ← g2, this] at hg
        cases hg
    · cases hx1
  · omega
  · omega
/-- A plan that is played leads to its end. -/
theorem play_mem {old new : List En} {A : List Wr} (h1 : ensR old = true) (h2 : ensR new = true) (hA : PlanOk old new A) (z : Int × Int × HL) : z ∈ (A.foldl stepT old).map entK ↔ z ∈ new.map entK := by
  rw [mem_play A old (tab_of h1) hA.right (by rw [hA.keys]; exact keys_ne h1 h2), hA.keys]
  constructor
  · rintro (⟨κ, hκ, hc, rfl⟩ | ⟨hz, hall⟩)
    · rcases (mem_keys h1 h2).1 hκ with ⟨e, he, _, rfl⟩ | ⟨e, he, _, rfl⟩
      · exact List.mem_map.2 ⟨e, he, rfl⟩
      · cases hc
    · obtain ⟨o, ho, rfl⟩ := List.mem_map.1 hz
      have hg : gone new o = false := by
        cases hg : gone new o with
        | false => rfl
        | true => exact absurd ⟨rfl, rfl⟩ (hall _ ((mem_keys h1 h2).2 (.inr ⟨o, ho, hg, rfl⟩)))
      simp only [gone, Bool.not_eq_false'] at hg
      obtain ⟨h', hh⟩ := Option.isSome_iff_exists.1 hg
      obtain ⟨e, he, e1, e2, e3⟩ := look_mem hh
      have hn : needs old e = false := by
        cases hn : needs old e with
        | false => rfl
        | true =>
          refine absurd ?_ (hall _ ((mem_keys h1 h2).2 (.inl ⟨e, he, hn, rfl⟩)))
          simp only [setK, entK]; exact ⟨e1.symm, e2.symm⟩
      have hl := once_look (once_of h1) o ho
      simp only [needs, e1, e2, hl, Bool.not_eq_false', Bool.and_eq_true, decide_eq_true_eq] at hn
      refine List.mem_map.2 ⟨e, he, ?_⟩
      simp only [entK, e1, e2, Prod.mk.injEq, true_and]
      exact hn.2.symm
  · intro hz
    obtain ⟨e, he, rfl⟩ := List.mem_map.1 hz
    cases hn : needs old e with
    | true => exact .inl ⟨setK e, (mem_keys h1 h2).2 (.inl ⟨e, he, hn, rfl⟩), rfl, rfl⟩
    | false =>
      refine .inr ?_
      have hn' := hn
      simp only [needs, Bool.not_eq_false', Bool.and_eq_true, decide_eq_true_eq] at hn
      obtain ⟨h', hh⟩ := Option.isSome_iff_exists.1 hn.1
      obtain ⟨o, ho, e1, e2, e3⟩ := look_mem hh
      rw [hh] at hn
      refine ⟨List.mem_map.2 ⟨o, ho, ?_⟩, fun κ hκ hk => ?_⟩
      · simp only [entK, e1, e2, e3, Prod.mk.injEq, true_and]; exact hn.2
      · rcases (mem_keys h1 h2).1 hκ with ⟨f, hf, hg, rfl⟩ | ⟨f, hf, hg, rfl⟩
        · simp only [setK, entK] at hk
          have q1 := once_look (once_of h2) e he
          have q2 := once_look (once_of h2) f hf
          rw [hk.1, hk.2, q2] at q1
          have q3 := Option.some.inj q1
          simp only [needs, ← hk.1, ← hk.2, q3] at hg
          simp only [needs] at hn'
          rw [hn'] at hg
          cases hg
        · simp only [cutK, entK] at hk
          have q1 := once_look (once_of h2) e he
          simp only [gone, ← hk.1, ← hk.2, q1] at hg
          cases hg
theorem tab_ext {s t : List En} (hs : Tab s) (ht : Tab t) (h : ∀ z, z ∈ s.map entK ↔ z ∈ t.map entK) : s.map entK = t.map entK := by
  have key : ∀ l : List En, Tab l → (l.map entK).Pairwise (fun x y => x.1 < y.1 ∨ (x.1 = y.1 ∧ x.2.1 < y.2.1)) := fun l hl => by
    rw [List.pairwise_map]; exact hl.2.imp fun {x y} h => h
  have nd : ∀ l : List En, Tab l → (l.map entK).Nodup := fun l hl => (key l hl).imp fun {x y} h e => by subst e; omega
  refine List.Perm.eq_of_pairwise (le := fun x y => x.1 < y.1 ∨ (x.1 = y.1 ∧ x.2.1 < y.2.1)) ?_ (key s hs) (key t ht) ((List.perm_ext_iff_of_nodup (nd s hs) (nd t ht)).2 h)
  intro a b _ _ h1 h2; omega
theorem play_end {old new : List En} {A : List Wr} (h1 : ensR old = true) (h2 : ensR new = true) (hA : PlanOk old new A) : (A.foldl stepT old).map entK = new.map entK :=
  tab_ext (tab_play A old (tab_of h1) hA.right) (tab_of h2) (play_mem h1 h2 hA)
theorem plan_short {old new : List En} {A : List Wr} (h1 : ensR old = true) (h2 : ensR new = true) (hA : PlanOk old new A) : A.length ≤ old.length + new.length := by
  have e : A.length = ((refPlan old new).map Wr.k).length := by rw [← hA.keys]; simp
  rw [e, refPlan, List.map_append, List.length_append, (setsR_perm h2).length_eq, (cutsR_perm h1).length_eq]
  have q1 := List.length_filter_le (needs old) new
  have q2 := List.length_filter_le (gone new) old
  simp only [setsK, cutsK, List.length_map]
  omega
theorem plan_cut {old new : List En} {A : List Wr} (h1 : ensR old = true) (h2 : ensR new = true) (hA : PlanOk old new A) {w : Wr} (hw : w ∈ A) (hc : w.cut = true) : w.e.h.getD [] = [] := by
  have : w.k ∈ (refPlan old new).map Wr.k := by rw [← hA.keys]; exact List.mem_map_of_mem hw
  rcases (mem_keys h1 h2).1 this with ⟨e, _, _, he⟩ | ⟨e, _, _, he⟩
  · have := congrArg (fun z : WK => z.1) he
    simp only [Wr.k, setK, hc] at this
    cases this
  · exact congrArg (fun z : WK => z.2.2.2) he
theorem plan_ne {old new : List En} {A : List Wr} (h1 : ensR old = true) (h2 : ensR new = true) (hA : PlanOk old new A) {i j : Nat} (hij : i < j) (hj : j < A.length) : ¬(A[i].e.a = A[j].e.a ∧ A[i].e.n = A[j].e.n) := by
  have := keys_ne h1 h2
  rw [← hA.keys] at this
  have := List.pairwise_iff_getElem.1 this i j (by simp; omega) (by simpa using hj) hij
  simpa [keyNe, Wr.k] using this
end Go.Am

/- W24 -/
namespace Go.Am
open Go.Proofs Go.Sort

/-- What a turn of the law needs of its tables. -/
structure TOn (l : List En) : Prop where
  ens : ensR l = true
  ok : ∀ e ∈ l, e.ok
  len : l.length ≤ 30
theorem tOn_entF (rs : List Raw) : TOn (entF rs) := ⟨ensR_entF rs, entF_ok, entF_len rs⟩
theorem TOn.small {l : List En} (h : TOn l) : Small l := by have := h.len; unfold Small; omega
theorem step_len (A : List Wr) : ∀ (t : List En), (A.foldl stepT t).length ≤ t.length + A.length := by
  induction A with
  | nil => intro t; simp
  | cons w A ih =>
    intro t
    have h1 := ih (stepT t w)
    have h2 : (stepT t w).length ≤ t.length + 1 := doF_len t w.cut w.e
    simp only [List.foldl_cons, List.length_cons]
    omega

theorem c4 (l m : List Raw) (hl : Small l) (hm : Small m) (hlo : ∀ r ∈ l, r.ok) (hmo : ∀ r ∈ m, r.ok) :
    Pur Try.prog 4 [.sl 3 (l.map Raw.cells), .sl 3 (m.map Raw.cells)] (.bool true) := by
  refine pur_of Tst.F4 (by simp [Tst.F4, Fn.mk']) fun σ => ?_
  simp only [Tst.F4, Fn.mk', Tst.b4]
  simp only [↓vcPre, ↓wit_get, ↓reduceIte, vcPost, vcStd, Nat.reduceEqDiff, reduceCtorEq, Nat.reduceAdd, Nat.reduceLeDiff, Int.reduceLT, Int.reduceLE, ↓u_setN]
  refine (c10 l hl hlo).Q ?_
  simp only [↓vcPre, ↓wit_get, ↓reduceIte, vcPost, vcStd, Nat.reduceEqDiff, reduceCtorEq, Nat.reduceAdd, Nat.reduceLeDiff, Int.reduceLT, Int.reduceLE, ↓u_setN]
  refine (c10 m hm hmo).Q ?_
  simp only [↓vcPre, ↓wit_get, ↓reduceIte, vcPost, vcStd, Nat.reduceEqDiff, reduceCtorEq, Nat.reduceAdd, Nat.reduceLeDiff, Int.reduceLT, Int.reduceLE, ↓u_setN]
  refine LoopQ.inv (S := Nat × List En × List En) (fun q => [(5, .sl 3 (q.2.1.map En.c)), (6, .sl 3 (q.2.2.map En.c)), (7, .int .i64 (q.1 : Int))]) (fun _ => σ)
    (fun q => q.1 ≤ 2 ∧ TOn q.2.1 ∧ TOn q.2.2) (fun q => 3 - q.1) (0, entF l, entF m) rfl (Store.sub_refl _) ⟨by simp only; omega, tOn_entF l, tOn_entF m⟩ ?_
  rintro ⟨n, x, y⟩ ⟨hn, hx, hy⟩
  simp only at hn hx hy
  simp only [↓vcPre, ↓wit_get, ↓reduceIte, vcPost, vcStd, Nat.reduceEqDiff, reduceCtorEq, Nat.reduceAdd, Nat.reduceLeDiff, Int.reduceLT, Int.reduceLE, ↓u_setN]
  refine ⟨fun c0 => ?_, fun c0 => ?_⟩
  · refine (s13r x y hx.ens hy.ens hx.ok hy.ok hx.small hy.small σ).Q ?_
    rintro r s ⟨rfl, A, rfl, hA⟩
    simp only [↓vcPre, ↓wit_get, ↓reduceIte, vcPost, vcStd, Nat.reduceEqDiff, reduceCtorEq, Nat.reduceAdd, Nat.reduceLeDiff, Int.reduceLT, Int.reduceLE, ↓u_setN]
    have hAl := plan_short hx.ens hy.ens hA
    have hxl := hx.len
    have hyl := hy.len
    have ew : IntKind.i64.wrap ((x.length : Int) + y.length) = (x.length : Int) + y.length := wrap64 (by unfold I64; omega)
    rw [ew]
    refine ⟨fun g => by exfalso; omega, fun g => ?_⟩
    refine LoopQ.inv (S := Nat) (fun i => [(5, .sl 3 (x.map En.c)), (6, .sl 3 (y.map En.c)), (7, .int .i64 (n : Int)), (8, .sl 4 (A.map Wr.c)), (10, .sl 3 (((A.take i).foldl stepT x).map En.c)), (11, .int .i64 (i : Int))]) (fun _ => s)
      (fun i => i ≤ A.length) (fun i => A.length + 1 - i) 0 rfl (Store.sub_refl _) (by omega) ?_
    intro i hi
    simp only [↓vcPre, ↓wit_get, ↓reduceIte, vcPost, vcStd, Nat.reduceEqDiff, reduceCtorEq, Nat.reduceAdd, Nat.reduceLeDiff, Int.reduceLT, Int.reduceLE, ↓u_setN]
    have ei : IntKind.i64.wrap ((i : Int) + 1) = ((i + 1 : Nat) : Int) := by rw [wrap64 (by unfold I64; omega)]; omega
    refine ⟨fun c1 => ?_, fun c1 => ?_⟩
    · refine LoopQ.inv (S := Nat) (fun k => [(5, .sl 3 (x.map En.c)), (6, .sl 3 (y.map En.c)), (7, .int .i64 (n : Int)), (8, .sl 4 (A.map Wr.c)), (10, .sl 3 (((A.take i).foldl stepT x).map En.c)), (11, .int .i64 (i : Int)), (12, .int .i64 (k : Int))]) (fun _ => s)
        (fun k => k ≤ i) (fun k => i + 1 - k) 0 rfl (Store.sub_refl _) (by omega) ?_
      intro k hk
      simp only [↓vcPre, ↓wit_get, ↓reduceIte, vcPost, vcStd, Nat.reduceEqDiff, reduceCtorEq, Nat.reduceAdd, Nat.reduceLeDiff, Int.reduceLT, Int.reduceLE, ↓u_setN]
      have ek : IntKind.i64.wrap ((k : Int) + 1) = ((k + 1 : Nat) : Int) := by rw [wrap64 (by unfold I64; omega)]; omega
      refine ⟨fun c2 => ?_, fun c2 => ?_⟩
      · have hne := plan_ne hx.ens hy.ens hA c2 c1
        refine ⟨by omega, c1, by simp [Wr.c, En.c], by simp [Wr.c, En.c], ?_⟩
        simp only [Wr.c, En.c, ↓vcPre, ↓wit_get, ↓reduceIte, vcPost, vcStd, Nat.reduceEqDiff, reduceCtorEq, Nat.reduceAdd, Nat.reduceLeDiff, Int.reduceLT, Int.reduceLE, ↓u_setN]
        refine ⟨fun g1 g2 => absurd ⟨g1, g2⟩ hne, fun g1 => ?_⟩
        rw [ek]
        exact NextQ.to (k + 1) rfl (Store.sub_refl _) (by omega) (by omega)
      · refine ⟨c1, by simp [Wr.c, En.c], ?_⟩
        simp only [Wr.c, En.c, ↓vcPre, ↓wit_get, ↓reduceIte, vcPost, vcStd, Nat.reduceEqDiff, reduceCtorEq, Nat.reduceAdd, Nat.reduceLeDiff, Int.reduceLT, Int.reduceLE, ↓u_setN]
        have hlen : ((A.take i).foldl stepT x).length < 1000000 := by
          have := step_len (A.take i) x
          rw [List.length_take] at this
          omega
        have hpl : (A.take (i + 1)).foldl stepT x = doF ((A.take i).foldl stepT x) A[i].cut A[i].e := foldl_take_succ stepT x c1
        have hcall := c14 ((A.take i).foldl stepT x) A[i].cut A[i].e hlen
        have hcut := plan_cut hx.ens hy.ens hA (List.getElem_mem c1)
        cases hc : A[i].cut with
        | true =>
          have h0 := hcut hc
          simp only [h0, ↓vcPre, ↓wit_get, ↓reduceIte, vcPost, vcStd, Nat.reduceEqDiff, reduceCtorEq, Nat.reduceAdd, Nat.reduceLeDiff, Int.reduceLT, Int.reduceLE, ↓u_setN]
          refine ⟨c1, fun g => by simp at g, fun g => ⟨c1, c1, hcall.q' ?_⟩⟩
          simp only [↓vcPre, ↓wit_get, ↓reduceIte, vcPost, vcStd, Nat.reduceEqDiff, reduceCtorEq, Nat.reduceAdd, Nat.reduceLeDiff, Int.reduceLT, Int.reduceLE, ↓u_setN]
          rw [ei, ← hpl]
          exact NextQ.to (i + 1) rfl (Store.sub_refl _) (by omega) (by omega)
        | false =>
          simp only [↓vcPre, ↓wit_get, ↓reduceIte, vcPost, vcStd, Nat.reduceEqDiff, reduceCtorEq, Nat.reduceAdd, Nat.reduceLeDiff, Int.reduceLT, Int.reduceLE, ↓u_setN]
          refine ⟨c1, c1, hcall.q' ?_⟩
          simp only [↓vcPre, ↓wit_get, ↓reduceIte, vcPost, vcStd, Nat.reduceEqDiff, reduceCtorEq, Nat.reduceAdd, Nat.reduceLeDiff, Int.reduceLT, Int.reduceLE, ↓u_setN]
          rw [ei, ← hpl]
          exact NextQ.to (i + 1) rfl (Store.sub_refl _) (by omega) (by omega)
    · have hAi : A.take i = A := List.take_of_length_le (by omega)
      rw [hAi]
      have hpe := play_end hx.ens hy.ens hA
      have hsm : Small (A.foldl stepT x) := by
        have := step_len A x
        unfold Small; omega
      have hok : ∀ e ∈ A.foldl stepT x, e.ok := fun e he => by
        have h1 : entK e ∈ y.map entK := by rw [← hpe]; exact List.mem_map_of_mem he
        obtain ⟨f, hf, hfe⟩ := List.mem_map.1 h1
        have := hy.ok f hf
        have h2 : f.h.getD [] = e.h.getD [] := congrArg (fun z : Int × Int × HL => z.2.2) hfe
        unfold En.ok at this ⊢
        rw [← h2]; exact this
      refine (c15 _ _ hsm hok).Q ?_
      rw [decide_eq_true hpe]
      simp only [↓vcPre, ↓wit_get, ↓reduceIte, vcPost, vcStd, Nat.reduceEqDiff, reduceCtorEq, Nat.reduceAdd, Nat.reduceLeDiff, Int.reduceLT, Int.reduceLE, ↓u_setN]
      have en : IntKind.i64.wrap ((n : Int) + 1) = ((n + 1 : Nat) : Int) := by rw [wrap64 (by unfold I64; omega)]; omega
      rw [en]
      exact NextQ.to (n + 1, y, x) rfl (Store.sub_refl _) (by simp only; omega) ⟨by simp only; omega, hy, hx⟩
  · refine k12.Q ?_
    simp only [↓vcPre, ↓wit_get, ↓reduceIte, vcPost, vcStd, Nat.reduceEqDiff, reduceCtorEq, Nat.reduceAdd, Nat.reduceLeDiff, Int.reduceLT, Int.reduceLE, ↓u_setN]
end Go.Am

/- L26b -/
namespace Go.Am
open Go.Proofs
theorem law4 (l : List Raw) (hl : Small l) (hlo : ∀ r ∈ l, r.ok) (m : List Raw) (hm : Small m) (hmo : ∀ r ∈ m, r.ok) :
    Pur Try.prog 4 [.sl 3 (l.map Raw.cells), .sl 3 (m.map Raw.cells)] (.bool true) := c4 l m hl hm hlo hmo
end Go.Am
