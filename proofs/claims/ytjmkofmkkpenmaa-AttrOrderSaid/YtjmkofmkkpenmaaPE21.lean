/- A part of the proof: a logic for calls over plain values, and the functions that the law reaches, each walked once. -/
import Derived.Test.YtjmkofmkkpenmaaPE20
set_option linter.unusedVariables false
set_option linter.unusedSimpArgs false
set_option linter.unusedSectionVars false

/- U1 -/
namespace Go.Am

def I64 (n : Int) : Prop := -9223372036854775808 ≤ n ∧ n ≤ 9223372036854775807
theorem wrap64 {n : Int} (h : I64 n) : IntKind.i64.wrap n = n := by
  unfold I64 at h; simp [IntKind.wrap, IntKind.bits, IntKind.signed]; omega
def cmpI (x y : Int) : Int := if x < y then -1 else if y < x then 1 else 0
theorem app_os {esz bytes id0 off len : Nat} {y : AV} {xs ys : List (List AV)} {σ : Store} {K : AV → Store → Prop} (hx : slc σ esz (.os id0 esz off len) = some xs) (hy : slc σ esz y = some ys)
    (hroom : (xs.length + ys.length) * bytes ≤ 140737488355328) (h : ∀ id, σ id = none → K (.os id esz 0 (xs.length + ys.length)) ((σ.del id0).set id (.arr esz (xs ++ ys)))) : appwp esz bytes (.os id0 esz off len) y σ K := by
  unfold appwp
  rw [hx, hy]
  exact ⟨hroom, h⟩
theorem app_nil {esz bytes : Nat} {y : AV} {ys : List (List AV)} {σ : Store} {K : AV → Store → Prop} (hy : slc σ esz y = some ys)
    (hroom : ys.length * bytes ≤ 140737488355328) (h0 : ys = [] → K .nils σ) (h : ys ≠ [] → ∀ id, σ id = none → K (.os id esz 0 ys.length) (σ.set id (.arr esz ys))) : appwp esz bytes .nils y σ K := by
  unfold appwp
  rw [hy, show slc σ esz .nils = some [] from rfl]
  exact ⟨by simpa using hroom, h0, h⟩
theorem slc_sl {esz : Nat} {es : List (List AV)} {σ : Store} : slc σ esz (.sl esz es) = some es := by simp [slc]
theorem slc_os0 {esz id n : Nat} {es : List (List AV)} {σ : Store} (h : σ id = some (.arr esz es)) (hn : n = es.length) : slc σ esz (.os id esz 0 n) = some es := by
  subst hn
  simp [slc, h]
theorem sub_del_set {σ : Store} {i j : Nat} {o p : Obj} (hi : σ i = none) (hj : ((σ.set i o) j) = none) : Store.sub σ ((((σ.set i o).del i).set j p).del j) := fun x q hx => by
  have h1 : x ≠ i := fun e => by subst e; rw [hi] at hx; cases hx
  have h2 : x ≠ j := fun e => by
    subst e
    rw [Store.set_ne _ _ h1] at hj
    rw [hj] at hx; cases hx
  rw [Store.del_ne _ h2, Store.set_ne _ _ h2, Store.del_ne _ h1, Store.set_ne _ _ h1]; exact hx
theorem cmpI_zero (x y : Int) : cmpI x y = 0 ↔ x = y := by unfold cmpI; split <;> (try split) <;> omega
/-- An end with a pair, the first of which may be read otherwise. -/
theorem EndQ.two {slots : List RS} {Q : AV → Store → Prop} {e : Env} {τ : Store} (v x : AV) (σ : Store) (h1 : e.res τ slots = some (.tup [v, x])) (h : WeakL [v, x] τ (fun l s => Q (.tup l) s)) : @EndQ e τ ⟨slots, Q⟩ :=
  by unfold EndQ; exact ⟨_, h1, Weak.tup h⟩
theorem sub_set2 {s : Store} {b c : Nat} {o p : Obj} (hb : s b = none) (hc : s c = none) (hcb : ¬ c = b) : Store.sub s ((s.set b o).set c p) :=
  Store.sub_trans (Store.sub_set s b o hb) (Store.sub_set _ c p (by rw [Store.set_ne _ _ hcb]; exact hc))
theorem sub_none {σ τ : Store} (h : Store.sub σ τ) {i : Nat} (hi : τ i = none) : σ i = none := by
  cases hc : σ i with
  | none => rfl
  | some o => rw [h _ _ hc] at hi; cases hi
theorem sub_upd' {σ τ : Store} {i : Nat} {o : Obj} (h : Store.sub σ τ) (hi : σ i = none) : Store.sub σ (τ.set i o) := fun j p hj => by
  have : j ≠ i := fun e => by subst e; rw [hi] at hj; cases hj
  rw [Store.set_ne _ _ this]; exact h j p hj
/-- What a function collects, in a slice of its own. -/
def Own (esz : Nat) (τ : Store) (L : List (List AV)) (v : AV) (s : Store) : Prop :=
  (L = [] ∧ v = .nils) ∨ ∃ g, v = .os g esz 0 L.length ∧ τ g = none ∧ s g = some (.arr esz L)
theorem Own.app {esz bytes : Nat} {τ s : Store} {L : List (List AV)} {v wv : AV} {w : List AV} {K : AV → Store → Prop} (hsub : Store.sub τ s) (ho : Own esz τ L v s) (hw : slc s esz wv = some [w]) (hsz : (L.length + 1) * bytes ≤ 140737488355328)
    (h : ∀ v' s', Store.sub τ s' → Own esz τ (L ++ [w]) v' s' → K v' s') : appwp esz bytes v wv s K := by
  rcases ho with ⟨rfl, rfl⟩ | ⟨g, rfl, hg, hs⟩
  · refine app_nil hw (by simpa using hsz) (fun h0 => by cases h0) (fun _ j hj => ?_)
    refine h _ _ (sub_upd' hsub (sub_none hsub hj)) (.inr ⟨j, rfl, sub_none hsub hj, Store.set_same _ _ _⟩)
  · refine app_os (slc_os0 hs rfl) hw (by simpa using hsz) fun j hj => ?_
    have hτ : τ j = none := sub_none hsub hj
    refine h _ _ (fun x q hx => ?_) (.inr ⟨j, by simp, hτ, by rw [Store.set_same]⟩)
    have hxj : x ≠ j := fun e => by subst e; rw [hτ] at hx; cases hx
    have hxg : x ≠ g := fun e => by subst e; rw [hg] at hx; cases hx
    rw [Store.set_ne _ _ hxj, Store.del_ne _ hxg]; exact hsub x q hx
theorem Own.mono {esz : Nat} {τ s s' : Store} {L : List (List AV)} {v : AV} (h : Own esz τ L v s) (hs : Store.sub s s') : Own esz τ L v s' := by
  rcases h with h | ⟨g, h1, h2, h3⟩
  · exact .inl h
  · exact .inr ⟨g, h1, h2, hs _ _ h3⟩
theorem Own.nil {esz : Nat} {τ s : Store} : Own esz τ [] .nils s := .inl ⟨rfl, rfl⟩
theorem EndQ.nil1 {slots : List RS} {Q : AV → Store → Prop} {e : Env} {τ : Store} (esz : Nat) (σ : Store) (h1 : e.res τ slots = some .nils) (h2 : Store.sub σ τ) (h3 : Q (.sl esz []) σ) : @EndQ e τ ⟨slots, Q⟩ := by
  unfold EndQ
  exact ⟨_, h1, Weak.of_one (WeakL.nil 0 esz rfl (WeakL.forget h2 (WeakL.pure ⟨_, rfl, h3⟩)))⟩
theorem EndQ.own {esz : Nat} {slots : List RS} {Q : AV → Store → Prop} {e : Env} {σ τ : Store} {L : List (List AV)} {v : AV} (h1 : e.res τ slots = some v) (ho : Own esz σ L v τ) (hs : Store.sub σ τ) (h4 : Q (.sl esz L) σ) : @EndQ e τ ⟨slots, Q⟩ := by
  rcases ho with ⟨rfl, rfl⟩ | ⟨g, rfl, hg, hh⟩
  · exact EndQ.nil1 esz σ h1 hs h4
  · refine EndQ.frz g esz 0 L.length L σ h1 hh (by omega) (fun i o hi => ?_) (by simpa using h4)
    rw [Store.del_ne _ (fun e => by subst e; rw [hg] at hi; cases hi)]; exact hs i o hi
theorem Own.weak {esz : Nat} {σ τ s : Store} {L : List (List AV)} {v : AV} (h : Own esz τ L v s) (hs : Store.sub σ τ) : Own esz σ L v s := by
  rcases h with h | ⟨g, h1, h2, h3⟩
  · exact .inl h
  · exact .inr ⟨g, h1, sub_none hs h2, h3⟩
theorem WeakL.pos {l : List AV} {σ : Store} {Q : List AV → Store → Prop} (k : Nat) {a : AV} (ha : l[k]? = some a) (h : Weak a σ (fun b s => WeakL (l.set k b) s Q)) : WeakL l σ Q := fun G w vs hs hr => by
  obtain ⟨v, hv, hvr⟩ := hr.get k _ ha
  obtain ⟨G1, b, σ1, e1, s1, r1, h1⟩ := h G w v hs hvr
  obtain ⟨G2, as', σ2, e2, s2, r2, q2⟩ := h1 G1 w vs s1 (Rels.of_get (by simpa using hr.length) fun i hi hi' => by
    by_cases hik : i = k
    · subst hik
      rw [List.getElem?_eq_getElem hi'] at hv; cases hv
      simp; exact r1
    · rw [List.getElem_set_ne (Ne.symm hik)]
      have hi2 : i < l.length := by simpa using hi
      obtain ⟨u, hu, hur⟩ := hr.get i _ (List.getElem?_eq_getElem hi2)
      rw [List.getElem?_eq_getElem hi'] at hu; cases hu
      exact e1.vrel hs hur)
  exact ⟨G2, as', σ2, e1.trans e2, s2, r2, q2⟩
theorem sub_del {σ τ : Store} {i : Nat} (h : Store.sub σ τ) (hi : σ i = none) : Store.sub σ (τ.del i) := fun j p hj => by
  have : j ≠ i := fun e => by subst e; rw [hi] at hj; cases hj
  rw [Store.del_ne _ this]; exact h j p hj
end Go.Am
