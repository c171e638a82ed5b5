/- A part of the proof: a logic for calls over plain values, and a runner that is shown to be right. -/
import Derived.Test.YtmahfnljcfaicaaAm5
namespace Go.Am
set_option linter.unusedVariables false
set_option linter.unusedSimpArgs false
section
variable {P : Program} {w : World} {G : Gh} {ev : Operand → Value} {oev : Opd → Option AV}

theorem sliceBound_run {k : IntKind} {i : Int} {y : Nat} {code : BoundsCode} (h0 : 0 ≤ i) (h1 : i ≤ (y : Int)) : (Instr.sliceBound (.int k i) y code).run P w = .ok i.toNat w := by
  unfold Instr.sliceBound
  simp [asIntOf_run, h0, h1]

/-- 'x[l:h]', the bounds within the length. -/
theorem sliceAt_run {t e : TypeId} {sz : Nat} (ht : P.underlying t = some (.slice e)) (hs : tsz P e = some sz) {a : Option Addr} {n c : Nat} (hn : n ≤ c)
    {lo hi : Option Value} {l h : Int} (hlo : (lo = none ∧ l = 0) ∨ ∃ k, lo = some (.int k l)) (hhi : (hi = none ∧ h = n) ∨ ∃ k, hi = some (.int k h))
    (h0 : 0 ≤ l) (h1 : l ≤ h) (h2 : h ≤ (n : Int)) :
    (Instr.sliceAt t (.slice a n c) lo hi none).run P w = .ok (.slice (if c = l.toNat then a else a.map (·.add (l.toNat * sz))) (h.toNat - l.toNat) (c - l.toNat)) w := by
  have hb : (Instr.sliceBounds true n c lo hi none).run P w = .ok (l.toNat, h.toNat, c) w := by
    unfold Instr.sliceBounds
    rcases hlo with ⟨rfl, rfl⟩ | ⟨k, rfl⟩ <;> rcases hhi with ⟨rfl, rfl⟩ | ⟨k', rfl⟩
    · simp
    · simp [sliceBound_run (P := P) (w := w) (k := k') (i := h) (y := c) (by omega) (by omega)]
    · simp [sliceBound_run (P := P) (w := w) (k := k) (i := l) (y := n) h0 h1]
    · simp [sliceBound_run (P := P) (w := w) (k := k') (i := h) (y := c) (by omega) (by omega), sliceBound_run (P := P) (w := w) (k := k) (i := l) (y := h.toNat) h0 (by omega)]
  unfold Instr.sliceAt Instr.slice
  simp [rUnderlying ht, hb, rSizeOf hs]

theorem slice_rel {sz : Nat} {x a : AV} {v : Value} {l : Int} {h : Option Int} (hx : VRel G w x v) (hp : pSlice sz x l h = some a) :
    ∃ (b : Option Addr) (n c : Nat), v = .slice b n c ∧ n ≤ c ∧ 0 ≤ l ∧ l ≤ h.getD n ∧ h.getD n ≤ (n : Int) ∧
      VRel G w a (.slice (if c = l.toNat then b else b.map (·.add (l.toNat * sz))) ((h.getD n).toNat - l.toNat) (c - l.toNat)) := by
  unfold pSlice at hp
  split at hp
  · rename_i esz' es
    simp only at hp
    split at hp
    · rename_i hc
      obtain ⟨rfl, h0, h1, h2⟩ := hc
      cases hp
      by_cases hne : es = []
      · subst hne
        obtain ⟨b, c, hv, hle⟩ := hx.of_sl_len
        refine ⟨b, _, c, hv, hle, h0, h1, h2, ?_⟩
        have e : (List.drop l.toNat (List.take (h.getD ((([] : List (List AV)).length : Nat) : Int)).toNat [])) = ([] : List (List AV)) := by simp
        rw [e]
        simp at h1 h2
        have : (h.getD ((([] : List (List AV)).length : Nat) : Int)).toNat - l.toNat = 0 := by simp; omega
        rw [this]
        exact .sl0
      · obtain ⟨b, off, c, vs, hv, hI, hcap, hl, hf, hcell, hr⟩ := hx.of_sl hne
        refine ⟨_, _, c, hv, hcap, h0, h1, h2, ?_⟩
        generalize hh : h.getD (es.length : Int) = H at *
        have hlen : ((es.take H.toNat).drop l.toNat).length = H.toNat - l.toNat := by simp; omega
        by_cases he : ((es.take H.toNat).drop l.toNat) = []
        · rw [he] at hlen ⊢
          simp at hlen
          rw [show H.toNat - l.toNat = 0 by omega]
          exact .sl0
        · have hne' : c ≠ l.toNat := by
            intro e; apply he; apply List.eq_nil_of_length_eq_zero; rw [hlen]; omega
          rw [if_neg hne', Option.map_some, add_mk, ← hlen]
          refine .sl (fun i j => vs (l.toNat + i) j) hI he (by rw [hlen]; omega) (fun cs hcs => hl cs (List.mem_of_mem_take (List.mem_of_mem_drop hcs)))
            (fun cs hcs => hf cs (List.mem_of_mem_take (List.mem_of_mem_drop hcs))) (fun i j hi hj => ?_) (fun i j hi hj => ?_)
          · rw [hlen] at hi
            have := hcell (l.toNat + i) j (by omega) hj
            rw [Nat.add_mul] at this
            rw [← this]; congr 2; omega
          · have hi' := hi
            rw [hlen] at hi'
            have e : ((es.take H.toNat).drop l.toNat)[i]'hi = es[l.toNat + i]'(by omega) := by simp
            have := hr (l.toNat + i) j (by omega) (by rw [← e]; exact hj)
            simp only [e]; exact this
    · cases hp
  · rename_i id esz' off len
    simp only at hp
    split at hp
    · rename_i hc
      obtain ⟨rfl, h0, h1, h2⟩ := hc
      cases hp
      obtain ⟨b, base, hb, ⟨c, hv, hlen, ty, n, hsh, hroom⟩ | ⟨rfl, z, hv⟩⟩ := hx.of_os
      · refine ⟨_, _, c, hv, hlen, h0, h1, h2, ?_⟩
        generalize hh : h.getD (len : Int) = H at *
        by_cases he : c = l.toNat
        · rw [if_pos he, show H.toNat - l.toNat = 0 by omega, show c - l.toNat = 0 by omega]
          exact .os0 hb
        · rw [if_neg he, Option.map_some, add_mk, show base + off * esz' + l.toNat * esz' = base + (off + l.toNat) * esz' by rw [Nat.add_mul]; omega]
          refine .os hb (by omega) ⟨ty, n, hsh, ?_⟩
          rw [show off + l.toNat + (c - l.toNat) = off + c by omega]; exact hroom
      · refine ⟨_, _, _, hv, Nat.le_refl _, h0, h1, h2, ?_⟩
        simp at h1 h2
        have e1 : l.toNat = 0 := by omega
        have e2 : (h.getD ((0 : Nat) : Int)).toNat = 0 := by simp; omega
        simp only [e1, e2, if_true, Nat.sub_self]
        exact .os0 hb
    · cases hp
  · simp only at hp
    split at hp
    · rename_i hc
      obtain ⟨h0, h1, h2⟩ := hc
      cases hp
      refine ⟨_, _, _, hx.of_nils, Nat.le_refl _, h0, h1, h2, ?_⟩
      have e1 : l.toNat = 0 := by omega
      have e2 : (h.getD ((0 : Nat) : Int)).toNat = 0 := by simp; omega
      simp only [e1, e2, if_true, Nat.sub_self]
      exact .nils
    · cases hp
  · cases hp

theorem has_slice {t e : TypeId} {sz : Nat} {x : Operand} {lo hi : Option Operand} {X : Opd} {xs : List Opd} {as : List AV} {a : AV} {pk : PK} (H : OpdOk G w ev oev)
    (ht : P.underlying t = some (.slice e)) (hs : tsz P e = some sz) (hX : compOpd x = some X)
    (hc : (lo = none ∧ hi = none ∧ xs = [X] ∧ pk = .slice sz false false) ∨
      (∃ l L, lo = some l ∧ hi = none ∧ compOpd l = some L ∧ xs = [X, L] ∧ pk = .slice sz true false) ∨
      (∃ h U, lo = none ∧ hi = some h ∧ compOpd h = some U ∧ xs = [X, U] ∧ pk = .slice sz false true) ∨
      (∃ l L h U, lo = some l ∧ hi = some h ∧ compOpd l = some L ∧ compOpd h = some U ∧ xs = [X, L, U] ∧ pk = .slice sz true true))
    (has : xs.mapM oev = some as) (hp : pv pk as = some a) : Has P G ev (.slice t x lo hi none) w a := by
  rcases hc with ⟨rfl, rfl, rfl, rfl⟩ | ⟨l, L, rfl, rfl, hL, rfl, rfl⟩ | ⟨h, U, rfl, rfl, hU, rfl, rfl⟩ | ⟨l, L, h, U, rfl, rfl, hL, hU, rfl, rfl⟩
  · obtain ⟨p, h1, rfl⟩ := mapM1 has
    obtain ⟨b, n, c, hv, hnc, h0, h2, h3, hr⟩ := slice_rel (H x X p hX h1) hp
    refine ⟨_, gives_of (s := Instr.sliceAt t (ev x) none none none) (fun _ _ _ _ _ => rfl) (by rw [hv]; exact sliceAt_run ht hs hnc (.inl ⟨rfl, rfl⟩) (.inl ⟨rfl, rfl⟩) h0 h2 h3), hr⟩
  · obtain ⟨p, q, h1, h1', rfl⟩ := mapM2 has
    have hl := H l L q hL h1'
    cases q <;> simp only [pv, reduceCtorEq] at hp
    obtain ⟨b, n, c, hv, hnc, h0, h2, h3, hr⟩ := slice_rel (H x X p hX h1) hp
    refine ⟨_, gives_of (s := Instr.sliceAt t (ev x) (some (ev l)) none none) (fun _ _ _ _ _ => rfl) (by rw [hv, hl.of_int]; exact sliceAt_run ht hs hnc (.inr ⟨_, rfl⟩) (.inl ⟨rfl, rfl⟩) h0 h2 h3), hr⟩
  · obtain ⟨p, q, h1, h1', rfl⟩ := mapM2 has
    have hl := H h U q hU h1'
    cases q <;> simp only [pv, reduceCtorEq] at hp
    obtain ⟨b, n, c, hv, hnc, h0, h2, h3, hr⟩ := slice_rel (H x X p hX h1) hp
    refine ⟨_, gives_of (s := Instr.sliceAt t (ev x) none (some (ev h)) none) (fun _ _ _ _ _ => rfl) (by rw [hv, hl.of_int]; exact sliceAt_run ht hs hnc (.inl ⟨rfl, rfl⟩) (.inr ⟨_, rfl⟩) h0 h2 h3), hr⟩
  · obtain ⟨p, q, r, h1, h1', h1'', rfl⟩ := mapM3 has
    have hl := H l L q hL h1'
    have hu := H h U r hU h1''
    cases q <;> simp only [pv, reduceCtorEq] at hp
    cases r <;> simp only [pv, reduceCtorEq] at hp
    obtain ⟨b, n, c, hv, hnc, h0, h2, h3, hr⟩ := slice_rel (H x X p hX h1) hp
    refine ⟨_, gives_of (s := Instr.sliceAt t (ev x) (some (ev l)) (some (ev h)) none) (fun _ _ _ _ _ => rfl) (by rw [hv, hl.of_int, hu.of_int]; exact sliceAt_run ht hs hnc (.inr ⟨_, rfl⟩) (.inr ⟨_, rfl⟩) h0 h2 h3), hr⟩

end
end Go.Am
