/- A part of the proof: a logic for calls over plain values, and the functions that the law reaches, each walked once. -/
import Derived.Test.YtfnoblcmfmdeaaaPA21
import Derived.Laws.Bits64b
import Derived.Sort.AssemblyPlain
set_option linter.unusedVariables false
set_option linter.unusedSimpArgs false
set_option linter.unusedSectionVars false

/- O8 -/
namespace Go.Am
open Go.Proofs Go.Sort
set_option linter.unusedSectionVars false
theorem scanSorted_le (lt : Int → Int → Bool) (d : Array Int) (b i : Nat) (h : i ≤ b) : scanSorted lt d b i ≤ b := by
  fun_induction scanSorted lt d b i <;> simp_all <;> omega
theorem shiftDown_size (lt : Int → Int → Bool) : ∀ j (d : Array Int), (shiftDown lt j d).size = d.size
  | 0, d => rfl
  | j + 1, d => by rw [shiftDown]; split <;> simp [shiftDown_size lt j, swp_size]
theorem shiftUp_size (lt : Int → Int → Bool) (b j : Nat) (d : Array Int) : (shiftUp lt b j d).size = d.size := by
  fun_induction shiftUp lt b j d <;> simp_all [swp_size]
set_option maxRecDepth 20000 in
theorem s143 (hc : LessU) (d : Array Int) (a b : Nat) (hab : a < b) (hb : b ≤ d.size) (hs : d.size < 2305843009213693952) (σ : Store) (id : Nat) :
    ACalls Try.prog 143 [.os id 1 0 d.size, .int .i64 a, .int .i64 b] (σ.set id (arrA 1 cU d)) (fun r s => r = .bool (partialInsertionSort ltU d a b).2 ∧ s = σ.set id (arrA 1 cU (partialInsertionSort ltU d a b).1)) := by
  refine calls_of Tst.F143 (by simp [Tst.F143, Fn.mkX]) ?_
  simp only [Tst.F143, Fn.mkX, Tst.b143]

  simp only [cU, s_setU, ↓vcPre, ↓s_get, ↓reduceIte, vcPost, vcStd, Store.set_set, s_arr, s_setL, s_fold, swp_size, Nat.le_refl, Nat.zero_add, Array.size_setIfInBounds, Nat.reduceEqDiff, reduceCtorEq, Nat.reduceAdd, Nat.reduceLeDiff, Int.reduceLT, Int.reduceLE, ↓u_setN]
  have e1 : IntKind.i64.wrap ((a : Int) + 1) = ((a + 1 : Nat) : Int) := wI (by omega) (by omega)
  rw [e1]
  refine LoopQ.inv (S := Nat × Nat × Array Int) (fun s => [(0, .os id 1 0 d.size), (1, .int .i64 a), (2, .int .i64 b), (7, .int .i64 s.2.1), (8, .int .i64 (5 - (s.1 : Int)))]) (fun s => σ.set id (arrA 1 cU s.2.2))
    (fun s => s.1 ≤ 5 ∧ a < s.2.1 ∧ s.2.1 ≤ b ∧ s.2.2.size = d.size ∧ partialIns ltU a b s.1 s.2.1 s.2.2 = partialInsertionSort ltU d a b) (fun s => s.1) (5, a + 1, d) rfl (Store.sub_refl _)
    ⟨by simp, by simp only; omega, by simp only; omega, rfl, rfl⟩ ?_
  rintro ⟨k, i, d1⟩ ⟨h1, h2, h3, h4, h5⟩
  simp only at h1 h2 h3 h4 h5
  simp only [cU, s_setU, h4, ↓vcPre, ↓s_get, ↓reduceIte, vcPost, vcStd, Store.set_set, s_arr, s_setL, s_fold, swp_size, Nat.le_refl, Nat.zero_add, Array.size_setIfInBounds, Nat.reduceEqDiff, reduceCtorEq, Nat.reduceAdd, Nat.reduceLeDiff, Int.reduceLT, Int.reduceLE, ↓u_setN]
  refine ⟨fun a1 => ?_, fun a1 => ?_⟩
  · obtain ⟨m, rfl⟩ : ∃ m, k = m + 1 := ⟨k - 1, by omega⟩
    rw [partialIns] at h5
    simp only at h5
    refine LoopQ.inv (S := Nat) (fun s => [(0, .os id 1 0 d.size), (1, .int .i64 a), (2, .int .i64 b), (7, .int .i64 s), (8, .int .i64 (5 - ((m + 1 : Nat) : Int)))]) (fun s => σ.set id (arrA 1 cU d1))
      (fun s => i ≤ s ∧ s ≤ b ∧ scanSorted ltU d1 b s = scanSorted ltU d1 b i) (fun s => d.size + 1 - s) i rfl (Store.sub_refl _) ⟨Nat.le_refl _, h3, rfl⟩ ?_
    rintro i2 ⟨g1, g2, g3⟩
    have e2 : IntKind.i64.wrap ((i2 : Int) - 1) = ((i2 - 1 : Nat) : Int) := wI (by omega) (by omega)
    have e3 : IntKind.i64.wrap ((i2 : Int) + 1) = ((i2 + 1 : Nat) : Int) := wI (by omega) (by omega)
    have e4 : IntKind.i64.wrap ((b : Int) - a) = ((b - a : Nat) : Int) := wI (by omega) (by omega)
    have e5 : IntKind.i64.wrap ((i2 : Int) - a) = ((i2 - a : Nat) : Int) := wI (by omega) (by omega)
    have e6 : IntKind.i64.wrap ((b : Int) - i2) = ((b - i2 : Nat) : Int) := wI (by omega) (by omega)
    simp only [cU, s_setU, h4, e2, e3, e4, e5, e6, ↓vcPre, ↓s_get, ↓reduceIte, vcPost, vcStd, Store.set_set, s_arr, s_setL, s_fold, swp_size, Nat.le_refl, Nat.zero_add, Array.size_setIfInBounds, Nat.reduceEqDiff, reduceCtorEq, Nat.reduceAdd, Nat.reduceLeDiff, Int.reduceLT, Int.reduceLE, ↓u_setN]
    rw [scanSorted] at g3
    refine ⟨fun a2 => ?_, fun a2 => ?_⟩
    · and_intros <;> try omega
      refine (hc _ _).Q ?_
      simp only [cU, s_setU, h4, e2, e3, e4, e5, e6, ↓vcPre, ↓s_get, ↓reduceIte, vcPost, vcStd, Store.set_set, s_arr, s_setL, s_fold, swp_size, Nat.le_refl, Nat.zero_add, Array.size_setIfInBounds, Nat.reduceEqDiff, reduceCtorEq, Nat.reduceAdd, Nat.reduceLeDiff, Int.reduceLT, Int.reduceLE, ↓u_setN]
      refine ⟨fun a3 => ?_, fun a3 => ?_⟩
      · have hl : ltU d1[i2]! d1[i2 - 1]! = false := decide_eq_false a3
        rw [if_pos (by simp [hl, a2])] at g3
        refine NextQ.to (i2 + 1) ?_ ?_ ?_ ?_
        · rfl
        · exact Store.sub_refl _
        · omega
        · exact ⟨by omega, by omega, g3⟩
      · have hl : ltU d1[i2]! d1[i2 - 1]! = true := decide_eq_true (by omega)
        rw [if_neg (by simp [hl])] at g3
        rw [← g3, if_neg (by omega)] at h5
        refine ⟨fun b1 => (by exfalso; omega), fun b1 => ⟨fun b2 => ?_, fun b2 => ?_⟩⟩
        · rw [if_pos (by omega)] at h5
          exact EndQ.to _ _ rfl (Store.sub_refl _) ⟨by rw [← h5], by rw [← h5]⟩
        · rw [if_neg (by omega)] at h5
          and_intros <;> try omega
          · intro b3
            rw [if_pos (show i2 - a ≥ 2 by omega)] at h5
            refine LoopQ.inv (S := Nat × Array Int) (fun s => [(0, .os id 1 0 d.size), (1, .int .i64 a), (2, .int .i64 b), (7, .int .i64 i2), (8, .int .i64 (5 - ((m + 1 : Nat) : Int))), (9, .int .i64 s.1)]) (fun s => σ.set id (arrA 1 cU s.2))
              (fun s => s.1 ≤ i2 ∧ s.2.size = d.size ∧ shiftDown ltU s.1 s.2 = shiftDown ltU (i2 - 1) (swp d1 i2 (i2 - 1))) (fun s => s.1) (i2 - 1, swp d1 i2 (i2 - 1)) rfl (Store.sub_refl _)
              ⟨by simp only; omega, by simp only [swp_size]; omega, rfl⟩ ?_
            rintro ⟨j, d3⟩ ⟨k1, k2, k3⟩
            simp only at k1 k2 k3
            have f1 : IntKind.i64.wrap ((b : Int) - i2) = ((b - i2 : Nat) : Int) := e6
            rw [← k3] at h5
            simp only [cU, s_setU, k2, e2, e3, e4, e5, e6, ↓vcPre, ↓s_get, ↓reduceIte, vcPost, vcStd, Store.set_set, s_arr, s_setL, s_fold, swp_size, Nat.le_refl, Nat.zero_add, Array.size_setIfInBounds, Nat.reduceEqDiff, reduceCtorEq, Nat.reduceAdd, Nat.reduceLeDiff, Int.reduceLT, Int.reduceLE, ↓u_setN]
            refine ⟨fun b4 => ?_, fun b4 => ?_⟩
            · obtain ⟨j, rfl⟩ : ∃ q, j = q + 1 := ⟨j - 1, by omega⟩
              have f2 : IntKind.i64.wrap (((j + 1 : Nat) : Int) - 1) = (j : Int) := wI (by omega) (by omega)
              simp only [f2, Int.toNat_natCast]
              and_intros <;> try omega
              refine (hc _ _).Q ?_
              simp only [cU, s_setU, k2, e2, e3, e4, e5, e6, f2, ↓vcPre, ↓s_get, ↓reduceIte, vcPost, vcStd, Store.set_set, s_arr, s_setL, s_fold, swp_size, Nat.le_refl, Nat.zero_add, Array.size_setIfInBounds, Nat.reduceEqDiff, reduceCtorEq, Nat.reduceAdd, Nat.reduceLeDiff, Int.reduceLT, Int.reduceLE, ↓u_setN]
              refine ⟨fun b5 => ?_, fun b5 => ?_⟩
              · have hl2 : ltU d3[j + 1]! d3[j]! = false := decide_eq_false b5
                rw [show shiftDown ltU (j + 1) d3 = d3 by rw [shiftDown, if_pos (by simp [hl2])]] at h5
                have f3 : IntKind.i64.wrap (5 - ((m + 1 : Nat) : Int) + 1) = 5 - (m : Int) := by rw [wrap64 (by unfold I64; omega)]; omega
                refine ⟨fun c1 => ?_, fun c1 => ?_⟩
                · rw [if_pos (show b - i2 ≥ 2 by omega)] at h5
                  refine LoopQ.inv (S := Nat × Array Int) (fun s => [(0, .os id 1 0 d.size), (1, .int .i64 a), (2, .int .i64 b), (7, .int .i64 i2), (8, .int .i64 (5 - ((m + 1 : Nat) : Int))), (10, .int .i64 s.1)]) (fun s => σ.set id (arrA 1 cU s.2))
                    (fun s => i2 < s.1 ∧ s.1 ≤ b ∧ s.2.size = d.size ∧ shiftUp ltU b s.1 s.2 = shiftUp ltU b (i2 + 1) d3) (fun s => b + 1 - s.1) (i2 + 1, d3) rfl (Store.sub_refl _)
                    ⟨by simp only; omega, by simp only; omega, k2, rfl⟩ ?_
                  rintro ⟨p, d4⟩ ⟨l1, l2, l3, l4⟩
                  simp only at l1 l2 l3 l4
                  rw [← l4] at h5
                  simp only [cU, s_setU, l3, e2, e3, e4, e5, e6, ↓vcPre, ↓s_get, ↓reduceIte, vcPost, vcStd, Store.set_set, s_arr, s_setL, s_fold, swp_size, Nat.le_refl, Nat.zero_add, Array.size_setIfInBounds, Nat.reduceEqDiff, reduceCtorEq, Nat.reduceAdd, Nat.reduceLeDiff, Int.reduceLT, Int.reduceLE, ↓u_setN]
                  have f4 : IntKind.i64.wrap ((p : Int) - 1) = ((p - 1 : Nat) : Int) := wI (by omega) (by omega)
                  have f5 : IntKind.i64.wrap ((p : Int) + 1) = ((p + 1 : Nat) : Int) := wI (by omega) (by omega)
                  simp only [f3, f4, f5, Int.toNat_natCast]
                  refine ⟨fun c2 => ?_, fun c2 => ?_⟩
                  · and_intros <;> try omega
                    refine (hc _ _).Q ?_
                    simp only [cU, s_setU, l3, e2, e3, e4, e5, e6, f3, f4, f5, ↓vcPre, ↓s_get, ↓reduceIte, vcPost, vcStd, Store.set_set, s_arr, s_setL, s_fold, swp_size, Nat.le_refl, Nat.zero_add, Array.size_setIfInBounds, Nat.reduceEqDiff, reduceCtorEq, Nat.reduceAdd, Nat.reduceLeDiff, Int.reduceLT, Int.reduceLE, ↓u_setN]
                    refine ⟨fun c3 => ?_, fun c3 => ?_⟩
                    · have hl3 : ltU d4[p]! d4[p - 1]! = false := decide_eq_false c3
                      rw [shiftUp, if_pos (by omega), if_pos (by simp [hl3])] at h5
                      refine NextQ.to (m, i2, d4) ?_ ?_ ?_ ?_
                      · rfl
                      · exact Store.sub_refl _
                      · simp
                      · exact ⟨by simp only; omega, by simp only; omega, by simp only; omega, l3, h5⟩
                    · have hl3 : ltU d4[p]! d4[p - 1]! = true := decide_eq_true (by omega)
                      rw [shiftUp, if_pos (by omega), if_neg (by simp [hl3])] at l4
                      and_intros <;> try omega
                      refine NextQ.to (p + 1, swp d4 p (p - 1)) ?_ ?_ ?_ ?_
                      · rfl
                      · exact Store.sub_refl _
                      · simp only; omega
                      · exact ⟨by simp only; omega, by simp only; omega, by simp only [swp_size]; omega, l4⟩
                  · rw [shiftUp, if_neg (by omega)] at h5
                    refine NextQ.to (m, i2, d4) ?_ ?_ ?_ ?_
                    · rfl
                    · exact Store.sub_refl _
                    · simp
                    · exact ⟨by simp only; omega, by simp only; omega, by simp only; omega, l3, h5⟩
                · rw [if_neg (show ¬ b - i2 ≥ 2 by omega)] at h5
                  rw [f3]
                  refine NextQ.to (m, i2, d3) ?_ ?_ ?_ ?_
                  · rfl
                  · exact Store.sub_refl _
                  · simp
                  · exact ⟨by simp only; omega, by simp only; omega, by simp only; omega, k2, h5⟩
              · have hl2 : ltU d3[j + 1]! d3[j]! = true := decide_eq_true (by omega)
                rw [shiftDown, if_neg (by simp [hl2])] at k3
                and_intros <;> try omega
                refine NextQ.to (j, swp d3 (j + 1) j) ?_ ?_ ?_ ?_
                · rfl
                · exact Store.sub_refl _
                · simp
                · exact ⟨by simp only; omega, by simp only [swp_size]; omega, k3⟩
            · have : j = 0 := by omega
              subst this
              rw [shiftDown] at h5
              have f3 : IntKind.i64.wrap (5 - ((m + 1 : Nat) : Int) + 1) = 5 - (m : Int) := by rw [wrap64 (by unfold I64; omega)]; omega
              refine ⟨fun c1 => ?_, fun c1 => ?_⟩
              · rw [if_pos (show b - i2 ≥ 2 by omega)] at h5
                refine LoopQ.inv (S := Nat × Array Int) (fun s => [(0, .os id 1 0 d.size), (1, .int .i64 a), (2, .int .i64 b), (7, .int .i64 i2), (8, .int .i64 (5 - ((m + 1 : Nat) : Int))), (10, .int .i64 s.1)]) (fun s => σ.set id (arrA 1 cU s.2))
                  (fun s => i2 < s.1 ∧ s.1 ≤ b ∧ s.2.size = d.size ∧ shiftUp ltU b s.1 s.2 = shiftUp ltU b (i2 + 1) d3) (fun s => b + 1 - s.1) (i2 + 1, d3) rfl (Store.sub_refl _)
                  ⟨by simp only; omega, by simp only; omega, k2, rfl⟩ ?_
                rintro ⟨p, d4⟩ ⟨l1, l2, l3, l4⟩
                simp only at l1 l2 l3 l4
                rw [← l4] at h5
                simp only [cU, s_setU, l3, e2, e3, e4, e5, e6, ↓vcPre, ↓s_get, ↓reduceIte, vcPost, vcStd, Store.set_set, s_arr, s_setL, s_fold, swp_size, Nat.le_refl, Nat.zero_add, Array.size_setIfInBounds, Nat.reduceEqDiff, reduceCtorEq, Nat.reduceAdd, Nat.reduceLeDiff, Int.reduceLT, Int.reduceLE, ↓u_setN]
                have f4 : IntKind.i64.wrap ((p : Int) - 1) = ((p - 1 : Nat) : Int) := wI (by omega) (by omega)
                have f5 : IntKind.i64.wrap ((p : Int) + 1) = ((p + 1 : Nat) : Int) := wI (by omega) (by omega)
                simp only [f3, f4, f5, Int.toNat_natCast]
                refine ⟨fun c2 => ?_, fun c2 => ?_⟩
                · and_intros <;> try omega
                  refine (hc _ _).Q ?_
                  simp only [cU, s_setU, l3, e2, e3, e4, e5, e6, f3, f4, f5, ↓vcPre, ↓s_get, ↓reduceIte, vcPost, vcStd, Store.set_set, s_arr, s_setL, s_fold, swp_size, Nat.le_refl, Nat.zero_add, Array.size_setIfInBounds, Nat.reduceEqDiff, reduceCtorEq, Nat.reduceAdd, Nat.reduceLeDiff, Int.reduceLT, Int.reduceLE, ↓u_setN]
                  refine ⟨fun c3 => ?_, fun c3 => ?_⟩
                  · have hl3 : ltU d4[p]! d4[p - 1]! = false := decide_eq_false c3
                    rw [shiftUp, if_pos (by omega), if_pos (by simp [hl3])] at h5
                    refine NextQ.to (m, i2, d4) ?_ ?_ ?_ ?_
                    · rfl
                    · exact Store.sub_refl _
                    · simp
                    · exact ⟨by simp only; omega, by simp only; omega, by simp only; omega, l3, h5⟩
                  · have hl3 : ltU d4[p]! d4[p - 1]! = true := decide_eq_true (by omega)
                    rw [shiftUp, if_pos (by omega), if_neg (by simp [hl3])] at l4
                    and_intros <;> try omega
                    refine NextQ.to (p + 1, swp d4 p (p - 1)) ?_ ?_ ?_ ?_
                    · rfl
                    · exact Store.sub_refl _
                    · simp only; omega
                    · exact ⟨by simp only; omega, by simp only; omega, by simp only [swp_size]; omega, l4⟩
                · rw [shiftUp, if_neg (by omega)] at h5
                  refine NextQ.to (m, i2, d4) ?_ ?_ ?_ ?_
                  · rfl
                  · exact Store.sub_refl _
                  · simp
                  · exact ⟨by simp only; omega, by simp only; omega, by simp only; omega, l3, h5⟩
              · rw [if_neg (show ¬ b - i2 ≥ 2 by omega)] at h5
                rw [f3]
                refine NextQ.to (m, i2, d3) ?_ ?_ ?_ ?_
                · rfl
                · exact Store.sub_refl _
                · simp
                · exact ⟨by simp only; omega, by simp only; omega, by simp only; omega, k2, h5⟩
          · intro b3
            rw [if_neg (show ¬ i2 - a ≥ 2 by omega)] at h5
            obtain ⟨d3, hd3⟩ : ∃ x, x = swp d1 i2 (i2 - 1) := ⟨_, rfl⟩
            have k2 : d3.size = d.size := by rw [hd3, swp_size]; exact h4
            rw [show (d1.setIfInBounds i2 d1[i2 - 1]!).setIfInBounds (i2 - 1) d1[i2]! = swp d1 i2 (i2 - 1) from rfl, ← hd3]
            rw [← hd3] at h5
            have f3 : IntKind.i64.wrap (5 - ((m + 1 : Nat) : Int) + 1) = 5 - (m : Int) := by rw [wrap64 (by unfold I64; omega)]; omega
            refine ⟨fun c1 => ?_, fun c1 => ?_⟩
            · rw [if_pos (show b - i2 ≥ 2 by omega)] at h5
              refine LoopQ.inv (S := Nat × Array Int) (fun s => [(0, .os id 1 0 d.size), (1, .int .i64 a), (2, .int .i64 b), (7, .int .i64 i2), (8, .int .i64 (5 - ((m + 1 : Nat) : Int))), (10, .int .i64 s.1)]) (fun s => σ.set id (arrA 1 cU s.2))
                (fun s => i2 < s.1 ∧ s.1 ≤ b ∧ s.2.size = d.size ∧ shiftUp ltU b s.1 s.2 = shiftUp ltU b (i2 + 1) d3) (fun s => b + 1 - s.1) (i2 + 1, d3) rfl (Store.sub_refl _)
                ⟨by simp only; omega, by simp only; omega, k2, rfl⟩ ?_
              rintro ⟨p, d4⟩ ⟨l1, l2, l3, l4⟩
              simp only at l1 l2 l3 l4
              rw [← l4] at h5
              simp only [cU, s_setU, l3, e2, e3, e4, e5, e6, ↓vcPre, ↓s_get, ↓reduceIte, vcPost, vcStd, Store.set_set, s_arr, s_setL, s_fold, swp_size, Nat.le_refl, Nat.zero_add, Array.size_setIfInBounds, Nat.reduceEqDiff, reduceCtorEq, Nat.reduceAdd, Nat.reduceLeDiff, Int.reduceLT, Int.reduceLE, ↓u_setN]
              have f4 : IntKind.i64.wrap ((p : Int) - 1) = ((p - 1 : Nat) : Int) := wI (by omega) (by omega)
              have f5 : IntKind.i64.wrap ((p : Int) + 1) = ((p + 1 : Nat) : Int) := wI (by omega) (by omega)
              simp only [f3, f4, f5, Int.toNat_natCast]
              refine ⟨fun c2 => ?_, fun c2 => ?_⟩
              · and_intros <;> try omega
                refine (hc _ _).Q ?_
                simp only [cU, s_setU, l3, e2, e3, e4, e5, e6, f3, f4, f5, ↓vcPre, ↓s_get, ↓reduceIte, vcPost, vcStd, Store.set_set, s_arr, s_setL, s_fold, swp_size, Nat.le_refl, Nat.zero_add, Array.size_setIfInBounds, Nat.reduceEqDiff, reduceCtorEq, Nat.reduceAdd, Nat.reduceLeDiff, Int.reduceLT, Int.reduceLE, ↓u_setN]
                refine ⟨fun c3 => ?_, fun c3 => ?_⟩
                · have hl3 : ltU d4[p]! d4[p - 1]! = false := decide_eq_false c3
                  rw [shiftUp, if_pos (by omega), if_pos (by simp [hl3])] at h5
                  refine NextQ.to (m, i2, d4) ?_ ?_ ?_ ?_
                  · rfl
                  · exact Store.sub_refl _
                  · simp
                  · exact ⟨by simp only; omega, by simp only; omega, by simp only; omega, l3, h5⟩
                · have hl3 : ltU d4[p]! d4[p - 1]! = true := decide_eq_true (by omega)
                  rw [shiftUp, if_pos (by omega), if_neg (by simp [hl3])] at l4
                  and_intros <;> try omega
                  refine NextQ.to (p + 1, swp d4 p (p - 1)) ?_ ?_ ?_ ?_
                  · rfl
                  · exact Store.sub_refl _
                  · simp only; omega
                  · exact ⟨by simp only; omega, by simp only; omega, by simp only [swp_size]; omega, l4⟩
              · rw [shiftUp, if_neg (by omega)] at h5
                refine NextQ.to (m, i2, d4) ?_ ?_ ?_ ?_
                · rfl
                · exact Store.sub_refl _
                · simp
                · exact ⟨by simp only; omega, by simp only; omega, by simp only; omega, l3, h5⟩
            · rw [if_neg (show ¬ b - i2 ≥ 2 by omega)] at h5
              rw [f3]
              refine NextQ.to (m, i2, d3) ?_ ?_ ?_ ?_
              · rfl
              · exact Store.sub_refl _
              · simp
              · exact ⟨by simp only; omega, by simp only; omega, by simp only; omega, k2, h5⟩
    · rw [if_neg (by simp; omega)] at g3
      rw [← g3, if_pos (by omega)] at h5
      refine ⟨fun b1 => ?_, fun b1 => (by exfalso; omega)⟩
      exact EndQ.to _ _ rfl (Store.sub_refl _) ⟨by rw [← h5], by rw [← h5]⟩
  · have : k = 0 := by omega
    subst this
    rw [partialIns] at h5
    exact EndQ.to _ _ rfl (Store.sub_refl _) ⟨by rw [← h5], by rw [← h5]⟩
end Go.Am

/- O9a -/
namespace Go.Am
open Go.Proofs Go.Sort
set_option linter.unusedSectionVars false
theorem scanUp_le (p : Int → Bool) (d : Array Int) (j : Nat) : ∀ i, scanUp p d j i ≤ max i (j + 1) := by
  intro i
  fun_induction scanUp p d j i
  · rename_i h ih
    simp at h
    omega
  · omega
theorem scanDown_le (p : Int → Bool) (d : Array Int) (i : Nat) : ∀ j, scanDown p d i j ≤ j
  | 0 => by rw [scanDown]; exact Nat.le_refl _
  | j + 1 => by
    rw [scanDown]; split
    · have := scanDown_le p d i j; omega
    · exact Nat.le_refl _
theorem partEqLoop_size (lt : Int → Int → Bool) (a i j : Nat) (d : Array Int) : (partEqLoop lt a i j d).2.size = d.size := by
  fun_induction partEqLoop lt a i j d <;> simp_all [swp_size]
theorem partEqLoop_range (lt : Int → Int → Bool) (a b : Nat) : ∀ (m i j : Nat) (d : Array Int), j + 1 - i < m → a < i → i ≤ b → j < b → a < (partEqLoop lt a i j d).1 ∧ (partEqLoop lt a i j d).1 ≤ b
  | 0, i, j, d, h, _, _, _ => by omega
  | m + 1, i, j, d, h, q1, q2, q3 => by
    have w1 := scanUp_ge (fun x => !lt d[a]! x) d j i
    have w2 := scanUp_le (fun x => !lt d[a]! x) d j i
    rw [partEqLoop]
    generalize scanUp (fun x => !lt d[a]! x) d j i = i2 at *
    have w3 := scanDown_le (fun x => lt d[a]! x) d i2 j
    generalize scanDown (fun x => lt d[a]! x) d i2 j = j2 at *
    split
    · simp only; omega
    · split
      · exact partEqLoop_range lt a b m (i2 + 1) (j2 - 1) _ (by omega) (by omega) (by omega) (by omega)
      · simp only; omega
theorem partitionEqual_range (lt : Int → Int → Bool) (d : Array Int) (a b p : Nat) (h : a < b) : a < (partitionEqual lt d a b p).1 ∧ (partitionEqual lt d a b p).1 ≤ b := by
  unfold partitionEqual
  exact partEqLoop_range lt a b _ (a + 1) (b - 1) _ (Nat.lt_succ_self _) (by omega) (by omega) (by omega)
theorem partitionEqual_size (lt : Int → Int → Bool) (d : Array Int) (a b p : Nat) : (partitionEqual lt d a b p).2.size = d.size := by
  unfold partitionEqual; rw [partEqLoop_size, swp_size]
theorem partialIns_size (lt : Int → Int → Bool) (a b : Nat) : ∀ k i (d : Array Int), (partialIns lt a b k i d).1.size = d.size
  | 0, i, d => rfl
  | k + 1, i, d => by
    rw [partialIns]
    simp only
    split
    · rfl
    · split
      · rfl
      · rw [partialIns_size lt a b k]
        split <;> split <;> simp [shiftUp_size, shiftDown_size, swp_size]
theorem reverseLoop_size (i j : Nat) (d : Array Int) : (reverseLoop i j d).size = d.size := by
  fun_induction reverseLoop i j d <;> simp_all [swp_size]
end Go.Am

/- O9 -/
namespace Go.Am
open Go.Proofs Go.Sort
set_option linter.unusedSectionVars false
section
variable (lt : Int → Int → Bool)
def pdqC (d3 : Array Int) (pivot a b limit : Nat) (wb wp : Bool) : Array Int :=
  if a > 0 && !lt d3[a - 1]! d3[pivot]! then
    (if a < (partitionEqual lt d3 a b pivot).1 ∧ (partitionEqual lt d3 a b pivot).1 ≤ b then pdq lt (partitionEqual lt d3 a b pivot).2 (partitionEqual lt d3 a b pivot).1 b limit wb wp else (partitionEqual lt d3 a b pivot).2)
  else
    (if a ≤ (partition lt d3 a b pivot).1 ∧ (partition lt d3 a b pivot).1 < b then
      (if (partition lt d3 a b pivot).1 - a < b - (partition lt d3 a b pivot).1 then
        pdq lt (pdq lt (partition lt d3 a b pivot).2.2 a (partition lt d3 a b pivot).1 limit true true) ((partition lt d3 a b pivot).1 + 1) b limit (decide ((partition lt d3 a b pivot).1 - a ≥ (b - a) / 8)) (partition lt d3 a b pivot).2.1
      else
        pdq lt (pdq lt (partition lt d3 a b pivot).2.2 ((partition lt d3 a b pivot).1 + 1) b limit true true) a (partition lt d3 a b pivot).1 limit (decide (b - (partition lt d3 a b pivot).1 ≥ (b - a) / 8)) (partition lt d3 a b pivot).2.1)
    else (partition lt d3 a b pivot).2.2)
def pdqB (d2 : Array Int) (pivot : Nat) (hint : Hint) (a b limit : Nat) (wb wp : Bool) : Array Int :=
  if wb && wp && hint = .increasing then
    (if (partialInsertionSort lt d2 a b).2 then (partialInsertionSort lt d2 a b).1 else pdqC lt (partialInsertionSort lt d2 a b).1 pivot a b limit wb wp)
  else pdqC lt d2 pivot a b limit wb wp
def pdqA (d1 : Array Int) (a b limit : Nat) (wb wp : Bool) : Array Int :=
  if (choosePivot lt d1 a b).2 = .decreasing then pdqB lt (reverseRange d1 a b) ((b - 1) - ((choosePivot lt d1 a b).1 - a)) .increasing a b limit wb wp
  else pdqB lt d1 (choosePivot lt d1 a b).1 (choosePivot lt d1 a b).2 a b limit wb wp
theorem pdq_eq (d : Array Int) (a b limit : Nat) (wb wp : Bool) : pdq lt d a b limit wb wp =
    if b - a ≤ 12 then insertionSort lt d a b else if limit = 0 then heapSort lt d a b else
    if wb then pdqA lt d a b limit wb wp else pdqA lt (breakPatterns d a b) a b (limit - 1) wb wp := by
  rw [pdq]
  split
  · rfl
  · split
    · rfl
    · cases wb
      · simp only [Bool.not_false, if_true, Bool.false_eq_true, if_false, pdqA, Bool.false_and]
        split
        · simp only [pdqB, pdqC, Bool.false_and, Bool.false_eq_true, if_false, dite_eq_ite]
        · simp only [pdqB, pdqC, Bool.false_and, Bool.false_eq_true, if_false, dite_eq_ite]
      · simp only [Bool.not_true, Bool.false_eq_true, if_false, if_true, pdqA, Bool.true_and]
        split
        · simp only [pdqB, pdqC, Bool.true_and, dite_eq_ite]
          split <;> simp
        · simp only [pdqB, pdqC, Bool.true_and, dite_eq_ite]
          split <;> simp
theorem pdq_size (hO : SWO lt) : ∀ (m : Nat) (d : Array Int) (a b limit : Nat) (wb wp : Bool), b - a < m → a ≤ b → b ≤ d.size → (pdq lt d a b limit wb wp).size = d.size
  | 0, d, a, b, limit, wb, wp, h, _, _ => by omega
  | m + 1, d, a, b, limit, wb, wp, h, hab, hb => by
    have hC : ∀ (d3 : Array Int) (p l2 : Nat), d3.size = d.size → a ≤ p → p < b → (pdqC lt d3 p a b l2 wb wp).size = d.size := by
      intro d3 p l2 h3 hp1 hp2
      rw [pdqC]
      split
      · split
        · rename_i hr
          rw [pdq_size hO m _ _ _ _ _ _ (by omega) hr.2 (by rw [partitionEqual_size]; omega), partitionEqual_size, h3]
        · rw [partitionEqual_size, h3]
      · obtain ⟨r1, r2, r3, _⟩ := partition_holds lt hO d3 a b p hp1 hp2 (by omega)
        have r4 := r3.1
        generalize partition lt d3 a b p = R at *
        rw [if_pos ⟨r1, r2⟩]
        split
        · rw [pdq_size hO m _ _ _ _ _ _ (by omega) (by omega) (by rw [pdq_size hO m _ _ _ _ _ _ (by omega) (by omega) (by omega)]; omega), pdq_size hO m _ _ _ _ _ _ (by omega) (by omega) (by omega)]; omega
        · rw [pdq_size hO m _ _ _ _ _ _ (by omega) (by omega) (by rw [pdq_size hO m _ _ _ _ _ _ (by omega) (by omega) (by omega)]; omega), pdq_size hO m _ _ _ _ _ _ (by omega) (by omega) (by omega)]; omega
    have hB : ∀ (d2 : Array Int) (p l2 : Nat) (hh : Hint), d2.size = d.size → a ≤ p → p < b → (pdqB lt d2 p hh a b l2 wb wp).size = d.size := by
      intro d2 p l2 hh h2 hp1 hp2
      rw [pdqB]
      split
      · split
        · rw [partialInsertionSort, partialIns_size, h2]
        · exact hC _ _ _ (by rw [partialInsertionSort, partialIns_size, h2]) hp1 hp2
      · exact hC _ _ _ h2 hp1 hp2
    have hA : ∀ (d1 : Array Int) (l2 : Nat), d1.size = d.size → a < b → (pdqA lt d1 a b l2 wb wp).size = d.size := by
      intro d1 l2 h1 hlt
      obtain ⟨p1, p2⟩ := choosePivot_holds lt d1 a b hlt
      rw [pdqA]
      split
      · exact hB _ _ _ _ (by rw [reverseRange, reverseLoop_size, h1]) (by omega) (by omega)
      · exact hB _ _ _ _ h1 p1 p2
    rw [pdq_eq]
    split
    · exact (insertionSort_holds hO d a b hab hb).1.1
    · split
      · exact (heapSort_holds hO d a b hab hb).1.1
      · split
        · exact hA _ _ rfl (by omega)
        · exact hA _ _ (breakPatterns_holds d a b hab hb).1 (by omega)
end
set_option maxHeartbeats 4000000 in
set_option maxRecDepth 20000 in
theorem s129 (hc : LessU) (hO : SWO ltU) (σ : Store) (id : Nat) (n : Nat) (hs : n < 2305843009213693952)
    (h72 : ∀ (d : Array Int) (a b : Nat), d.size = n → a ≤ b → b ≤ n → ACalls Try.prog 140 [.os id 1 0 n, .int .i64 a, .int .i64 b] (σ.set id (arrA 1 cU d)) (fun r s => r = .tup [] ∧ s = σ.set id (arrA 1 cU (breakPatterns d a b)))) :
    ∀ (w : Nat) (d : Array Int) (a b limit : Nat), d.size = n → b - a < w → a ≤ b → b ≤ n → limit < 1000 →
    ACalls Try.prog 129 [.os id 1 0 n, .int .i64 a, .int .i64 b, .int .i64 limit] (σ.set id (arrA 1 cU d)) (fun r s => r = .tup [] ∧ s = σ.set id (arrA 1 cU (pdq ltU d a b limit true true))) := by
  intro w
  induction w with
  | zero => intro d a b limit h1 h2; omega
  | succ w ih =>
  intro d a b limit hd hw hab hb hl
  refine calls_of Tst.F129 (by simp [Tst.F129, Fn.mkX]) ?_
  simp only [Tst.F129, Fn.mkX, Tst.b129]

  simp only [cU, s_setU, ↓vcPre, ↓s_get, ↓reduceIte, vcPost, vcStd, Store.set_set, s_arr, s_setL, s_fold, swp_size, Nat.le_refl, Nat.zero_add, Array.size_setIfInBounds, Nat.reduceEqDiff, reduceCtorEq, Nat.reduceAdd, Nat.reduceLeDiff, Int.reduceLT, Int.reduceLE, ↓u_setN]
  refine LoopQ.inv (S := Nat × Nat × Nat × Bool × Bool × Array Int) (fun s => [(0, .os id 1 0 n), (1, .int .i64 s.1), (2, .int .i64 s.2.1), (3, .int .i64 s.2.2.1), (8, .bool s.2.2.2.1), (9, .bool s.2.2.2.2.1)]) (fun s => σ.set id (arrA 1 cU s.2.2.2.2.2))
    (fun s => s.2.2.2.2.2.size = n ∧ s.1 ≤ s.2.1 ∧ s.2.1 ≤ n ∧ s.2.2.1 < 1000 ∧ s.2.1 - s.1 ≤ b - a ∧ pdq ltU s.2.2.2.2.2 s.1 s.2.1 s.2.2.1 s.2.2.2.1 s.2.2.2.2.1 = pdq ltU d a b limit true true) (fun s => s.2.1 - s.1) (a, b, limit, true, true, d) rfl (Store.sub_refl _)
    ⟨hd, hab, hb, hl, Nat.le_refl _, rfl⟩ ?_
  rintro ⟨a1, b1, lm, wb, wp, d1⟩ ⟨g1, g2, g3, g4, g5, g6⟩
  simp only at g1 g2 g3 g4 g5 g6
  have eL : IntKind.i64.wrap ((b1 : Int) - a1) = ((b1 - a1 : Nat) : Int) := wI (by omega) (by omega)
  simp only [cU, s_setU, g1, eL, ↓vcPre, ↓s_get, ↓reduceIte, vcPost, vcStd, Store.set_set, s_arr, s_setL, s_fold, swp_size, Nat.le_refl, Nat.zero_add, Array.size_setIfInBounds, Nat.reduceEqDiff, reduceCtorEq, Nat.reduceAdd, Nat.reduceLeDiff, Int.reduceLT, Int.reduceLE, ↓u_setN]
  rw [pdq_eq] at g6
  refine ⟨fun q1 => ?_, fun q1 => ⟨fun q2 => ?_, fun q2 => ?_⟩⟩
  · rw [if_pos (by omega)] at g6
    have h := s138 hc d1 a1 b1 g2 (by omega) (by omega) σ id
    rw [g1] at h
    refine h.Q ?_
    rintro r s ⟨rfl, rfl⟩
    simp only [↓vcPre, ↓wit_get, ↓reduceIte, vcPost, vcStd, Nat.reduceEqDiff, reduceCtorEq, Nat.reduceAdd, Nat.reduceLeDiff, Int.reduceLT, Int.reduceLE, ↓u_setN]
    exact EndQ.to _ _ rfl (Store.sub_refl _) ⟨rfl, by rw [g6]⟩
  · rw [if_neg (by omega), if_pos (by omega)] at g6
    have h := s139 hc d1 a1 b1 g2 (by omega) (by omega) σ id
    rw [g1] at h
    refine h.Q ?_
    rintro r s ⟨rfl, rfl⟩
    simp only [↓vcPre, ↓wit_get, ↓reduceIte, vcPost, vcStd, Nat.reduceEqDiff, reduceCtorEq, Nat.reduceAdd, Nat.reduceLeDiff, Int.reduceLT, Int.reduceLE, ↓u_setN]
    exact EndQ.to _ _ rfl (Store.sub_refl _) ⟨rfl, by rw [g6]⟩
  · rw [if_neg (by omega), if_neg (by omega)] at g6
    have e1 : IntKind.i64.wrap ((lm : Int) - 1) = ((lm - 1 : Nat) : Int) := wI (by omega) (by omega)
    cases wb
    · simp only [↓vcPre, ↓wit_get, ↓reduceIte, vcPost, vcStd, Nat.reduceEqDiff, reduceCtorEq, Nat.reduceAdd, Nat.reduceLeDiff, Int.reduceLT, Int.reduceLE, ↓u_setN]
      refine (h72 d1 a1 b1 g1 g2 g3).Q ?_
      rintro r s ⟨rfl, rfl⟩
      simp only [e1, ↓vcPre, ↓wit_get, ↓reduceIte, vcPost, vcStd, Nat.reduceEqDiff, reduceCtorEq, Nat.reduceAdd, Nat.reduceLeDiff, Int.reduceLT, Int.reduceLE, ↓u_setN]
      rw [if_neg (by simp)] at g6
      obtain ⟨d2, hd2⟩ : ∃ x, x = breakPatterns d1 a1 b1 := ⟨_, rfl⟩
      rw [← hd2] at g6 ⊢
      have k1 : d2.size = n := by
        rw [hd2, (breakPatterns_holds d1 a1 b1 g2 (by omega)).1]; exact g1
      have hA := s141 hc d2 a1 b1 (by omega) (by omega) (by omega) σ id
      rw [k1] at hA
      refine hA.Q ?_
      rintro r s ⟨rfl, rfl⟩
      obtain ⟨pv1, pv2⟩ := choosePivot_holds ltU d2 a1 b1 (by omega)
      rw [pdqA] at g6
      clear hA
      generalize choosePivot ltU d2 a1 b1 = R at *
      obtain ⟨p, hh⟩ := R
      simp only at pv1 pv2 g6
      cases hh
      · rw [if_neg (by decide)] at g6
        simp only [cU, s_setU, k1, eL, e1, ↓vcPre, ↓s_get, ↓reduceIte, vcPost, vcStd, Store.set_set, s_arr, s_setL, s_fold, swp_size, Nat.le_refl, Nat.zero_add, Array.size_setIfInBounds, Nat.reduceEqDiff, reduceCtorEq, Nat.reduceAdd, Nat.reduceLeDiff, Int.reduceLT, Int.reduceLE, ↓u_setN]
        refine ⟨fun z => (by exfalso; omega), fun _ => ?_⟩
        obtain ⟨d3, hd3⟩ : ∃ x, x = d2 := ⟨_, rfl⟩
        rw [← hd3] at g6 ⊢
        have k3 : d3.size = n := by rw [hd3]; exact k1
        have pw1 := pv1
        have pw2 := pv2
        rw [pdqB, if_neg (by simp)] at g6
        rw [pdqC] at g6
        refine ⟨fun c1 => ?_, fun c1 => ?_⟩
        · have f1 : IntKind.i64.wrap ((a1 : Int) - 1) = ((a1 - 1 : Nat) : Int) := wI (by omega) (by omega)
          simp only [f1, Int.toNat_natCast]
          and_intros <;> try omega
          refine (hc _ _).Q ?_
          simp only [cU, s_setU, k3, eL, e1, f1, ↓vcPre, ↓s_get, ↓reduceIte, vcPost, vcStd, Store.set_set, s_arr, s_setL, s_fold, swp_size, Nat.le_refl, Nat.zero_add, Array.size_setIfInBounds, Nat.reduceEqDiff, reduceCtorEq, Nat.reduceAdd, Nat.reduceLeDiff, Int.reduceLT, Int.reduceLE, ↓u_setN]
          refine ⟨fun c2 => ?_, fun c2 => ?_⟩
          · have hlt : ltU d3[a1 - 1]! d3[p]! = false := decide_eq_false c2
            rw [if_pos (by simp [hlt]; omega)] at g6
            have h76 := s145 hc d3 a1 b1 p pw1 pw2 (by omega) (by omega) σ id
            rw [k3] at h76
            refine h76.Q ?_
            rintro r s ⟨rfl, rfl⟩
            obtain ⟨r1, r2⟩ := partitionEqual_range ltU d3 a1 b1 p (by omega)
            have r3 := partitionEqual_size ltU d3 a1 b1 p
            clear h76
            generalize partitionEqual ltU d3 a1 b1 p = R at *
            obtain ⟨mid, d4⟩ := R
            simp only at r1 r2 r3 g6
            rw [if_pos ⟨r1, r2⟩] at g6
            simp only [cU, s_setU, k3, eL, e1, f1, ↓vcPre, ↓s_get, ↓reduceIte, vcPost, vcStd, Store.set_set, s_arr, s_setL, s_fold, swp_size, Nat.le_refl, Nat.zero_add, Array.size_setIfInBounds, Nat.reduceEqDiff, reduceCtorEq, Nat.reduceAdd, Nat.reduceLeDiff, Int.reduceLT, Int.reduceLE, ↓u_setN]
            refine NextQ.to (mid, b1, (lm - 1), false, wp, d4) ?_ ?_ ?_ ?_
            · rfl
            · exact Store.sub_refl _
            · simp only; omega
            · exact ⟨by simp only; omega, by simp only; omega, g3, by simp only; omega, by simp only; omega, g6⟩
          · have hlt : ltU d3[a1 - 1]! d3[p]! = true := decide_eq_true (by omega)
            rw [if_neg (by simp [hlt])] at g6
            have hP := s146 hc d3 a1 b1 p pw1 pw2 (by omega) (by omega) σ id
            rw [k3] at hP
            refine hP.Q ?_
            rintro r s ⟨rfl, rfl⟩
            obtain ⟨r1, r2, r3, _⟩ := partition_holds ltU hO d3 a1 b1 p pw1 pw2 (by omega)
            clear hP
            generalize partition ltU d3 a1 b1 p = R at *
            obtain ⟨mid, ap, d4⟩ := R
            simp only at r1 r2 r3 g6
            have k4 : d4.size = n := by rw [r3.1]; exact k3
            rw [if_pos ⟨r1, r2⟩] at g6
            have f2 : IntKind.i64.wrap ((mid : Int) - a1) = ((mid - a1 : Nat) : Int) := wI (by omega) (by omega)
            have f3 : IntKind.i64.wrap ((b1 : Int) - mid) = ((b1 - mid : Nat) : Int) := wI (by omega) (by omega)
            have f4 : IntKind.i64.wrap ((mid : Int) + 1) = ((mid + 1 : Nat) : Int) := wI (by omega) (by omega)
            have f5 : IntKind.i64.wrap (((b1 - a1 : Nat) : Int).tdiv 8) = (((b1 - a1) / 8 : Nat) : Int) := wI (by rw [Int.tdiv_eq_ediv_of_nonneg (by omega)]; omega) (by omega)
            simp only [cU, s_setU, k4, eL, e1, f2, f3, f4, f5, ↓vcPre, ↓s_get, ↓reduceIte, vcPost, vcStd, Store.set_set, s_arr, s_setL, s_fold, swp_size, Nat.le_refl, Nat.zero_add, Array.size_setIfInBounds, Nat.reduceEqDiff, reduceCtorEq, Nat.reduceAdd, Nat.reduceLeDiff, Int.reduceLT, Int.reduceLE, ↓u_setN]
            refine ⟨by omega, fun z => ?_, fun z => ?_⟩
            · rw [if_pos (by omega)] at g6
              have hI := ih d4 a1 mid (lm - 1) k4 (by omega) (by omega) (by omega) (by omega)
              have k5 : (pdq ltU d4 a1 mid (lm - 1) true true).size = n := by rw [pdq_size _ hO _ _ _ _ _ _ _ (Nat.lt_succ_self _) (by omega) (by omega)]; exact k4
              generalize pdq ltU d4 a1 mid (lm - 1) true true = D at hI k5 g6
              refine hI.Q ?_
              intro r s hrs
              have hr1 := hrs.1
              have hs1 := hrs.2
              clear hrs
              subst hr1
              subst hs1
              simp only [cU, s_setU, k5, eL, e1, f2, f3, f4, f5, ↓vcPre, ↓s_get, ↓reduceIte, vcPost, vcStd, Store.set_set, s_arr, s_setL, s_fold, swp_size, Nat.le_refl, Nat.zero_add, Array.size_setIfInBounds, Nat.reduceEqDiff, reduceCtorEq, Nat.reduceAdd, Nat.reduceLeDiff, Int.reduceLT, Int.reduceLE, ↓u_setN]
              refine NextQ.to (mid + 1, b1, (lm - 1), decide ((b1 - a1) / 8 ≤ mid - a1), ap, D) ?_ ?_ ?_ ?_
              · simp only [Int.ofNat_le]
              · exact Store.sub_refl _
              · simp only; omega
              · exact ⟨k5, by simp only; omega, g3, by simp only; omega, by simp only; omega, g6⟩
            · rw [if_neg (by omega)] at g6
              have hI := ih d4 (mid + 1) b1 (lm - 1) k4 (by omega) (by omega) (by omega) (by omega)
              have k5 : (pdq ltU d4 (mid + 1) b1 (lm - 1) true true).size = n := by rw [pdq_size _ hO _ _ _ _ _ _ _ (Nat.lt_succ_self _) (by omega) (by omega)]; exact k4
              generalize pdq ltU d4 (mid + 1) b1 (lm - 1) true true = D at hI k5 g6
              refine hI.Q ?_
              intro r s hrs
              have hr1 := hrs.1
              have hs1 := hrs.2
              clear hrs
              subst hr1
              subst hs1
              simp only [cU, s_setU, k5, eL, e1, f2, f3, f4, f5, ↓vcPre, ↓s_get, ↓reduceIte, vcPost, vcStd, Store.set_set, s_arr, s_setL, s_fold, swp_size, Nat.le_refl, Nat.zero_add, Array.size_setIfInBounds, Nat.reduceEqDiff, reduceCtorEq, Nat.reduceAdd, Nat.reduceLeDiff, Int.reduceLT, Int.reduceLE, ↓u_setN]
              refine NextQ.to (a1, mid, (lm - 1), decide ((b1 - a1) / 8 ≤ b1 - mid), ap, D) ?_ ?_ ?_ ?_
              · simp only [Int.ofNat_le]
              · exact Store.sub_refl _
              · simp only; omega
              · exact ⟨k5, by simp only; omega, by simp only; omega, by simp only; omega, by simp only; omega, g6⟩
        · rw [if_neg (by simp; omega)] at g6
          have hP := s146 hc d3 a1 b1 p pw1 pw2 (by omega) (by omega) σ id
          rw [k3] at hP
          refine hP.Q ?_
          rintro r s ⟨rfl, rfl⟩
          obtain ⟨r1, r2, r3, _⟩ := partition_holds ltU hO d3 a1 b1 p pw1 pw2 (by omega)
          clear hP
          generalize partition ltU d3 a1 b1 p = R at *
          obtain ⟨mid, ap, d4⟩ := R
          simp only at r1 r2 r3 g6
          have k4 : d4.size = n := by rw [r3.1]; exact k3
          rw [if_pos ⟨r1, r2⟩] at g6
          have f2 : IntKind.i64.wrap ((mid : Int) - a1) = ((mid - a1 : Nat) : Int) := wI (by omega) (by omega)
          have f3 : IntKind.i64.wrap ((b1 : Int) - mid) = ((b1 - mid : Nat) : Int) := wI (by omega) (by omega)
          have f4 : IntKind.i64.wrap ((mid : Int) + 1) = ((mid + 1 : Nat) : Int) := wI (by omega) (by omega)
          have f5 : IntKind.i64.wrap (((b1 - a1 : Nat) : Int).tdiv 8) = (((b1 - a1) / 8 : Nat) : Int) := wI (by rw [Int.tdiv_eq_ediv_of_nonneg (by omega)]; omega) (by omega)
          simp only [cU, s_setU, k4, eL, e1, f2, f3, f4, f5, ↓vcPre, ↓s_get, ↓reduceIte, vcPost, vcStd, Store.set_set, s_arr, s_setL, s_fold, swp_size, Nat.le_refl, Nat.zero_add, Array.size_setIfInBounds, Nat.reduceEqDiff, reduceCtorEq, Nat.reduceAdd, Nat.reduceLeDiff, Int.reduceLT, Int.reduceLE, ↓u_setN]
          refine ⟨by omega, fun z => ?_, fun z => ?_⟩
          · rw [if_pos (by omega)] at g6
            have hI := ih d4 a1 mid (lm - 1) k4 (by omega) (by omega) (by omega) (by omega)
            have k5 : (pdq ltU d4 a1 mid (lm - 1) true true).size = n := by rw [pdq_size _ hO _ _ _ _ _ _ _ (Nat.lt_succ_self _) (by omega) (by omega)]; exact k4
            generalize pdq ltU d4 a1 mid (lm - 1) true true = D at hI k5 g6
            refine hI.Q ?_
            intro r s hrs
            have hr1 := hrs.1
            have hs1 := hrs.2
            clear hrs
            subst hr1
            subst hs1
            simp only [cU, s_setU, k5, eL, e1, f2, f3, f4, f5, ↓vcPre, ↓s_get, ↓reduceIte, vcPost, vcStd, Store.set_set, s_arr, s_setL, s_fold, swp_size, Nat.le_refl, Nat.zero_add, Array.size_setIfInBounds, Nat.reduceEqDiff, reduceCtorEq, Nat.reduceAdd, Nat.reduceLeDiff, Int.reduceLT, Int.reduceLE, ↓u_setN]
            refine NextQ.to (mid + 1, b1, (lm - 1), decide ((b1 - a1) / 8 ≤ mid - a1), ap, D) ?_ ?_ ?_ ?_
            · simp only [Int.ofNat_le]
            · exact Store.sub_refl _
            · simp only; omega
            · exact ⟨k5, by simp only; omega, g3, by simp only; omega, by simp only; omega, g6⟩
          · rw [if_neg (by omega)] at g6
            have hI := ih d4 (mid + 1) b1 (lm - 1) k4 (by omega) (by omega) (by omega) (by omega)
            have k5 : (pdq ltU d4 (mid + 1) b1 (lm - 1) true true).size = n := by rw [pdq_size _ hO _ _ _ _ _ _ _ (Nat.lt_succ_self _) (by omega) (by omega)]; exact k4
            generalize pdq ltU d4 (mid + 1) b1 (lm - 1) true true = D at hI k5 g6
            refine hI.Q ?_
            intro r s hrs
            have hr1 := hrs.1
            have hs1 := hrs.2
            clear hrs
            subst hr1
            subst hs1
            simp only [cU, s_setU, k5, eL, e1, f2, f3, f4, f5, ↓vcPre, ↓s_get, ↓reduceIte, vcPost, vcStd, Store.set_set, s_arr, s_setL, s_fold, swp_size, Nat.le_refl, Nat.zero_add, Array.size_setIfInBounds, Nat.reduceEqDiff, reduceCtorEq, Nat.reduceAdd, Nat.reduceLeDiff, Int.reduceLT, Int.reduceLE, ↓u_setN]
            refine NextQ.to (a1, mid, (lm - 1), decide ((b1 - a1) / 8 ≤ b1 - mid), ap, D) ?_ ?_ ?_ ?_
            · simp only [Int.ofNat_le]
            · exact Store.sub_refl _
            · simp only; omega
            · exact ⟨k5, by simp only; omega, by simp only; omega, by simp only; omega, by simp only; omega, g6⟩
      · rw [if_neg (by decide)] at g6
        simp only [cU, s_setU, k1, eL, e1, ↓vcPre, ↓s_get, ↓reduceIte, vcPost, vcStd, Store.set_set, s_arr, s_setL, s_fold, swp_size, Nat.le_refl, Nat.zero_add, Array.size_setIfInBounds, Nat.reduceEqDiff, reduceCtorEq, Nat.reduceAdd, Nat.reduceLeDiff, Int.reduceLT, Int.reduceLE, ↓u_setN]
        refine ⟨fun z => (by exfalso; omega), fun _ => ?_⟩
        obtain ⟨d3, hd3⟩ : ∃ x, x = d2 := ⟨_, rfl⟩
        rw [← hd3] at g6 ⊢
        have k3 : d3.size = n := by rw [hd3]; exact k1
        have pw1 := pv1
        have pw2 := pv2
        rw [pdqB, if_neg (by simp)] at g6
        rw [pdqC] at g6
        refine ⟨fun c1 => ?_, fun c1 => ?_⟩
        · have f1 : IntKind.i64.wrap ((a1 : Int) - 1) = ((a1 - 1 : Nat) : Int) := wI (by omega) (by omega)
          simp only [f1, Int.toNat_natCast]
          and_intros <;> try omega
          refine (hc _ _).Q ?_
          simp only [cU, s_setU, k3, eL, e1, f1, ↓vcPre, ↓s_get, ↓reduceIte, vcPost, vcStd, Store.set_set, s_arr, s_setL, s_fold, swp_size, Nat.le_refl, Nat.zero_add, Array.size_setIfInBounds, Nat.reduceEqDiff, reduceCtorEq, Nat.reduceAdd, Nat.reduceLeDiff, Int.reduceLT, Int.reduceLE, ↓u_setN]
          refine ⟨fun c2 => ?_, fun c2 => ?_⟩
          · have hlt : ltU d3[a1 - 1]! d3[p]! = false := decide_eq_false c2
            rw [if_pos (by simp [hlt]; omega)] at g6
            have h76 := s145 hc d3 a1 b1 p pw1 pw2 (by omega) (by omega) σ id
            rw [k3] at h76
            refine h76.Q ?_
            rintro r s ⟨rfl, rfl⟩
            obtain ⟨r1, r2⟩ := partitionEqual_range ltU d3 a1 b1 p (by omega)
            have r3 := partitionEqual_size ltU d3 a1 b1 p
            clear h76
            generalize partitionEqual ltU d3 a1 b1 p = R at *
            obtain ⟨mid, d4⟩ := R
            simp only at r1 r2 r3 g6
            rw [if_pos ⟨r1, r2⟩] at g6
            simp only [cU, s_setU, k3, eL, e1, f1, ↓vcPre, ↓s_get, ↓reduceIte, vcPost, vcStd, Store.set_set, s_arr, s_setL, s_fold, swp_size, Nat.le_refl, Nat.zero_add, Array.size_setIfInBounds, Nat.reduceEqDiff, reduceCtorEq, Nat.reduceAdd, Nat.reduceLeDiff, Int.reduceLT, Int.reduceLE, ↓u_setN]
            refine NextQ.to (mid, b1, (lm - 1), false, wp, d4) ?_ ?_ ?_ ?_
            · rfl
            · exact Store.sub_refl _
            · simp only; omega
            · exact ⟨by simp only; omega, by simp only; omega, g3, by simp only; omega, by simp only; omega, g6⟩
          · have hlt : ltU d3[a1 - 1]! d3[p]! = true := decide_eq_true (by omega)
            rw [if_neg (by simp [hlt])] at g6
            have hP := s146 hc d3 a1 b1 p pw1 pw2 (by omega) (by omega) σ id
            rw [k3] at hP
            refine hP.Q ?_
            rintro r s ⟨rfl, rfl⟩
            obtain ⟨r1, r2, r3, _⟩ := partition_holds ltU hO d3 a1 b1 p pw1 pw2 (by omega)
            clear hP
            generalize partition ltU d3 a1 b1 p = R at *
            obtain ⟨mid, ap, d4⟩ := R
            simp only at r1 r2 r3 g6
            have k4 : d4.size = n := by rw [r3.1]; exact k3
            rw [if_pos ⟨r1, r2⟩] at g6
            have f2 : IntKind.i64.wrap ((mid : Int) - a1) = ((mid - a1 : Nat) : Int) := wI (by omega) (by omega)
            have f3 : IntKind.i64.wrap ((b1 : Int) - mid) = ((b1 - mid : Nat) : Int) := wI (by omega) (by omega)
            have f4 : IntKind.i64.wrap ((mid : Int) + 1) = ((mid + 1 : Nat) : Int) := wI (by omega) (by omega)
            have f5 : IntKind.i64.wrap (((b1 - a1 : Nat) : Int).tdiv 8) = (((b1 - a1) / 8 : Nat) : Int) := wI (by rw [Int.tdiv_eq_ediv_of_nonneg (by omega)]; omega) (by omega)
            simp only [cU, s_setU, k4, eL, e1, f2, f3, f4, f5, ↓vcPre, ↓s_get, ↓reduceIte, vcPost, vcStd, Store.set_set, s_arr, s_setL, s_fold, swp_size, Nat.le_refl, Nat.zero_add, Array.size_setIfInBounds, Nat.reduceEqDiff, reduceCtorEq, Nat.reduceAdd, Nat.reduceLeDiff, Int.reduceLT, Int.reduceLE, ↓u_setN]
            refine ⟨by omega, fun z => ?_, fun z => ?_⟩
            · rw [if_pos (by omega)] at g6
              have hI := ih d4 a1 mid (lm - 1) k4 (by omega) (by omega) (by omega) (by omega)
              have k5 : (pdq ltU d4 a1 mid (lm - 1) true true).size = n := by rw [pdq_size _ hO _ _ _ _ _ _ _ (Nat.lt_succ_self _) (by omega) (by omega)]; exact k4
              generalize pdq ltU d4 a1 mid (lm - 1) true true = D at hI k5 g6
              refine hI.Q ?_
              intro r s hrs
              have hr1 := hrs.1
              have hs1 := hrs.2
              clear hrs
              subst hr1
              subst hs1
              simp only [cU, s_setU, k5, eL, e1, f2, f3, f4, f5, ↓vcPre, ↓s_get, ↓reduceIte, vcPost, vcStd, Store.set_set, s_arr, s_setL, s_fold, swp_size, Nat.le_refl, Nat.zero_add, Array.size_setIfInBounds, Nat.reduceEqDiff, reduceCtorEq, Nat.reduceAdd, Nat.reduceLeDiff, Int.reduceLT, Int.reduceLE, ↓u_setN]
              refine NextQ.to (mid + 1, b1, (lm - 1), decide ((b1 - a1) / 8 ≤ mid - a1), ap, D) ?_ ?_ ?_ ?_
              · simp only [Int.ofNat_le]
              · exact Store.sub_refl _
              · simp only; omega
              · exact ⟨k5, by simp only; omega, g3, by simp only; omega, by simp only; omega, g6⟩
            · rw [if_neg (by omega)] at g6
              have hI := ih d4 (mid + 1) b1 (lm - 1) k4 (by omega) (by omega) (by omega) (by omega)
              have k5 : (pdq ltU d4 (mid + 1) b1 (lm - 1) true true).size = n := by rw [pdq_size _ hO _ _ _ _ _ _ _ (Nat.lt_succ_self _) (by omega) (by omega)]; exact k4
              generalize pdq ltU d4 (mid + 1) b1 (lm - 1) true true = D at hI k5 g6
              refine hI.Q ?_
              intro r s hrs
              have hr1 := hrs.1
              have hs1 := hrs.2
              clear hrs
              subst hr1
              subst hs1
              simp only [cU, s_setU, k5, eL, e1, f2, f3, f4, f5, ↓vcPre, ↓s_get, ↓reduceIte, vcPost, vcStd, Store.set_set, s_arr, s_setL, s_fold, swp_size, Nat.le_refl, Nat.zero_add, Array.size_setIfInBounds, Nat.reduceEqDiff, reduceCtorEq, Nat.reduceAdd, Nat.reduceLeDiff, Int.reduceLT, Int.reduceLE, ↓u_setN]
              refine NextQ.to (a1, mid, (lm - 1), decide ((b1 - a1) / 8 ≤ b1 - mid), ap, D) ?_ ?_ ?_ ?_
              · simp only [Int.ofNat_le]
              · exact Store.sub_refl _
              · simp only; omega
              · exact ⟨k5, by simp only; omega, by simp only; omega, by simp only; omega, by simp only; omega, g6⟩
        · rw [if_neg (by simp; omega)] at g6
          have hP := s146 hc d3 a1 b1 p pw1 pw2 (by omega) (by omega) σ id
          rw [k3] at hP
          refine hP.Q ?_
          rintro r s ⟨rfl, rfl⟩
          obtain ⟨r1, r2, r3, _⟩ := partition_holds ltU hO d3 a1 b1 p pw1 pw2 (by omega)
          clear hP
          generalize partition ltU d3 a1 b1 p = R at *
          obtain ⟨mid, ap, d4⟩ := R
          simp only at r1 r2 r3 g6
          have k4 : d4.size = n := by rw [r3.1]; exact k3
          rw [if_pos ⟨r1, r2⟩] at g6
          have f2 : IntKind.i64.wrap ((mid : Int) - a1) = ((mid - a1 : Nat) : Int) := wI (by omega) (by omega)
          have f3 : IntKind.i64.wrap ((b1 : Int) - mid) = ((b1 - mid : Nat) : Int) := wI (by omega) (by omega)
          have f4 : IntKind.i64.wrap ((mid : Int) + 1) = ((mid + 1 : Nat) : Int) := wI (by omega) (by omega)
          have f5 : IntKind.i64.wrap (((b1 - a1 : Nat) : Int).tdiv 8) = (((b1 - a1) / 8 : Nat) : Int) := wI (by rw [Int.tdiv_eq_ediv_of_nonneg (by omega)]; omega) (by omega)
          simp only [cU, s_setU, k4, eL, e1, f2, f3, f4, f5, ↓vcPre, ↓s_get, ↓reduceIte, vcPost, vcStd, Store.set_set, s_arr, s_setL, s_fold, swp_size, Nat.le_refl, Nat.zero_add, Array.size_setIfInBounds, Nat.reduceEqDiff, reduceCtorEq, Nat.reduceAdd, Nat.reduceLeDiff, Int.reduceLT, Int.reduceLE, ↓u_setN]
          refine ⟨by omega, fun z => ?_, fun z => ?_⟩
          · rw [if_pos (by omega)] at g6
            have hI := ih d4 a1 mid (lm - 1) k4 (by omega) (by omega) (by omega) (by omega)
            have k5 : (pdq ltU d4 a1 mid (lm - 1) true true).size = n := by rw [pdq_size _ hO _ _ _ _ _ _ _ (Nat.lt_succ_self _) (by omega) (by omega)]; exact k4
            generalize pdq ltU d4 a1 mid (lm - 1) true true = D at hI k5 g6
            refine hI.Q ?_
            intro r s hrs
            have hr1 := hrs.1
            have hs1 := hrs.2
            clear hrs
            subst hr1
            subst hs1
            simp only [cU, s_setU, k5, eL, e1, f2, f3, f4, f5, ↓vcPre, ↓s_get, ↓reduceIte, vcPost, vcStd, Store.set_set, s_arr, s_setL, s_fold, swp_size, Nat.le_refl, Nat.zero_add, Array.size_setIfInBounds, Nat.reduceEqDiff, reduceCtorEq, Nat.reduceAdd, Nat.reduceLeDiff, Int.reduceLT, Int.reduceLE, ↓u_setN]
            refine NextQ.to (mid + 1, b1, (lm - 1), decide ((b1 - a1) / 8 ≤ mid - a1), ap, D) ?_ ?_ ?_ ?_
            · simp only [Int.ofNat_le]
            · exact Store.sub_refl _
            · simp only; omega
            · exact ⟨k5, by simp only; omega, g3, by simp only; omega, by simp only; omega, g6⟩
          · rw [if_neg (by omega)] at g6
            have hI := ih d4 (mid + 1) b1 (lm - 1) k4 (by omega) (by omega) (by omega) (by omega)
            have k5 : (pdq ltU d4 (mid + 1) b1 (lm - 1) true true).size = n := by rw [pdq_size _ hO _ _ _ _ _ _ _ (Nat.lt_succ_self _) (by omega) (by omega)]; exact k4
            generalize pdq ltU d4 (mid + 1) b1 (lm - 1) true true = D at hI k5 g6
            refine hI.Q ?_
            intro r s hrs
            have hr1 := hrs.1
            have hs1 := hrs.2
            clear hrs
            subst hr1
            subst hs1
            simp only [cU, s_setU, k5, eL, e1, f2, f3, f4, f5, ↓vcPre, ↓s_get, ↓reduceIte, vcPost, vcStd, Store.set_set, s_arr, s_setL, s_fold, swp_size, Nat.le_refl, Nat.zero_add, Array.size_setIfInBounds, Nat.reduceEqDiff, reduceCtorEq, Nat.reduceAdd, Nat.reduceLeDiff, Int.reduceLT, Int.reduceLE, ↓u_setN]
            refine NextQ.to (a1, mid, (lm - 1), decide ((b1 - a1) / 8 ≤ b1 - mid), ap, D) ?_ ?_ ?_ ?_
            · simp only [Int.ofNat_le]
            · exact Store.sub_refl _
            · simp only; omega
            · exact ⟨k5, by simp only; omega, by simp only; omega, by simp only; omega, by simp only; omega, g6⟩
      · rw [if_pos rfl] at g6
        have f6 : IntKind.i64.wrap ((b1 : Int) - 1) = ((b1 - 1 : Nat) : Int) := wI (by omega) (by omega)
        have f7 : IntKind.i64.wrap ((p : Int) - a1) = ((p - a1 : Nat) : Int) := wI (by omega) (by omega)
        have f8 : IntKind.i64.wrap (((b1 - 1 : Nat) : Int) - ((p - a1 : Nat) : Int)) = ((b1 - 1 - (p - a1) : Nat) : Int) := wI (by omega) (by omega)
        simp only [cU, s_setU, k1, eL, e1, ↓vcPre, ↓s_get, ↓reduceIte, vcPost, vcStd, Store.set_set, s_arr, s_setL, s_fold, swp_size, Nat.le_refl, Nat.zero_add, Array.size_setIfInBounds, Nat.reduceEqDiff, reduceCtorEq, Nat.reduceAdd, Nat.reduceLeDiff, Int.reduceLT, Int.reduceLE, ↓u_setN]
        have h74 := s142 hc d2 a1 b1 g2 (by omega) (by omega) σ id
        rw [k1] at h74
        refine h74.Q ?_
        intro r s hrs
        have hr1 := hrs.1
        have hs1 := hrs.2
        clear hrs
        subst hr1
        subst hs1
        obtain ⟨d3, hd3⟩ : ∃ x, x = reverseRange d2 a1 b1 := ⟨_, rfl⟩
        rw [← hd3] at g6 ⊢
        have k3 : d3.size = n := by rw [hd3, reverseRange, reverseLoop_size]; exact k1
        simp only [cU, s_setU, k3, eL, e1, f6, f7, f8, ↓vcPre, ↓s_get, ↓reduceIte, vcPost, vcStd, Store.set_set, s_arr, s_setL, s_fold, swp_size, Nat.le_refl, Nat.zero_add, Array.size_setIfInBounds, Nat.reduceEqDiff, reduceCtorEq, Nat.reduceAdd, Nat.reduceLeDiff, Int.reduceLT, Int.reduceLE, ↓u_setN]
        have pw1 : a1 ≤ b1 - 1 - (p - a1) := by omega
        have pw2 : b1 - 1 - (p - a1) < b1 := by omega
        generalize b1 - 1 - (p - a1) = p at *
        rw [pdqB, if_neg (by simp)] at g6
        rw [pdqC] at g6
        refine ⟨fun c1 => ?_, fun c1 => ?_⟩
        · have f1 : IntKind.i64.wrap ((a1 : Int) - 1) = ((a1 - 1 : Nat) : Int) := wI (by omega) (by omega)
          simp only [f1, Int.toNat_natCast]
          and_intros <;> try omega
          refine (hc _ _).Q ?_
          simp only [cU, s_setU, k3, eL, e1, f1, ↓vcPre, ↓s_get, ↓reduceIte, vcPost, vcStd, Store.set_set, s_arr, s_setL, s_fold, swp_size, Nat.le_refl, Nat.zero_add, Array.size_setIfInBounds, Nat.reduceEqDiff, reduceCtorEq, Nat.reduceAdd, Nat.reduceLeDiff, Int.reduceLT, Int.reduceLE, ↓u_setN]
          refine ⟨fun c2 => ?_, fun c2 => ?_⟩
          · have hlt : ltU d3[a1 - 1]! d3[p]! = false := decide_eq_false c2
            rw [if_pos (by simp [hlt]; omega)] at g6
            have h76 := s145 hc d3 a1 b1 p pw1 pw2 (by omega) (by omega) σ id
            rw [k3] at h76
            refine h76.Q ?_
            rintro r s ⟨rfl, rfl⟩
            obtain ⟨r1, r2⟩ := partitionEqual_range ltU d3 a1 b1 p (by omega)
            have r3 := partitionEqual_size ltU d3 a1 b1 p
            clear h76
            generalize partitionEqual ltU d3 a1 b1 p = R at *
            obtain ⟨mid, d4⟩ := R
            simp only at r1 r2 r3 g6
            rw [if_pos ⟨r1, r2⟩] at g6
            simp only [cU, s_setU, k3, eL, e1, f1, ↓vcPre, ↓s_get, ↓reduceIte, vcPost, vcStd, Store.set_set, s_arr, s_setL, s_fold, swp_size, Nat.le_refl, Nat.zero_add, Array.size_setIfInBounds, Nat.reduceEqDiff, reduceCtorEq, Nat.reduceAdd, Nat.reduceLeDiff, Int.reduceLT, Int.reduceLE, ↓u_setN]
            refine NextQ.to (mid, b1, (lm - 1), false, wp, d4) ?_ ?_ ?_ ?_
            · rfl
            · exact Store.sub_refl _
            · simp only; omega
            · exact ⟨by simp only; omega, by simp only; omega, g3, by simp only; omega, by simp only; omega, g6⟩
          · have hlt : ltU d3[a1 - 1]! d3[p]! = true := decide_eq_true (by omega)
            rw [if_neg (by simp [hlt])] at g6
            have hP := s146 hc d3 a1 b1 p pw1 pw2 (by omega) (by omega) σ id
            rw [k3] at hP
            refine hP.Q ?_
            rintro r s ⟨rfl, rfl⟩
            obtain ⟨r1, r2, r3, _⟩ := partition_holds ltU hO d3 a1 b1 p pw1 pw2 (by omega)
            clear hP
            generalize partition ltU d3 a1 b1 p = R at *
            obtain ⟨mid, ap, d4⟩ := R
            simp only at r1 r2 r3 g6
            have k4 : d4.size = n := by rw [r3.1]; exact k3
            rw [if_pos ⟨r1, r2⟩] at g6
            have f2 : IntKind.i64.wrap ((mid : Int) - a1) = ((mid - a1 : Nat) : Int) := wI (by omega) (by omega)
            have f3 : IntKind.i64.wrap ((b1 : Int) - mid) = ((b1 - mid : Nat) : Int) := wI (by omega) (by omega)
            have f4 : IntKind.i64.wrap ((mid : Int) + 1) = ((mid + 1 : Nat) : Int) := wI (by omega) (by omega)
            have f5 : IntKind.i64.wrap (((b1 - a1 : Nat) : Int).tdiv 8) = (((b1 - a1) / 8 : Nat) : Int) := wI (by rw [Int.tdiv_eq_ediv_of_nonneg (by omega)]; omega) (by omega)
            simp only [cU, s_setU, k4, eL, e1, f2, f3, f4, f5, ↓vcPre, ↓s_get, ↓reduceIte, vcPost, vcStd, Store.set_set, s_arr, s_setL, s_fold, swp_size, Nat.le_refl, Nat.zero_add, Array.size_setIfInBounds, Nat.reduceEqDiff, reduceCtorEq, Nat.reduceAdd, Nat.reduceLeDiff, Int.reduceLT, Int.reduceLE, ↓u_setN]
            refine ⟨by omega, fun z => ?_, fun z => ?_⟩
            · rw [if_pos (by omega)] at g6
              have hI := ih d4 a1 mid (lm - 1) k4 (by omega) (by omega) (by omega) (by omega)
              have k5 : (pdq ltU d4 a1 mid (lm - 1) true true).size = n := by rw [pdq_size _ hO _ _ _ _ _ _ _ (Nat.lt_succ_self _) (by omega) (by omega)]; exact k4
              generalize pdq ltU d4 a1 mid (lm - 1) true true = D at hI k5 g6
              refine hI.Q ?_
              intro r s hrs
              have hr1 := hrs.1
              have hs1 := hrs.2
              clear hrs
              subst hr1
              subst hs1
              simp only [cU, s_setU, k5, eL, e1, f2, f3, f4, f5, ↓vcPre, ↓s_get, ↓reduceIte, vcPost, vcStd, Store.set_set, s_arr, s_setL, s_fold, swp_size, Nat.le_refl, Nat.zero_add, Array.size_setIfInBounds, Nat.reduceEqDiff, reduceCtorEq, Nat.reduceAdd, Nat.reduceLeDiff, Int.reduceLT, Int.reduceLE, ↓u_setN]
              refine NextQ.to (mid + 1, b1, (lm - 1), decide ((b1 - a1) / 8 ≤ mid - a1), ap, D) ?_ ?_ ?_ ?_
              · simp only [Int.ofNat_le]
              · exact Store.sub_refl _
              · simp only; omega
              · exact ⟨k5, by simp only; omega, g3, by simp only; omega, by simp only; omega, g6⟩
            · rw [if_neg (by omega)] at g6
              have hI := ih d4 (mid + 1) b1 (lm - 1) k4 (by omega) (by omega) (by omega) (by omega)
              have k5 : (pdq ltU d4 (mid + 1) b1 (lm - 1) true true).size = n := by rw [pdq_size _ hO _ _ _ _ _ _ _ (Nat.lt_succ_self _) (by omega) (by omega)]; exact k4
              generalize pdq ltU d4 (mid + 1) b1 (lm - 1) true true = D at hI k5 g6
              refine hI.Q ?_
              intro r s hrs
              have hr1 := hrs.1
              have hs1 := hrs.2
              clear hrs
              subst hr1
              subst hs1
              simp only [cU, s_setU, k5, eL, e1, f2, f3, f4, f5, ↓vcPre, ↓s_get, ↓reduceIte, vcPost, vcStd, Store.set_set, s_arr, s_setL, s_fold, swp_size, Nat.le_refl, Nat.zero_add, Array.size_setIfInBounds, Nat.reduceEqDiff, reduceCtorEq, Nat.reduceAdd, Nat.reduceLeDiff, Int.reduceLT, Int.reduceLE, ↓u_setN]
              refine NextQ.to (a1, mid, (lm - 1), decide ((b1 - a1) / 8 ≤ b1 - mid), ap, D) ?_ ?_ ?_ ?_
              · simp only [Int.ofNat_le]
              · exact Store.sub_refl _
              · simp only; omega
              · exact ⟨k5, by simp only; omega, by simp only; omega, by simp only; omega, by simp only; omega, g6⟩
        · rw [if_neg (by simp; omega)] at g6
          have hP := s146 hc d3 a1 b1 p pw1 pw2 (by omega) (by omega) σ id
          rw [k3] at hP
          refine hP.Q ?_
          rintro r s ⟨rfl, rfl⟩
          obtain ⟨r1, r2, r3, _⟩ := partition_holds ltU hO d3 a1 b1 p pw1 pw2 (by omega)
          clear hP
          generalize partition ltU d3 a1 b1 p = R at *
          obtain ⟨mid, ap, d4⟩ := R
          simp only at r1 r2 r3 g6
          have k4 : d4.size = n := by rw [r3.1]; exact k3
          rw [if_pos ⟨r1, r2⟩] at g6
          have f2 : IntKind.i64.wrap ((mid : Int) - a1) = ((mid - a1 : Nat) : Int) := wI (by omega) (by omega)
          have f3 : IntKind.i64.wrap ((b1 : Int) - mid) = ((b1 - mid : Nat) : Int) := wI (by omega) (by omega)
          have f4 : IntKind.i64.wrap ((mid : Int) + 1) = ((mid + 1 : Nat) : Int) := wI (by omega) (by omega)
          have f5 : IntKind.i64.wrap (((b1 - a1 : Nat) : Int).tdiv 8) = (((b1 - a1) / 8 : Nat) : Int) := wI (by rw [Int.tdiv_eq_ediv_of_nonneg (by omega)]; omega) (by omega)
          simp only [cU, s_setU, k4, eL, e1, f2, f3, f4, f5, ↓vcPre, ↓s_get, ↓reduceIte, vcPost, vcStd, Store.set_set, s_arr, s_setL, s_fold, swp_size, Nat.le_refl, Nat.zero_add, Array.size_setIfInBounds, Nat.reduceEqDiff, reduceCtorEq, Nat.reduceAdd, Nat.reduceLeDiff, Int.reduceLT, Int.reduceLE, ↓u_setN]
          refine ⟨by omega, fun z => ?_, fun z => ?_⟩
          · rw [if_pos (by omega)] at g6
            have hI := ih d4 a1 mid (lm - 1) k4 (by omega) (by omega) (by omega) (by omega)
            have k5 : (pdq ltU d4 a1 mid (lm - 1) true true).size = n := by rw [pdq_size _ hO _ _ _ _ _ _ _ (Nat.lt_succ_self _) (by omega) (by omega)]; exact k4
            generalize pdq ltU d4 a1 mid (lm - 1) true true = D at hI k5 g6
            refine hI.Q ?_
            intro r s hrs
            have hr1 := hrs.1
            have hs1 := hrs.2
            clear hrs
            subst hr1
            subst hs1
            simp only [cU, s_setU, k5, eL, e1, f2, f3, f4, f5, ↓vcPre, ↓s_get, ↓reduceIte, vcPost, vcStd, Store.set_set, s_arr, s_setL, s_fold, swp_size, Nat.le_refl, Nat.zero_add, Array.size_setIfInBounds, Nat.reduceEqDiff, reduceCtorEq, Nat.reduceAdd, Nat.reduceLeDiff, Int.reduceLT, Int.reduceLE, ↓u_setN]
            refine NextQ.to (mid + 1, b1, (lm - 1), decide ((b1 - a1) / 8 ≤ mid - a1), ap, D) ?_ ?_ ?_ ?_
            · simp only [Int.ofNat_le]
            · exact Store.sub_refl _
            · simp only; omega
            · exact ⟨k5, by simp only; omega, g3, by simp only; omega, by simp only; omega, g6⟩
          · rw [if_neg (by omega)] at g6
            have hI := ih d4 (mid + 1) b1 (lm - 1) k4 (by omega) (by omega) (by omega) (by omega)
            have k5 : (pdq ltU d4 (mid + 1) b1 (lm - 1) true true).size = n := by rw [pdq_size _ hO _ _ _ _ _ _ _ (Nat.lt_succ_self _) (by omega) (by omega)]; exact k4
            generalize pdq ltU d4 (mid + 1) b1 (lm - 1) true true = D at hI k5 g6
            refine hI.Q ?_
            intro r s hrs
            have hr1 := hrs.1
            have hs1 := hrs.2
            clear hrs
            subst hr1
            subst hs1
            simp only [cU, s_setU, k5, eL, e1, f2, f3, f4, f5, ↓vcPre, ↓s_get, ↓reduceIte, vcPost, vcStd, Store.set_set, s_arr, s_setL, s_fold, swp_size, Nat.le_refl, Nat.zero_add, Array.size_setIfInBounds, Nat.reduceEqDiff, reduceCtorEq, Nat.reduceAdd, Nat.reduceLeDiff, Int.reduceLT, Int.reduceLE, ↓u_setN]
            refine NextQ.to (a1, mid, (lm - 1), decide ((b1 - a1) / 8 ≤ b1 - mid), ap, D) ?_ ?_ ?_ ?_
            · simp only [Int.ofNat_le]
            · exact Store.sub_refl _
            · simp only; omega
            · exact ⟨k5, by simp only; omega, by simp only; omega, by simp only; omega, by simp only; omega, g6⟩
    · simp only [↓vcPre, ↓wit_get, ↓reduceIte, vcPost, vcStd, Nat.reduceEqDiff, reduceCtorEq, Nat.reduceAdd, Nat.reduceLeDiff, Int.reduceLT, Int.reduceLE, ↓u_setN]
      rw [if_pos rfl] at g6
      obtain ⟨d2, hd2⟩ : ∃ x, x = d1 := ⟨_, rfl⟩
      rw [← hd2] at g6 ⊢
      have k1 : d2.size = n := by rw [hd2]; exact g1
      cases wp
      · have hA := s141 hc d2 a1 b1 (by omega) (by omega) (by omega) σ id
        rw [k1] at hA
        refine hA.Q ?_
        rintro r s ⟨rfl, rfl⟩
        obtain ⟨pv1, pv2⟩ := choosePivot_holds ltU d2 a1 b1 (by omega)
        rw [pdqA] at g6
        clear hA
        generalize choosePivot ltU d2 a1 b1 = R at *
        obtain ⟨p, hh⟩ := R
        simp only at pv1 pv2 g6
        cases hh
        · rw [if_neg (by decide)] at g6
          simp only [cU, s_setU, k1, eL, e1, ↓vcPre, ↓s_get, ↓reduceIte, vcPost, vcStd, Store.set_set, s_arr, s_setL, s_fold, swp_size, Nat.le_refl, Nat.zero_add, Array.size_setIfInBounds, Nat.reduceEqDiff, reduceCtorEq, Nat.reduceAdd, Nat.reduceLeDiff, Int.reduceLT, Int.reduceLE, ↓u_setN]
          refine ⟨fun z => (by exfalso; omega), fun _ => ?_⟩
          obtain ⟨d3, hd3⟩ : ∃ x, x = d2 := ⟨_, rfl⟩
          rw [← hd3] at g6 ⊢
          have k3 : d3.size = n := by rw [hd3]; exact k1
          have pw1 := pv1
          have pw2 := pv2
          rw [pdqB, if_neg (by simp)] at g6
          rw [pdqC] at g6
          refine ⟨fun c1 => ?_, fun c1 => ?_⟩
          · have f1 : IntKind.i64.wrap ((a1 : Int) - 1) = ((a1 - 1 : Nat) : Int) := wI (by omega) (by omega)
            simp only [f1, Int.toNat_natCast]
            and_intros <;> try omega
            refine (hc _ _).Q ?_
            simp only [cU, s_setU, k3, eL, e1, f1, ↓vcPre, ↓s_get, ↓reduceIte, vcPost, vcStd, Store.set_set, s_arr, s_setL, s_fold, swp_size, Nat.le_refl, Nat.zero_add, Array.size_setIfInBounds, Nat.reduceEqDiff, reduceCtorEq, Nat.reduceAdd, Nat.reduceLeDiff, Int.reduceLT, Int.reduceLE, ↓u_setN]
            refine ⟨fun c2 => ?_, fun c2 => ?_⟩
            · have hlt : ltU d3[a1 - 1]! d3[p]! = false := decide_eq_false c2
              rw [if_pos (by simp [hlt]; omega)] at g6
              have h76 := s145 hc d3 a1 b1 p pw1 pw2 (by omega) (by omega) σ id
              rw [k3] at h76
              refine h76.Q ?_
              rintro r s ⟨rfl, rfl⟩
              obtain ⟨r1, r2⟩ := partitionEqual_range ltU d3 a1 b1 p (by omega)
              have r3 := partitionEqual_size ltU d3 a1 b1 p
              clear h76
              generalize partitionEqual ltU d3 a1 b1 p = R at *
              obtain ⟨mid, d4⟩ := R
              simp only at r1 r2 r3 g6
              rw [if_pos ⟨r1, r2⟩] at g6
              simp only [cU, s_setU, k3, eL, e1, f1, ↓vcPre, ↓s_get, ↓reduceIte, vcPost, vcStd, Store.set_set, s_arr, s_setL, s_fold, swp_size, Nat.le_refl, Nat.zero_add, Array.size_setIfInBounds, Nat.reduceEqDiff, reduceCtorEq, Nat.reduceAdd, Nat.reduceLeDiff, Int.reduceLT, Int.reduceLE, ↓u_setN]
              refine NextQ.to (mid, b1, lm, true, false, d4) ?_ ?_ ?_ ?_
              · rfl
              · exact Store.sub_refl _
              · simp only; omega
              · exact ⟨by simp only; omega, by simp only; omega, g3, by simp only; omega, by simp only; omega, g6⟩
            · have hlt : ltU d3[a1 - 1]! d3[p]! = true := decide_eq_true (by omega)
              rw [if_neg (by simp [hlt])] at g6
              have hP := s146 hc d3 a1 b1 p pw1 pw2 (by omega) (by omega) σ id
              rw [k3] at hP
              refine hP.Q ?_
              rintro r s ⟨rfl, rfl⟩
              obtain ⟨r1, r2, r3, _⟩ := partition_holds ltU hO d3 a1 b1 p pw1 pw2 (by omega)
              clear hP
              generalize partition ltU d3 a1 b1 p = R at *
              obtain ⟨mid, ap, d4⟩ := R
              simp only at r1 r2 r3 g6
              have k4 : d4.size = n := by rw [r3.1]; exact k3
              rw [if_pos ⟨r1, r2⟩] at g6
              have f2 : IntKind.i64.wrap ((mid : Int) - a1) = ((mid - a1 : Nat) : Int) := wI (by omega) (by omega)
              have f3 : IntKind.i64.wrap ((b1 : Int) - mid) = ((b1 - mid : Nat) : Int) := wI (by omega) (by omega)
              have f4 : IntKind.i64.wrap ((mid : Int) + 1) = ((mid + 1 : Nat) : Int) := wI (by omega) (by omega)
              have f5 : IntKind.i64.wrap (((b1 - a1 : Nat) : Int).tdiv 8) = (((b1 - a1) / 8 : Nat) : Int) := wI (by rw [Int.tdiv_eq_ediv_of_nonneg (by omega)]; omega) (by omega)
              simp only [cU, s_setU, k4, eL, e1, f2, f3, f4, f5, ↓vcPre, ↓s_get, ↓reduceIte, vcPost, vcStd, Store.set_set, s_arr, s_setL, s_fold, swp_size, Nat.le_refl, Nat.zero_add, Array.size_setIfInBounds, Nat.reduceEqDiff, reduceCtorEq, Nat.reduceAdd, Nat.reduceLeDiff, Int.reduceLT, Int.reduceLE, ↓u_setN]
              refine ⟨by omega, fun z => ?_, fun z => ?_⟩
              · rw [if_pos (by omega)] at g6
                have hI := ih d4 a1 mid lm k4 (by omega) (by omega) (by omega) (by omega)
                have k5 : (pdq ltU d4 a1 mid lm true true).size = n := by rw [pdq_size _ hO _ _ _ _ _ _ _ (Nat.lt_succ_self _) (by omega) (by omega)]; exact k4
                generalize pdq ltU d4 a1 mid lm true true = D at hI k5 g6
                refine hI.Q ?_
                intro r s hrs
                have hr1 := hrs.1
                have hs1 := hrs.2
                clear hrs
                subst hr1
                subst hs1
                simp only [cU, s_setU, k5, eL, e1, f2, f3, f4, f5, ↓vcPre, ↓s_get, ↓reduceIte, vcPost, vcStd, Store.set_set, s_arr, s_setL, s_fold, swp_size, Nat.le_refl, Nat.zero_add, Array.size_setIfInBounds, Nat.reduceEqDiff, reduceCtorEq, Nat.reduceAdd, Nat.reduceLeDiff, Int.reduceLT, Int.reduceLE, ↓u_setN]
                refine NextQ.to (mid + 1, b1, lm, decide ((b1 - a1) / 8 ≤ mid - a1), ap, D) ?_ ?_ ?_ ?_
                · simp only [Int.ofNat_le]
                · exact Store.sub_refl _
                · simp only; omega
                · exact ⟨k5, by simp only; omega, g3, by simp only; omega, by simp only; omega, g6⟩
              · rw [if_neg (by omega)] at g6
                have hI := ih d4 (mid + 1) b1 lm k4 (by omega) (by omega) (by omega) (by omega)
                have k5 : (pdq ltU d4 (mid + 1) b1 lm true true).size = n := by rw [pdq_size _ hO _ _ _ _ _ _ _ (Nat.lt_succ_self _) (by omega) (by omega)]; exact k4
                generalize pdq ltU d4 (mid + 1) b1 lm true true = D at hI k5 g6
                refine hI.Q ?_
                intro r s hrs
                have hr1 := hrs.1
                have hs1 := hrs.2
                clear hrs
                subst hr1
                subst hs1
                simp only [cU, s_setU, k5, eL, e1, f2, f3, f4, f5, ↓vcPre, ↓s_get, ↓reduceIte, vcPost, vcStd, Store.set_set, s_arr, s_setL, s_fold, swp_size, Nat.le_refl, Nat.zero_add, Array.size_setIfInBounds, Nat.reduceEqDiff, reduceCtorEq, Nat.reduceAdd, Nat.reduceLeDiff, Int.reduceLT, Int.reduceLE, ↓u_setN]
                refine NextQ.to (a1, mid, lm, decide ((b1 - a1) / 8 ≤ b1 - mid), ap, D) ?_ ?_ ?_ ?_
                · simp only [Int.ofNat_le]
                · exact Store.sub_refl _
                · simp only; omega
                · exact ⟨k5, by simp only; omega, by simp only; omega, by simp only; omega, by simp only; omega, g6⟩
          · rw [if_neg (by simp; omega)] at g6
            have hP := s146 hc d3 a1 b1 p pw1 pw2 (by omega) (by omega) σ id
            rw [k3] at hP
            refine hP.Q ?_
            rintro r s ⟨rfl, rfl⟩
            obtain ⟨r1, r2, r3, _⟩ := partition_holds ltU hO d3 a1 b1 p pw1 pw2 (by omega)
            clear hP
            generalize partition ltU d3 a1 b1 p = R at *
            obtain ⟨mid, ap, d4⟩ := R
            simp only at r1 r2 r3 g6
            have k4 : d4.size = n := by rw [r3.1]; exact k3
            rw [if_pos ⟨r1, r2⟩] at g6
            have f2 : IntKind.i64.wrap ((mid : Int) - a1) = ((mid - a1 : Nat) : Int) := wI (by omega) (by omega)
            have f3 : IntKind.i64.wrap ((b1 : Int) - mid) = ((b1 - mid : Nat) : Int) := wI (by omega) (by omega)
            have f4 : IntKind.i64.wrap ((mid : Int) + 1) = ((mid + 1 : Nat) : Int) := wI (by omega) (by omega)
            have f5 : IntKind.i64.wrap (((b1 - a1 : Nat) : Int).tdiv 8) = (((b1 - a1) / 8 : Nat) : Int) := wI (by rw [Int.tdiv_eq_ediv_of_nonneg (by omega)]; omega) (by omega)
            simp only [cU, s_setU, k4, eL, e1, f2, f3, f4, f5, ↓vcPre, ↓s_get, ↓reduceIte, vcPost, vcStd, Store.set_set, s_arr, s_setL, s_fold, swp_size, Nat.le_refl, Nat.zero_add, Array.size_setIfInBounds, Nat.reduceEqDiff, reduceCtorEq, Nat.reduceAdd, Nat.reduceLeDiff, Int.reduceLT, Int.reduceLE, ↓u_setN]
            refine ⟨by omega, fun z => ?_, fun z => ?_⟩
            · rw [if_pos (by omega)] at g6
              have hI := ih d4 a1 mid lm k4 (by omega) (by omega) (by omega) (by omega)
              have k5 : (pdq ltU d4 a1 mid lm true true).size = n := by rw [pdq_size _ hO _ _ _ _ _ _ _ (Nat.lt_succ_self _) (by omega) (by omega)]; exact k4
              generalize pdq ltU d4 a1 mid lm true true = D at hI k5 g6
              refine hI.Q ?_
              intro r s hrs
              have hr1 := hrs.1
              have hs1 := hrs.2
              clear hrs
              subst hr1
              subst hs1
              simp only [cU, s_setU, k5, eL, e1, f2, f3, f4, f5, ↓vcPre, ↓s_get, ↓reduceIte, vcPost, vcStd, Store.set_set, s_arr, s_setL, s_fold, swp_size, Nat.le_refl, Nat.zero_add, Array.size_setIfInBounds, Nat.reduceEqDiff, reduceCtorEq, Nat.reduceAdd, Nat.reduceLeDiff, Int.reduceLT, Int.reduceLE, ↓u_setN]
              refine NextQ.to (mid + 1, b1, lm, decide ((b1 - a1) / 8 ≤ mid - a1), ap, D) ?_ ?_ ?_ ?_
              · simp only [Int.ofNat_le]
              · exact Store.sub_refl _
              · simp only; omega
              · exact ⟨k5, by simp only; omega, g3, by simp only; omega, by simp only; omega, g6⟩
            · rw [if_neg (by omega)] at g6
              have hI := ih d4 (mid + 1) b1 lm k4 (by omega) (by omega) (by omega) (by omega)
              have k5 : (pdq ltU d4 (mid + 1) b1 lm true true).size = n := by rw [pdq_size _ hO _ _ _ _ _ _ _ (Nat.lt_succ_self _) (by omega) (by omega)]; exact k4
              generalize pdq ltU d4 (mid + 1) b1 lm true true = D at hI k5 g6
              refine hI.Q ?_
              intro r s hrs
              have hr1 := hrs.1
              have hs1 := hrs.2
              clear hrs
              subst hr1
              subst hs1
              simp only [cU, s_setU, k5, eL, e1, f2, f3, f4, f5, ↓vcPre, ↓s_get, ↓reduceIte, vcPost, vcStd, Store.set_set, s_arr, s_setL, s_fold, swp_size, Nat.le_refl, Nat.zero_add, Array.size_setIfInBounds, Nat.reduceEqDiff, reduceCtorEq, Nat.reduceAdd, Nat.reduceLeDiff, Int.reduceLT, Int.reduceLE, ↓u_setN]
              refine NextQ.to (a1, mid, lm, decide ((b1 - a1) / 8 ≤ b1 - mid), ap, D) ?_ ?_ ?_ ?_
              · simp only [Int.ofNat_le]
              · exact Store.sub_refl _
              · simp only; omega
              · exact ⟨k5, by simp only; omega, by simp only; omega, by simp only; omega, by simp only; omega, g6⟩
        · rw [if_neg (by decide)] at g6
          simp only [cU, s_setU, k1, eL, e1, ↓vcPre, ↓s_get, ↓reduceIte, vcPost, vcStd, Store.set_set, s_arr, s_setL, s_fold, swp_size, Nat.le_refl, Nat.zero_add, Array.size_setIfInBounds, Nat.reduceEqDiff, reduceCtorEq, Nat.reduceAdd, Nat.reduceLeDiff, Int.reduceLT, Int.reduceLE, ↓u_setN]
          refine ⟨fun z => (by exfalso; omega), fun _ => ?_⟩
          obtain ⟨d3, hd3⟩ : ∃ x, x = d2 := ⟨_, rfl⟩
          rw [← hd3] at g6 ⊢
          have k3 : d3.size = n := by rw [hd3]; exact k1
          have pw1 := pv1
          have pw2 := pv2
          rw [pdqB, if_neg (by simp)] at g6
          rw [pdqC] at g6
          refine ⟨fun c1 => ?_, fun c1 => ?_⟩
          · have f1 : IntKind.i64.wrap ((a1 : Int) - 1) = ((a1 - 1 : Nat) : Int) := wI (by omega) (by omega)
            simp only [f1, Int.toNat_natCast]
            and_intros <;> try omega
            refine (hc _ _).Q ?_
            simp only [cU, s_setU, k3, eL, e1, f1, ↓vcPre, ↓s_get, ↓reduceIte, vcPost, vcStd, Store.set_set, s_arr, s_setL, s_fold, swp_size, Nat.le_refl, Nat.zero_add, Array.size_setIfInBounds, Nat.reduceEqDiff, reduceCtorEq, Nat.reduceAdd, Nat.reduceLeDiff, Int.reduceLT, Int.reduceLE, ↓u_setN]
            refine ⟨fun c2 => ?_, fun c2 => ?_⟩
            · have hlt : ltU d3[a1 - 1]! d3[p]! = false := decide_eq_false c2
              rw [if_pos (by simp [hlt]; omega)] at g6
              have h76 := s145 hc d3 a1 b1 p pw1 pw2 (by omega) (by omega) σ id
              rw [k3] at h76
              refine h76.Q ?_
              rintro r s ⟨rfl, rfl⟩
              obtain ⟨r1, r2⟩ := partitionEqual_range ltU d3 a1 b1 p (by omega)
              have r3 := partitionEqual_size ltU d3 a1 b1 p
              clear h76
              generalize partitionEqual ltU d3 a1 b1 p = R at *
              obtain ⟨mid, d4⟩ := R
              simp only at r1 r2 r3 g6
              rw [if_pos ⟨r1, r2⟩] at g6
              simp only [cU, s_setU, k3, eL, e1, f1, ↓vcPre, ↓s_get, ↓reduceIte, vcPost, vcStd, Store.set_set, s_arr, s_setL, s_fold, swp_size, Nat.le_refl, Nat.zero_add, Array.size_setIfInBounds, Nat.reduceEqDiff, reduceCtorEq, Nat.reduceAdd, Nat.reduceLeDiff, Int.reduceLT, Int.reduceLE, ↓u_setN]
              refine NextQ.to (mid, b1, lm, true, false, d4) ?_ ?_ ?_ ?_
              · rfl
              · exact Store.sub_refl _
              · simp only; omega
              · exact ⟨by simp only; omega, by simp only; omega, g3, by simp only; omega, by simp only; omega, g6⟩
            · have hlt : ltU d3[a1 - 1]! d3[p]! = true := decide_eq_true (by omega)
              rw [if_neg (by simp [hlt])] at g6
              have hP := s146 hc d3 a1 b1 p pw1 pw2 (by omega) (by omega) σ id
              rw [k3] at hP
              refine hP.Q ?_
              rintro r s ⟨rfl, rfl⟩
              obtain ⟨r1, r2, r3, _⟩ := partition_holds ltU hO d3 a1 b1 p pw1 pw2 (by omega)
              clear hP
              generalize partition ltU d3 a1 b1 p = R at *
              obtain ⟨mid, ap, d4⟩ := R
              simp only at r1 r2 r3 g6
              have k4 : d4.size = n := by rw [r3.1]; exact k3
              rw [if_pos ⟨r1, r2⟩] at g6
              have f2 : IntKind.i64.wrap ((mid : Int) - a1) = ((mid - a1 : Nat) : Int) := wI (by omega) (by omega)
              have f3 : IntKind.i64.wrap ((b1 : Int) - mid) = ((b1 - mid : Nat) : Int) := wI (by omega) (by omega)
              have f4 : IntKind.i64.wrap ((mid : Int) + 1) = ((mid + 1 : Nat) : Int) := wI (by omega) (by omega)
              have f5 : IntKind.i64.wrap (((b1 - a1 : Nat) : Int).tdiv 8) = (((b1 - a1) / 8 : Nat) : Int) := wI (by rw [Int.tdiv_eq_ediv_of_nonneg (by omega)]; omega) (by omega)
              simp only [cU, s_setU, k4, eL, e1, f2, f3, f4, f5, ↓vcPre, ↓s_get, ↓reduceIte, vcPost, vcStd, Store.set_set, s_arr, s_setL, s_fold, swp_size, Nat.le_refl, Nat.zero_add, Array.size_setIfInBounds, Nat.reduceEqDiff, reduceCtorEq, Nat.reduceAdd, Nat.reduceLeDiff, Int.reduceLT, Int.reduceLE, ↓u_setN]
              refine ⟨by omega, fun z => ?_, fun z => ?_⟩
              · rw [if_pos (by omega)] at g6
                have hI := ih d4 a1 mid lm k4 (by omega) (by omega) (by omega) (by omega)
                have k5 : (pdq ltU d4 a1 mid lm true true).size = n := by rw [pdq_size _ hO _ _ _ _ _ _ _ (Nat.lt_succ_self _) (by omega) (by omega)]; exact k4
                generalize pdq ltU d4 a1 mid lm true true = D at hI k5 g6
                refine hI.Q ?_
                intro r s hrs
                have hr1 := hrs.1
                have hs1 := hrs.2
                clear hrs
                subst hr1
                subst hs1
                simp only [cU, s_setU, k5, eL, e1, f2, f3, f4, f5, ↓vcPre, ↓s_get, ↓reduceIte, vcPost, vcStd, Store.set_set, s_arr, s_setL, s_fold, swp_size, Nat.le_refl, Nat.zero_add, Array.size_setIfInBounds, Nat.reduceEqDiff, reduceCtorEq, Nat.reduceAdd, Nat.reduceLeDiff, Int.reduceLT, Int.reduceLE, ↓u_setN]
                refine NextQ.to (mid + 1, b1, lm, decide ((b1 - a1) / 8 ≤ mid - a1), ap, D) ?_ ?_ ?_ ?_
                · simp only [Int.ofNat_le]
                · exact Store.sub_refl _
                · simp only; omega
                · exact ⟨k5, by simp only; omega, g3, by simp only; omega, by simp only; omega, g6⟩
              · rw [if_neg (by omega)] at g6
                have hI := ih d4 (mid + 1) b1 lm k4 (by omega) (by omega) (by omega) (by omega)
                have k5 : (pdq ltU d4 (mid + 1) b1 lm true true).size = n := by rw [pdq_size _ hO _ _ _ _ _ _ _ (Nat.lt_succ_self _) (by omega) (by omega)]; exact k4
                generalize pdq ltU d4 (mid + 1) b1 lm true true = D at hI k5 g6
                refine hI.Q ?_
                intro r s hrs
                have hr1 := hrs.1
                have hs1 := hrs.2
                clear hrs
                subst hr1
                subst hs1
                simp only [cU, s_setU, k5, eL, e1, f2, f3, f4, f5, ↓vcPre, ↓s_get, ↓reduceIte, vcPost, vcStd, Store.set_set, s_arr, s_setL, s_fold, swp_size, Nat.le_refl, Nat.zero_add, Array.size_setIfInBounds, Nat.reduceEqDiff, reduceCtorEq, Nat.reduceAdd, Nat.reduceLeDiff, Int.reduceLT, Int.reduceLE, ↓u_setN]
                refine NextQ.to (a1, mid, lm, decide ((b1 - a1) / 8 ≤ b1 - mid), ap, D) ?_ ?_ ?_ ?_
                · simp only [Int.ofNat_le]
                · exact Store.sub_refl _
                · simp only; omega
                · exact ⟨k5, by simp only; omega, by simp only; omega, by simp only; omega, by simp only; omega, g6⟩
          · rw [if_neg (by simp; omega)] at g6
            have hP := s146 hc d3 a1 b1 p pw1 pw2 (by omega) (by omega) σ id
            rw [k3] at hP
            refine hP.Q ?_
            rintro r s ⟨rfl, rfl⟩
            obtain ⟨r1, r2, r3, _⟩ := partition_holds ltU hO d3 a1 b1 p pw1 pw2 (by omega)
            clear hP
            generalize partition ltU d3 a1 b1 p = R at *
            obtain ⟨mid, ap, d4⟩ := R
            simp only at r1 r2 r3 g6
            have k4 : d4.size = n := by rw [r3.1]; exact k3
            rw [if_pos ⟨r1, r2⟩] at g6
            have f2 : IntKind.i64.wrap ((mid : Int) - a1) = ((mid - a1 : Nat) : Int) := wI (by omega) (by omega)
            have f3 : IntKind.i64.wrap ((b1 : Int) - mid) = ((b1 - mid : Nat) : Int) := wI (by omega) (by omega)
            have f4 : IntKind.i64.wrap ((mid : Int) + 1) = ((mid + 1 : Nat) : Int) := wI (by omega) (by omega)
            have f5 : IntKind.i64.wrap (((b1 - a1 : Nat) : Int).tdiv 8) = (((b1 - a1) / 8 : Nat) : Int) := wI (by rw [Int.tdiv_eq_ediv_of_nonneg (by omega)]; omega) (by omega)
            simp only [cU, s_setU, k4, eL, e1, f2, f3, f4, f5, ↓vcPre, ↓s_get, ↓reduceIte, vcPost, vcStd, Store.set_set, s_arr, s_setL, s_fold, swp_size, Nat.le_refl, Nat.zero_add, Array.size_setIfInBounds, Nat.reduceEqDiff, reduceCtorEq, Nat.reduceAdd, Nat.reduceLeDiff, Int.reduceLT, Int.reduceLE, ↓u_setN]
            refine ⟨by omega, fun z => ?_, fun z => ?_⟩
            · rw [if_pos (by omega)] at g6
              have hI := ih d4 a1 mid lm k4 (by omega) (by omega) (by omega) (by omega)
              have k5 : (pdq ltU d4 a1 mid lm true true).size = n := by rw [pdq_size _ hO _ _ _ _ _ _ _ (Nat.lt_succ_self _) (by omega) (by omega)]; exact k4
              generalize pdq ltU d4 a1 mid lm true true = D at hI k5 g6
              refine hI.Q ?_
              intro r s hrs
              have hr1 := hrs.1
              have hs1 := hrs.2
              clear hrs
              subst hr1
              subst hs1
              simp only [cU, s_setU, k5, eL, e1, f2, f3, f4, f5, ↓vcPre, ↓s_get, ↓reduceIte, vcPost, vcStd, Store.set_set, s_arr, s_setL, s_fold, swp_size, Nat.le_refl, Nat.zero_add, Array.size_setIfInBounds, Nat.reduceEqDiff, reduceCtorEq, Nat.reduceAdd, Nat.reduceLeDiff, Int.reduceLT, Int.reduceLE, ↓u_setN]
              refine NextQ.to (mid + 1, b1, lm, decide ((b1 - a1) / 8 ≤ mid - a1), ap, D) ?_ ?_ ?_ ?_
              · simp only [Int.ofNat_le]
              · exact Store.sub_refl _
              · simp only; omega
              · exact ⟨k5, by simp only; omega, g3, by simp only; omega, by simp only; omega, g6⟩
            · rw [if_neg (by omega)] at g6
              have hI := ih d4 (mid + 1) b1 lm k4 (by omega) (by omega) (by omega) (by omega)
              have k5 : (pdq ltU d4 (mid + 1) b1 lm true true).size = n := by rw [pdq_size _ hO _ _ _ _ _ _ _ (Nat.lt_succ_self _) (by omega) (by omega)]; exact k4
              generalize pdq ltU d4 (mid + 1) b1 lm true true = D at hI k5 g6
              refine hI.Q ?_
              intro r s hrs
              have hr1 := hrs.1
              have hs1 := hrs.2
              clear hrs
              subst hr1
              subst hs1
              simp only [cU, s_setU, k5, eL, e1, f2, f3, f4, f5, ↓vcPre, ↓s_get, ↓reduceIte, vcPost, vcStd, Store.set_set, s_arr, s_setL, s_fold, swp_size, Nat.le_refl, Nat.zero_add, Array.size_setIfInBounds, Nat.reduceEqDiff, reduceCtorEq, Nat.reduceAdd, Nat.reduceLeDiff, Int.reduceLT, Int.reduceLE, ↓u_setN]
              refine NextQ.to (a1, mid, lm, decide ((b1 - a1) / 8 ≤ b1 - mid), ap, D) ?_ ?_ ?_ ?_
              · simp only [Int.ofNat_le]
              · exact Store.sub_refl _
              · simp only; omega
              · exact ⟨k5, by simp only; omega, by simp only; omega, by simp only; omega, by simp only; omega, g6⟩
        · rw [if_pos rfl] at g6
          have f6 : IntKind.i64.wrap ((b1 : Int) - 1) = ((b1 - 1 : Nat) : Int) := wI (by omega) (by omega)
          have f7 : IntKind.i64.wrap ((p : Int) - a1) = ((p - a1 : Nat) : Int) := wI (by omega) (by omega)
          have f8 : IntKind.i64.wrap (((b1 - 1 : Nat) : Int) - ((p - a1 : Nat) : Int)) = ((b1 - 1 - (p - a1) : Nat) : Int) := wI (by omega) (by omega)
          simp only [cU, s_setU, k1, eL, e1, ↓vcPre, ↓s_get, ↓reduceIte, vcPost, vcStd, Store.set_set, s_arr, s_setL, s_fold, swp_size, Nat.le_refl, Nat.zero_add, Array.size_setIfInBounds, Nat.reduceEqDiff, reduceCtorEq, Nat.reduceAdd, Nat.reduceLeDiff, Int.reduceLT, Int.reduceLE, ↓u_setN]
          have h74 := s142 hc d2 a1 b1 g2 (by omega) (by omega) σ id
          rw [k1] at h74
          refine h74.Q ?_
          intro r s hrs
          have hr1 := hrs.1
          have hs1 := hrs.2
          clear hrs
          subst hr1
          subst hs1
          obtain ⟨d3, hd3⟩ : ∃ x, x = reverseRange d2 a1 b1 := ⟨_, rfl⟩
          rw [← hd3] at g6 ⊢
          have k3 : d3.size = n := by rw [hd3, reverseRange, reverseLoop_size]; exact k1
          simp only [cU, s_setU, k3, eL, e1, f6, f7, f8, ↓vcPre, ↓s_get, ↓reduceIte, vcPost, vcStd, Store.set_set, s_arr, s_setL, s_fold, swp_size, Nat.le_refl, Nat.zero_add, Array.size_setIfInBounds, Nat.reduceEqDiff, reduceCtorEq, Nat.reduceAdd, Nat.reduceLeDiff, Int.reduceLT, Int.reduceLE, ↓u_setN]
          have pw1 : a1 ≤ b1 - 1 - (p - a1) := by omega
          have pw2 : b1 - 1 - (p - a1) < b1 := by omega
          generalize b1 - 1 - (p - a1) = p at *
          rw [pdqB, if_neg (by simp)] at g6
          rw [pdqC] at g6
          refine ⟨fun c1 => ?_, fun c1 => ?_⟩
          · have f1 : IntKind.i64.wrap ((a1 : Int) - 1) = ((a1 - 1 : Nat) : Int) := wI (by omega) (by omega)
            simp only [f1, Int.toNat_natCast]
            and_intros <;> try omega
            refine (hc _ _).Q ?_
            simp only [cU, s_setU, k3, eL, e1, f1, ↓vcPre, ↓s_get, ↓reduceIte, vcPost, vcStd, Store.set_set, s_arr, s_setL, s_fold, swp_size, Nat.le_refl, Nat.zero_add, Array.size_setIfInBounds, Nat.reduceEqDiff, reduceCtorEq, Nat.reduceAdd, Nat.reduceLeDiff, Int.reduceLT, Int.reduceLE, ↓u_setN]
            refine ⟨fun c2 => ?_, fun c2 => ?_⟩
            · have hlt : ltU d3[a1 - 1]! d3[p]! = false := decide_eq_false c2
              rw [if_pos (by simp [hlt]; omega)] at g6
              have h76 := s145 hc d3 a1 b1 p pw1 pw2 (by omega) (by omega) σ id
              rw [k3] at h76
              refine h76.Q ?_
              rintro r s ⟨rfl, rfl⟩
              obtain ⟨r1, r2⟩ := partitionEqual_range ltU d3 a1 b1 p (by omega)
              have r3 := partitionEqual_size ltU d3 a1 b1 p
              clear h76
              generalize partitionEqual ltU d3 a1 b1 p = R at *
              obtain ⟨mid, d4⟩ := R
              simp only at r1 r2 r3 g6
              rw [if_pos ⟨r1, r2⟩] at g6
              simp only [cU, s_setU, k3, eL, e1, f1, ↓vcPre, ↓s_get, ↓reduceIte, vcPost, vcStd, Store.set_set, s_arr, s_setL, s_fold, swp_size, Nat.le_refl, Nat.zero_add, Array.size_setIfInBounds, Nat.reduceEqDiff, reduceCtorEq, Nat.reduceAdd, Nat.reduceLeDiff, Int.reduceLT, Int.reduceLE, ↓u_setN]
              refine NextQ.to (mid, b1, lm, true, false, d4) ?_ ?_ ?_ ?_
              · rfl
              · exact Store.sub_refl _
              · simp only; omega
              · exact ⟨by simp only; omega, by simp only; omega, g3, by simp only; omega, by simp only; omega, g6⟩
            · have hlt : ltU d3[a1 - 1]! d3[p]! = true := decide_eq_true (by omega)
              rw [if_neg (by simp [hlt])] at g6
              have hP := s146 hc d3 a1 b1 p pw1 pw2 (by omega) (by omega) σ id
              rw [k3] at hP
              refine hP.Q ?_
              rintro r s ⟨rfl, rfl⟩
              obtain ⟨r1, r2, r3, _⟩ := partition_holds ltU hO d3 a1 b1 p pw1 pw2 (by omega)
              clear hP
              generalize partition ltU d3 a1 b1 p = R at *
              obtain ⟨mid, ap, d4⟩ := R
              simp only at r1 r2 r3 g6
              have k4 : d4.size = n := by rw [r3.1]; exact k3
              rw [if_pos ⟨r1, r2⟩] at g6
              have f2 : IntKind.i64.wrap ((mid : Int) - a1) = ((mid - a1 : Nat) : Int) := wI (by omega) (by omega)
              have f3 : IntKind.i64.wrap ((b1 : Int) - mid) = ((b1 - mid : Nat) : Int) := wI (by omega) (by omega)
              have f4 : IntKind.i64.wrap ((mid : Int) + 1) = ((mid + 1 : Nat) : Int) := wI (by omega) (by omega)
              have f5 : IntKind.i64.wrap (((b1 - a1 : Nat) : Int).tdiv 8) = (((b1 - a1) / 8 : Nat) : Int) := wI (by rw [Int.tdiv_eq_ediv_of_nonneg (by omega)]; omega) (by omega)
              simp only [cU, s_setU, k4, eL, e1, f2, f3, f4, f5, ↓vcPre, ↓s_get, ↓reduceIte, vcPost, vcStd, Store.set_set, s_arr, s_setL, s_fold, swp_size, Nat.le_refl, Nat.zero_add, Array.size_setIfInBounds, Nat.reduceEqDiff, reduceCtorEq, Nat.reduceAdd, Nat.reduceLeDiff, Int.reduceLT, Int.reduceLE, ↓u_setN]
              refine ⟨by omega, fun z => ?_, fun z => ?_⟩
              · rw [if_pos (by omega)] at g6
                have hI := ih d4 a1 mid lm k4 (by omega) (by omega) (by omega) (by omega)
                have k5 : (pdq ltU d4 a1 mid lm true true).size = n := by rw [pdq_size _ hO _ _ _ _ _ _ _ (Nat.lt_succ_self _) (by omega) (by omega)]; exact k4
                generalize pdq ltU d4 a1 mid lm true true = D at hI k5 g6
                refine hI.Q ?_
                intro r s hrs
                have hr1 := hrs.1
                have hs1 := hrs.2
                clear hrs
                subst hr1
                subst hs1
                simp only [cU, s_setU, k5, eL, e1, f2, f3, f4, f5, ↓vcPre, ↓s_get, ↓reduceIte, vcPost, vcStd, Store.set_set, s_arr, s_setL, s_fold, swp_size, Nat.le_refl, Nat.zero_add, Array.size_setIfInBounds, Nat.reduceEqDiff, reduceCtorEq, Nat.reduceAdd, Nat.reduceLeDiff, Int.reduceLT, Int.reduceLE, ↓u_setN]
                refine NextQ.to (mid + 1, b1, lm, decide ((b1 - a1) / 8 ≤ mid - a1), ap, D) ?_ ?_ ?_ ?_
                · simp only [Int.ofNat_le]
                · exact Store.sub_refl _
                · simp only; omega
                · exact ⟨k5, by simp only; omega, g3, by simp only; omega, by simp only; omega, g6⟩
              · rw [if_neg (by omega)] at g6
                have hI := ih d4 (mid + 1) b1 lm k4 (by omega) (by omega) (by omega) (by omega)
                have k5 : (pdq ltU d4 (mid + 1) b1 lm true true).size = n := by rw [pdq_size _ hO _ _ _ _ _ _ _ (Nat.lt_succ_self _) (by omega) (by omega)]; exact k4
                generalize pdq ltU d4 (mid + 1) b1 lm true true = D at hI k5 g6
                refine hI.Q ?_
                intro r s hrs
                have hr1 := hrs.1
                have hs1 := hrs.2
                clear hrs
                subst hr1
                subst hs1
                simp only [cU, s_setU, k5, eL, e1, f2, f3, f4, f5, ↓vcPre, ↓s_get, ↓reduceIte, vcPost, vcStd, Store.set_set, s_arr, s_setL, s_fold, swp_size, Nat.le_refl, Nat.zero_add, Array.size_setIfInBounds, Nat.reduceEqDiff, reduceCtorEq, Nat.reduceAdd, Nat.reduceLeDiff, Int.reduceLT, Int.reduceLE, ↓u_setN]
                refine NextQ.to (a1, mid, lm, decide ((b1 - a1) / 8 ≤ b1 - mid), ap, D) ?_ ?_ ?_ ?_
                · simp only [Int.ofNat_le]
                · exact Store.sub_refl _
                · simp only; omega
                · exact ⟨k5, by simp only; omega, by simp only; omega, by simp only; omega, by simp only; omega, g6⟩
          · rw [if_neg (by simp; omega)] at g6
            have hP := s146 hc d3 a1 b1 p pw1 pw2 (by omega) (by omega) σ id
            rw [k3] at hP
            refine hP.Q ?_
            rintro r s ⟨rfl, rfl⟩
            obtain ⟨r1, r2, r3, _⟩ := partition_holds ltU hO d3 a1 b1 p pw1 pw2 (by omega)
            clear hP
            generalize partition ltU d3 a1 b1 p = R at *
            obtain ⟨mid, ap, d4⟩ := R
            simp only at r1 r2 r3 g6
            have k4 : d4.size = n := by rw [r3.1]; exact k3
            rw [if_pos ⟨r1, r2⟩] at g6
            have f2 : IntKind.i64.wrap ((mid : Int) - a1) = ((mid - a1 : Nat) : Int) := wI (by omega) (by omega)
            have f3 : IntKind.i64.wrap ((b1 : Int) - mid) = ((b1 - mid : Nat) : Int) := wI (by omega) (by omega)
            have f4 : IntKind.i64.wrap ((mid : Int) + 1) = ((mid + 1 : Nat) : Int) := wI (by omega) (by omega)
            have f5 : IntKind.i64.wrap (((b1 - a1 : Nat) : Int).tdiv 8) = (((b1 - a1) / 8 : Nat) : Int) := wI (by rw [Int.tdiv_eq_ediv_of_nonneg (by omega)]; omega) (by omega)
            simp only [cU, s_setU, k4, eL, e1, f2, f3, f4, f5, ↓vcPre, ↓s_get, ↓reduceIte, vcPost, vcStd, Store.set_set, s_arr, s_setL, s_fold, swp_size, Nat.le_refl, Nat.zero_add, Array.size_setIfInBounds, Nat.reduceEqDiff, reduceCtorEq, Nat.reduceAdd, Nat.reduceLeDiff, Int.reduceLT, Int.reduceLE, ↓u_setN]
            refine ⟨by omega, fun z => ?_, fun z => ?_⟩
            · rw [if_pos (by omega)] at g6
              have hI := ih d4 a1 mid lm k4 (by omega) (by omega) (by omega) (by omega)
              have k5 : (pdq ltU d4 a1 mid lm true true).size = n := by rw [pdq_size _ hO _ _ _ _ _ _ _ (Nat.lt_succ_self _) (by omega) (by omega)]; exact k4
              generalize pdq ltU d4 a1 mid lm true true = D at hI k5 g6
              refine hI.Q ?_
              intro r s hrs
              have hr1 := hrs.1
              have hs1 := hrs.2
              clear hrs
              subst hr1
              subst hs1
              simp only [cU, s_setU, k5, eL, e1, f2, f3, f4, f5, ↓vcPre, ↓s_get, ↓reduceIte, vcPost, vcStd, Store.set_set, s_arr, s_setL, s_fold, swp_size, Nat.le_refl, Nat.zero_add, Array.size_setIfInBounds, Nat.reduceEqDiff, reduceCtorEq, Nat.reduceAdd, Nat.reduceLeDiff, Int.reduceLT, Int.reduceLE, ↓u_setN]
              refine NextQ.to (mid + 1, b1, lm, decide ((b1 - a1) / 8 ≤ mid - a1), ap, D) ?_ ?_ ?_ ?_
              · simp only [Int.ofNat_le]
              · exact Store.sub_refl _
              · simp only; omega
              · exact ⟨k5, by simp only; omega, g3, by simp only; omega, by simp only; omega, g6⟩
            · rw [if_neg (by omega)] at g6
              have hI := ih d4 (mid + 1) b1 lm k4 (by omega) (by omega) (by omega) (by omega)
              have k5 : (pdq ltU d4 (mid + 1) b1 lm true true).size = n := by rw [pdq_size _ hO _ _ _ _ _ _ _ (Nat.lt_succ_self _) (by omega) (by omega)]; exact k4
              generalize pdq ltU d4 (mid + 1) b1 lm true true = D at hI k5 g6
              refine hI.Q ?_
              intro r s hrs
              have hr1 := hrs.1
              have hs1 := hrs.2
              clear hrs
              subst hr1
              subst hs1
              simp only [cU, s_setU, k5, eL, e1, f2, f3, f4, f5, ↓vcPre, ↓s_get, ↓reduceIte, vcPost, vcStd, Store.set_set, s_arr, s_setL, s_fold, swp_size, Nat.le_refl, Nat.zero_add, Array.size_setIfInBounds, Nat.reduceEqDiff, reduceCtorEq, Nat.reduceAdd, Nat.reduceLeDiff, Int.reduceLT, Int.reduceLE, ↓u_setN]
              refine NextQ.to (a1, mid, lm, decide ((b1 - a1) / 8 ≤ b1 - mid), ap, D) ?_ ?_ ?_ ?_
              · simp only [Int.ofNat_le]
              · exact Store.sub_refl _
              · simp only; omega
              · exact ⟨k5, by simp only; omega, by simp only; omega, by simp only; omega, by simp only; omega, g6⟩
      · have hA := s141 hc d2 a1 b1 (by omega) (by omega) (by omega) σ id
        rw [k1] at hA
        refine hA.Q ?_
        rintro r s ⟨rfl, rfl⟩
        obtain ⟨pv1, pv2⟩ := choosePivot_holds ltU d2 a1 b1 (by omega)
        rw [pdqA] at g6
        clear hA
        generalize choosePivot ltU d2 a1 b1 = R at *
        obtain ⟨p, hh⟩ := R
        simp only at pv1 pv2 g6
        cases hh
        · rw [if_neg (by decide)] at g6
          simp only [cU, s_setU, k1, eL, e1, ↓vcPre, ↓s_get, ↓reduceIte, vcPost, vcStd, Store.set_set, s_arr, s_setL, s_fold, swp_size, Nat.le_refl, Nat.zero_add, Array.size_setIfInBounds, Nat.reduceEqDiff, reduceCtorEq, Nat.reduceAdd, Nat.reduceLeDiff, Int.reduceLT, Int.reduceLE, ↓u_setN]
          refine ⟨fun z => (by exfalso; omega), fun _ => ?_⟩
          obtain ⟨d3, hd3⟩ : ∃ x, x = d2 := ⟨_, rfl⟩
          rw [← hd3] at g6 ⊢
          have k3 : d3.size = n := by rw [hd3]; exact k1
          have pw1 := pv1
          have pw2 := pv2
          rw [pdqB, if_neg (by simp)] at g6
          refine ⟨fun z => (by exfalso; omega), fun _ => ?_⟩
          rw [pdqC] at g6
          refine ⟨fun c1 => ?_, fun c1 => ?_⟩
          · have f1 : IntKind.i64.wrap ((a1 : Int) - 1) = ((a1 - 1 : Nat) : Int) := wI (by omega) (by omega)
            simp only [f1, Int.toNat_natCast]
            and_intros <;> try omega
            refine (hc _ _).Q ?_
            simp only [cU, s_setU, k3, eL, e1, f1, ↓vcPre, ↓s_get, ↓reduceIte, vcPost, vcStd, Store.set_set, s_arr, s_setL, s_fold, swp_size, Nat.le_refl, Nat.zero_add, Array.size_setIfInBounds, Nat.reduceEqDiff, reduceCtorEq, Nat.reduceAdd, Nat.reduceLeDiff, Int.reduceLT, Int.reduceLE, ↓u_setN]
            refine ⟨fun c2 => ?_, fun c2 => ?_⟩
            · have hlt : ltU d3[a1 - 1]! d3[p]! = false := decide_eq_false c2
              rw [if_pos (by simp [hlt]; omega)] at g6
              have h76 := s145 hc d3 a1 b1 p pw1 pw2 (by omega) (by omega) σ id
              rw [k3] at h76
              refine h76.Q ?_
              rintro r s ⟨rfl, rfl⟩
              obtain ⟨r1, r2⟩ := partitionEqual_range ltU d3 a1 b1 p (by omega)
              have r3 := partitionEqual_size ltU d3 a1 b1 p
              clear h76
              generalize partitionEqual ltU d3 a1 b1 p = R at *
              obtain ⟨mid, d4⟩ := R
              simp only at r1 r2 r3 g6
              rw [if_pos ⟨r1, r2⟩] at g6
              simp only [cU, s_setU, k3, eL, e1, f1, ↓vcPre, ↓s_get, ↓reduceIte, vcPost, vcStd, Store.set_set, s_arr, s_setL, s_fold, swp_size, Nat.le_refl, Nat.zero_add, Array.size_setIfInBounds, Nat.reduceEqDiff, reduceCtorEq, Nat.reduceAdd, Nat.reduceLeDiff, Int.reduceLT, Int.reduceLE, ↓u_setN]
              refine NextQ.to (mid, b1, lm, true, true, d4) ?_ ?_ ?_ ?_
              · rfl
              · exact Store.sub_refl _
              · simp only; omega
              · exact ⟨by simp only; omega, by simp only; omega, g3, by simp only; omega, by simp only; omega, g6⟩
            · have hlt : ltU d3[a1 - 1]! d3[p]! = true := decide_eq_true (by omega)
              rw [if_neg (by simp [hlt])] at g6
              have hP := s146 hc d3 a1 b1 p pw1 pw2 (by omega) (by omega) σ id
              rw [k3] at hP
              refine hP.Q ?_
              rintro r s ⟨rfl, rfl⟩
              obtain ⟨r1, r2, r3, _⟩ := partition_holds ltU hO d3 a1 b1 p pw1 pw2 (by omega)
              clear hP
              generalize partition ltU d3 a1 b1 p = R at *
              obtain ⟨mid, ap, d4⟩ := R
              simp only at r1 r2 r3 g6
              have k4 : d4.size = n := by rw [r3.1]; exact k3
              rw [if_pos ⟨r1, r2⟩] at g6
              have f2 : IntKind.i64.wrap ((mid : Int) - a1) = ((mid - a1 : Nat) : Int) := wI (by omega) (by omega)
              have f3 : IntKind.i64.wrap ((b1 : Int) - mid) = ((b1 - mid : Nat) : Int) := wI (by omega) (by omega)
              have f4 : IntKind.i64.wrap ((mid : Int) + 1) = ((mid + 1 : Nat) : Int) := wI (by omega) (by omega)
              have f5 : IntKind.i64.wrap (((b1 - a1 : Nat) : Int).tdiv 8) = (((b1 - a1) / 8 : Nat) : Int) := wI (by rw [Int.tdiv_eq_ediv_of_nonneg (by omega)]; omega) (by omega)
              simp only [cU, s_setU, k4, eL, e1, f2, f3, f4, f5, ↓vcPre, ↓s_get, ↓reduceIte, vcPost, vcStd, Store.set_set, s_arr, s_setL, s_fold, swp_size, Nat.le_refl, Nat.zero_add, Array.size_setIfInBounds, Nat.reduceEqDiff, reduceCtorEq, Nat.reduceAdd, Nat.reduceLeDiff, Int.reduceLT, Int.reduceLE, ↓u_setN]
              refine ⟨by omega, fun z => ?_, fun z => ?_⟩
              · rw [if_pos (by omega)] at g6
                have hI := ih d4 a1 mid lm k4 (by omega) (by omega) (by omega) (by omega)
                have k5 : (pdq ltU d4 a1 mid lm true true).size = n := by rw [pdq_size _ hO _ _ _ _ _ _ _ (Nat.lt_succ_self _) (by omega) (by omega)]; exact k4
                generalize pdq ltU d4 a1 mid lm true true = D at hI k5 g6
                refine hI.Q ?_
                intro r s hrs
                have hr1 := hrs.1
                have hs1 := hrs.2
                clear hrs
                subst hr1
                subst hs1
                simp only [cU, s_setU, k5, eL, e1, f2, f3, f4, f5, ↓vcPre, ↓s_get, ↓reduceIte, vcPost, vcStd, Store.set_set, s_arr, s_setL, s_fold, swp_size, Nat.le_refl, Nat.zero_add, Array.size_setIfInBounds, Nat.reduceEqDiff, reduceCtorEq, Nat.reduceAdd, Nat.reduceLeDiff, Int.reduceLT, Int.reduceLE, ↓u_setN]
                refine NextQ.to (mid + 1, b1, lm, decide ((b1 - a1) / 8 ≤ mid - a1), ap, D) ?_ ?_ ?_ ?_
                · simp only [Int.ofNat_le]
                · exact Store.sub_refl _
                · simp only; omega
                · exact ⟨k5, by simp only; omega, g3, by simp only; omega, by simp only; omega, g6⟩
              · rw [if_neg (by omega)] at g6
                have hI := ih d4 (mid + 1) b1 lm k4 (by omega) (by omega) (by omega) (by omega)
                have k5 : (pdq ltU d4 (mid + 1) b1 lm true true).size = n := by rw [pdq_size _ hO _ _ _ _ _ _ _ (Nat.lt_succ_self _) (by omega) (by omega)]; exact k4
                generalize pdq ltU d4 (mid + 1) b1 lm true true = D at hI k5 g6
                refine hI.Q ?_
                intro r s hrs
                have hr1 := hrs.1
                have hs1 := hrs.2
                clear hrs
                subst hr1
                subst hs1
                simp only [cU, s_setU, k5, eL, e1, f2, f3, f4, f5, ↓vcPre, ↓s_get, ↓reduceIte, vcPost, vcStd, Store.set_set, s_arr, s_setL, s_fold, swp_size, Nat.le_refl, Nat.zero_add, Array.size_setIfInBounds, Nat.reduceEqDiff, reduceCtorEq, Nat.reduceAdd, Nat.reduceLeDiff, Int.reduceLT, Int.reduceLE, ↓u_setN]
                refine NextQ.to (a1, mid, lm, decide ((b1 - a1) / 8 ≤ b1 - mid), ap, D) ?_ ?_ ?_ ?_
                · simp only [Int.ofNat_le]
                · exact Store.sub_refl _
                · simp only; omega
                · exact ⟨k5, by simp only; omega, by simp only; omega, by simp only; omega, by simp only; omega, g6⟩
          · rw [if_neg (by simp; omega)] at g6
            have hP := s146 hc d3 a1 b1 p pw1 pw2 (by omega) (by omega) σ id
            rw [k3] at hP
            refine hP.Q ?_
            rintro r s ⟨rfl, rfl⟩
            obtain ⟨r1, r2, r3, _⟩ := partition_holds ltU hO d3 a1 b1 p pw1 pw2 (by omega)
            clear hP
            generalize partition ltU d3 a1 b1 p = R at *
            obtain ⟨mid, ap, d4⟩ := R
            simp only at r1 r2 r3 g6
            have k4 : d4.size = n := by rw [r3.1]; exact k3
            rw [if_pos ⟨r1, r2⟩] at g6
            have f2 : IntKind.i64.wrap ((mid : Int) - a1) = ((mid - a1 : Nat) : Int) := wI (by omega) (by omega)
            have f3 : IntKind.i64.wrap ((b1 : Int) - mid) = ((b1 - mid : Nat) : Int) := wI (by omega) (by omega)
            have f4 : IntKind.i64.wrap ((mid : Int) + 1) = ((mid + 1 : Nat) : Int) := wI (by omega) (by omega)
            have f5 : IntKind.i64.wrap (((b1 - a1 : Nat) : Int).tdiv 8) = (((b1 - a1) / 8 : Nat) : Int) := wI (by rw [Int.tdiv_eq_ediv_of_nonneg (by omega)]; omega) (by omega)
            simp only [cU, s_setU, k4, eL, e1, f2, f3, f4, f5, ↓vcPre, ↓s_get, ↓reduceIte, vcPost, vcStd, Store.set_set, s_arr, s_setL, s_fold, swp_size, Nat.le_refl, Nat.zero_add, Array.size_setIfInBounds, Nat.reduceEqDiff, reduceCtorEq, Nat.reduceAdd, Nat.reduceLeDiff, Int.reduceLT, Int.reduceLE, ↓u_setN]
            refine ⟨by omega, fun z => ?_, fun z => ?_⟩
            · rw [if_pos (by omega)] at g6
              have hI := ih d4 a1 mid lm k4 (by omega) (by omega) (by omega) (by omega)
              have k5 : (pdq ltU d4 a1 mid lm true true).size = n := by rw [pdq_size _ hO _ _ _ _ _ _ _ (Nat.lt_succ_self _) (by omega) (by omega)]; exact k4
              generalize pdq ltU d4 a1 mid lm true true = D at hI k5 g6
              refine hI.Q ?_
              intro r s hrs
              have hr1 := hrs.1
              have hs1 := hrs.2
              clear hrs
              subst hr1
              subst hs1
              simp only [cU, s_setU, k5, eL, e1, f2, f3, f4, f5, ↓vcPre, ↓s_get, ↓reduceIte, vcPost, vcStd, Store.set_set, s_arr, s_setL, s_fold, swp_size, Nat.le_refl, Nat.zero_add, Array.size_setIfInBounds, Nat.reduceEqDiff, reduceCtorEq, Nat.reduceAdd, Nat.reduceLeDiff, Int.reduceLT, Int.reduceLE, ↓u_setN]
              refine NextQ.to (mid + 1, b1, lm, decide ((b1 - a1) / 8 ≤ mid - a1), ap, D) ?_ ?_ ?_ ?_
              · simp only [Int.ofNat_le]
              · exact Store.sub_refl _
              · simp only; omega
              · exact ⟨k5, by simp only; omega, g3, by simp only; omega, by simp only; omega, g6⟩
            · rw [if_neg (by omega)] at g6
              have hI := ih d4 (mid + 1) b1 lm k4 (by omega) (by omega) (by omega) (by omega)
              have k5 : (pdq ltU d4 (mid + 1) b1 lm true true).size = n := by rw [pdq_size _ hO _ _ _ _ _ _ _ (Nat.lt_succ_self _) (by omega) (by omega)]; exact k4
              generalize pdq ltU d4 (mid + 1) b1 lm true true = D at hI k5 g6
              refine hI.Q ?_
              intro r s hrs
              have hr1 := hrs.1
              have hs1 := hrs.2
              clear hrs
              subst hr1
              subst hs1
              simp only [cU, s_setU, k5, eL, e1, f2, f3, f4, f5, ↓vcPre, ↓s_get, ↓reduceIte, vcPost, vcStd, Store.set_set, s_arr, s_setL, s_fold, swp_size, Nat.le_refl, Nat.zero_add, Array.size_setIfInBounds, Nat.reduceEqDiff, reduceCtorEq, Nat.reduceAdd, Nat.reduceLeDiff, Int.reduceLT, Int.reduceLE, ↓u_setN]
              refine NextQ.to (a1, mid, lm, decide ((b1 - a1) / 8 ≤ b1 - mid), ap, D) ?_ ?_ ?_ ?_
              · simp only [Int.ofNat_le]
              · exact Store.sub_refl _
              · simp only; omega
              · exact ⟨k5, by simp only; omega, by simp only; omega, by simp only; omega, by simp only; omega, g6⟩
        · rw [if_neg (by decide)] at g6
          simp only [cU, s_setU, k1, eL, e1, ↓vcPre, ↓s_get, ↓reduceIte, vcPost, vcStd, Store.set_set, s_arr, s_setL, s_fold, swp_size, Nat.le_refl, Nat.zero_add, Array.size_setIfInBounds, Nat.reduceEqDiff, reduceCtorEq, Nat.reduceAdd, Nat.reduceLeDiff, Int.reduceLT, Int.reduceLE, ↓u_setN]
          refine ⟨fun z => (by exfalso; omega), fun _ => ?_⟩
          obtain ⟨d3, hd3⟩ : ∃ x, x = d2 := ⟨_, rfl⟩
          rw [← hd3] at g6 ⊢
          have k3 : d3.size = n := by rw [hd3]; exact k1
          have pw1 := pv1
          have pw2 := pv2
          rw [pdqB, if_pos (by simp)] at g6
          have h75 := s143 hc d3 a1 b1 (by omega) (by omega) (by omega) σ id
          have k7 : (partialInsertionSort ltU d3 a1 b1).1.size = n := by rw [partialInsertionSort, partialIns_size]; exact k3
          rw [k3] at h75
          generalize partialInsertionSort ltU d3 a1 b1 = R at h75 k7 g6
          refine h75.Q ?_
          intro r s hrs
          have hr1 := hrs.1
          have hs1 := hrs.2
          clear hrs
          subst hr1
          subst hs1
          clear h75
          obtain ⟨d3, pb⟩ := R
          have k3 : d3.size = n := k7
          simp only at g6
          cases pb
          · rw [if_neg (by simp)] at g6
            simp only [cU, s_setU, k3, eL, e1, ↓vcPre, ↓s_get, ↓reduceIte, vcPost, vcStd, Store.set_set, s_arr, s_setL, s_fold, swp_size, Nat.le_refl, Nat.zero_add, Array.size_setIfInBounds, Nat.reduceEqDiff, reduceCtorEq, Nat.reduceAdd, Nat.reduceLeDiff, Int.reduceLT, Int.reduceLE, ↓u_setN]
            rw [pdqC] at g6
            refine ⟨fun c1 => ?_, fun c1 => ?_⟩
            · have f1 : IntKind.i64.wrap ((a1 : Int) - 1) = ((a1 - 1 : Nat) : Int) := wI (by omega) (by omega)
              simp only [f1, Int.toNat_natCast]
              and_intros <;> try omega
              refine (hc _ _).Q ?_
              simp only [cU, s_setU, k3, eL, e1, f1, ↓vcPre, ↓s_get, ↓reduceIte, vcPost, vcStd, Store.set_set, s_arr, s_setL, s_fold, swp_size, Nat.le_refl, Nat.zero_add, Array.size_setIfInBounds, Nat.reduceEqDiff, reduceCtorEq, Nat.reduceAdd, Nat.reduceLeDiff, Int.reduceLT, Int.reduceLE, ↓u_setN]
              refine ⟨fun c2 => ?_, fun c2 => ?_⟩
              · have hlt : ltU d3[a1 - 1]! d3[p]! = false := decide_eq_false c2
                rw [if_pos (by simp [hlt]; omega)] at g6
                have h76 := s145 hc d3 a1 b1 p pw1 pw2 (by omega) (by omega) σ id
                rw [k3] at h76
                refine h76.Q ?_
                rintro r s ⟨rfl, rfl⟩
                obtain ⟨r1, r2⟩ := partitionEqual_range ltU d3 a1 b1 p (by omega)
                have r3 := partitionEqual_size ltU d3 a1 b1 p
                clear h76
                generalize partitionEqual ltU d3 a1 b1 p = R at *
                obtain ⟨mid, d4⟩ := R
                simp only at r1 r2 r3 g6
                rw [if_pos ⟨r1, r2⟩] at g6
                simp only [cU, s_setU, k3, eL, e1, f1, ↓vcPre, ↓s_get, ↓reduceIte, vcPost, vcStd, Store.set_set, s_arr, s_setL, s_fold, swp_size, Nat.le_refl, Nat.zero_add, Array.size_setIfInBounds, Nat.reduceEqDiff, reduceCtorEq, Nat.reduceAdd, Nat.reduceLeDiff, Int.reduceLT, Int.reduceLE, ↓u_setN]
                refine NextQ.to (mid, b1, lm, true, true, d4) ?_ ?_ ?_ ?_
                · rfl
                · exact Store.sub_refl _
                · simp only; omega
                · exact ⟨by simp only; omega, by simp only; omega, g3, by simp only; omega, by simp only; omega, g6⟩
              · have hlt : ltU d3[a1 - 1]! d3[p]! = true := decide_eq_true (by omega)
                rw [if_neg (by simp [hlt])] at g6
                have hP := s146 hc d3 a1 b1 p pw1 pw2 (by omega) (by omega) σ id
                rw [k3] at hP
                refine hP.Q ?_
                rintro r s ⟨rfl, rfl⟩
                obtain ⟨r1, r2, r3, _⟩ := partition_holds ltU hO d3 a1 b1 p pw1 pw2 (by omega)
                clear hP
                generalize partition ltU d3 a1 b1 p = R at *
                obtain ⟨mid, ap, d4⟩ := R
                simp only at r1 r2 r3 g6
                have k4 : d4.size = n := by rw [r3.1]; exact k3
                rw [if_pos ⟨r1, r2⟩] at g6
                have f2 : IntKind.i64.wrap ((mid : Int) - a1) = ((mid - a1 : Nat) : Int) := wI (by omega) (by omega)
                have f3 : IntKind.i64.wrap ((b1 : Int) - mid) = ((b1 - mid : Nat) : Int) := wI (by omega) (by omega)
                have f4 : IntKind.i64.wrap ((mid : Int) + 1) = ((mid + 1 : Nat) : Int) := wI (by omega) (by omega)
                have f5 : IntKind.i64.wrap (((b1 - a1 : Nat) : Int).tdiv 8) = (((b1 - a1) / 8 : Nat) : Int) := wI (by rw [Int.tdiv_eq_ediv_of_nonneg (by omega)]; omega) (by omega)
                simp only [cU, s_setU, k4, eL, e1, f2, f3, f4, f5, ↓vcPre, ↓s_get, ↓reduceIte, vcPost, vcStd, Store.set_set, s_arr, s_setL, s_fold, swp_size, Nat.le_refl, Nat.zero_add, Array.size_setIfInBounds, Nat.reduceEqDiff, reduceCtorEq, Nat.reduceAdd, Nat.reduceLeDiff, Int.reduceLT, Int.reduceLE, ↓u_setN]
                refine ⟨by omega, fun z => ?_, fun z => ?_⟩
                · rw [if_pos (by omega)] at g6
                  have hI := ih d4 a1 mid lm k4 (by omega) (by omega) (by omega) (by omega)
                  have k5 : (pdq ltU d4 a1 mid lm true true).size = n := by rw [pdq_size _ hO _ _ _ _ _ _ _ (Nat.lt_succ_self _) (by omega) (by omega)]; exact k4
                  generalize pdq ltU d4 a1 mid lm true true = D at hI k5 g6
                  refine hI.Q ?_
                  intro r s hrs
                  have hr1 := hrs.1
                  have hs1 := hrs.2
                  clear hrs
                  subst hr1
                  subst hs1
                  simp only [cU, s_setU, k5, eL, e1, f2, f3, f4, f5, ↓vcPre, ↓s_get, ↓reduceIte, vcPost, vcStd, Store.set_set, s_arr, s_setL, s_fold, swp_size, Nat.le_refl, Nat.zero_add, Array.size_setIfInBounds, Nat.reduceEqDiff, reduceCtorEq, Nat.reduceAdd, Nat.reduceLeDiff, Int.reduceLT, Int.reduceLE, ↓u_setN]
                  refine NextQ.to (mid + 1, b1, lm, decide ((b1 - a1) / 8 ≤ mid - a1), ap, D) ?_ ?_ ?_ ?_
                  · simp only [Int.ofNat_le]
                  · exact Store.sub_refl _
                  · simp only; omega
                  · exact ⟨k5, by simp only; omega, g3, by simp only; omega, by simp only; omega, g6⟩
                · rw [if_neg (by omega)] at g6
                  have hI := ih d4 (mid + 1) b1 lm k4 (by omega) (by omega) (by omega) (by omega)
                  have k5 : (pdq ltU d4 (mid + 1) b1 lm true true).size = n := by rw [pdq_size _ hO _ _ _ _ _ _ _ (Nat.lt_succ_self _) (by omega) (by omega)]; exact k4
                  generalize pdq ltU d4 (mid + 1) b1 lm true true = D at hI k5 g6
                  refine hI.Q ?_
                  intro r s hrs
                  have hr1 := hrs.1
                  have hs1 := hrs.2
                  clear hrs
                  subst hr1
                  subst hs1
                  simp only [cU, s_setU, k5, eL, e1, f2, f3, f4, f5, ↓vcPre, ↓s_get, ↓reduceIte, vcPost, vcStd, Store.set_set, s_arr, s_setL, s_fold, swp_size, Nat.le_refl, Nat.zero_add, Array.size_setIfInBounds, Nat.reduceEqDiff, reduceCtorEq, Nat.reduceAdd, Nat.reduceLeDiff, Int.reduceLT, Int.reduceLE, ↓u_setN]
                  refine NextQ.to (a1, mid, lm, decide ((b1 - a1) / 8 ≤ b1 - mid), ap, D) ?_ ?_ ?_ ?_
                  · simp only [Int.ofNat_le]
                  · exact Store.sub_refl _
                  · simp only; omega
                  · exact ⟨k5, by simp only; omega, by simp only; omega, by simp only; omega, by simp only; omega, g6⟩
            · rw [if_neg (by simp; omega)] at g6
              have hP := s146 hc d3 a1 b1 p pw1 pw2 (by omega) (by omega) σ id
              rw [k3] at hP
              refine hP.Q ?_
              rintro r s ⟨rfl, rfl⟩
              obtain ⟨r1, r2, r3, _⟩ := partition_holds ltU hO d3 a1 b1 p pw1 pw2 (by omega)
              clear hP
              generalize partition ltU d3 a1 b1 p = R at *
              obtain ⟨mid, ap, d4⟩ := R
              simp only at r1 r2 r3 g6
              have k4 : d4.size = n := by rw [r3.1]; exact k3
              rw [if_pos ⟨r1, r2⟩] at g6
              have f2 : IntKind.i64.wrap ((mid : Int) - a1) = ((mid - a1 : Nat) : Int) := wI (by omega) (by omega)
              have f3 : IntKind.i64.wrap ((b1 : Int) - mid) = ((b1 - mid : Nat) : Int) := wI (by omega) (by omega)
              have f4 : IntKind.i64.wrap ((mid : Int) + 1) = ((mid + 1 : Nat) : Int) := wI (by omega) (by omega)
              have f5 : IntKind.i64.wrap (((b1 - a1 : Nat) : Int).tdiv 8) = (((b1 - a1) / 8 : Nat) : Int) := wI (by rw [Int.tdiv_eq_ediv_of_nonneg (by omega)]; omega) (by omega)
              simp only [cU, s_setU, k4, eL, e1, f2, f3, f4, f5, ↓vcPre, ↓s_get, ↓reduceIte, vcPost, vcStd, Store.set_set, s_arr, s_setL, s_fold, swp_size, Nat.le_refl, Nat.zero_add, Array.size_setIfInBounds, Nat.reduceEqDiff, reduceCtorEq, Nat.reduceAdd, Nat.reduceLeDiff, Int.reduceLT, Int.reduceLE, ↓u_setN]
              refine ⟨by omega, fun z => ?_, fun z => ?_⟩
              · rw [if_pos (by omega)] at g6
                have hI := ih d4 a1 mid lm k4 (by omega) (by omega) (by omega) (by omega)
                have k5 : (pdq ltU d4 a1 mid lm true true).size = n := by rw [pdq_size _ hO _ _ _ _ _ _ _ (Nat.lt_succ_self _) (by omega) (by omega)]; exact k4
                generalize pdq ltU d4 a1 mid lm true true = D at hI k5 g6
                refine hI.Q ?_
                intro r s hrs
                have hr1 := hrs.1
                have hs1 := hrs.2
                clear hrs
                subst hr1
                subst hs1
                simp only [cU, s_setU, k5, eL, e1, f2, f3, f4, f5, ↓vcPre, ↓s_get, ↓reduceIte, vcPost, vcStd, Store.set_set, s_arr, s_setL, s_fold, swp_size, Nat.le_refl, Nat.zero_add, Array.size_setIfInBounds, Nat.reduceEqDiff, reduceCtorEq, Nat.reduceAdd, Nat.reduceLeDiff, Int.reduceLT, Int.reduceLE, ↓u_setN]
                refine NextQ.to (mid + 1, b1, lm, decide ((b1 - a1) / 8 ≤ mid - a1), ap, D) ?_ ?_ ?_ ?_
                · simp only [Int.ofNat_le]
                · exact Store.sub_refl _
                · simp only; omega
                · exact ⟨k5, by simp only; omega, g3, by simp only; omega, by simp only; omega, g6⟩
              · rw [if_neg (by omega)] at g6
                have hI := ih d4 (mid + 1) b1 lm k4 (by omega) (by omega) (by omega) (by omega)
                have k5 : (pdq ltU d4 (mid + 1) b1 lm true true).size = n := by rw [pdq_size _ hO _ _ _ _ _ _ _ (Nat.lt_succ_self _) (by omega) (by omega)]; exact k4
                generalize pdq ltU d4 (mid + 1) b1 lm true true = D at hI k5 g6
                refine hI.Q ?_
                intro r s hrs
                have hr1 := hrs.1
                have hs1 := hrs.2
                clear hrs
                subst hr1
                subst hs1
                simp only [cU, s_setU, k5, eL, e1, f2, f3, f4, f5, ↓vcPre, ↓s_get, ↓reduceIte, vcPost, vcStd, Store.set_set, s_arr, s_setL, s_fold, swp_size, Nat.le_refl, Nat.zero_add, Array.size_setIfInBounds, Nat.reduceEqDiff, reduceCtorEq, Nat.reduceAdd, Nat.reduceLeDiff, Int.reduceLT, Int.reduceLE, ↓u_setN]
                refine NextQ.to (a1, mid, lm, decide ((b1 - a1) / 8 ≤ b1 - mid), ap, D) ?_ ?_ ?_ ?_
                · simp only [Int.ofNat_le]
                · exact Store.sub_refl _
                · simp only; omega
                · exact ⟨k5, by simp only; omega, by simp only; omega, by simp only; omega, by simp only; omega, g6⟩
          · rw [if_pos rfl] at g6
            simp only [cU, s_setU, k3, eL, e1, ↓vcPre, ↓s_get, ↓reduceIte, vcPost, vcStd, Store.set_set, s_arr, s_setL, s_fold, swp_size, Nat.le_refl, Nat.zero_add, Array.size_setIfInBounds, Nat.reduceEqDiff, reduceCtorEq, Nat.reduceAdd, Nat.reduceLeDiff, Int.reduceLT, Int.reduceLE, ↓u_setN]
            exact EndQ.to _ _ rfl (Store.sub_refl _) ⟨rfl, by rw [g6]⟩
        · rw [if_pos rfl] at g6
          have f6 : IntKind.i64.wrap ((b1 : Int) - 1) = ((b1 - 1 : Nat) : Int) := wI (by omega) (by omega)
          have f7 : IntKind.i64.wrap ((p : Int) - a1) = ((p - a1 : Nat) : Int) := wI (by omega) (by omega)
          have f8 : IntKind.i64.wrap (((b1 - 1 : Nat) : Int) - ((p - a1 : Nat) : Int)) = ((b1 - 1 - (p - a1) : Nat) : Int) := wI (by omega) (by omega)
          simp only [cU, s_setU, k1, eL, e1, ↓vcPre, ↓s_get, ↓reduceIte, vcPost, vcStd, Store.set_set, s_arr, s_setL, s_fold, swp_size, Nat.le_refl, Nat.zero_add, Array.size_setIfInBounds, Nat.reduceEqDiff, reduceCtorEq, Nat.reduceAdd, Nat.reduceLeDiff, Int.reduceLT, Int.reduceLE, ↓u_setN]
          have h74 := s142 hc d2 a1 b1 g2 (by omega) (by omega) σ id
          rw [k1] at h74
          refine h74.Q ?_
          intro r s hrs
          have hr1 := hrs.1
          have hs1 := hrs.2
          clear hrs
          subst hr1
          subst hs1
          obtain ⟨d3, hd3⟩ : ∃ x, x = reverseRange d2 a1 b1 := ⟨_, rfl⟩
          rw [← hd3] at g6 ⊢
          have k3 : d3.size = n := by rw [hd3, reverseRange, reverseLoop_size]; exact k1
          simp only [cU, s_setU, k3, eL, e1, f6, f7, f8, ↓vcPre, ↓s_get, ↓reduceIte, vcPost, vcStd, Store.set_set, s_arr, s_setL, s_fold, swp_size, Nat.le_refl, Nat.zero_add, Array.size_setIfInBounds, Nat.reduceEqDiff, reduceCtorEq, Nat.reduceAdd, Nat.reduceLeDiff, Int.reduceLT, Int.reduceLE, ↓u_setN]
          have pw1 : a1 ≤ b1 - 1 - (p - a1) := by omega
          have pw2 : b1 - 1 - (p - a1) < b1 := by omega
          generalize b1 - 1 - (p - a1) = p at *
          rw [pdqB, if_pos (by simp)] at g6
          have h75 := s143 hc d3 a1 b1 (by omega) (by omega) (by omega) σ id
          have k7 : (partialInsertionSort ltU d3 a1 b1).1.size = n := by rw [partialInsertionSort, partialIns_size]; exact k3
          rw [k3] at h75
          generalize partialInsertionSort ltU d3 a1 b1 = R at h75 k7 g6
          refine h75.Q ?_
          intro r s hrs
          have hr1 := hrs.1
          have hs1 := hrs.2
          clear hrs
          subst hr1
          subst hs1
          clear h75
          obtain ⟨d3, pb⟩ := R
          have k3 : d3.size = n := k7
          simp only at g6
          cases pb
          · rw [if_neg (by simp)] at g6
            simp only [cU, s_setU, k3, eL, e1, ↓vcPre, ↓s_get, ↓reduceIte, vcPost, vcStd, Store.set_set, s_arr, s_setL, s_fold, swp_size, Nat.le_refl, Nat.zero_add, Array.size_setIfInBounds, Nat.reduceEqDiff, reduceCtorEq, Nat.reduceAdd, Nat.reduceLeDiff, Int.reduceLT, Int.reduceLE, ↓u_setN]
            rw [pdqC] at g6
            refine ⟨fun c1 => ?_, fun c1 => ?_⟩
            · have f1 : IntKind.i64.wrap ((a1 : Int) - 1) = ((a1 - 1 : Nat) : Int) := wI (by omega) (by omega)
              simp only [f1, Int.toNat_natCast]
              and_intros <;> try omega
              refine (hc _ _).Q ?_
              simp only [cU, s_setU, k3, eL, e1, f1, ↓vcPre, ↓s_get, ↓reduceIte, vcPost, vcStd, Store.set_set, s_arr, s_setL, s_fold, swp_size, Nat.le_refl, Nat.zero_add, Array.size_setIfInBounds, Nat.reduceEqDiff, reduceCtorEq, Nat.reduceAdd, Nat.reduceLeDiff, Int.reduceLT, Int.reduceLE, ↓u_setN]
              refine ⟨fun c2 => ?_, fun c2 => ?_⟩
              · have hlt : ltU d3[a1 - 1]! d3[p]! = false := decide_eq_false c2
                rw [if_pos (by simp [hlt]; omega)] at g6
                have h76 := s145 hc d3 a1 b1 p pw1 pw2 (by omega) (by omega) σ id
                rw [k3] at h76
                refine h76.Q ?_
                rintro r s ⟨rfl, rfl⟩
                obtain ⟨r1, r2⟩ := partitionEqual_range ltU d3 a1 b1 p (by omega)
                have r3 := partitionEqual_size ltU d3 a1 b1 p
                clear h76
                generalize partitionEqual ltU d3 a1 b1 p = R at *
                obtain ⟨mid, d4⟩ := R
                simp only at r1 r2 r3 g6
                rw [if_pos ⟨r1, r2⟩] at g6
                simp only [cU, s_setU, k3, eL, e1, f1, ↓vcPre, ↓s_get, ↓reduceIte, vcPost, vcStd, Store.set_set, s_arr, s_setL, s_fold, swp_size, Nat.le_refl, Nat.zero_add, Array.size_setIfInBounds, Nat.reduceEqDiff, reduceCtorEq, Nat.reduceAdd, Nat.reduceLeDiff, Int.reduceLT, Int.reduceLE, ↓u_setN]
                refine NextQ.to (mid, b1, lm, true, true, d4) ?_ ?_ ?_ ?_
                · rfl
                · exact Store.sub_refl _
                · simp only; omega
                · exact ⟨by simp only; omega, by simp only; omega, g3, by simp only; omega, by simp only; omega, g6⟩
              · have hlt : ltU d3[a1 - 1]! d3[p]! = true := decide_eq_true (by omega)
                rw [if_neg (by simp [hlt])] at g6
                have hP := s146 hc d3 a1 b1 p pw1 pw2 (by omega) (by omega) σ id
                rw [k3] at hP
                refine hP.Q ?_
                rintro r s ⟨rfl, rfl⟩
                obtain ⟨r1, r2, r3, _⟩ := partition_holds ltU hO d3 a1 b1 p pw1 pw2 (by omega)
                clear hP
                generalize partition ltU d3 a1 b1 p = R at *
                obtain ⟨mid, ap, d4⟩ := R
                simp only at r1 r2 r3 g6
                have k4 : d4.size = n := by rw [r3.1]; exact k3
                rw [if_pos ⟨r1, r2⟩] at g6
                have f2 : IntKind.i64.wrap ((mid : Int) - a1) = ((mid - a1 : Nat) : Int) := wI (by omega) (by omega)
                have f3 : IntKind.i64.wrap ((b1 : Int) - mid) = ((b1 - mid : Nat) : Int) := wI (by omega) (by omega)
                have f4 : IntKind.i64.wrap ((mid : Int) + 1) = ((mid + 1 : Nat) : Int) := wI (by omega) (by omega)
                have f5 : IntKind.i64.wrap (((b1 - a1 : Nat) : Int).tdiv 8) = (((b1 - a1) / 8 : Nat) : Int) := wI (by rw [Int.tdiv_eq_ediv_of_nonneg (by omega)]; omega) (by omega)
                simp only [cU, s_setU, k4, eL, e1, f2, f3, f4, f5, ↓vcPre, ↓s_get, ↓reduceIte, vcPost, vcStd, Store.set_set, s_arr, s_setL, s_fold, swp_size, Nat.le_refl, Nat.zero_add, Array.size_setIfInBounds, Nat.reduceEqDiff, reduceCtorEq, Nat.reduceAdd, Nat.reduceLeDiff, Int.reduceLT, Int.reduceLE, ↓u_setN]
                refine ⟨by omega, fun z => ?_, fun z => ?_⟩
                · rw [if_pos (by omega)] at g6
                  have hI := ih d4 a1 mid lm k4 (by omega) (by omega) (by omega) (by omega)
                  have k5 : (pdq ltU d4 a1 mid lm true true).size = n := by rw [pdq_size _ hO _ _ _ _ _ _ _ (Nat.lt_succ_self _) (by omega) (by omega)]; exact k4
                  generalize pdq ltU d4 a1 mid lm true true = D at hI k5 g6
                  refine hI.Q ?_
                  intro r s hrs
                  have hr1 := hrs.1
                  have hs1 := hrs.2
                  clear hrs
                  subst hr1
                  subst hs1
                  simp only [cU, s_setU, k5, eL, e1, f2, f3, f4, f5, ↓vcPre, ↓s_get, ↓reduceIte, vcPost, vcStd, Store.set_set, s_arr, s_setL, s_fold, swp_size, Nat.le_refl, Nat.zero_add, Array.size_setIfInBounds, Nat.reduceEqDiff, reduceCtorEq, Nat.reduceAdd, Nat.reduceLeDiff, Int.reduceLT, Int.reduceLE, ↓u_setN]
                  refine NextQ.to (mid + 1, b1, lm, decide ((b1 - a1) / 8 ≤ mid - a1), ap, D) ?_ ?_ ?_ ?_
                  · simp only [Int.ofNat_le]
                  · exact Store.sub_refl _
                  · simp only; omega
                  · exact ⟨k5, by simp only; omega, g3, by simp only; omega, by simp only; omega, g6⟩
                · rw [if_neg (by omega)] at g6
                  have hI := ih d4 (mid + 1) b1 lm k4 (by omega) (by omega) (by omega) (by omega)
                  have k5 : (pdq ltU d4 (mid + 1) b1 lm true true).size = n := by rw [pdq_size _ hO _ _ _ _ _ _ _ (Nat.lt_succ_self _) (by omega) (by omega)]; exact k4
                  generalize pdq ltU d4 (mid + 1) b1 lm true true = D at hI k5 g6
                  refine hI.Q ?_
                  intro r s hrs
                  have hr1 := hrs.1
                  have hs1 := hrs.2
                  clear hrs
                  subst hr1
                  subst hs1
                  simp only [cU, s_setU, k5, eL, e1, f2, f3, f4, f5, ↓vcPre, ↓s_get, ↓reduceIte, vcPost, vcStd, Store.set_set, s_arr, s_setL, s_fold, swp_size, Nat.le_refl, Nat.zero_add, Array.size_setIfInBounds, Nat.reduceEqDiff, reduceCtorEq, Nat.reduceAdd, Nat.reduceLeDiff, Int.reduceLT, Int.reduceLE, ↓u_setN]
                  refine NextQ.to (a1, mid, lm, decide ((b1 - a1) / 8 ≤ b1 - mid), ap, D) ?_ ?_ ?_ ?_
                  · simp only [Int.ofNat_le]
                  · exact Store.sub_refl _
                  · simp only; omega
                  · exact ⟨k5, by simp only; omega, by simp only; omega, by simp only; omega, by simp only; omega, g6⟩
            · rw [if_neg (by simp; omega)] at g6
              have hP := s146 hc d3 a1 b1 p pw1 pw2 (by omega) (by omega) σ id
              rw [k3] at hP
              refine hP.Q ?_
              rintro r s ⟨rfl, rfl⟩
              obtain ⟨r1, r2, r3, _⟩ := partition_holds ltU hO d3 a1 b1 p pw1 pw2 (by omega)
              clear hP
              generalize partition ltU d3 a1 b1 p = R at *
              obtain ⟨mid, ap, d4⟩ := R
              simp only at r1 r2 r3 g6
              have k4 : d4.size = n := by rw [r3.1]; exact k3
              rw [if_pos ⟨r1, r2⟩] at g6
              have f2 : IntKind.i64.wrap ((mid : Int) - a1) = ((mid - a1 : Nat) : Int) := wI (by omega) (by omega)
              have f3 : IntKind.i64.wrap ((b1 : Int) - mid) = ((b1 - mid : Nat) : Int) := wI (by omega) (by omega)
              have f4 : IntKind.i64.wrap ((mid : Int) + 1) = ((mid + 1 : Nat) : Int) := wI (by omega) (by omega)
              have f5 : IntKind.i64.wrap (((b1 - a1 : Nat) : Int).tdiv 8) = (((b1 - a1) / 8 : Nat) : Int) := wI (by rw [Int.tdiv_eq_ediv_of_nonneg (by omega)]; omega) (by omega)
              simp only [cU, s_setU, k4, eL, e1, f2, f3, f4, f5, ↓vcPre, ↓s_get, ↓reduceIte, vcPost, vcStd, Store.set_set, s_arr, s_setL, s_fold, swp_size, Nat.le_refl, Nat.zero_add, Array.size_setIfInBounds, Nat.reduceEqDiff, reduceCtorEq, Nat.reduceAdd, Nat.reduceLeDiff, Int.reduceLT, Int.reduceLE, ↓u_setN]
              refine ⟨by omega, fun z => ?_, fun z => ?_⟩
              · rw [if_pos (by omega)] at g6
                have hI := ih d4 a1 mid lm k4 (by omega) (by omega) (by omega) (by omega)
                have k5 : (pdq ltU d4 a1 mid lm true true).size = n := by rw [pdq_size _ hO _ _ _ _ _ _ _ (Nat.lt_succ_self _) (by omega) (by omega)]; exact k4
                generalize pdq ltU d4 a1 mid lm true true = D at hI k5 g6
                refine hI.Q ?_
                intro r s hrs
                have hr1 := hrs.1
                have hs1 := hrs.2
                clear hrs
                subst hr1
                subst hs1
                simp only [cU, s_setU, k5, eL, e1, f2, f3, f4, f5, ↓vcPre, ↓s_get, ↓reduceIte, vcPost, vcStd, Store.set_set, s_arr, s_setL, s_fold, swp_size, Nat.le_refl, Nat.zero_add, Array.size_setIfInBounds, Nat.reduceEqDiff, reduceCtorEq, Nat.reduceAdd, Nat.reduceLeDiff, Int.reduceLT, Int.reduceLE, ↓u_setN]
                refine NextQ.to (mid + 1, b1, lm, decide ((b1 - a1) / 8 ≤ mid - a1), ap, D) ?_ ?_ ?_ ?_
                · simp only [Int.ofNat_le]
                · exact Store.sub_refl _
                · simp only; omega
                · exact ⟨k5, by simp only; omega, g3, by simp only; omega, by simp only; omega, g6⟩
              · rw [if_neg (by omega)] at g6
                have hI := ih d4 (mid + 1) b1 lm k4 (by omega) (by omega) (by omega) (by omega)
                have k5 : (pdq ltU d4 (mid + 1) b1 lm true true).size = n := by rw [pdq_size _ hO _ _ _ _ _ _ _ (Nat.lt_succ_self _) (by omega) (by omega)]; exact k4
                generalize pdq ltU d4 (mid + 1) b1 lm true true = D at hI k5 g6
                refine hI.Q ?_
                intro r s hrs
                have hr1 := hrs.1
                have hs1 := hrs.2
                clear hrs
                subst hr1
                subst hs1
                simp only [cU, s_setU, k5, eL, e1, f2, f3, f4, f5, ↓vcPre, ↓s_get, ↓reduceIte, vcPost, vcStd, Store.set_set, s_arr, s_setL, s_fold, swp_size, Nat.le_refl, Nat.zero_add, Array.size_setIfInBounds, Nat.reduceEqDiff, reduceCtorEq, Nat.reduceAdd, Nat.reduceLeDiff, Int.reduceLT, Int.reduceLE, ↓u_setN]
                refine NextQ.to (a1, mid, lm, decide ((b1 - a1) / 8 ≤ b1 - mid), ap, D) ?_ ?_ ?_ ?_
                · simp only [Int.ofNat_le]
                · exact Store.sub_refl _
                · simp only; omega
                · exact ⟨k5, by simp only; omega, by simp only; omega, by simp only; omega, by simp only; omega, g6⟩
          · rw [if_pos rfl] at g6
            simp only [cU, s_setU, k3, eL, e1, ↓vcPre, ↓s_get, ↓reduceIte, vcPost, vcStd, Store.set_set, s_arr, s_setL, s_fold, swp_size, Nat.le_refl, Nat.zero_add, Array.size_setIfInBounds, Nat.reduceEqDiff, reduceCtorEq, Nat.reduceAdd, Nat.reduceLeDiff, Int.reduceLT, Int.reduceLE, ↓u_setN]
            exact EndQ.to _ _ rfl (Store.sub_refl _) ⟨rfl, by rw [g6]⟩
end Go.Am

/- O10b -/
namespace Go.Am
open Go.Proofs Go.Sort
section
/-- So many rounds are left; t have been made. -/
def bpR (a L M i0 : Nat) : Nat → Nat → UInt64 × Array Int → Array Int
  | 0, _, st => st.2
  | k + 1, t, st => bpR a L M i0 k (t + 1) (breakStep a L M st (i0 + t))
theorem bp_eq (d : Array Int) (a L : Nat) (h8 : 8 ≤ L) : breakPatterns d a (a + L) = bpR a L (1 <<< bitsLen L) (a + L / 4 * 2 - 1) 3 0 (UInt64.ofNat L, d) := by
  unfold breakPatterns
  simp only [Nat.add_sub_cancel_left]
  rw [if_pos h8]
  rfl
theorem bpR_step (a L M i0 t : Nat) (r : UInt64) (d : Array Int) (o : Nat) (ht : t < 3) (ho : (if (xorNext r).toNat &&& (M - 1) ≥ L then ((xorNext r).toNat &&& (M - 1)) - L else (xorNext r).toNat &&& (M - 1)) = o) :
    bpR a L M i0 (3 - t) t (r, d) = bpR a L M i0 (3 - (t + 1)) (t + 1) (xorNext r, swp d (i0 + t) (a + o)) := by
  rw [show 3 - t = (3 - (t + 1)) + 1 by omega, bpR]
  unfold breakStep
  simp only [ho]
end
section
set_option maxRecDepth 20000 in
theorem s140 (hc : LessU) (σ : Store) (id : Nat) (n : Nat) (hs : n < 2305843009213693952) (d : Array Int) (a b : Nat) (hd : d.size = n) (hab : a ≤ b) (hb : b ≤ n) :
    ACalls Try.prog 140 [.os id 1 0 n, .int .i64 a, .int .i64 b] (σ.set id (arrA 1 cU d)) (fun r s => r = .tup [] ∧ s = σ.set id (arrA 1 cU (breakPatterns d a b))) := by
  refine calls_of Tst.F140 (by simp [Tst.F140, Fn.mkX]) ?_
  simp only [Tst.F140, Fn.mkX, Tst.b140]
  obtain ⟨L, rfl⟩ : ∃ L, b = a + L := ⟨b - a, by omega⟩
  have e1 : IntKind.i64.wrap (((a + L : Nat) : Int) - a) = (L : Int) := wI (by omega) (by omega)
  simp only [cU, s_setU, hd, e1, ↓vcPre, ↓s_get, ↓reduceIte, vcPost, vcStd, Store.set_set, s_arr, s_setL, s_fold, swp_size, Nat.le_refl, Nat.zero_add, Array.size_setIfInBounds, Nat.reduceEqDiff, reduceCtorEq, Nat.reduceAdd, Nat.reduceLeDiff, Int.reduceLT, Int.reduceLE, ↓u_setN]
  refine ⟨fun h8 => ?_, fun h8 => ?_⟩
  · have h8' : 8 ≤ L := by omega
    have e2 : IntKind.u64.wrap (L : Int) = L := w_u64 (by omega)
    refine AllocQ.i1 fun i hi1 hi2 hi3 => ?_
    simp only [cU, s_setU, hd, e1, e2, ↓vcPre, ↓s_get, ↓reduceIte, vcPost, vcStd, Store.set_set, s_arr, s_setL, s_fold, swp_size, Nat.le_refl, Nat.zero_add, Array.size_setIfInBounds, Nat.reduceEqDiff, reduceCtorEq, Nat.reduceAdd, Nat.reduceLeDiff, Int.reduceLT, Int.reduceLE, ↓u_setN]
    refine (c152 L (by omega)).Q ?_
    obtain ⟨M, hM⟩ : ∃ M : Nat, M = 1 <<< bitsLen L := ⟨_, rfl⟩
    have hM1 : 1 ≤ M := by rw [hM, Nat.one_shiftLeft]; exact Nat.two_pow_pos _
    have hM2 : M ≤ 2 * L := by rw [hM, Nat.one_shiftLeft]; exact two_pow_bitsLen_le (by omega)
    rw [← hM]
    have q1 : IntKind.i64.wrap ((L : Int).tdiv 4) = ((L / 4 : Nat) : Int) := wI (by rw [Int.tdiv_eq_ediv_of_nonneg (by omega)]; omega) (by omega)
    have q2 : IntKind.i64.wrap (((L / 4 : Nat) : Int) * 2) = ((L / 4 * 2 : Nat) : Int) := wI (by omega) (by omega)
    have q3 : IntKind.i64.wrap ((a : Int) + ((L / 4 * 2 : Nat) : Int)) = ((a + L / 4 * 2 : Nat) : Int) := wI (by omega) (by omega)
    have q4 : IntKind.i64.wrap (((a + L / 4 * 2 : Nat) : Int) - 1) = ((a + L / 4 * 2 - 1 : Nat) : Int) := wI (by omega) (by omega)
    have q5 : IntKind.i64.wrap (((a + L / 4 * 2 : Nat) : Int) + 1) = ((a + L / 4 * 2 + 1 : Nat) : Int) := wI (by omega) (by omega)
    simp only [cU, s_setU, hd, e1, e2, q1, q2, q3, q4, ↓vcPre, ↓s_get, ↓reduceIte, vcPost, vcStd, Store.set_set, s_arr, s_setL, s_fold, swp_size, Nat.le_refl, Nat.zero_add, Array.size_setIfInBounds, Nat.reduceEqDiff, reduceCtorEq, Nat.reduceAdd, Nat.reduceLeDiff, Int.reduceLT, Int.reduceLE, ↓u_setN]
    obtain ⟨i0, hi0⟩ : ∃ i0, i0 = a + L / 4 * 2 - 1 := ⟨_, rfl⟩
    rw [← hi0]
    have hb0 := bp_eq d a L h8'
    rw [← hM, ← hi0] at hb0
    refine ⟨by decide, ?_⟩
    refine LoopQ.inv (S := Nat × UInt64 × Array Int) (fun s => [(0, .os id 1 0 n), (1, .int .i64 a), (6, .int .i64 L), (7, .ptr i 0), (8, .int .u64 M), (9, .int .i64 ((i0 + s.1 : Nat) : Int))])
      (fun s => (σ.set id (arrA 1 cU s.2.2)).set i (.box [.int .u64 (s.2.1.toNat : Int)]))
      (fun s => s.1 ≤ 3 ∧ s.2.2.size = n ∧ bpR a L M i0 (3 - s.1) s.1 (s.2.1, s.2.2) = breakPatterns d a (a + L)) (fun s => 3 - s.1) (0, UInt64.ofNat L, d) ?_ ?_ ⟨by simp only; omega, hd, hb0.symm⟩ ?_
    · simp only [Nat.add_zero]
    · simp only [UInt64.toNat_ofNat']
      rw [show L % 2 ^ 64 = L by omega]
      exact Store.sub_refl _
    · rintro ⟨t, r, d1⟩ ⟨h1, h2, h3⟩
      simp only at h1 h2 h3
      simp only [cU, s_setU, h2, q1, q2, q3, q5, ↓vcPre, ↓s_get, ↓reduceIte, vcPost, vcStd, Store.set_set, s_arr, s_setL, s_fold, swp_size, Nat.le_refl, Nat.zero_add, Array.size_setIfInBounds, Nat.reduceEqDiff, reduceCtorEq, Nat.reduceAdd, Nat.reduceLeDiff, Int.reduceLT, Int.reduceLE, ↓u_setN]
      refine ⟨by decide, fun c1 => ?_, fun c1 => ?_⟩
      · have ht : t < 3 := by omega
        refine (s153 r.toNat (UInt64.toNat_lt r) _ i (by simp [Store.set])).Q ?_
        intro r1 s1 hrs
        have hr1 := hrs.1
        have hs1 := hrs.2
        clear hrs
        subst hr1
        subst hs1
        rw [← xorNext_toNat r]
        obtain ⟨o1, ho1⟩ : ∃ o1, o1 = (xorNext r).toNat &&& (M - 1) := ⟨_, rfl⟩
        have lo1 : o1 ≤ M - 1 := by rw [ho1]; exact Nat.and_le_right
        have u1 : IntKind.u64.wrap ((M : Int) - 1) = ((M - 1 : Nat) : Int) := by rw [show ((M : Int) - 1) = ((M - 1 : Nat) : Int) by omega]; exact w_u64 (by omega)
        have u2 : bitInt .and .u64 (((xorNext r).toNat : Nat) : Int) ((M - 1 : Nat) : Int) = (o1 : Int) := by
          rw [ho1, ← bits_and_u64_nat _ _ (UInt64.toNat_lt _) (by omega)]; rfl
        have u3 : IntKind.i64.wrap (o1 : Int) = o1 := w_i64 (by omega)
        simp only [cU, s_setU, h2, q1, q2, q3, q5, u1, u2, u3, Store.set_set, ↓vcPre, ↓s_get, ↓reduceIte, vcPost, vcStd, Store.set_set, s_arr, s_setL, s_fold, swp_size, Nat.le_refl, Nat.zero_add, Array.size_setIfInBounds, Nat.reduceEqDiff, reduceCtorEq, Nat.reduceAdd, Nat.reduceLeDiff, Int.reduceLT, Int.reduceLE, ↓u_setN]
        have hrd : ∀ X Y : Obj, ((σ.set id X).set i Y) id = some X := fun X Y => by rw [Store.set_ne _ _ hi2]; simp [Store.set]
        have hst : ∀ X Y Z : Obj, ((σ.set id X).set i Y).set id Z = (σ.set id Z).set i Y := fun X Y Z => by
          rw [Store.set_comm (σ.set id X) Y Z hi1, Store.set_set]
        have w1 : IntKind.i64.wrap (((i0 + t : Nat) : Int) + 1) = ((i0 + (t + 1) : Nat) : Int) := wI (by omega) (by omega)
        have p1 : i0 + t < n := by omega
        refine ⟨fun c2 => ?_, fun c2 => ?_⟩
        · have v1 : IntKind.i64.wrap ((o1 : Int) - L) = ((o1 - L : Nat) : Int) := wI (by omega) (by omega)
          have v2 : IntKind.i64.wrap ((a : Int) + ((o1 - L : Nat) : Int)) = ((a + (o1 - L) : Nat) : Int) := wI (by omega) (by omega)
          have p2 : a + (o1 - L) < n := by omega
          rw [bpR_step a L M i0 t r d1 (o1 - L) ht (by rw [← ho1, if_pos (by omega)])] at h3
          simp only [cU, s_setU, h2, hrd, hst, v1, v2, w1, ↓vcPre, ↓s_get, ↓reduceIte, vcPost, vcStd, Store.set_set, s_arr, s_setL, s_fold, swp_size, Nat.le_refl, Nat.zero_add, Array.size_setIfInBounds, Nat.reduceEqDiff, reduceCtorEq, Nat.reduceAdd, Nat.reduceLeDiff, Int.reduceLT, Int.reduceLE, ↓u_setN]
          and_intros <;> try omega
          refine NextQ.to (t + 1, xorNext r, swp d1 (i0 + t) (a + (o1 - L))) ?_ ?_ ?_ ?_
          · rfl
          · exact Store.sub_refl _
          · simp only; omega
          · exact ⟨by simp only; omega, by simp only [swp_size]; exact h2, h3⟩
        · have v2 : IntKind.i64.wrap ((a : Int) + (o1 : Int)) = ((a + o1 : Nat) : Int) := wI (by omega) (by omega)
          have p2 : a + o1 < n := by omega
          rw [bpR_step a L M i0 t r d1 o1 ht (by rw [← ho1, if_neg (by omega)])] at h3
          simp only [cU, s_setU, h2, hrd, hst, v2, w1, ↓vcPre, ↓s_get, ↓reduceIte, vcPost, vcStd, Store.set_set, s_arr, s_setL, s_fold, swp_size, Nat.le_refl, Nat.zero_add, Array.size_setIfInBounds, Nat.reduceEqDiff, reduceCtorEq, Nat.reduceAdd, Nat.reduceLeDiff, Int.reduceLT, Int.reduceLE, ↓u_setN]
          and_intros <;> try omega
          refine NextQ.to (t + 1, xorNext r, swp d1 (i0 + t) (a + o1)) ?_ ?_ ?_ ?_
          · rfl
          · exact Store.sub_refl _
          · simp only; omega
          · exact ⟨by simp only; omega, by simp only [swp_size]; exact h2, h3⟩
      · have ht : t = 3 := by omega
        subst ht
        exact EndQ.to (σ.set id (arrA 1 cU d1)) (.tup []) rfl (Store.sub_set _ _ _ (by rw [Store.set_ne _ _ hi1]; exact hi3)) ⟨rfl, by rw [← h3]; rfl⟩
  · have : breakPatterns d a (a + L) = d := by
      unfold breakPatterns
      simp only [Nat.add_sub_cancel_left]
      rw [if_neg (by omega)]
    exact EndQ.to _ _ rfl (Store.sub_refl _) ⟨rfl, by rw [this]⟩
end
end Go.Am

/- O11 -/
namespace Go.Am
open Go.Proofs Go.Sort
section
/-- slices.SortFunc, on what is owned. -/
theorem s107 (hc : LessU) (hO : SWO ltU) (d : Array Int) (hs : d.size < 2305843009213693952) (σ : Store) (id : Nat) :
    ACalls Try.prog 107 [.os id 1 0 d.size] (σ.set id (arrA 1 cU d)) (fun r s => r = .tup [] ∧ s = σ.set id (arrA 1 cU (pdq ltU d 0 d.size (bitsLen d.size) true true))) := by
  refine calls_of Tst.F107 (by simp [Tst.F107, Fn.mkX]) ?_
  simp only [Tst.F107, Fn.mkX, Tst.b107]
  simp only [w_u64 (n := d.size) (by omega), ↓vcPre, ↓s_get, ↓reduceIte, vcPost, vcStd, Store.set_set, s_arr, s_setL, s_fold, swp_size, Nat.le_refl, Nat.zero_add, Array.size_setIfInBounds, Nat.reduceEqDiff, reduceCtorEq, Nat.reduceAdd, Nat.reduceLeDiff, Int.reduceLT, Int.reduceLE, ↓u_setN]
  refine (c130 d.size (by omega)).Q ?_
  simp only [hs, ↓vcPre, ↓s_get, ↓reduceIte, vcPost, vcStd, Store.set_set, s_arr, s_setL, s_fold, swp_size, Nat.le_refl, Nat.zero_add, Array.size_setIfInBounds, Nat.reduceEqDiff, reduceCtorEq, Nat.reduceAdd, Nat.reduceLeDiff, Int.reduceLT, Int.reduceLE, ↓u_setN]
  have hl : bitsLen d.size ≤ 61 := (bitsLen_le_iff d.size 61).2 (by omega)
  have h := s129 hc hO σ id d.size hs (fun d' a b h1 h2 h3 => s140 hc σ id d.size hs d' a b h1 h2 h3) (d.size + 1) d 0 d.size (bitsLen d.size) rfl (by omega) (by omega) (by omega) (by omega)
  refine h.Q ?_
  intro r s hrs
  have hr1 := hrs.1
  have hs1 := hrs.2
  clear hrs h
  subst hr1
  subst hs1
  simp only [hs, ↓vcPre, ↓s_get, ↓reduceIte, vcPost, vcStd, Store.set_set, s_arr, s_setL, s_fold, swp_size, Nat.le_refl, Nat.zero_add, Array.size_setIfInBounds, Nat.reduceEqDiff, reduceCtorEq, Nat.reduceAdd, Nat.reduceLeDiff, Int.reduceLT, Int.reduceLE, ↓u_setN]
  exact EndQ.to _ _ rfl (Store.sub_refl _) ⟨rfl, rfl⟩
end
end Go.Am
