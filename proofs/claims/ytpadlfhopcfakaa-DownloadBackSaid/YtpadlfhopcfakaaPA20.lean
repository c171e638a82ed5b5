/- A part of the proof: a logic for calls over plain values, and the functions that the law reaches, each walked once. -/
import Derived.Test.YtpadlfhopcfakaaPA19
import Derived.Sort.LotD5
import Derived.Laws.Bits64
import Derived.Laws.Bits64b
import Derived.Sort.AssemblyPlain
set_option linter.unusedVariables false
set_option linter.unusedSimpArgs false
set_option linter.unusedSectionVars false

/- S10a -/
namespace Go.Am
open Go.Proofs Go.Sort

/-! ## bits.Len -/
theorem shr_u64 (x k : Nat) (hk : k ≤ 64) : shrInt .u64 (x : Int) (k : Int) = ((x / 2 ^ k : Nat) : Int) := by
  unfold shrInt
  have : min ((k : Int).toNat) IntKind.u64.bits = k := by simp [IntKind.bits]; omega
  rw [this]
  have e : ((2 : Int) ^ k) = ((2 ^ k : Nat) : Int) := by simp
  rw [e, Int.fdiv_eq_ediv_of_nonneg _ (Int.natCast_nonneg _)]
  simp

theorem bitsLen_div {x k : Nat} (h : 2 ^ k ≤ x) : bitsLen x = k + bitsLen (x / 2 ^ k) := by
  have key : ∀ m, bitsLen x ≤ m ↔ k + bitsLen (x / 2 ^ k) ≤ m := fun m => by
    rw [bitsLen_le_iff]
    rcases Nat.lt_or_ge m k with hm | hm
    · have h1 : 2 ^ m ≤ 2 ^ k := Nat.pow_le_pow_right (by omega) (by omega)
      constructor <;> intro h2 <;> omega
    · have e : k + bitsLen (x / 2 ^ k) ≤ m ↔ bitsLen (x / 2 ^ k) ≤ m - k := by omega
      rw [e, bitsLen_le_iff, Nat.div_lt_iff_lt_mul (Nat.two_pow_pos k), ← Nat.pow_add]
      rw [show m - k + k = m by omega]
  have h1 := (key (bitsLen x)).1 (Nat.le_refl _)
  have h2 := (key (k + bitsLen (x / 2 ^ k))).2 (Nat.le_refl _)
  omega

theorem tab_len : ∀ m : Fin 256, len8[m.val]? = some (UInt8.ofNat (bitsLen m.val)) := by decide +kernel

theorem idx_len (m : Nat) (h : m < 256) : pv .idxs [.str len8, .int .u8 (m : Int)] = some (.int .u8 (bitsLen m : Nat)) := by
  have h1 := tab_len ⟨m, h⟩
  have h2 : bitsLen m ≤ 8 := (bitsLen_le_iff m 8).2 (by omega)
  simp only [pv, pIdxs, Int.natCast_nonneg, if_true, Int.toNat_natCast]
  rw [h1]
  simp only [Option.map_some, Option.some.injEq, AV.int.injEq, true_and, UInt8.toNat_ofNat']
  omega

theorem w_i64 {n : Nat} (h : n < 9223372036854775808) : IntKind.i64.wrap (n : Int) = n := wrap64 (by unfold I64; omega)
theorem w_u8 {n : Nat} (h : n < 256) : IntKind.u8.wrap (n : Int) = n := by simp [IntKind.wrap, IntKind.bits, IntKind.signed]; omega
theorem w_u64 {n : Nat} (h : n < 18446744073709551616) : IntKind.u64.wrap (n : Int) = n := by simp [IntKind.wrap, IntKind.bits, IntKind.signed]; omega

theorem c79 (x : Nat) (hx : x < 18446744073709551616) : Pur Try.prog 79 [.int .u64 x] (.int .i64 (bitsLen x : Nat)) := by
  refine pur_of Tst.F79 (by simp [Tst.F79, Fn.mk']) fun σ => ?_
  simp only [Tst.F79, Fn.mk']
  rw [b79_eq]
  simp only [b79']
  have s32 : shrInt .u64 (x : Int) 32 = ((x / 4294967296 : Nat) : Int) := shr_u64 x 32 (by decide)
  have s16 : ∀ y : Nat, shrInt .u64 (y : Int) 16 = ((y / 65536 : Nat) : Int) := fun y => shr_u64 y 16 (by decide)
  have s8 : ∀ y : Nat, shrInt .u64 (y : Int) 8 = ((y / 256 : Nat) : Int) := fun y => shr_u64 y 8 (by decide)
  have fin : ∀ (y n : Nat), y < 256 → n ≤ 56 → IntKind.i64.wrap ((n : Int) + IntKind.i64.wrap ((bitsLen y : Nat) : Int)) = ((n + bitsLen y : Nat) : Int) := fun y n hy hn => by
    have := (bitsLen_le_iff y 8).2 (by omega)
    rw [w_i64 (by omega), show ((n : Int) + ((bitsLen y : Nat) : Int)) = ((n + bitsLen y : Nat) : Int) by omega, w_i64 (by omega)]
  have leaf : ∀ (y n : Nat) (N : Int), bitsLen x = n + bitsLen y → y < 256 → n ≤ 56 → N = (n : Int) →
      wit (pv PK.idxs [AV.str len8, AV.int IntKind.u8 (IntKind.u8.wrap (y : Int))]) fun a =>
        wit (pv (PK.conv IntKind.i64) [a]) fun a => wit (pv (PK.bin BinOp.add) [AV.int IntKind.i64 N, a]) fun a => a = AV.int IntKind.i64 (bitsLen x : Nat) := by
    intro y n N e hy hn hN
    subst hN
    rw [w_u8 hy, idx_len y hy]
    simp only [wit_some, u_conv, u_add]
    rw [fin y n hy hn, e]
  have d32 : (4294967296 : Int) ≤ x → bitsLen x = 32 + bitsLen (x / 4294967296) := fun h => bitsLen_div (k := 32) (by omega)
  have d16 : ∀ y : Nat, (65536 : Int) ≤ y → bitsLen y = 16 + bitsLen (y / 65536) := fun y h => bitsLen_div (k := 16) (by omega)
  have d8 : ∀ y : Nat, (256 : Int) ≤ y → bitsLen y = 8 + bitsLen (y / 256) := fun y h => bitsLen_div (k := 8) (by omega)
  simp only [s32, s16, s8, ↓vcPre, ↓wit_get, ↓reduceIte, vcPost, vcStd, Nat.reduceEqDiff, reduceCtorEq, Nat.reduceAdd, Nat.reduceLeDiff, Int.reduceLT, Int.reduceLE, ↓u_setN]
  have a1 : IntKind.i64.wrap (IntKind.i64.wrap (32 + 16) + 8) = ((56 : Nat) : Int) := by decide
  have a2 : IntKind.i64.wrap (32 + 16) = ((48 : Nat) : Int) := by decide
  have a3 : IntKind.i64.wrap (32 + 8) = ((40 : Nat) : Int) := by decide
  have a4 : IntKind.i64.wrap (IntKind.i64.wrap (0 + 16) + 8) = ((24 : Nat) : Int) := by decide
  have a5 : IntKind.i64.wrap (0 + 16) = ((16 : Nat) : Int) := by decide
  have a6 : IntKind.i64.wrap (0 + 8) = ((8 : Nat) : Int) := by decide
  refine ⟨fun h1 => ⟨fun h2 => ⟨fun h3 => ?_, fun h3 => ?_⟩, fun h2 => ⟨fun h3 => ?_, fun h3 => ?_⟩⟩, fun h1 => ⟨fun h2 => ⟨fun h3 => ?_, fun h3 => ?_⟩, fun h2 => ⟨fun h3 => ?_, fun h3 => ?_⟩⟩⟩
  · exact leaf _ 56 _ (by have e1 := d32 h1; have e2 := d16 _ h2; have e3 := d8 _ h3; omega) (by omega) (by omega) a1
  · exact leaf _ 48 _ (by have e1 := d32 h1; have e2 := d16 _ h2; omega) (by omega) (by omega) a2
  · exact leaf _ 40 _ (by have e1 := d32 h1; have e3 := d8 _ h3; omega) (by omega) (by omega) a3
  · exact leaf _ 32 _ (by have e1 := d32 h1; omega) (by omega) (by omega) rfl
  · exact leaf _ 24 _ (by have e2 := d16 _ h2; have e3 := d8 _ h3; omega) (by omega) (by omega) a4
  · exact leaf _ 16 _ (by have e2 := d16 _ h2; omega) (by omega) (by omega) a5
  · exact leaf _ 8 _ (by have e3 := d8 _ h3; omega) (by omega) (by omega) a6
  · exact leaf _ 0 _ (by omega) (by omega) (by omega) rfl

theorem c61 (x : Nat) (hx : x < 18446744073709551616) : Pur Try.prog 61 [.int .u64 x] (.int .i64 (bitsLen x : Nat)) := by
  refine pur_of Tst.F61 (by simp [Tst.F61, Fn.mk']) fun σ => ?_
  simp only [Tst.F61, Fn.mk', Tst.b61]
  simp only [↓vcPre, ↓wit_get, ↓reduceIte, vcPost, vcStd, Nat.reduceEqDiff, reduceCtorEq, Nat.reduceAdd, Nat.reduceLeDiff, Int.reduceLT, Int.reduceLE, ↓u_setN]
  refine (c79 x hx).Q ?_
  simp only [↓vcPre, ↓wit_get, ↓reduceIte, vcPost, vcStd, Nat.reduceEqDiff, reduceCtorEq, Nat.reduceAdd, Nat.reduceLeDiff, Int.reduceLT, Int.reduceLE, ↓u_setN]

theorem shl_one (k : Nat) (hk : k ≤ 63) : shlInt .u64 1 (k : Int) = ((1 <<< k : Nat) : Int) := by
  unfold shlInt
  have : min ((k : Int).toNat) IntKind.u64.bits = k := by simp [IntKind.bits]; omega
  rw [this, Int.one_mul]
  have h : (2 : Nat) ^ k ≤ 2 ^ 63 := Nat.pow_le_pow_right (by decide) hk
  have e : ((2 : Int) ^ k) = ((2 ^ k : Nat) : Int) := by simp
  rw [e, w_u64 (by omega), Nat.one_shiftLeft]

theorem c86 (n : Nat) (hn : n < 4611686018427387904) : Pur Try.prog 86 [.int .i64 n] (.int .u64 (1 <<< bitsLen n : Nat)) := by
  refine pur_of Tst.F86 (by simp [Tst.F86, Fn.mk']) fun σ => ?_
  simp only [Tst.F86, Fn.mk', Tst.b86]
  have hb : bitsLen n ≤ 62 := (bitsLen_le_iff n 62).2 (by omega)
  simp only [w_u64 (n := n) (by omega), ↓vcPre, ↓wit_get, ↓reduceIte, vcPost, vcStd, Nat.reduceEqDiff, reduceCtorEq, Nat.reduceAdd, Nat.reduceLeDiff, Int.reduceLT, Int.reduceLE, ↓u_setN]
  refine (c61 n (by omega)).Q ?_
  simp only [shl_one (bitsLen n) (by omega), ↓vcPre, ↓wit_get, ↓reduceIte, vcPost, vcStd, Nat.reduceEqDiff, reduceCtorEq, Nat.reduceAdd, Nat.reduceLeDiff, Int.reduceLT, Int.reduceLE, ↓u_setN]
  omega

theorem xor_u64 (a b : Nat) (ha : a < 18446744073709551616) (hb : b < 18446744073709551616) : bitInt .xor .u64 (a : Int) (b : Int) = ((a ^^^ b : Nat) : Int) := by
  have := bits_xor_u64_nat a b ha hb
  rw [← this]
  rfl
theorem shl_u64 (x k : Nat) (hk : k ≤ 64) : shlInt .u64 (x : Int) (k : Int) = ((x * 2 ^ k % 18446744073709551616 : Nat) : Int) := by
  unfold shlInt
  have : min ((k : Int).toNat) IntKind.u64.bits = k := by simp [IntKind.bits]; omega
  rw [this]
  have e : ((2 : Int) ^ k) = ((2 ^ k : Nat) : Int) := by simp
  rw [e]
  simp [IntKind.wrap, IntKind.bits, IntKind.signed]

theorem s87 (X : Nat) (hX : X < 18446744073709551616) (σ : Store) (i : Nat) (hi : σ i = some (.box [.int .u64 X])) :
    ACalls Try.prog 87 [.ptr i 0] σ (fun r s => r = .int .u64 (xorNextN X : Nat) ∧ s = σ.set i (.box [.int .u64 (xorNextN X : Nat)])) := by
  refine calls_of Tst.F87 (by simp [Tst.F87, Fn.mk']) ?_
  simp only [Tst.F87, Fn.mk', Tst.b87]
  obtain ⟨A, hA⟩ : ∃ A : Nat, A = X ^^^ (X * 8192 % 18446744073709551616) := ⟨_, rfl⟩
  obtain ⟨B, hB⟩ : ∃ B : Nat, B = A ^^^ (A / 128) := ⟨_, rfl⟩
  obtain ⟨C, hC⟩ : ∃ C : Nat, C = B ^^^ (B * 131072 % 18446744073709551616) := ⟨_, rfl⟩
  have lA : A < 18446744073709551616 := by rw [hA]; exact Nat.xor_lt_two_pow (n := 64) (by omega) (by omega)
  have lB : B < 18446744073709551616 := by rw [hB]; exact Nat.xor_lt_two_pow (n := 64) (by omega) (by omega)
  have e1 : bitInt .xor .u64 (X : Int) (shlInt .u64 (X : Int) 13) = (A : Int) := by
    have := shl_u64 X 13 (by decide)
    rw [show ((13 : Nat) : Int) = 13 from rfl] at this
    rw [this, xor_u64 _ _ hX (by omega), hA]
  have e2 : bitInt .xor .u64 (A : Int) (shrInt .u64 (A : Int) 7) = (B : Int) := by
    have := shr_u64 A 7 (by decide)
    rw [show ((7 : Nat) : Int) = 7 from rfl] at this
    rw [this, xor_u64 _ _ lA (by omega), hB]
  have e3 : bitInt .xor .u64 (B : Int) (shlInt .u64 (B : Int) 17) = (C : Int) := by
    have := shl_u64 B 17 (by decide)
    rw [show ((17 : Nat) : Int) = 17 from rfl] at this
    rw [this, xor_u64 _ _ lB (by omega), hC]
  have hv : xorNextN X = C := by unfold xorNextN; simp only []; rw [← hA, ← hB, ← hC]
  rw [hv]
  clear hA hB hC hv
  simp only [hi, e1, e2, e3, Store.set_set, ↓vcPre, ↓wit_get, ↓reduceIte, vcPost, vcStd, Nat.reduceEqDiff, reduceCtorEq, Nat.reduceAdd, Nat.reduceLeDiff, Int.reduceLT, Int.reduceLE, ↓u_setN]
  exact EndQ.to _ _ rfl (Store.sub_refl _) ⟨rfl, rfl⟩

end Go.Am

/- S3 -/
namespace Go.Am
open Go.Proofs Go.Sort
set_option linter.unusedSectionVars false
variable {β : Type} [Inhabited β] {c : β → List AV} {cf : β → β → Int} {g : Nat} {caps : List AV}
theorem s74 (hc : Cmp Try.prog g caps 4 c cf) (d : Array β) (a b : Nat) (hab : a ≤ b) (hb : b ≤ d.size) (hs : d.size < 4611686018427387904) (σ : Store) (id : Nat) :
    ACalls Try.prog 74 [.os id 4 0 d.size, .int .i64 a, .int .i64 b, .fn g caps] (σ.set id (arrA 4 c d)) (fun r s => r = .tup [] ∧ s = σ.set id (arrA 4 c (reverseRange d a b))) := by
  refine calls_of Tst.F74 (by simp [Tst.F74, Fn.mk']) ?_
  simp only [Tst.F74, Fn.mk', Tst.b74]
  have hk := hc.hk
  have tk : ∀ x, List.take 4 (c x) = c x := fun x => List.take_of_length_le (by rw [hk]; exact Nat.le_refl _)
  have sp : ∀ x y, splice 0 (c x) (c y) = some (c x) := s_splice hk
  simp only [hk, tk, sp, ↓vcPre, ↓s_get, ↓reduceIte, vcPost, vcStd, Store.set_set, s_arr, s_setL, s_fold, swp_size, Nat.le_refl, Nat.zero_add, Array.size_setIfInBounds, Nat.reduceEqDiff, reduceCtorEq, Nat.reduceAdd, Nat.reduceLeDiff, Int.reduceLT, Int.reduceLE, ↓u_setN]
  have e0 : IntKind.i64.wrap ((b : Int) - 1) = (b : Int) - 1 := wrap64 (by unfold I64; omega)
  rw [e0]
  refine LoopQ.inv (S := Nat × Nat × Array β) (fun s => [(0, .os id 4 0 d.size), (8, .int .i64 s.1), (9, .int .i64 ((s.2.1 : Int) - 1))]) (fun s => σ.set id (arrA 4 c s.2.2))
    (fun s => s.1 ≤ d.size ∧ s.2.1 ≤ d.size ∧ s.2.2.size = d.size ∧ reverseLoop s.1 (s.2.1 - 1) s.2.2 = reverseRange d a b) (fun s => s.2.1) (a, b, d) rfl (Store.sub_refl _) ⟨by simp only; omega, by simp only; omega, rfl, rfl⟩ ?_
  rintro ⟨i, j, d1⟩ ⟨h1, h2, h3, h4⟩
  simp only at h1 h2 h3 h4
  simp only [hk, tk, sp, h3, ↓vcPre, ↓s_get, ↓reduceIte, vcPost, vcStd, Store.set_set, s_arr, s_setL, s_fold, swp_size, Nat.le_refl, Nat.zero_add, Array.size_setIfInBounds, Nat.reduceEqDiff, reduceCtorEq, Nat.reduceAdd, Nat.reduceLeDiff, Int.reduceLT, Int.reduceLE, ↓u_setN]
  rw [reverseLoop] at h4
  refine ⟨fun a1 => ?_, fun a1 => ?_⟩
  · obtain ⟨m, rfl⟩ : ∃ m, j = m + 1 := ⟨j - 1, by omega⟩
    have e1 : ((m + 1 : Nat) : Int) - 1 = m := by omega
    simp only [e1, Int.toNat_natCast]
    rw [if_pos (by omega)] at h4
    have e2 : IntKind.i64.wrap ((i : Int) + 1) = ((i + 1 : Nat) : Int) := by rw [wrap64 (by unfold I64; omega)]; omega
    have e3 : IntKind.i64.wrap ((m : Int) - 1) = (m : Int) - 1 := wrap64 (by unfold I64; omega)
    rw [e2, e3]
    and_intros <;> try omega
    refine NextQ.to (i + 1, m, swp d1 i m) ?_ ?_ ?_ ?_
    · rfl
    · exact Store.sub_refl _
    · simp
    · refine ⟨by simp only; omega, by simp only; omega, by simp only [swp_size]; omega, ?_⟩
      simpa using h4
  · rw [if_neg (by omega)] at h4
    exact EndQ.to _ _ rfl (Store.sub_refl _) ⟨rfl, by rw [h4]⟩

theorem s85 (hc : Cmp Try.prog g caps 4 c cf) (d : Array β) (lo hi first : Nat) (hb : first + hi ≤ d.size) (hs : d.size < 2305843009213693952) (hlo : lo ≤ d.size) (σ : Store) (id : Nat) :
    ACalls Try.prog 85 [.os id 4 0 d.size, .int .i64 lo, .int .i64 hi, .int .i64 first, .fn g caps] (σ.set id (arrA 4 c d)) (fun r s => r = .tup [] ∧ s = σ.set id (arrA 4 c (siftDown (ltC cf) hi first lo d))) := by
  refine calls_of Tst.F85 (by simp [Tst.F85, Fn.mk']) ?_
  simp only [Tst.F85, Fn.mk', Tst.b85]
  have hk := hc.hk
  have tk : ∀ x, List.take 4 (c x) = c x := fun x => List.take_of_length_le (by rw [hk]; exact Nat.le_refl _)
  have sp : ∀ x y, splice 0 (c x) (c y) = some (c x) := s_splice hk
  simp only [hk, tk, sp, ↓vcPre, ↓s_get, ↓reduceIte, vcPost, vcStd, Store.set_set, s_arr, s_setL, s_fold, swp_size, Nat.le_refl, Nat.zero_add, Array.size_setIfInBounds, Nat.reduceEqDiff, reduceCtorEq, Nat.reduceAdd, Nat.reduceLeDiff, Int.reduceLT, Int.reduceLE, ↓u_setN]
  refine LoopQ.inv (S := Nat × Array β) (fun s => [(0, .os id 4 0 d.size), (2, .int .i64 hi), (3, .int .i64 first), (4, .fn g caps), (10, .int .i64 s.1)]) (fun s => σ.set id (arrA 4 c s.2))
    (fun s => s.1 ≤ d.size ∧ s.2.size = d.size ∧ siftDown (ltC cf) hi first s.1 s.2 = siftDown (ltC cf) hi first lo d) (fun s => d.size + 1 - s.1) (lo, d) rfl (Store.sub_refl _) ⟨hlo, rfl, rfl⟩ ?_
  rintro ⟨r, d1⟩ ⟨h1, h2, h3⟩
  simp only at h1 h2 h3
  have e1 : IntKind.i64.wrap (IntKind.i64.wrap (2 * (r : Int)) + 1) = ((2 * r + 1 : Nat) : Int) := by rw [wrap64 (n := 2 * (r : Int)) (by unfold I64; omega), wrap64 (by unfold I64; omega)]; omega
  have e2 : IntKind.i64.wrap (((2 * r + 1 : Nat) : Int) + 1) = ((2 * r + 2 : Nat) : Int) := by rw [wrap64 (by unfold I64; omega)]; omega
  have e3 : IntKind.i64.wrap ((first : Int) + ((2 * r + 1 : Nat) : Int)) = ((first + (2 * r + 1) : Nat) : Int) := by rw [wrap64 (by unfold I64; omega)]; omega
  have e4 : IntKind.i64.wrap (((first + (2 * r + 1) : Nat) : Int) + 1) = ((first + (2 * r + 1) + 1 : Nat) : Int) := by rw [wrap64 (by unfold I64; omega)]; omega
  have e5 : IntKind.i64.wrap ((first : Int) + (r : Int)) = ((first + r : Nat) : Int) := by rw [wrap64 (by unfold I64; omega)]; omega
  have e6 : IntKind.i64.wrap ((first : Int) + ((2 * r + 2 : Nat) : Int)) = ((first + (2 * r + 2) : Nat) : Int) := by rw [wrap64 (by unfold I64; omega)]; omega
  simp only [hk, tk, sp, h2, e1, e2, e3, e4, e5, e6, ↓vcPre, ↓s_get, ↓reduceIte, vcPost, vcStd, Store.set_set, s_arr, s_setL, s_fold, swp_size, Nat.le_refl, Nat.zero_add, Array.size_setIfInBounds, Nat.reduceEqDiff, reduceCtorEq, Nat.reduceAdd, Nat.reduceLeDiff, Int.reduceLT, Int.reduceLE, ↓u_setN]
  rw [siftDown] at h3
  refine ⟨fun a1 => ?_, fun a1 => ⟨fun a2 => ?_, fun a2 => ?_⟩⟩
  · rw [dif_pos (by omega)] at h3
    exact EndQ.to _ _ rfl (Store.sub_refl _) ⟨rfl, by rw [h3]⟩
  · rw [dif_neg (by omega)] at h3
    and_intros <;> try omega
    refine (hc.call _ _).Q ?_
    simp only [hk, tk, sp, h2, e1, e2, e3, e4, e5, e6, ↓vcPre, ↓s_get, ↓reduceIte, vcPost, vcStd, Store.set_set, s_arr, s_setL, s_fold, swp_size, Nat.le_refl, Nat.zero_add, Array.size_setIfInBounds, Nat.reduceEqDiff, reduceCtorEq, Nat.reduceAdd, Nat.reduceLeDiff, Int.reduceLT, Int.reduceLE, ↓u_setN]
    refine ⟨fun a3 => ?_, fun a3 => ?_⟩
    · have hl : ltC cf d1[first + (2 * r + 1)]! d1[first + (2 * r + 1) + 1]! = true := decide_eq_true a3
      rw [if_pos (by simp [hl, a2])] at h3
      and_intros <;> try omega
      refine (hc.call _ _).Q ?_
      simp only [hk, tk, sp, h2, e1, e2, e3, e4, e5, e6, ↓vcPre, ↓s_get, ↓reduceIte, vcPost, vcStd, Store.set_set, s_arr, s_setL, s_fold, swp_size, Nat.le_refl, Nat.zero_add, Array.size_setIfInBounds, Nat.reduceEqDiff, reduceCtorEq, Nat.reduceAdd, Nat.reduceLeDiff, Int.reduceLT, Int.reduceLE, ↓u_setN]
      refine ⟨fun a5 => ?_, fun a5 => ?_⟩
      · have hl2 : ltC cf d1[first + r]! d1[first + (2 * r + 2)]! = false := decide_eq_false a5
        rw [if_pos (by simp [hl2])] at h3
        exact EndQ.to _ _ rfl (Store.sub_refl _) ⟨rfl, by rw [h3]⟩
      · have hl2 : ltC cf d1[first + r]! d1[first + (2 * r + 2)]! = true := decide_eq_true (by omega)
        rw [if_neg (by simp [hl2])] at h3
        try rw [dif_pos (by omega)] at h3
        and_intros <;> try omega
        refine NextQ.to (2 * r + 2, swp d1 (first + r) (first + (2 * r + 2))) ?_ ?_ ?_ ?_
        · rfl
        · exact Store.sub_refl _
        · simp only; omega
        · exact ⟨by simp only; omega, by simp only [swp_size]; omega, h3⟩
    · have hl : ltC cf d1[first + (2 * r + 1)]! d1[first + (2 * r + 1) + 1]! = false := decide_eq_false a3
      rw [if_neg (by simp [hl])] at h3
      and_intros <;> try omega
      refine (hc.call _ _).Q ?_
      simp only [hk, tk, sp, h2, e1, e2, e3, e4, e5, e6, ↓vcPre, ↓s_get, ↓reduceIte, vcPost, vcStd, Store.set_set, s_arr, s_setL, s_fold, swp_size, Nat.le_refl, Nat.zero_add, Array.size_setIfInBounds, Nat.reduceEqDiff, reduceCtorEq, Nat.reduceAdd, Nat.reduceLeDiff, Int.reduceLT, Int.reduceLE, ↓u_setN]
      refine ⟨fun a5 => ?_, fun a5 => ?_⟩
      · have hl2 : ltC cf d1[first + r]! d1[first + (2 * r + 1)]! = false := decide_eq_false a5
        rw [if_pos (by simp [hl2])] at h3
        exact EndQ.to _ _ rfl (Store.sub_refl _) ⟨rfl, by rw [h3]⟩
      · have hl2 : ltC cf d1[first + r]! d1[first + (2 * r + 1)]! = true := decide_eq_true (by omega)
        rw [if_neg (by simp [hl2])] at h3
        try rw [dif_pos (by omega)] at h3
        and_intros <;> try omega
        refine NextQ.to (2 * r + 1, swp d1 (first + r) (first + (2 * r + 1))) ?_ ?_ ?_ ?_
        · rfl
        · exact Store.sub_refl _
        · simp only; omega
        · exact ⟨by simp only; omega, by simp only [swp_size]; omega, h3⟩
  · rw [dif_neg (by omega), if_neg (by simp; omega)] at h3
    and_intros <;> try omega
    refine (hc.call _ _).Q ?_
    simp only [hk, tk, sp, h2, e1, e2, e3, e4, e5, e6, ↓vcPre, ↓s_get, ↓reduceIte, vcPost, vcStd, Store.set_set, s_arr, s_setL, s_fold, swp_size, Nat.le_refl, Nat.zero_add, Array.size_setIfInBounds, Nat.reduceEqDiff, reduceCtorEq, Nat.reduceAdd, Nat.reduceLeDiff, Int.reduceLT, Int.reduceLE, ↓u_setN]
    refine ⟨fun a5 => ?_, fun a5 => ?_⟩
    · have hl2 : ltC cf d1[first + r]! d1[first + (2 * r + 1)]! = false := decide_eq_false a5
      rw [if_pos (by simp [hl2])] at h3
      exact EndQ.to _ _ rfl (Store.sub_refl _) ⟨rfl, by rw [h3]⟩
    · have hl2 : ltC cf d1[first + r]! d1[first + (2 * r + 1)]! = true := decide_eq_true (by omega)
      rw [if_neg (by simp [hl2])] at h3
      try rw [dif_pos (by omega)] at h3
      and_intros <;> try omega
      refine NextQ.to (2 * r + 1, swp d1 (first + r) (first + (2 * r + 1))) ?_ ?_ ?_ ?_
      · rfl
      · exact Store.sub_refl _
      · simp only; omega
      · exact ⟨by simp only; omega, by simp only [swp_size]; omega, h3⟩
end Go.Am

/- S4 -/
namespace Go.Am
open Go.Proofs Go.Sort
set_option linter.unusedSectionVars false
variable {β : Type} [Inhabited β] {c : β → List AV} {cf : β → β → Int} {g : Nat} {caps : List AV}
theorem siftDown_size (lt : β → β → Bool) (hi first r : Nat) (d : Array β) : (siftDown lt hi first r d).size = d.size := by
  fun_induction siftDown lt hi first r d <;> simp_all [swp_size]
theorem heapBuild_size (lt : β → β → Bool) (hi first : Nat) : ∀ k (d : Array β), (heapBuild lt hi first k d).size = d.size
  | 0, d => rfl
  | k + 1, d => by rw [heapBuild, heapBuild_size lt hi first k, siftDown_size]
theorem s71 (hc : Cmp Try.prog g caps 4 c cf) (d : Array β) (a b : Nat) (hab : a ≤ b) (hb : b ≤ d.size) (hs : d.size < 2305843009213693952) (σ : Store) (id : Nat) :
    ACalls Try.prog 71 [.os id 4 0 d.size, .int .i64 a, .int .i64 b, .fn g caps] (σ.set id (arrA 4 c d)) (fun r s => r = .tup [] ∧ s = σ.set id (arrA 4 c (heapSort (ltC cf) d a b))) := by
  refine calls_of Tst.F71 (by simp [Tst.F71, Fn.mk']) ?_
  simp only [Tst.F71, Fn.mk', Tst.b71]
  have hk := hc.hk
  have tk : ∀ x, List.take 4 (c x) = c x := fun x => List.take_of_length_le (by rw [hk]; exact Nat.le_refl _)
  have sp : ∀ x y, splice 0 (c x) (c y) = some (c x) := s_splice hk
  simp only [hk, tk, sp, ↓vcPre, ↓s_get, ↓reduceIte, vcPost, vcStd, Store.set_set, s_arr, s_setL, s_fold, swp_size, Nat.le_refl, Nat.zero_add, Array.size_setIfInBounds, Nat.reduceEqDiff, reduceCtorEq, Nat.reduceAdd, Nat.reduceLeDiff, Int.reduceLT, Int.reduceLE, ↓u_setN]
  have e1 : IntKind.i64.wrap ((b : Int) - a) = ((b - a : Nat) : Int) := by rw [wrap64 (by unfold I64; omega)]; omega
  have e2 : IntKind.i64.wrap (((b - a : Nat) : Int) - 1) = ((b - a : Nat) : Int) - 1 := wrap64 (by unfold I64; omega)
  have e3 : IntKind.i64.wrap ((((b - a : Nat) : Int) - 1).tdiv 2) = (((b - a - 1) / 2 + 1 : Nat) : Int) - 1 := by
    have : (((b - a : Nat) : Int) - 1).tdiv 2 = (((b - a - 1) / 2 : Nat) : Int) := by
      by_cases h : b - a = 0
      · rw [h]; decide
      · rw [Int.tdiv_eq_ediv_of_nonneg (by omega)]; omega
    rw [this, wrap64 (by unfold I64; omega)]; omega
  rw [e1, e2, e3]
  refine ⟨by omega, ?_⟩
  refine LoopQ.inv (S := Nat × Array β) (fun s => [(0, .os id 4 0 d.size), (3, .fn g caps), (8, .int .i64 a), (9, .int .i64 0), (10, .int .i64 ((b - a : Nat) : Int)), (11, .int .i64 ((s.1 : Int) - 1))]) (fun s => σ.set id (arrA 4 c s.2))
    (fun s => s.1 ≤ d.size + 1 ∧ s.2.size = d.size ∧ heapBuild (ltC cf) (b - a) a s.1 s.2 = heapBuild (ltC cf) (b - a) a ((b - a - 1) / 2 + 1) d) (fun s => s.1) ((b - a - 1) / 2 + 1, d) rfl (Store.sub_refl _) ⟨by simp only; omega, rfl, rfl⟩ ?_
  rintro ⟨k, d1⟩ ⟨h1, h2, h3⟩
  simp only at h1 h2 h3
  simp only [hk, tk, sp, h2, e2, ↓vcPre, ↓s_get, ↓reduceIte, vcPost, vcStd, Store.set_set, s_arr, s_setL, s_fold, swp_size, Nat.le_refl, Nat.zero_add, Array.size_setIfInBounds, Nat.reduceEqDiff, reduceCtorEq, Nat.reduceAdd, Nat.reduceLeDiff, Int.reduceLT, Int.reduceLE, ↓u_setN]
  refine ⟨fun a1 => ?_, fun a1 => ?_⟩
  · obtain ⟨m, rfl⟩ : ∃ m, k = m + 1 := ⟨k - 1, by omega⟩
    have e4 : ((m + 1 : Nat) : Int) - 1 = m := by omega
    rw [e4]
    have h5 := s85 hc d1 m (b - a) a (by omega) (by omega) (by omega) σ id
    rw [h2] at h5
    refine h5.Q ?_
    rintro r s ⟨rfl, rfl⟩
    have e5 : IntKind.i64.wrap ((m : Int) - 1) = (m : Int) - 1 := wrap64 (by unfold I64; omega)
    simp only [hk, tk, sp, h2, e5, e4, ↓vcPre, ↓s_get, ↓reduceIte, vcPost, vcStd, Store.set_set, s_arr, s_setL, s_fold, swp_size, Nat.le_refl, Nat.zero_add, Array.size_setIfInBounds, Nat.reduceEqDiff, reduceCtorEq, Nat.reduceAdd, Nat.reduceLeDiff, Int.reduceLT, Int.reduceLE, ↓u_setN]
    refine NextQ.to (m, siftDown (ltC cf) (b - a) a m d1) ?_ ?_ ?_ ?_
    · rfl
    · exact Store.sub_refl _
    · simp
    · exact ⟨by simp only; omega, by simp only [siftDown_size]; omega, h3⟩
  · have hk0 : k = 0 := by omega
    subst hk0
    have h3 : d1 = heapBuild (ltC cf) (b - a) a ((b - a - 1) / 2 + 1) d := h3
    have hd : heapSort (ltC cf) d a b = heapPop (ltC cf) a (b - a) d1 := by rw [heapSort, h3]
    rw [hd]
    clear h3 hd
    refine LoopQ.inv (S := Nat × Array β) (fun s => [(0, .os id 4 0 d.size), (3, .fn g caps), (8, .int .i64 a), (9, .int .i64 0), (12, .int .i64 ((s.1 : Int) - 1))]) (fun s => σ.set id (arrA 4 c s.2))
      (fun s => s.1 ≤ b - a ∧ s.2.size = d.size ∧ heapPop (ltC cf) a s.1 s.2 = heapPop (ltC cf) a (b - a) d1) (fun s => s.1) (b - a, d1) rfl (Store.sub_refl _) ⟨by simp only; omega, h2, rfl⟩ ?_
    rintro ⟨k, d2⟩ ⟨g1, g2, g3⟩
    simp only at g1 g2 g3
    simp only [hk, tk, sp, g2, ↓vcPre, ↓s_get, ↓reduceIte, vcPost, vcStd, Store.set_set, s_arr, s_setL, s_fold, swp_size, Nat.le_refl, Nat.zero_add, Array.size_setIfInBounds, Nat.reduceEqDiff, reduceCtorEq, Nat.reduceAdd, Nat.reduceLeDiff, Int.reduceLT, Int.reduceLE, ↓u_setN]
    refine ⟨fun a1 => ?_, fun a1 => ?_⟩
    · obtain ⟨m, rfl⟩ : ∃ m, k = m + 1 := ⟨k - 1, by omega⟩
      have e4 : ((m + 1 : Nat) : Int) - 1 = m := by omega
      have e6 : IntKind.i64.wrap ((a : Int) + m) = ((a + m : Nat) : Int) := by rw [wrap64 (by unfold I64; omega)]; omega
      simp only [e4, e6, Int.toNat_natCast]
      and_intros <;> try omega
      have h5 := s85 hc (swp d2 a (a + m)) 0 m a (by rw [swp_size]; omega) (by rw [swp_size]; omega) (by omega) σ id
      rw [swp_size, g2] at h5
      refine h5.Q ?_
      rintro r s ⟨rfl, rfl⟩
      have e5 : IntKind.i64.wrap ((m : Int) - 1) = (m : Int) - 1 := wrap64 (by unfold I64; omega)
      simp only [hk, tk, sp, g2, e5, e4, ↓vcPre, ↓s_get, ↓reduceIte, vcPost, vcStd, Store.set_set, s_arr, s_setL, s_fold, swp_size, Nat.le_refl, Nat.zero_add, Array.size_setIfInBounds, Nat.reduceEqDiff, reduceCtorEq, Nat.reduceAdd, Nat.reduceLeDiff, Int.reduceLT, Int.reduceLE, ↓u_setN]
      refine NextQ.to (m, siftDown (ltC cf) m a 0 (swp d2 a (a + m))) ?_ ?_ ?_ ?_
      · rfl
      · exact Store.sub_refl _
      · simp
      · exact ⟨by simp only; omega, by simp only [siftDown_size, swp_size]; omega, g3⟩
    · have hk0 : k = 0 := by omega
      subst hk0
      exact EndQ.to _ _ rfl (Store.sub_refl _) ⟨rfl, by rw [← g3]; rfl⟩
end Go.Am

/- S5 -/
namespace Go.Am
open Go.Proofs Go.Sort
set_option linter.unusedSectionVars false
variable {β : Type} [Inhabited β] {c : β → List AV} {cf : β → β → Int} {g : Nat} {caps : List AV}
theorem wI {n : Int} {m : Nat} (h : n = m) (hm : m < 4611686018427387904) : IntKind.i64.wrap n = (m : Int) := by rw [wrap64 (by unfold I64; omega), h]
theorem scanUp_ge (p : β → Bool) (d : Array β) (j : Nat) : ∀ i, i ≤ scanUp p d j i := by
  intro i
  fun_induction scanUp p d j i <;> omega
theorem scanDown_stop (p : β → Bool) (d : Array β) (i j : Nat) (h : ¬ i ≤ j) : scanDown p d i j = j := by
  cases j with
  | zero => rfl
  | succ j => rw [scanDown, if_neg (by simp; omega)]
theorem s76 (hc : Cmp Try.prog g caps 4 c cf) (d : Array β) (a b pivot : Nat) (hab : a ≤ pivot) (hpb : pivot < b) (hb : b ≤ d.size) (hs : d.size < 2305843009213693952) (σ : Store) (id : Nat) :
    ACalls Try.prog 76 [.os id 4 0 d.size, .int .i64 a, .int .i64 b, .int .i64 pivot, .fn g caps] (σ.set id (arrA 4 c d)) (fun r s => r = .int .i64 (partitionEqual (ltC cf) d a b pivot).1 ∧ s = σ.set id (arrA 4 c (partitionEqual (ltC cf) d a b pivot).2)) := by
  refine calls_of Tst.F76 (by simp [Tst.F76, Fn.mk']) ?_
  simp only [Tst.F76, Fn.mk', Tst.b76]
  have hk := hc.hk
  have tk : ∀ x, List.take 4 (c x) = c x := fun x => List.take_of_length_le (by rw [hk]; exact Nat.le_refl _)
  have sp : ∀ x y, splice 0 (c x) (c y) = some (c x) := s_splice hk
  simp only [hk, tk, sp, ↓vcPre, ↓s_get, ↓reduceIte, vcPost, vcStd, Store.set_set, s_arr, s_setL, s_fold, swp_size, Nat.le_refl, Nat.zero_add, Array.size_setIfInBounds, Nat.reduceEqDiff, reduceCtorEq, Nat.reduceAdd, Nat.reduceLeDiff, Int.reduceLT, Int.reduceLE, ↓u_setN]
  and_intros <;> try omega
  have e1 : IntKind.i64.wrap ((a : Int) + 1) = ((a + 1 : Nat) : Int) := wI (by omega) (by omega)
  have e2 : IntKind.i64.wrap ((b : Int) - 1) = ((b - 1 : Nat) : Int) := wI (by omega) (by omega)
  rw [e1, e2]
  refine LoopQ.inv (S := Nat × Nat × Array β) (fun s => [(0, .os id 4 0 d.size), (1, .int .i64 a), (4, .fn g caps), (11, .int .i64 s.1), (12, .int .i64 s.2.1)]) (fun s => σ.set id (arrA 4 c s.2.2))
    (fun s => a < s.1 ∧ s.1 ≤ b ∧ s.2.1 < b ∧ a ≤ s.2.1 ∧ s.2.2.size = d.size ∧ partEqLoop (ltC cf) a s.1 s.2.1 s.2.2 = partitionEqual (ltC cf) d a b pivot) (fun s => d.size + 1 - s.1) (a + 1, b - 1, swp d a pivot) rfl (Store.sub_refl _)
    ⟨by simp only; omega, by simp only; omega, by simp only; omega, by simp only; omega, by simp only [swp_size], rfl⟩ ?_
  rintro ⟨i, j, d1⟩ ⟨h1, h2, h3, h4, h5, h6⟩
  simp only at h1 h2 h3 h4 h5 h6
  rw [partEqLoop] at h6
  simp only [hk, tk, sp, h5, ↓vcPre, ↓s_get, ↓reduceIte, vcPost, vcStd, Store.set_set, s_arr, s_setL, s_fold, swp_size, Nat.le_refl, Nat.zero_add, Array.size_setIfInBounds, Nat.reduceEqDiff, reduceCtorEq, Nat.reduceAdd, Nat.reduceLeDiff, Int.reduceLT, Int.reduceLE, ↓u_setN]
  refine LoopQ.inv (S := Nat) (fun s => [(0, .os id 4 0 d.size), (1, .int .i64 a), (4, .fn g caps), (11, .int .i64 s), (12, .int .i64 j)]) (fun s => σ.set id (arrA 4 c d1))
    (fun s => i ≤ s ∧ s ≤ b ∧ scanUp (fun x => !ltC cf d1[a]! x) d1 j s = scanUp (fun x => !ltC cf d1[a]! x) d1 j i) (fun s => d.size + 1 - s) i rfl (Store.sub_refl _) ⟨Nat.le_refl _, h2, rfl⟩ ?_
  rintro i2 ⟨g1, g2, g3⟩
  simp only [hk, tk, sp, h5, ↓vcPre, ↓s_get, ↓reduceIte, vcPost, vcStd, Store.set_set, s_arr, s_setL, s_fold, swp_size, Nat.le_refl, Nat.zero_add, Array.size_setIfInBounds, Nat.reduceEqDiff, reduceCtorEq, Nat.reduceAdd, Nat.reduceLeDiff, Int.reduceLT, Int.reduceLE, ↓u_setN]
  rw [scanUp] at g3
  refine ⟨fun a1 => ?_, fun a1 => ?_⟩
  · and_intros <;> try omega
    refine (hc.call _ _).Q ?_
    have e3 : IntKind.i64.wrap ((i2 : Int) + 1) = ((i2 + 1 : Nat) : Int) := wI (by omega) (by omega)
    simp only [hk, tk, sp, h5, e3, ↓vcPre, ↓s_get, ↓reduceIte, vcPost, vcStd, Store.set_set, s_arr, s_setL, s_fold, swp_size, Nat.le_refl, Nat.zero_add, Array.size_setIfInBounds, Nat.reduceEqDiff, reduceCtorEq, Nat.reduceAdd, Nat.reduceLeDiff, Int.reduceLT, Int.reduceLE, ↓u_setN]
    refine ⟨fun a2 => ?_, fun a2 => ?_⟩
    · have hl : ltC cf d1[a]! d1[i2]! = false := decide_eq_false a2
      rw [if_pos (by simp [hl, a1])] at g3
      refine NextQ.to (i2 + 1) ?_ ?_ ?_ ?_
      · rfl
      · exact Store.sub_refl _
      · omega
      · exact ⟨by omega, by omega, g3⟩
    · have hl : ltC cf d1[a]! d1[i2]! = true := decide_eq_true (by omega)
      rw [if_neg (by simp [hl])] at g3
      rw [← g3] at h6
      refine LoopQ.inv (S := Nat) (fun s => [(0, .os id 4 0 d.size), (1, .int .i64 a), (4, .fn g caps), (11, .int .i64 i2), (12, .int .i64 s)]) (fun s => σ.set id (arrA 4 c d1))
        (fun s => (i2 ≤ s + 1 ∨ s = j) ∧ s ≤ j ∧ scanDown (fun x => ltC cf d1[a]! x) d1 i2 s = scanDown (fun x => ltC cf d1[a]! x) d1 i2 j) (fun s => s) j rfl (Store.sub_refl _) ⟨Or.inr rfl, Nat.le_refl _, rfl⟩ ?_
      rintro j2 ⟨k1, k2, k3⟩
      simp only [hk, tk, sp, h5, ↓vcPre, ↓s_get, ↓reduceIte, vcPost, vcStd, Store.set_set, s_arr, s_setL, s_fold, swp_size, Nat.le_refl, Nat.zero_add, Array.size_setIfInBounds, Nat.reduceEqDiff, reduceCtorEq, Nat.reduceAdd, Nat.reduceLeDiff, Int.reduceLT, Int.reduceLE, ↓u_setN]
      refine ⟨fun b1 => ?_, fun b1 => ?_⟩
      · obtain ⟨q, rfl⟩ : ∃ q, j2 = q + 1 := ⟨j2 - 1, by omega⟩
        rw [scanDown] at k3
        and_intros <;> try omega
        refine (hc.call _ _).Q ?_
        have e4 : IntKind.i64.wrap (((q + 1 : Nat) : Int) - 1) = ((q : Nat) : Int) := wI (by omega) (by omega)
        simp only [hk, tk, sp, h5, e4, ↓vcPre, ↓s_get, ↓reduceIte, vcPost, vcStd, Store.set_set, s_arr, s_setL, s_fold, swp_size, Nat.le_refl, Nat.zero_add, Array.size_setIfInBounds, Nat.reduceEqDiff, reduceCtorEq, Nat.reduceAdd, Nat.reduceLeDiff, Int.reduceLT, Int.reduceLE, ↓u_setN]
        refine ⟨fun b2 => ?_, fun b2 => ?_⟩
        · have hl2 : ltC cf d1[a]! d1[q + 1]! = true := decide_eq_true b2
          rw [if_pos (by simp [hl2, b1])] at k3
          refine NextQ.to q ?_ ?_ ?_ ?_
          · rfl
          · exact Store.sub_refl _
          · omega
          · exact ⟨Or.inl (by omega), by omega, k3⟩
        · have hl2 : ltC cf d1[a]! d1[q + 1]! = false := decide_eq_false b2
          rw [if_neg (by simp [hl2])] at k3
          rw [← k3] at h6
          refine ⟨fun c1 => ?_, fun c1 => ?_⟩
          · rw [if_pos (by omega)] at h6
            exact EndQ.to _ _ rfl (Store.sub_refl _) ⟨by rw [← h6], by rw [← h6]⟩
          · rw [if_neg (by omega), dif_pos (by omega)] at h6
            and_intros <;> try omega
            have e5 : IntKind.i64.wrap ((i2 : Int) + 1) = ((i2 + 1 : Nat) : Int) := wI (by omega) (by omega)
            have e6 : IntKind.i64.wrap (((q + 1 : Nat) : Int) - 1) = (((q + 1) - 1 : Nat) : Int) := wI (by omega) (by omega)
            try rw [e5]
            try rw [e6]
            refine NextQ.to (i2 + 1, (q + 1) - 1, swp d1 i2 (q + 1)) ?_ ?_ ?_ ?_
            · rfl
            · exact Store.sub_refl _
            · simp only; omega
            · exact ⟨by simp only; omega, by simp only; omega, by simp only; omega, by simp only; omega, by simp only [swp_size]; omega, h6⟩
      · rw [scanDown_stop _ _ _ _ b1] at k3
        rw [← k3] at h6
        refine ⟨fun c1 => ?_, fun c1 => (by exfalso; omega)⟩
        rw [if_pos (by omega)] at h6
        exact EndQ.to _ _ rfl (Store.sub_refl _) ⟨by rw [← h6], by rw [← h6]⟩
  · rw [if_neg (by simp; omega)] at g3
    rw [← g3] at h6
    refine LoopQ.inv (S := Nat) (fun s => [(0, .os id 4 0 d.size), (1, .int .i64 a), (4, .fn g caps), (11, .int .i64 i2), (12, .int .i64 s)]) (fun s => σ.set id (arrA 4 c d1))
      (fun s => (i2 ≤ s + 1 ∨ s = j) ∧ s ≤ j ∧ scanDown (fun x => ltC cf d1[a]! x) d1 i2 s = scanDown (fun x => ltC cf d1[a]! x) d1 i2 j) (fun s => s) j rfl (Store.sub_refl _) ⟨Or.inr rfl, Nat.le_refl _, rfl⟩ ?_
    rintro j2 ⟨k1, k2, k3⟩
    simp only [hk, tk, sp, h5, ↓vcPre, ↓s_get, ↓reduceIte, vcPost, vcStd, Store.set_set, s_arr, s_setL, s_fold, swp_size, Nat.le_refl, Nat.zero_add, Array.size_setIfInBounds, Nat.reduceEqDiff, reduceCtorEq, Nat.reduceAdd, Nat.reduceLeDiff, Int.reduceLT, Int.reduceLE, ↓u_setN]
    refine ⟨fun b1 => (by exfalso; omega), fun b1 => ?_⟩
    rw [scanDown_stop _ _ _ _ b1] at k3
    rw [← k3] at h6
    refine ⟨fun c1 => ?_, fun c1 => (by exfalso; omega)⟩
    rw [if_pos (by omega)] at h6
    exact EndQ.to _ _ rfl (Store.sub_refl _) ⟨by rw [← h6], by rw [← h6]⟩
end Go.Am

/- S6 -/
namespace Go.Am
open Go.Proofs Go.Sort
set_option linter.unusedSectionVars false
variable {β : Type} [Inhabited β] {c : β → List AV} {cf : β → β → Int} {g : Nat} {caps : List AV}
theorem s77 (hc : Cmp Try.prog g caps 4 c cf) (d : Array β) (a b pivot : Nat) (hab : a ≤ pivot) (hpb : pivot < b) (hb : b ≤ d.size) (hs : d.size < 2305843009213693952) (σ : Store) (id : Nat) :
    ACalls Try.prog 77 [.os id 4 0 d.size, .int .i64 a, .int .i64 b, .int .i64 pivot, .fn g caps] (σ.set id (arrA 4 c d)) (fun r s => r = .tup [.int .i64 (partition (ltC cf) d a b pivot).1, .bool (partition (ltC cf) d a b pivot).2.1] ∧ s = σ.set id (arrA 4 c (partition (ltC cf) d a b pivot).2.2)) := by
  refine calls_of Tst.F77 (by simp [Tst.F77, Fn.mk']) ?_
  simp only [Tst.F77, Fn.mk', Tst.b77]
  have hk := hc.hk
  have tk : ∀ x, List.take 4 (c x) = c x := fun x => List.take_of_length_le (by rw [hk]; exact Nat.le_refl _)
  have sp : ∀ x y, splice 0 (c x) (c y) = some (c x) := s_splice hk
  simp only [hk, tk, sp, ↓vcPre, ↓s_get, ↓reduceIte, vcPost, vcStd, Store.set_set, s_arr, s_setL, s_fold, swp_size, Nat.le_refl, Nat.zero_add, Array.size_setIfInBounds, Nat.reduceEqDiff, reduceCtorEq, Nat.reduceAdd, Nat.reduceLeDiff, Int.reduceLT, Int.reduceLE, ↓u_setN]
  and_intros <;> try omega
  have e1 : IntKind.i64.wrap ((a : Int) + 1) = ((a + 1 : Nat) : Int) := wI (by omega) (by omega)
  have e2 : IntKind.i64.wrap ((b : Int) - 1) = ((b - 1 : Nat) : Int) := wI (by omega) (by omega)
  rw [e1, e2]
  rw [show (d.setIfInBounds a d[pivot]!).setIfInBounds pivot d[a]! = swp d a pivot from rfl]
  obtain ⟨d1, hd1⟩ : ∃ x, x = swp d a pivot := ⟨_, rfl⟩
  obtain ⟨i, hi⟩ : ∃ x, x = a + 1 := ⟨_, rfl⟩
  obtain ⟨j, hj⟩ : ∃ x, x = b - 1 := ⟨_, rfl⟩
  have h5 : d1.size = d.size := by rw [hd1, swp_size]
  have h2 : i ≤ b := by omega
  have h1 : a < i := by omega
  have h3 : j < b := by omega
  have h4 : a ≤ j := by omega
  rw [← hd1, ← hi, ← hj]
  clear e1 e2
  refine LoopQ.inv (S := Nat) (fun s => [(0, .os id 4 0 d.size), (1, .int .i64 a), (4, .fn g caps), (12, .int .i64 s), (13, .int .i64 j)]) (fun s => σ.set id (arrA 4 c d1))
    (fun s => i ≤ s ∧ s ≤ b ∧ scanUp (fun x => ltC cf x d1[a]!) d1 j s = scanUp (fun x => ltC cf x d1[a]!) d1 j i) (fun s => d.size + 1 - s) i rfl (Store.sub_refl _) ⟨Nat.le_refl _, h2, rfl⟩ ?_
  rintro i2 ⟨g1, g2, g3⟩
  simp only [hk, tk, sp, h5, ↓vcPre, ↓s_get, ↓reduceIte, vcPost, vcStd, Store.set_set, s_arr, s_setL, s_fold, swp_size, Nat.le_refl, Nat.zero_add, Array.size_setIfInBounds, Nat.reduceEqDiff, reduceCtorEq, Nat.reduceAdd, Nat.reduceLeDiff, Int.reduceLT, Int.reduceLE, ↓u_setN]
  rw [scanUp] at g3
  refine ⟨fun a1 => ?_, fun a1 => ?_⟩
  · and_intros <;> try omega
    refine (hc.call _ _).Q ?_
    have e3 : IntKind.i64.wrap ((i2 : Int) + 1) = ((i2 + 1 : Nat) : Int) := wI (by omega) (by omega)
    simp only [hk, tk, sp, h5, e3, ↓vcPre, ↓s_get, ↓reduceIte, vcPost, vcStd, Store.set_set, s_arr, s_setL, s_fold, swp_size, Nat.le_refl, Nat.zero_add, Array.size_setIfInBounds, Nat.reduceEqDiff, reduceCtorEq, Nat.reduceAdd, Nat.reduceLeDiff, Int.reduceLT, Int.reduceLE, ↓u_setN]
    refine ⟨fun a2 => ?_, fun a2 => ?_⟩
    · have hl : ltC cf d1[i2]! d1[a]! = true := decide_eq_true a2
      rw [if_pos (by simp [hl, a1])] at g3
      refine NextQ.to (i2 + 1) ?_ ?_ ?_ ?_
      · rfl
      · exact Store.sub_refl _
      · omega
      · exact ⟨by omega, by omega, g3⟩
    · have hl : ltC cf d1[i2]! d1[a]! = false := decide_eq_false a2
      rw [if_neg (by simp [hl])] at g3
      refine LoopQ.inv (S := Nat) (fun s => [(0, .os id 4 0 d.size), (1, .int .i64 a), (4, .fn g caps), (12, .int .i64 i2), (13, .int .i64 s)]) (fun s => σ.set id (arrA 4 c d1))
        (fun s => (i2 ≤ s + 1 ∨ s = j) ∧ s ≤ j ∧ scanDown (fun x => !ltC cf x d1[a]!) d1 i2 s = scanDown (fun x => !ltC cf x d1[a]!) d1 i2 j) (fun s => s) j rfl (Store.sub_refl _) ⟨Or.inr rfl, Nat.le_refl _, rfl⟩ ?_
      rintro j2 ⟨k1, k2, k3⟩
      simp only [hk, tk, sp, h5, ↓vcPre, ↓s_get, ↓reduceIte, vcPost, vcStd, Store.set_set, s_arr, s_setL, s_fold, swp_size, Nat.le_refl, Nat.zero_add, Array.size_setIfInBounds, Nat.reduceEqDiff, reduceCtorEq, Nat.reduceAdd, Nat.reduceLeDiff, Int.reduceLT, Int.reduceLE, ↓u_setN]
      refine ⟨fun b1 => ?_, fun b1 => ?_⟩
      · obtain ⟨q, rfl⟩ : ∃ q, j2 = q + 1 := ⟨j2 - 1, by omega⟩
        rw [scanDown] at k3
        and_intros <;> try omega
        refine (hc.call _ _).Q ?_
        have e4 : IntKind.i64.wrap (((q + 1 : Nat) : Int) - 1) = ((q : Nat) : Int) := wI (by omega) (by omega)
        simp only [hk, tk, sp, h5, e4, ↓vcPre, ↓s_get, ↓reduceIte, vcPost, vcStd, Store.set_set, s_arr, s_setL, s_fold, swp_size, Nat.le_refl, Nat.zero_add, Array.size_setIfInBounds, Nat.reduceEqDiff, reduceCtorEq, Nat.reduceAdd, Nat.reduceLeDiff, Int.reduceLT, Int.reduceLE, ↓u_setN]
        refine ⟨fun b2 => ?_, fun b2 => ?_⟩
        · have hl2 : ltC cf d1[q + 1]! d1[a]! = false := decide_eq_false b2
          rw [if_pos (by simp [hl2, b1])] at k3
          refine NextQ.to q ?_ ?_ ?_ ?_
          · rfl
          · exact Store.sub_refl _
          · omega
          · exact ⟨Or.inl (by omega), by omega, k3⟩
        · have hl2 : ltC cf d1[q + 1]! d1[a]! = true := decide_eq_true (by omega)
          rw [if_neg (by simp [hl2])] at k3
          obtain ⟨j2, hj2⟩ : ∃ x, x = q + 1 := ⟨_, rfl⟩
          rw [← hj2] at k1 k2 k3 b1 ⊢
          have hp : partition (ltC cf) d a b pivot = if i2 > j2 then (j2, true, swp d1 j2 a) else ((partLoop (ltC cf) a (i2 + 1) (j2 - 1) (swp d1 i2 j2)).1, false, swp (partLoop (ltC cf) a (i2 + 1) (j2 - 1) (swp d1 i2 j2)).2 (partLoop (ltC cf) a (i2 + 1) (j2 - 1) (swp d1 i2 j2)).1 a) := by
            subst hd1 hi hj
            rw [partition]
            simp only [← g3, ← k3]
          refine ⟨fun c1 => (by exfalso; omega), fun c1 => ?_⟩
          rw [if_neg (by omega)] at hp
          and_intros <;> try omega
          rw [hp]
          clear hp
          have e5 : IntKind.i64.wrap ((i2 : Int) + 1) = ((i2 + 1 : Nat) : Int) := wI (by omega) (by omega)
          have e6 : IntKind.i64.wrap (((j2 : Nat) : Int) - 1) = ((j2 - 1 : Nat) : Int) := wI (by omega) (by omega)
          try rw [e5]
          try rw [e6]
          rw [show ((q : Nat) : Int) = ((j2 - 1 : Nat) : Int) from by omega]
          refine LoopQ.inv (S := Nat × Nat × Array β) (fun s => [(0, .os id 4 0 d.size), (1, .int .i64 a), (4, .fn g caps), (12, .int .i64 s.1), (13, .int .i64 s.2.1)]) (fun s => σ.set id (arrA 4 c s.2.2))
            (fun s => a < s.1 ∧ s.1 ≤ b ∧ s.2.1 < b ∧ a ≤ s.2.1 ∧ s.2.2.size = d.size ∧ partLoop (ltC cf) a s.1 s.2.1 s.2.2 = partLoop (ltC cf) a (i2 + 1) (j2 - 1) (swp d1 i2 j2)) (fun s => d.size + 1 - s.1) (i2 + 1, j2 - 1, swp d1 i2 j2) rfl (Store.sub_refl _)
            ⟨by simp only; omega, by simp only; omega, by simp only; omega, by simp only; omega, by simp only [swp_size]; omega, rfl⟩ ?_
          obtain ⟨R, hR⟩ : ∃ x, x = partLoop (ltC cf) a (i2 + 1) (j2 - 1) (swp d1 i2 j2) := ⟨_, rfl⟩
          rw [← hR]
          clear hR k1 k2 g1 g2 g3 b1 c1 e5 e6 h1 h2 h3 h4 h5 hi hj hd1 a1
          clear k3
          clear hj2 hl hl2 b2 a2
          clear e3 e4
          clear j2 i2 q
          clear i j d1
          rintro ⟨i, j, d1⟩ ⟨h1, h2, h3, h4, h5, h6⟩
          simp only at h1 h2 h3 h4 h5 h6
          rw [partLoop] at h6
          simp only [hk, tk, sp, h5, ↓vcPre, ↓s_get, ↓reduceIte, vcPost, vcStd, Store.set_set, s_arr, s_setL, s_fold, swp_size, Nat.le_refl, Nat.zero_add, Array.size_setIfInBounds, Nat.reduceEqDiff, reduceCtorEq, Nat.reduceAdd, Nat.reduceLeDiff, Int.reduceLT, Int.reduceLE, ↓u_setN]
          refine LoopQ.inv (S := Nat) (fun s => [(0, .os id 4 0 d.size), (1, .int .i64 a), (4, .fn g caps), (12, .int .i64 s), (13, .int .i64 j)]) (fun s => σ.set id (arrA 4 c d1))
            (fun s => i ≤ s ∧ s ≤ b ∧ scanUp (fun x => ltC cf x d1[a]!) d1 j s = scanUp (fun x => ltC cf x d1[a]!) d1 j i) (fun s => d.size + 1 - s) i rfl (Store.sub_refl _) ⟨Nat.le_refl _, h2, rfl⟩ ?_
          rintro i2 ⟨g1, g2, g3⟩
          simp only [hk, tk, sp, h5, ↓vcPre, ↓s_get, ↓reduceIte, vcPost, vcStd, Store.set_set, s_arr, s_setL, s_fold, swp_size, Nat.le_refl, Nat.zero_add, Array.size_setIfInBounds, Nat.reduceEqDiff, reduceCtorEq, Nat.reduceAdd, Nat.reduceLeDiff, Int.reduceLT, Int.reduceLE, ↓u_setN]
          rw [scanUp] at g3
          refine ⟨fun a1 => ?_, fun a1 => ?_⟩
          · and_intros <;> try omega
            refine (hc.call _ _).Q ?_
            have e3 : IntKind.i64.wrap ((i2 : Int) + 1) = ((i2 + 1 : Nat) : Int) := wI (by omega) (by omega)
            simp only [hk, tk, sp, h5, e3, ↓vcPre, ↓s_get, ↓reduceIte, vcPost, vcStd, Store.set_set, s_arr, s_setL, s_fold, swp_size, Nat.le_refl, Nat.zero_add, Array.size_setIfInBounds, Nat.reduceEqDiff, reduceCtorEq, Nat.reduceAdd, Nat.reduceLeDiff, Int.reduceLT, Int.reduceLE, ↓u_setN]
            refine ⟨fun a2 => ?_, fun a2 => ?_⟩
            · have hl : ltC cf d1[i2]! d1[a]! = true := decide_eq_true a2
              rw [if_pos (by simp [hl, a1])] at g3
              refine NextQ.to (i2 + 1) ?_ ?_ ?_ ?_
              · rfl
              · exact Store.sub_refl _
              · omega
              · exact ⟨by omega, by omega, g3⟩
            · have hl : ltC cf d1[i2]! d1[a]! = false := decide_eq_false a2
              rw [if_neg (by simp [hl])] at g3
              refine LoopQ.inv (S := Nat) (fun s => [(0, .os id 4 0 d.size), (1, .int .i64 a), (4, .fn g caps), (12, .int .i64 i2), (13, .int .i64 s)]) (fun s => σ.set id (arrA 4 c d1))
                (fun s => (i2 ≤ s + 1 ∨ s = j) ∧ s ≤ j ∧ scanDown (fun x => !ltC cf x d1[a]!) d1 i2 s = scanDown (fun x => !ltC cf x d1[a]!) d1 i2 j) (fun s => s) j rfl (Store.sub_refl _) ⟨Or.inr rfl, Nat.le_refl _, rfl⟩ ?_
              rintro j2 ⟨k1, k2, k3⟩
              simp only [hk, tk, sp, h5, ↓vcPre, ↓s_get, ↓reduceIte, vcPost, vcStd, Store.set_set, s_arr, s_setL, s_fold, swp_size, Nat.le_refl, Nat.zero_add, Array.size_setIfInBounds, Nat.reduceEqDiff, reduceCtorEq, Nat.reduceAdd, Nat.reduceLeDiff, Int.reduceLT, Int.reduceLE, ↓u_setN]
              refine ⟨fun b1 => ?_, fun b1 => ?_⟩
              · obtain ⟨q, rfl⟩ : ∃ q, j2 = q + 1 := ⟨j2 - 1, by omega⟩
                rw [scanDown] at k3
                and_intros <;> try omega
                refine (hc.call _ _).Q ?_
                have e4 : IntKind.i64.wrap (((q + 1 : Nat) : Int) - 1) = ((q : Nat) : Int) := wI (by omega) (by omega)
                simp only [hk, tk, sp, h5, e4, ↓vcPre, ↓s_get, ↓reduceIte, vcPost, vcStd, Store.set_set, s_arr, s_setL, s_fold, swp_size, Nat.le_refl, Nat.zero_add, Array.size_setIfInBounds, Nat.reduceEqDiff, reduceCtorEq, Nat.reduceAdd, Nat.reduceLeDiff, Int.reduceLT, Int.reduceLE, ↓u_setN]
                refine ⟨fun b2 => ?_, fun b2 => ?_⟩
                · have hl2 : ltC cf d1[q + 1]! d1[a]! = false := decide_eq_false b2
                  rw [if_pos (by simp [hl2, b1])] at k3
                  refine NextQ.to q ?_ ?_ ?_ ?_
                  · rfl
                  · exact Store.sub_refl _
                  · omega
                  · exact ⟨Or.inl (by omega), by omega, k3⟩
                · have hl2 : ltC cf d1[q + 1]! d1[a]! = true := decide_eq_true (by omega)
                  rw [if_neg (by simp [hl2])] at k3
                  obtain ⟨j2, hj2⟩ : ∃ x, x = q + 1 := ⟨_, rfl⟩
                  rw [← hj2] at k1 k2 k3 b1 ⊢
                  rw [← g3, ← k3] at h6
                  refine ⟨fun c1 => (by exfalso; omega), fun c1 => ?_⟩
                  rw [if_neg (by omega), dif_pos (by omega)] at h6
                  and_intros <;> try omega
                  have e5 : IntKind.i64.wrap ((i2 : Int) + 1) = ((i2 + 1 : Nat) : Int) := wI (by omega) (by omega)
                  have e6 : IntKind.i64.wrap (((j2 : Nat) : Int) - 1) = ((j2 - 1 : Nat) : Int) := wI (by omega) (by omega)
                  try rw [e5]
                  try rw [e6]
                  rw [show ((q : Nat) : Int) = ((j2 - 1 : Nat) : Int) from by omega]
                  refine NextQ.to (i2 + 1, j2 - 1, swp d1 i2 j2) ?_ ?_ ?_ ?_
                  · rfl
                  · exact Store.sub_refl _
                  · simp only; omega
                  · exact ⟨by simp only; omega, by simp only; omega, by simp only; omega, by simp only; omega, by simp only [swp_size]; omega, h6⟩
              · rw [scanDown_stop _ _ _ _ b1] at k3
                rw [← g3, ← k3] at h6
                refine ⟨fun c1 => ?_, fun c1 => (by exfalso; omega)⟩
                rw [if_pos (by omega)] at h6
                and_intros <;> try omega
                exact EndQ.to _ _ rfl (Store.sub_refl _) ⟨by rw [← h6], by rw [← h6]; rfl⟩
          · rw [if_neg (by simp; omega)] at g3
            refine LoopQ.inv (S := Nat) (fun s => [(0, .os id 4 0 d.size), (1, .int .i64 a), (4, .fn g caps), (12, .int .i64 i2), (13, .int .i64 s)]) (fun s => σ.set id (arrA 4 c d1))
              (fun s => (i2 ≤ s + 1 ∨ s = j) ∧ s ≤ j ∧ scanDown (fun x => !ltC cf x d1[a]!) d1 i2 s = scanDown (fun x => !ltC cf x d1[a]!) d1 i2 j) (fun s => s) j rfl (Store.sub_refl _) ⟨Or.inr rfl, Nat.le_refl _, rfl⟩ ?_
            rintro j2 ⟨k1, k2, k3⟩
            simp only [hk, tk, sp, h5, ↓vcPre, ↓s_get, ↓reduceIte, vcPost, vcStd, Store.set_set, s_arr, s_setL, s_fold, swp_size, Nat.le_refl, Nat.zero_add, Array.size_setIfInBounds, Nat.reduceEqDiff, reduceCtorEq, Nat.reduceAdd, Nat.reduceLeDiff, Int.reduceLT, Int.reduceLE, ↓u_setN]
            refine ⟨fun b1 => (by exfalso; omega), fun b1 => ?_⟩
            rw [scanDown_stop _ _ _ _ b1] at k3
            rw [← g3, ← k3] at h6
            refine ⟨fun c1 => ?_, fun c1 => (by exfalso; omega)⟩
            rw [if_pos (by omega)] at h6
            and_intros <;> try omega
            exact EndQ.to _ _ rfl (Store.sub_refl _) ⟨by rw [← h6], by rw [← h6]; rfl⟩
      · rw [scanDown_stop _ _ _ _ b1] at k3
        have hp : partition (ltC cf) d a b pivot = if i2 > j2 then (j2, true, swp d1 j2 a) else ((partLoop (ltC cf) a (i2 + 1) (j2 - 1) (swp d1 i2 j2)).1, false, swp (partLoop (ltC cf) a (i2 + 1) (j2 - 1) (swp d1 i2 j2)).2 (partLoop (ltC cf) a (i2 + 1) (j2 - 1) (swp d1 i2 j2)).1 a) := by
          subst hd1 hi hj
          rw [partition]
          simp only [← g3, ← k3]
        refine ⟨fun c1 => ?_, fun c1 => (by exfalso; omega)⟩
        rw [if_pos (by omega)] at hp
        and_intros <;> try omega
        exact EndQ.to _ _ rfl (Store.sub_refl _) ⟨by rw [hp], by rw [hp]; rfl⟩
  · rw [if_neg (by simp; omega)] at g3
    refine LoopQ.inv (S := Nat) (fun s => [(0, .os id 4 0 d.size), (1, .int .i64 a), (4, .fn g caps), (12, .int .i64 i2), (13, .int .i64 s)]) (fun s => σ.set id (arrA 4 c d1))
      (fun s => (i2 ≤ s + 1 ∨ s = j) ∧ s ≤ j ∧ scanDown (fun x => !ltC cf x d1[a]!) d1 i2 s = scanDown (fun x => !ltC cf x d1[a]!) d1 i2 j) (fun s => s) j rfl (Store.sub_refl _) ⟨Or.inr rfl, Nat.le_refl _, rfl⟩ ?_
    rintro j2 ⟨k1, k2, k3⟩
    simp only [hk, tk, sp, h5, ↓vcPre, ↓s_get, ↓reduceIte, vcPost, vcStd, Store.set_set, s_arr, s_setL, s_fold, swp_size, Nat.le_refl, Nat.zero_add, Array.size_setIfInBounds, Nat.reduceEqDiff, reduceCtorEq, Nat.reduceAdd, Nat.reduceLeDiff, Int.reduceLT, Int.reduceLE, ↓u_setN]
    refine ⟨fun b1 => (by exfalso; omega), fun b1 => ?_⟩
    rw [scanDown_stop _ _ _ _ b1] at k3
    have hp : partition (ltC cf) d a b pivot = if i2 > j2 then (j2, true, swp d1 j2 a) else ((partLoop (ltC cf) a (i2 + 1) (j2 - 1) (swp d1 i2 j2)).1, false, swp (partLoop (ltC cf) a (i2 + 1) (j2 - 1) (swp d1 i2 j2)).2 (partLoop (ltC cf) a (i2 + 1) (j2 - 1) (swp d1 i2 j2)).1 a) := by
      subst hd1 hi hj
      rw [partition]
      simp only [← g3, ← k3]
    refine ⟨fun c1 => ?_, fun c1 => (by exfalso; omega)⟩
    rw [if_pos (by omega)] at hp
    and_intros <;> try omega
    exact EndQ.to _ _ rfl (Store.sub_refl _) ⟨by rw [hp], by rw [hp]; rfl⟩
end Go.Am

/- S7 -/
namespace Go.Am
open Go.Proofs Go.Sort
set_option linter.unusedSectionVars false
variable {β : Type} [Inhabited β] {c : β → List AV} {cf : β → β → Int} {g : Nat} {caps : List AV}
/-- The array, and a count. -/
def stQ (σ : Store) (id q : Nat) (c : β → List AV) (d : Array β) (n : Nat) : Store := (σ.set id (arrA 4 c d)).set q (.box [.int .i64 n])
theorem s91 (hc : Cmp Try.prog g caps 4 c cf) (d : Array β) (a b n : Nat) (ha : a < d.size) (hb : b < d.size) (hs : d.size < 2305843009213693952) (hn : n < 1000) (σ : Store) (id q : Nat) (hq : ¬ id = q) :
    ACalls Try.prog 91 [.os id 4 0 d.size, .int .i64 a, .int .i64 b, .ptr q 0, .fn g caps] (stQ σ id q c d n) (fun r s => r = .tup [.int .i64 (order2 (ltC cf) d a b n).1, .int .i64 (order2 (ltC cf) d a b n).2.1] ∧ s = stQ σ id q c d (order2 (ltC cf) d a b n).2.2) := by
  refine calls_of Tst.F91 (by simp [Tst.F91, Fn.mk']) ?_
  simp only [Tst.F91, Fn.mk', Tst.b91, stQ]
  have hk := hc.hk
  have tk : ∀ x, List.take 4 (c x) = c x := fun x => List.take_of_length_le (by rw [hk]; exact Nat.le_refl _)
  have sp : ∀ x y, splice 0 (c x) (c y) = some (c x) := s_splice hk
  simp only [hk, tk, sp, hq, ↓vcPre, ↓s_get, ↓reduceIte, vcPost, vcStd, Store.set_set, s_arr, s_setL, s_fold, swp_size, Nat.le_refl, Nat.zero_add, Array.size_setIfInBounds, Nat.reduceEqDiff, reduceCtorEq, Nat.reduceAdd, Nat.reduceLeDiff, Int.reduceLT, Int.reduceLE, ↓u_setN]
  and_intros <;> try omega
  refine (hc.call _ _).Q ?_
  simp only [hk, tk, sp, hq, ↓vcPre, ↓s_get, ↓reduceIte, vcPost, vcStd, Store.set_set, s_arr, s_setL, s_fold, swp_size, Nat.le_refl, Nat.zero_add, Array.size_setIfInBounds, Nat.reduceEqDiff, reduceCtorEq, Nat.reduceAdd, Nat.reduceLeDiff, Int.reduceLT, Int.reduceLE, ↓u_setN]
  have e1 : IntKind.i64.wrap ((n : Int) + 1) = ((n + 1 : Nat) : Int) := wI (by omega) (by omega)
  rw [e1]
  refine ⟨fun h => ?_, fun h => ?_⟩
  · have hl : ltC cf d[b]! d[a]! = true := decide_eq_true h
    refine EndQ.to _ _ rfl (Store.sub_refl _) ?_
    simp [order2, hl, stQ]
  · have hl : ltC cf d[b]! d[a]! = false := decide_eq_false h
    refine EndQ.to _ _ rfl (Store.sub_refl _) ?_
    simp [order2, hl, stQ]
theorem order2_lt (lt : β → β → Bool) (d : Array β) (a b n m : Nat) (ha : a < m) (hb : b < m) : (order2 lt d a b n).1 < m ∧ (order2 lt d a b n).2.1 < m ∧ (order2 lt d a b n).2.2 ≤ n + 1 := by
  unfold order2; split <;> simp <;> omega
theorem s89 (hc : Cmp Try.prog g caps 4 c cf) (d : Array β) (a b e n : Nat) (ha : a < d.size) (hb : b < d.size) (he : e < d.size) (hs : d.size < 2305843009213693952) (hn : n < 900) (σ : Store) (id q : Nat) (hq : ¬ id = q) :
    ACalls Try.prog 89 [.os id 4 0 d.size, .int .i64 a, .int .i64 b, .int .i64 e, .ptr q 0, .fn g caps] (stQ σ id q c d n) (fun r s => r = .int .i64 (median (ltC cf) d a b e n).1 ∧ s = stQ σ id q c d (median (ltC cf) d a b e n).2) := by
  refine calls_of Tst.F89 (by simp [Tst.F89, Fn.mk']) ?_
  simp only [Tst.F89, Fn.mk', Tst.b89]
  simp only [↓vcPre, ↓wit_get, ↓reduceIte, vcPost, vcStd, Nat.reduceEqDiff, reduceCtorEq, Nat.reduceAdd, Nat.reduceLeDiff, Int.reduceLT, Int.reduceLE, ↓u_setN]
  refine (s91 hc d a b n ha hb hs (by omega) σ id q hq).Q ?_
  rintro r s ⟨rfl, rfl⟩
  obtain ⟨p1, p2, p3⟩ := order2_lt (ltC cf) d a b n d.size ha hb
  simp only [↓vcPre, ↓wit_get, ↓reduceIte, vcPost, vcStd, Nat.reduceEqDiff, reduceCtorEq, Nat.reduceAdd, Nat.reduceLeDiff, Int.reduceLT, Int.reduceLE, ↓u_setN]
  refine (s91 hc d _ e _ p2 he hs (by omega) σ id q hq).Q ?_
  rintro r s ⟨rfl, rfl⟩
  obtain ⟨q1, q2, q3⟩ := order2_lt (ltC cf) d (order2 (ltC cf) d a b n).2.1 e (order2 (ltC cf) d a b n).2.2 d.size p2 he
  simp only [↓vcPre, ↓wit_get, ↓reduceIte, vcPost, vcStd, Nat.reduceEqDiff, reduceCtorEq, Nat.reduceAdd, Nat.reduceLeDiff, Int.reduceLT, Int.reduceLE, ↓u_setN]
  refine (s91 hc d _ _ _ p1 q1 hs (by omega) σ id q hq).Q ?_
  rintro r s ⟨rfl, rfl⟩
  simp only [↓vcPre, ↓wit_get, ↓reduceIte, vcPost, vcStd, Nat.reduceEqDiff, reduceCtorEq, Nat.reduceAdd, Nat.reduceLeDiff, Int.reduceLT, Int.reduceLE, ↓u_setN]
  exact EndQ.to _ _ rfl (Store.sub_refl _) ⟨rfl, rfl⟩
theorem median_lt (lt : β → β → Bool) (d : Array β) (a b e n m : Nat) (ha : a < m) (hb : b < m) (he : e < m) : (median lt d a b e n).1 < m ∧ (median lt d a b e n).2 ≤ n + 3 := by
  obtain ⟨p1, p2, p3⟩ := order2_lt lt d a b n m ha hb
  obtain ⟨q1, q2, q3⟩ := order2_lt lt d (order2 lt d a b n).2.1 e (order2 lt d a b n).2.2 m p2 he
  obtain ⟨r1, r2, r3⟩ := order2_lt lt d (order2 lt d a b n).1 (order2 lt d (order2 lt d a b n).2.1 e (order2 lt d a b n).2.2).1 (order2 lt d (order2 lt d a b n).2.1 e (order2 lt d a b n).2.2).2.2 m p1 q1
  simp only [median]
  exact ⟨r2, by omega⟩
theorem s88 (hc : Cmp Try.prog g caps 4 c cf) (d : Array β) (a n : Nat) (h1 : 1 ≤ a) (ha : a + 1 < d.size) (hs : d.size < 2305843009213693952) (hn : n < 900) (σ : Store) (id q : Nat) (hq : ¬ id = q) :
    ACalls Try.prog 88 [.os id 4 0 d.size, .int .i64 a, .ptr q 0, .fn g caps] (stQ σ id q c d n) (fun r s => r = .int .i64 (medianAdjacent (ltC cf) d a n).1 ∧ s = stQ σ id q c d (medianAdjacent (ltC cf) d a n).2) := by
  refine calls_of Tst.F88 (by simp [Tst.F88, Fn.mk']) ?_
  simp only [Tst.F88, Fn.mk', Tst.b88]
  simp only [↓vcPre, ↓wit_get, ↓reduceIte, vcPost, vcStd, Nat.reduceEqDiff, reduceCtorEq, Nat.reduceAdd, Nat.reduceLeDiff, Int.reduceLT, Int.reduceLE, ↓u_setN]
  have e1 : IntKind.i64.wrap ((a : Int) + 1) = ((a + 1 : Nat) : Int) := wI (by omega) (by omega)
  have e2 : IntKind.i64.wrap ((a : Int) - 1) = ((a - 1 : Nat) : Int) := wI (by omega) (by omega)
  rw [e1, e2]
  refine (s89 hc d (a - 1) a (a + 1) n (by omega) (by omega) (by omega) hs hn σ id q hq).Q ?_
  rintro r s ⟨rfl, rfl⟩
  simp only [↓vcPre, ↓wit_get, ↓reduceIte, vcPost, vcStd, Nat.reduceEqDiff, reduceCtorEq, Nat.reduceAdd, Nat.reduceLeDiff, Int.reduceLT, Int.reduceLE, ↓u_setN]
  exact EndQ.to _ _ rfl (Store.sub_refl _) ⟨rfl, rfl⟩
theorem s73 (hc : Cmp Try.prog g caps 4 c cf) (d : Array β) (a b : Nat) (hab : a < b) (hb : b ≤ d.size) (hs : d.size < 2305843009213693952) (σ : Store) (id : Nat) :
    ACalls Try.prog 73 [.os id 4 0 d.size, .int .i64 a, .int .i64 b, .fn g caps] (σ.set id (arrA 4 c d)) (fun r s => r = .tup [.int .i64 (choosePivot (ltC cf) d a b).1, .int .i64 (match (choosePivot (ltC cf) d a b).2 with | .unknown => 0 | .increasing => 1 | .decreasing => 2)] ∧ s = σ.set id (arrA 4 c d)) := by
  refine calls_of Tst.F73 (by simp [Tst.F73, Fn.mk']) ?_
  simp only [Tst.F73, Fn.mk', Tst.b73]
  have hk := hc.hk
  have tk : ∀ x, List.take 4 (c x) = c x := fun x => List.take_of_length_le (by rw [hk]; exact Nat.le_refl _)
  have sp : ∀ x y, splice 0 (c x) (c y) = some (c x) := s_splice hk
  simp only [hk, tk, sp, ↓vcPre, ↓s_get, ↓reduceIte, vcPost, vcStd, Store.set_set, s_arr, s_setL, s_fold, swp_size, Nat.le_refl, Nat.zero_add, Array.size_setIfInBounds, Nat.reduceEqDiff, reduceCtorEq, Nat.reduceAdd, Nat.reduceLeDiff, Int.reduceLT, Int.reduceLE, ↓u_setN]
  refine AllocQ.i1 fun q hq1 hq2 hq => ?_
  have fr : (σ.set id (arrA 4 c d)) q = none := by rw [u_setne hq1]; exact hq
  simp only [hk, tk, sp, hq1, hq2, ↓vcPre, ↓s_get, ↓reduceIte, vcPost, vcStd, Store.set_set, s_arr, s_setL, s_fold, swp_size, Nat.le_refl, Nat.zero_add, Array.size_setIfInBounds, Nat.reduceEqDiff, reduceCtorEq, Nat.reduceAdd, Nat.reduceLeDiff, Int.reduceLT, Int.reduceLE, ↓u_setN]
  have eL : IntKind.i64.wrap ((b : Int) - a) = ((b - a : Nat) : Int) := wI (by omega) (by omega)
  have eQ : IntKind.i64.wrap (((b - a : Nat) : Int).tdiv 4) = (((b - a) / 4 : Nat) : Int) := wI (by rw [Int.tdiv_eq_ediv_of_nonneg (by omega)]; omega) (by omega)
  have m1 : IntKind.i64.wrap ((((b - a) / 4 : Nat) : Int) * 1) = (((b - a) / 4 * 1 : Nat) : Int) := wI (by omega) (by omega)
  have m2 : IntKind.i64.wrap ((((b - a) / 4 : Nat) : Int) * 2) = (((b - a) / 4 * 2 : Nat) : Int) := wI (by omega) (by omega)
  have m3 : IntKind.i64.wrap ((((b - a) / 4 : Nat) : Int) * 3) = (((b - a) / 4 * 3 : Nat) : Int) := wI (by omega) (by omega)
  have n1 : IntKind.i64.wrap ((a : Int) + (((b - a) / 4 * 1 : Nat) : Int)) = ((a + (b - a) / 4 * 1 : Nat) : Int) := wI (by omega) (by omega)
  have n2 : IntKind.i64.wrap ((a : Int) + (((b - a) / 4 * 2 : Nat) : Int)) = ((a + (b - a) / 4 * 2 : Nat) : Int) := wI (by omega) (by omega)
  have n3 : IntKind.i64.wrap ((a : Int) + (((b - a) / 4 * 3 : Nat) : Int)) = ((a + (b - a) / 4 * 3 : Nat) : Int) := wI (by omega) (by omega)
  simp only [eL, eQ, m1, m2, m3, n1, n2, n3]
  rw [show (Obj.box [AV.int IntKind.i64 0]) = Obj.box [AV.int IntKind.i64 ((0 : Nat) : Int)] from rfl]
  rw [show (σ.set id (arrA 4 c d)).set q (Obj.box [AV.int IntKind.i64 ((0 : Nat) : Int)]) = stQ σ id q c d 0 from rfl]
  have hsub : ∀ n, Store.sub (σ.set id (arrA 4 c d)) (stQ σ id q c d n) := fun n => Store.sub_set _ _ _ fr
  obtain ⟨l, hl⟩ : ∃ x, x = b - a := ⟨_, rfl⟩
  obtain ⟨i, hi⟩ : ∃ x, x = a + l / 4 * 1 := ⟨_, rfl⟩
  obtain ⟨j, hj⟩ : ∃ x, x = a + l / 4 * 2 := ⟨_, rfl⟩
  obtain ⟨k, hk'⟩ : ∃ x, x = a + l / 4 * 3 := ⟨_, rfl⟩
  have hcp : choosePivot (ltC cf) d a b = (fun r : Nat × Nat => (r.1, if r.2 = 0 then Hint.increasing else if r.2 = 12 then .decreasing else .unknown))
      (if l ≥ 8 then (if l ≥ 50 then median (ltC cf) d (medianAdjacent (ltC cf) d i 0).1 (medianAdjacent (ltC cf) d j (medianAdjacent (ltC cf) d i 0).2).1 (medianAdjacent (ltC cf) d k (medianAdjacent (ltC cf) d j (medianAdjacent (ltC cf) d i 0).2).2).1 (medianAdjacent (ltC cf) d k (medianAdjacent (ltC cf) d j (medianAdjacent (ltC cf) d i 0).2).2).2
        else median (ltC cf) d i j k 0) else (j, 0)) := by subst hi hj hk' hl; rfl
  have F2 : IntKind.i64.wrap ((a : Int) + IntKind.i64.wrap (IntKind.i64.wrap ((IntKind.i64.wrap ((b : Int) - a)).tdiv 4) * 2)) = (j : Int) := by rw [eL, eQ, m2, n2, hj, hl]
  have F3 : IntKind.i64.wrap ((a : Int) + IntKind.i64.wrap (IntKind.i64.wrap ((IntKind.i64.wrap ((b : Int) - a)).tdiv 4) * 3)) = (k : Int) := by rw [eL, eQ, m3, n3, hk', hl]
  rw [hcp]
  simp only [← hl, ← hi, ← hj, ← hk']
  clear hcp eL eQ m1 m2 m3 n1 n2 n3
  refine ⟨by omega, by omega, by omega, fun a1 => ⟨fun a2 => ?_, fun a2 => ?_⟩, fun a1 => ?_⟩
  · have v0 := fun (x n : Nat) (h1 : 1 ≤ x) (h2 : x + 1 < d.size) => (by
      unfold medianAdjacent; exact median_lt (ltC cf) d (x - 1) x (x + 1) n d.size (by omega) (by omega) (by omega) : (medianAdjacent (ltC cf) d x n).1 < d.size ∧ (medianAdjacent (ltC cf) d x n).2 ≤ n + 3)
    rw [if_pos (by omega), if_pos (by omega)]
    refine (s88 hc d i 0 (by omega) (by omega) hs (by omega) σ id q hq2).Q ?_
    rintro r s ⟨rfl, rfl⟩
    obtain ⟨p1, p2⟩ := v0 i 0 (by omega) (by omega)
    simp only [F2, F3, ↓vcPre, ↓wit_get, ↓reduceIte, vcPost, vcStd, Nat.reduceEqDiff, reduceCtorEq, Nat.reduceAdd, Nat.reduceLeDiff, Int.reduceLT, Int.reduceLE, ↓u_setN]
    refine (s88 hc d j (medianAdjacent (ltC cf) d i 0).2 (by omega) (by omega) hs (by omega) σ id q hq2).Q ?_
    rintro r s ⟨rfl, rfl⟩
    obtain ⟨p3, p4⟩ := v0 j (medianAdjacent (ltC cf) d i 0).2 (by omega) (by omega)
    simp only [F2, F3, ↓vcPre, ↓wit_get, ↓reduceIte, vcPost, vcStd, Nat.reduceEqDiff, reduceCtorEq, Nat.reduceAdd, Nat.reduceLeDiff, Int.reduceLT, Int.reduceLE, ↓u_setN]
    refine (s88 hc d k (medianAdjacent (ltC cf) d j (medianAdjacent (ltC cf) d i 0).2).2 (by omega) (by omega) hs (by omega) σ id q hq2).Q ?_
    rintro r s ⟨rfl, rfl⟩
    obtain ⟨p5, p6⟩ := v0 k (medianAdjacent (ltC cf) d j (medianAdjacent (ltC cf) d i 0).2).2 (by omega) (by omega)
    simp only [F2, F3, ↓vcPre, ↓wit_get, ↓reduceIte, vcPost, vcStd, Nat.reduceEqDiff, reduceCtorEq, Nat.reduceAdd, Nat.reduceLeDiff, Int.reduceLT, Int.reduceLE, ↓u_setN]
    refine (s89 hc d _ _ _ (medianAdjacent (ltC cf) d k (medianAdjacent (ltC cf) d j (medianAdjacent (ltC cf) d i 0).2).2).2 p1 p3 p5 hs (by omega) σ id q hq2).Q ?_
    rintro r s ⟨rfl, rfl⟩
    generalize median (ltC cf) d _ _ _ _ = R
    unfold stQ at hsub ⊢
    simp only [hq2, ↓vcPre, ↓wit_get, ↓reduceIte, vcPost, vcStd, Nat.reduceEqDiff, reduceCtorEq, Nat.reduceAdd, Nat.reduceLeDiff, Int.reduceLT, Int.reduceLE, ↓u_setN]
    refine ⟨fun z => ?_, fun z => ⟨fun z2 => ?_, fun z2 => ?_⟩⟩
    · exact EndQ.to _ _ rfl (hsub _) ⟨by dsimp only; rw [if_pos (by omega)], rfl⟩
    · exact EndQ.to _ _ rfl (hsub _) ⟨by dsimp only; rw [if_neg (by omega), if_pos (by omega)], rfl⟩
    · exact EndQ.to _ _ rfl (hsub _) ⟨by dsimp only; rw [if_neg (by omega), if_neg (by omega)], rfl⟩
  · rw [if_pos (by omega), if_neg (by omega)]
    refine (s89 hc d i j k 0 (by omega) (by omega) (by omega) hs (by omega) σ id q hq2).Q ?_
    rintro r s ⟨rfl, rfl⟩
    generalize median (ltC cf) d _ _ _ _ = R
    unfold stQ at hsub ⊢
    simp only [hq2, ↓vcPre, ↓wit_get, ↓reduceIte, vcPost, vcStd, Nat.reduceEqDiff, reduceCtorEq, Nat.reduceAdd, Nat.reduceLeDiff, Int.reduceLT, Int.reduceLE, ↓u_setN]
    refine ⟨fun z => ?_, fun z => ⟨fun z2 => ?_, fun z2 => ?_⟩⟩
    · exact EndQ.to _ _ rfl (hsub _) ⟨by dsimp only; rw [if_pos (by omega)], rfl⟩
    · exact EndQ.to _ _ rfl (hsub _) ⟨by dsimp only; rw [if_neg (by omega), if_pos (by omega)], rfl⟩
    · exact EndQ.to _ _ rfl (hsub _) ⟨by dsimp only; rw [if_neg (by omega), if_neg (by omega)], rfl⟩
  · rw [if_neg (by omega)]
    exact EndQ.to _ _ rfl (hsub 0) ⟨rfl, rfl⟩
end Go.Am

/- S8 -/
namespace Go.Am
open Go.Proofs Go.Sort
set_option linter.unusedSectionVars false
variable {β : Type} [Inhabited β] {c : β → List AV} {cf : β → β → Int} {g : Nat} {caps : List AV}
theorem scanSorted_le (lt : β → β → Bool) (d : Array β) (b i : Nat) (h : i ≤ b) : scanSorted lt d b i ≤ b := by
  fun_induction scanSorted lt d b i <;> simp_all <;> omega
theorem shiftDown_size (lt : β → β → Bool) : ∀ j (d : Array β), (shiftDown lt j d).size = d.size
  | 0, d => rfl
  | j + 1, d => by rw [shiftDown]; split <;> simp [shiftDown_size lt j, swp_size]
theorem shiftUp_size (lt : β → β → Bool) (b j : Nat) (d : Array β) : (shiftUp lt b j d).size = d.size := by
  fun_induction shiftUp lt b j d <;> simp_all [swp_size]
set_option maxRecDepth 20000 in
theorem s75 (hc : Cmp Try.prog g caps 4 c cf) (d : Array β) (a b : Nat) (hab : a < b) (hb : b ≤ d.size) (hs : d.size < 2305843009213693952) (σ : Store) (id : Nat) :
    ACalls Try.prog 75 [.os id 4 0 d.size, .int .i64 a, .int .i64 b, .fn g caps] (σ.set id (arrA 4 c d)) (fun r s => r = .bool (partialInsertionSort (ltC cf) d a b).2 ∧ s = σ.set id (arrA 4 c (partialInsertionSort (ltC cf) d a b).1)) := by
  refine calls_of Tst.F75 (by simp [Tst.F75, Fn.mk']) ?_
  simp only [Tst.F75, Fn.mk', Tst.b75]
  have hk := hc.hk
  have tk : ∀ x, List.take 4 (c x) = c x := fun x => List.take_of_length_le (by rw [hk]; exact Nat.le_refl _)
  have sp : ∀ x y, splice 0 (c x) (c y) = some (c x) := s_splice hk
  simp only [hk, tk, sp, ↓vcPre, ↓s_get, ↓reduceIte, vcPost, vcStd, Store.set_set, s_arr, s_setL, s_fold, swp_size, Nat.le_refl, Nat.zero_add, Array.size_setIfInBounds, Nat.reduceEqDiff, reduceCtorEq, Nat.reduceAdd, Nat.reduceLeDiff, Int.reduceLT, Int.reduceLE, ↓u_setN]
  have e1 : IntKind.i64.wrap ((a : Int) + 1) = ((a + 1 : Nat) : Int) := wI (by omega) (by omega)
  rw [e1]
  refine LoopQ.inv (S := Nat × Nat × Array β) (fun s => [(0, .os id 4 0 d.size), (1, .int .i64 a), (2, .int .i64 b), (3, .fn g caps), (9, .int .i64 s.2.1), (10, .int .i64 (5 - (s.1 : Int)))]) (fun s => σ.set id (arrA 4 c s.2.2))
    (fun s => s.1 ≤ 5 ∧ a < s.2.1 ∧ s.2.1 ≤ b ∧ s.2.2.size = d.size ∧ partialIns (ltC cf) a b s.1 s.2.1 s.2.2 = partialInsertionSort (ltC cf) d a b) (fun s => s.1) (5, a + 1, d) rfl (Store.sub_refl _)
    ⟨by simp, by simp only; omega, by simp only; omega, rfl, rfl⟩ ?_
  rintro ⟨k, i, d1⟩ ⟨h1, h2, h3, h4, h5⟩
  simp only at h1 h2 h3 h4 h5
  simp only [hk, tk, sp, h4, ↓vcPre, ↓s_get, ↓reduceIte, vcPost, vcStd, Store.set_set, s_arr, s_setL, s_fold, swp_size, Nat.le_refl, Nat.zero_add, Array.size_setIfInBounds, Nat.reduceEqDiff, reduceCtorEq, Nat.reduceAdd, Nat.reduceLeDiff, Int.reduceLT, Int.reduceLE, ↓u_setN]
  refine ⟨fun a1 => ?_, fun a1 => ?_⟩
  · obtain ⟨m, rfl⟩ : ∃ m, k = m + 1 := ⟨k - 1, by omega⟩
    rw [partialIns] at h5
    simp only at h5
    refine LoopQ.inv (S := Nat) (fun s => [(0, .os id 4 0 d.size), (1, .int .i64 a), (2, .int .i64 b), (3, .fn g caps), (9, .int .i64 s), (10, .int .i64 (5 - ((m + 1 : Nat) : Int)))]) (fun s => σ.set id (arrA 4 c d1))
      (fun s => i ≤ s ∧ s ≤ b ∧ scanSorted (ltC cf) d1 b s = scanSorted (ltC cf) d1 b i) (fun s => d.size + 1 - s) i rfl (Store.sub_refl _) ⟨Nat.le_refl _, h3, rfl⟩ ?_
    rintro i2 ⟨g1, g2, g3⟩
    have e2 : IntKind.i64.wrap ((i2 : Int) - 1) = ((i2 - 1 : Nat) : Int) := wI (by omega) (by omega)
    have e3 : IntKind.i64.wrap ((i2 : Int) + 1) = ((i2 + 1 : Nat) : Int) := wI (by omega) (by omega)
    have e4 : IntKind.i64.wrap ((b : Int) - a) = ((b - a : Nat) : Int) := wI (by omega) (by omega)
    have e5 : IntKind.i64.wrap ((i2 : Int) - a) = ((i2 - a : Nat) : Int) := wI (by omega) (by omega)
    have e6 : IntKind.i64.wrap ((b : Int) - i2) = ((b - i2 : Nat) : Int) := wI (by omega) (by omega)
    simp only [hk, tk, sp, h4, e2, e3, e4, e5, e6, ↓vcPre, ↓s_get, ↓reduceIte, vcPost, vcStd, Store.set_set, s_arr, s_setL, s_fold, swp_size, Nat.le_refl, Nat.zero_add, Array.size_setIfInBounds, Nat.reduceEqDiff, reduceCtorEq, Nat.reduceAdd, Nat.reduceLeDiff, Int.reduceLT, Int.reduceLE, ↓u_setN]
    rw [scanSorted] at g3
    refine ⟨fun a2 => ?_, fun a2 => ?_⟩
    · and_intros <;> try omega
      refine (hc.call _ _).Q ?_
      simp only [hk, tk, sp, h4, e2, e3, e4, e5, e6, ↓vcPre, ↓s_get, ↓reduceIte, vcPost, vcStd, Store.set_set, s_arr, s_setL, s_fold, swp_size, Nat.le_refl, Nat.zero_add, Array.size_setIfInBounds, Nat.reduceEqDiff, reduceCtorEq, Nat.reduceAdd, Nat.reduceLeDiff, Int.reduceLT, Int.reduceLE, ↓u_setN]
      refine ⟨fun a3 => ?_, fun a3 => ?_⟩
      · have hl : ltC cf d1[i2]! d1[i2 - 1]! = false := decide_eq_false a3
        rw [if_pos (by simp [hl, a2])] at g3
        refine NextQ.to (i2 + 1) ?_ ?_ ?_ ?_
        · rfl
        · exact Store.sub_refl _
        · omega
        · exact ⟨by omega, by omega, g3⟩
      · have hl : ltC cf d1[i2]! d1[i2 - 1]! = true := decide_eq_true (by omega)
        rw [if_neg (by simp [hl])] at g3
        rw [← g3, if_neg (by omega)] at h5
        refine ⟨fun b1 => (by exfalso; omega), fun b1 => ⟨fun b2 => ?_, fun b2 => ?_⟩⟩
        · rw [if_pos (by omega)] at h5
          exact EndQ.to _ _ rfl (Store.sub_refl _) ⟨by rw [← h5], by rw [← h5]⟩
        · rw [if_neg (by omega)] at h5
          and_intros <;> try omega
          · intro b3
            rw [if_pos (show i2 - a ≥ 2 by omega)] at h5
            refine LoopQ.inv (S := Nat × Array β) (fun s => [(0, .os id 4 0 d.size), (1, .int .i64 a), (2, .int .i64 b), (3, .fn g caps), (9, .int .i64 i2), (10, .int .i64 (5 - ((m + 1 : Nat) : Int))), (11, .int .i64 s.1)]) (fun s => σ.set id (arrA 4 c s.2))
              (fun s => s.1 ≤ i2 ∧ s.2.size = d.size ∧ shiftDown (ltC cf) s.1 s.2 = shiftDown (ltC cf) (i2 - 1) (swp d1 i2 (i2 - 1))) (fun s => s.1) (i2 - 1, swp d1 i2 (i2 - 1)) rfl (Store.sub_refl _)
              ⟨by simp only; omega, by simp only [swp_size]; omega, rfl⟩ ?_
            rintro ⟨j, d3⟩ ⟨k1, k2, k3⟩
            simp only at k1 k2 k3
            have f1 : IntKind.i64.wrap ((b : Int) - i2) = ((b - i2 : Nat) : Int) := e6
            rw [← k3] at h5
            simp only [hk, tk, sp, k2, e2, e3, e4, e5, e6, ↓vcPre, ↓s_get, ↓reduceIte, vcPost, vcStd, Store.set_set, s_arr, s_setL, s_fold, swp_size, Nat.le_refl, Nat.zero_add, Array.size_setIfInBounds, Nat.reduceEqDiff, reduceCtorEq, Nat.reduceAdd, Nat.reduceLeDiff, Int.reduceLT, Int.reduceLE, ↓u_setN]
            refine ⟨fun b4 => ?_, fun b4 => ?_⟩
            · obtain ⟨j, rfl⟩ : ∃ q, j = q + 1 := ⟨j - 1, by omega⟩
              have f2 : IntKind.i64.wrap (((j + 1 : Nat) : Int) - 1) = (j : Int) := wI (by omega) (by omega)
              simp only [f2, Int.toNat_natCast]
              and_intros <;> try omega
              refine (hc.call _ _).Q ?_
              simp only [hk, tk, sp, k2, e2, e3, e4, e5, e6, f2, ↓vcPre, ↓s_get, ↓reduceIte, vcPost, vcStd, Store.set_set, s_arr, s_setL, s_fold, swp_size, Nat.le_refl, Nat.zero_add, Array.size_setIfInBounds, Nat.reduceEqDiff, reduceCtorEq, Nat.reduceAdd, Nat.reduceLeDiff, Int.reduceLT, Int.reduceLE, ↓u_setN]
              refine ⟨fun b5 => ?_, fun b5 => ?_⟩
              · have hl2 : ltC cf d3[j + 1]! d3[j]! = false := decide_eq_false b5
                rw [show shiftDown (ltC cf) (j + 1) d3 = d3 by rw [shiftDown, if_pos (by simp [hl2])]] at h5
                have f3 : IntKind.i64.wrap (5 - ((m + 1 : Nat) : Int) + 1) = 5 - (m : Int) := by rw [wrap64 (by unfold I64; omega)]; omega
                refine ⟨fun c1 => ?_, fun c1 => ?_⟩
                · rw [if_pos (show b - i2 ≥ 2 by omega)] at h5
                  refine LoopQ.inv (S := Nat × Array β) (fun s => [(0, .os id 4 0 d.size), (1, .int .i64 a), (2, .int .i64 b), (3, .fn g caps), (9, .int .i64 i2), (10, .int .i64 (5 - ((m + 1 : Nat) : Int))), (12, .int .i64 s.1)]) (fun s => σ.set id (arrA 4 c s.2))
                    (fun s => i2 < s.1 ∧ s.1 ≤ b ∧ s.2.size = d.size ∧ shiftUp (ltC cf) b s.1 s.2 = shiftUp (ltC cf) b (i2 + 1) d3) (fun s => b + 1 - s.1) (i2 + 1, d3) rfl (Store.sub_refl _)
                    ⟨by simp only; omega, by simp only; omega, k2, rfl⟩ ?_
                  rintro ⟨p, d4⟩ ⟨l1, l2, l3, l4⟩
                  simp only at l1 l2 l3 l4
                  rw [← l4] at h5
                  simp only [hk, tk, sp, l3, e2, e3, e4, e5, e6, ↓vcPre, ↓s_get, ↓reduceIte, vcPost, vcStd, Store.set_set, s_arr, s_setL, s_fold, swp_size, Nat.le_refl, Nat.zero_add, Array.size_setIfInBounds, Nat.reduceEqDiff, reduceCtorEq, Nat.reduceAdd, Nat.reduceLeDiff, Int.reduceLT, Int.reduceLE, ↓u_setN]
                  have f4 : IntKind.i64.wrap ((p : Int) - 1) = ((p - 1 : Nat) : Int) := wI (by omega) (by omega)
                  have f5 : IntKind.i64.wrap ((p : Int) + 1) = ((p + 1 : Nat) : Int) := wI (by omega) (by omega)
                  simp only [f3, f4, f5, Int.toNat_natCast]
                  refine ⟨fun c2 => ?_, fun c2 => ?_⟩
                  · and_intros <;> try omega
                    refine (hc.call _ _).Q ?_
                    simp only [hk, tk, sp, l3, e2, e3, e4, e5, e6, f3, f4, f5, ↓vcPre, ↓s_get, ↓reduceIte, vcPost, vcStd, Store.set_set, s_arr, s_setL, s_fold, swp_size, Nat.le_refl, Nat.zero_add, Array.size_setIfInBounds, Nat.reduceEqDiff, reduceCtorEq, Nat.reduceAdd, Nat.reduceLeDiff, Int.reduceLT, Int.reduceLE, ↓u_setN]
                    refine ⟨fun c3 => ?_, fun c3 => ?_⟩
                    · have hl3 : ltC cf d4[p]! d4[p - 1]! = false := decide_eq_false c3
                      rw [shiftUp, if_pos (by omega), if_pos (by simp [hl3])] at h5
                      refine NextQ.to (m, i2, d4) ?_ ?_ ?_ ?_
                      · rfl
                      · exact Store.sub_refl _
                      · simp
                      · exact ⟨by simp only; omega, by simp only; omega, by simp only; omega, l3, h5⟩
                    · have hl3 : ltC cf d4[p]! d4[p - 1]! = true := decide_eq_true (by omega)
                      rw [shiftUp, if_pos (by omega), if_neg (by simp [hl3])] at l4
                      and_intros <;> try omega
                      refine NextQ.to (p + 1, swp d4 p (p - 1)) ?_ ?_ ?_ ?_
                      · rfl
                      · exact Store.sub_refl _
                      · simp only; omega
                      · exact ⟨by simp only; omega, by simp only; omega, by simp only [swp_size]; omega, l4⟩
                  · rw [shiftUp, if_neg (by omega)] at h5
                    refine NextQ.to (m, i2, d4) ?_ ?_ ?_ ?_
                    · rfl
                    · exact Store.sub_refl _
                    · simp
                    · exact ⟨by simp only; omega, by simp only; omega, by simp only; omega, l3, h5⟩
                · rw [if_neg (show ¬ b - i2 ≥ 2 by omega)] at h5
                  rw [f3]
                  refine NextQ.to (m, i2, d3) ?_ ?_ ?_ ?_
                  · rfl
                  · exact Store.sub_refl _
                  · simp
                  · exact ⟨by simp only; omega, by simp only; omega, by simp only; omega, k2, h5⟩
              · have hl2 : ltC cf d3[j + 1]! d3[j]! = true := decide_eq_true (by omega)
                rw [shiftDown, if_neg (by simp [hl2])] at k3
                and_intros <;> try omega
                refine NextQ.to (j, swp d3 (j + 1) j) ?_ ?_ ?_ ?_
                · rfl
                · exact Store.sub_refl _
                · simp
                · exact ⟨by simp only; omega, by simp only [swp_size]; omega, k3⟩
            · have : j = 0 := by omega
              subst this
              rw [shiftDown] at h5
              have f3 : IntKind.i64.wrap (5 - ((m + 1 : Nat) : Int) + 1) = 5 - (m : Int) := by rw [wrap64 (by unfold I64; omega)]; omega
              refine ⟨fun c1 => ?_, fun c1 => ?_⟩
              · rw [if_pos (show b - i2 ≥ 2 by omega)] at h5
                refine LoopQ.inv (S := Nat × Array β) (fun s => [(0, .os id 4 0 d.size), (1, .int .i64 a), (2, .int .i64 b), (3, .fn g caps), (9, .int .i64 i2), (10, .int .i64 (5 - ((m + 1 : Nat) : Int))), (12, .int .i64 s.1)]) (fun s => σ.set id (arrA 4 c s.2))
                  (fun s => i2 < s.1 ∧ s.1 ≤ b ∧ s.2.size = d.size ∧ shiftUp (ltC cf) b s.1 s.2 = shiftUp (ltC cf) b (i2 + 1) d3) (fun s => b + 1 - s.1) (i2 + 1, d3) rfl (Store.sub_refl _)
                  ⟨by simp only; omega, by simp only; omega, k2, rfl⟩ ?_
                rintro ⟨p, d4⟩ ⟨l1, l2, l3, l4⟩
                simp only at l1 l2 l3 l4
                rw [← l4] at h5
                simp only [hk, tk, sp, l3, e2, e3, e4, e5, e6, ↓vcPre, ↓s_get, ↓reduceIte, vcPost, vcStd, Store.set_set, s_arr, s_setL, s_fold, swp_size, Nat.le_refl, Nat.zero_add, Array.size_setIfInBounds, Nat.reduceEqDiff, reduceCtorEq, Nat.reduceAdd, Nat.reduceLeDiff, Int.reduceLT, Int.reduceLE, ↓u_setN]
                have f4 : IntKind.i64.wrap ((p : Int) - 1) = ((p - 1 : Nat) : Int) := wI (by omega) (by omega)
                have f5 : IntKind.i64.wrap ((p : Int) + 1) = ((p + 1 : Nat) : Int) := wI (by omega) (by omega)
                simp only [f3, f4, f5, Int.toNat_natCast]
                refine ⟨fun c2 => ?_, fun c2 => ?_⟩
                · and_intros <;> try omega
                  refine (hc.call _ _).Q ?_
                  simp only [hk, tk, sp, l3, e2, e3, e4, e5, e6, f3, f4, f5, ↓vcPre, ↓s_get, ↓reduceIte, vcPost, vcStd, Store.set_set, s_arr, s_setL, s_fold, swp_size, Nat.le_refl, Nat.zero_add, Array.size_setIfInBounds, Nat.reduceEqDiff, reduceCtorEq, Nat.reduceAdd, Nat.reduceLeDiff, Int.reduceLT, Int.reduceLE, ↓u_setN]
                  refine ⟨fun c3 => ?_, fun c3 => ?_⟩
                  · have hl3 : ltC cf d4[p]! d4[p - 1]! = false := decide_eq_false c3
                    rw [shiftUp, if_pos (by omega), if_pos (by simp [hl3])] at h5
                    refine NextQ.to (m, i2, d4) ?_ ?_ ?_ ?_
                    · rfl
                    · exact Store.sub_refl _
                    · simp
                    · exact ⟨by simp only; omega, by simp only; omega, by simp only; omega, l3, h5⟩
                  · have hl3 : ltC cf d4[p]! d4[p - 1]! = true := decide_eq_true (by omega)
                    rw [shiftUp, if_pos (by omega), if_neg (by simp [hl3])] at l4
                    and_intros <;> try omega
                    refine NextQ.to (p + 1, swp d4 p (p - 1)) ?_ ?_ ?_ ?_
                    · rfl
                    · exact Store.sub_refl _
                    · simp only; omega
                    · exact ⟨by simp only; omega, by simp only; omega, by simp only [swp_size]; omega, l4⟩
                · rw [shiftUp, if_neg (by omega)] at h5
                  refine NextQ.to (m, i2, d4) ?_ ?_ ?_ ?_
                  · rfl
                  · exact Store.sub_refl _
                  · simp
                  · exact ⟨by simp only; omega, by simp only; omega, by simp only; omega, l3, h5⟩
              · rw [if_neg (show ¬ b - i2 ≥ 2 by omega)] at h5
                rw [f3]
                refine NextQ.to (m, i2, d3) ?_ ?_ ?_ ?_
                · rfl
                · exact Store.sub_refl _
                · simp
                · exact ⟨by simp only; omega, by simp only; omega, by simp only; omega, k2, h5⟩
          · intro b3
            rw [if_neg (show ¬ i2 - a ≥ 2 by omega)] at h5
            obtain ⟨d3, hd3⟩ : ∃ x, x = swp d1 i2 (i2 - 1) := ⟨_, rfl⟩
            have k2 : d3.size = d.size := by rw [hd3, swp_size]; exact h4
            rw [show (d1.setIfInBounds i2 d1[i2 - 1]!).setIfInBounds (i2 - 1) d1[i2]! = swp d1 i2 (i2 - 1) from rfl, ← hd3]
            rw [← hd3] at h5
            have f3 : IntKind.i64.wrap (5 - ((m + 1 : Nat) : Int) + 1) = 5 - (m : Int) := by rw [wrap64 (by unfold I64; omega)]; omega
            refine ⟨fun c1 => ?_, fun c1 => ?_⟩
            · rw [if_pos (show b - i2 ≥ 2 by omega)] at h5
              refine LoopQ.inv (S := Nat × Array β) (fun s => [(0, .os id 4 0 d.size), (1, .int .i64 a), (2, .int .i64 b), (3, .fn g caps), (9, .int .i64 i2), (10, .int .i64 (5 - ((m + 1 : Nat) : Int))), (12, .int .i64 s.1)]) (fun s => σ.set id (arrA 4 c s.2))
                (fun s => i2 < s.1 ∧ s.1 ≤ b ∧ s.2.size = d.size ∧ shiftUp (ltC cf) b s.1 s.2 = shiftUp (ltC cf) b (i2 + 1) d3) (fun s => b + 1 - s.1) (i2 + 1, d3) rfl (Store.sub_refl _)
                ⟨by simp only; omega, by simp only; omega, k2, rfl⟩ ?_
              rintro ⟨p, d4⟩ ⟨l1, l2, l3, l4⟩
              simp only at l1 l2 l3 l4
              rw [← l4] at h5
              simp only [hk, tk, sp, l3, e2, e3, e4, e5, e6, ↓vcPre, ↓s_get, ↓reduceIte, vcPost, vcStd, Store.set_set, s_arr, s_setL, s_fold, swp_size, Nat.le_refl, Nat.zero_add, Array.size_setIfInBounds, Nat.reduceEqDiff, reduceCtorEq, Nat.reduceAdd, Nat.reduceLeDiff, Int.reduceLT, Int.reduceLE, ↓u_setN]
              have f4 : IntKind.i64.wrap ((p : Int) - 1) = ((p - 1 : Nat) : Int) := wI (by omega) (by omega)
              have f5 : IntKind.i64.wrap ((p : Int) + 1) = ((p + 1 : Nat) : Int) := wI (by omega) (by omega)
              simp only [f3, f4, f5, Int.toNat_natCast]
              refine ⟨fun c2 => ?_, fun c2 => ?_⟩
              · and_intros <;> try omega
                refine (hc.call _ _).Q ?_
                simp only [hk, tk, sp, l3, e2, e3, e4, e5, e6, f3, f4, f5, ↓vcPre, ↓s_get, ↓reduceIte, vcPost, vcStd, Store.set_set, s_arr, s_setL, s_fold, swp_size, Nat.le_refl, Nat.zero_add, Array.size_setIfInBounds, Nat.reduceEqDiff, reduceCtorEq, Nat.reduceAdd, Nat.reduceLeDiff, Int.reduceLT, Int.reduceLE, ↓u_setN]
                refine ⟨fun c3 => ?_, fun c3 => ?_⟩
                · have hl3 : ltC cf d4[p]! d4[p - 1]! = false := decide_eq_false c3
                  rw [shiftUp, if_pos (by omega), if_pos (by simp [hl3])] at h5
                  refine NextQ.to (m, i2, d4) ?_ ?_ ?_ ?_
                  · rfl
                  · exact Store.sub_refl _
                  · simp
                  · exact ⟨by simp only; omega, by simp only; omega, by simp only; omega, l3, h5⟩
                · have hl3 : ltC cf d4[p]! d4[p - 1]! = true := decide_eq_true (by omega)
                  rw [shiftUp, if_pos (by omega), if_neg (by simp [hl3])] at l4
                  and_intros <;> try omega
                  refine NextQ.to (p + 1, swp d4 p (p - 1)) ?_ ?_ ?_ ?_
                  · rfl
                  · exact Store.sub_refl _
                  · simp only; omega
                  · exact ⟨by simp only; omega, by simp only; omega, by simp only [swp_size]; omega, l4⟩
              · rw [shiftUp, if_neg (by omega)] at h5
                refine NextQ.to (m, i2, d4) ?_ ?_ ?_ ?_
                · rfl
                · exact Store.sub_refl _
                · simp
                · exact ⟨by simp only; omega, by simp only; omega, by simp only; omega, l3, h5⟩
            · rw [if_neg (show ¬ b - i2 ≥ 2 by omega)] at h5
              rw [f3]
              refine NextQ.to (m, i2, d3) ?_ ?_ ?_ ?_
              · rfl
              · exact Store.sub_refl _
              · simp
              · exact ⟨by simp only; omega, by simp only; omega, by simp only; omega, k2, h5⟩
    · rw [if_neg (by simp; omega)] at g3
      rw [← g3, if_pos (by omega)] at h5
      refine ⟨fun b1 => ?_, fun b1 => (by exfalso; omega)⟩
      exact EndQ.to _ _ rfl (Store.sub_refl _) ⟨by rw [← h5], by rw [← h5]⟩
  · have : k = 0 := by omega
    subst this
    rw [partialIns] at h5
    exact EndQ.to _ _ rfl (Store.sub_refl _) ⟨by rw [← h5], by rw [← h5]⟩
end Go.Am

/- S9a -/
namespace Go.Am
open Go.Proofs Go.Sort
set_option linter.unusedSectionVars false
variable {β : Type} [Inhabited β]
theorem scanUp_le (p : β → Bool) (d : Array β) (j : Nat) : ∀ i, scanUp p d j i ≤ max i (j + 1) := by
  intro i
  fun_induction scanUp p d j i
  · rename_i h ih
    simp at h
    omega
  · omega
theorem scanDown_le (p : β → Bool) (d : Array β) (i : Nat) : ∀ j, scanDown p d i j ≤ j
  | 0 => by rw [scanDown]; exact Nat.le_refl _
  | j + 1 => by
    rw [scanDown]; split
    · have := scanDown_le p d i j; omega
    · exact Nat.le_refl _
theorem partEqLoop_size (lt : β → β → Bool) (a i j : Nat) (d : Array β) : (partEqLoop lt a i j d).2.size = d.size := by
  fun_induction partEqLoop lt a i j d <;> simp_all [swp_size]
theorem partEqLoop_range (lt : β → β → Bool) (a b : Nat) : ∀ (m i j : Nat) (d : Array β), j + 1 - i < m → a < i → i ≤ b → j < b → a < (partEqLoop lt a i j d).1 ∧ (partEqLoop lt a i j d).1 ≤ b
  | 0, i, j, d, h, _, _, _ => by omega
  | m + 1, i, j, d, h, q1, q2, q3 => by
    have w1 := scanUp_ge (fun x => !lt d[a]! x) d j i
    have w2 := scanUp_le (fun x => !lt d[a]! x) d j i
    rw [partEqLoop]
    generalize scanUp (fun x => !lt d[a]! x) d j i = i2 at *
    have w3 := scanDown_le (fun x => lt d[a]! x) d i2 j
    generalize scanDown (fun x => lt d[a]! x) d i2 j = j2 at *
    split
    · simp only; omega
    · split
      · exact partEqLoop_range lt a b m (i2 + 1) (j2 - 1) _ (by omega) (by omega) (by omega) (by omega)
      · simp only; omega
theorem partitionEqual_range (lt : β → β → Bool) (d : Array β) (a b p : Nat) (h : a < b) : a < (partitionEqual lt d a b p).1 ∧ (partitionEqual lt d a b p).1 ≤ b := by
  unfold partitionEqual
  exact partEqLoop_range lt a b _ (a + 1) (b - 1) _ (Nat.lt_succ_self _) (by omega) (by omega) (by omega)
theorem partitionEqual_size (lt : β → β → Bool) (d : Array β) (a b p : Nat) : (partitionEqual lt d a b p).2.size = d.size := by
  unfold partitionEqual; rw [partEqLoop_size, swp_size]
theorem partialIns_size (lt : β → β → Bool) (a b : Nat) : ∀ k i (d : Array β), (partialIns lt a b k i d).1.size = d.size
  | 0, i, d => rfl
  | k + 1, i, d => by
    rw [partialIns]
    simp only
    split
    · rfl
    · split
      · rfl
      · rw [partialIns_size lt a b k]
        split <;> split <;> simp [shiftUp_size, shiftDown_size, swp_size]
theorem reverseLoop_size (i j : Nat) (d : Array β) : (reverseLoop i j d).size = d.size := by
  fun_induction reverseLoop i j d <;> simp_all [swp_size]
end Go.Am

/- S9 -/
namespace Go.Am
open Go.Proofs Go.Sort
set_option linter.unusedSectionVars false
variable {β : Type} [Inhabited β] {c : β → List AV} {cf : β → β → Int} {g : Nat} {caps : List AV}
section
variable (lt : β → β → Bool)
def pdqC (d3 : Array β) (pivot a b limit : Nat) (wb wp : Bool) : Array β :=
  if a > 0 && !lt d3[a - 1]! d3[pivot]! then
    (if a < (partitionEqual lt d3 a b pivot).1 ∧ (partitionEqual lt d3 a b pivot).1 ≤ b then pdq lt (partitionEqual lt d3 a b pivot).2 (partitionEqual lt d3 a b pivot).1 b limit wb wp else (partitionEqual lt d3 a b pivot).2)
  else
    (if a ≤ (partition lt d3 a b pivot).1 ∧ (partition lt d3 a b pivot).1 < b then
      (if (partition lt d3 a b pivot).1 - a < b - (partition lt d3 a b pivot).1 then
        pdq lt (pdq lt (partition lt d3 a b pivot).2.2 a (partition lt d3 a b pivot).1 limit true true) ((partition lt d3 a b pivot).1 + 1) b limit (decide ((partition lt d3 a b pivot).1 - a ≥ (b - a) / 8)) (partition lt d3 a b pivot).2.1
      else
        pdq lt (pdq lt (partition lt d3 a b pivot).2.2 ((partition lt d3 a b pivot).1 + 1) b limit true true) a (partition lt d3 a b pivot).1 limit (decide (b - (partition lt d3 a b pivot).1 ≥ (b - a) / 8)) (partition lt d3 a b pivot).2.1)
    else (partition lt d3 a b pivot).2.2)
def pdqB (d2 : Array β) (pivot : Nat) (hint : Hint) (a b limit : Nat) (wb wp : Bool) : Array β :=
  if wb && wp && hint = .increasing then
    (if (partialInsertionSort lt d2 a b).2 then (partialInsertionSort lt d2 a b).1 else pdqC lt (partialInsertionSort lt d2 a b).1 pivot a b limit wb wp)
  else pdqC lt d2 pivot a b limit wb wp
def pdqA (d1 : Array β) (a b limit : Nat) (wb wp : Bool) : Array β :=
  if (choosePivot lt d1 a b).2 = .decreasing then pdqB lt (reverseRange d1 a b) ((b - 1) - ((choosePivot lt d1 a b).1 - a)) .increasing a b limit wb wp
  else pdqB lt d1 (choosePivot lt d1 a b).1 (choosePivot lt d1 a b).2 a b limit wb wp
theorem pdq_eq (d : Array β) (a b limit : Nat) (wb wp : Bool) : pdq lt d a b limit wb wp =
    if b - a ≤ 12 then insertionSort lt d a b else if limit = 0 then heapSort lt d a b else
    if wb then pdqA lt d a b limit wb wp else pdqA lt (breakPatterns d a b) a b (limit - 1) wb wp := by
  rw [pdq]
  split
  · rfl
  · split
    · rfl
    · cases wb
      · simp only [Bool.not_false, if_true, Bool.false_eq_true, if_false, pdqA, Bool.false_and]
        split
        · simp only [pdqB, pdqC, Bool.false_and, Bool.false_eq_true, if_false, dite_eq_ite]
        · simp only [pdqB, pdqC, Bool.false_and, Bool.false_eq_true, if_false, dite_eq_ite]
      · simp only [Bool.not_true, Bool.false_eq_true, if_false, if_true, pdqA, Bool.true_and]
        split
        · simp only [pdqB, pdqC, Bool.true_and, dite_eq_ite]
          split <;> simp
        · simp only [pdqB, pdqC, Bool.true_and, dite_eq_ite]
          split <;> simp
theorem pdq_size (hO : SWO lt) : ∀ (m : Nat) (d : Array β) (a b limit : Nat) (wb wp : Bool), b - a < m → a ≤ b → b ≤ d.size → (pdq lt d a b limit wb wp).size = d.size
  | 0, d, a, b, limit, wb, wp, h, _, _ => by omega
  | m + 1, d, a, b, limit, wb, wp, h, hab, hb => by
    have hC : ∀ (d3 : Array β) (p l2 : Nat), d3.size = d.size → a ≤ p → p < b → (pdqC lt d3 p a b l2 wb wp).size = d.size := by
      intro d3 p l2 h3 hp1 hp2
      rw [pdqC]
      split
      · split
        · rename_i hr
          rw [pdq_size hO m _ _ _ _ _ _ (by omega) hr.2 (by rw [partitionEqual_size]; omega), partitionEqual_size, h3]
        · rw [partitionEqual_size, h3]
      · obtain ⟨r1, r2, r3, _⟩ := partition_holds lt hO d3 a b p hp1 hp2 (by omega)
        have r4 := r3.1
        generalize partition lt d3 a b p = R at *
        rw [if_pos ⟨r1, r2⟩]
        split
        · rw [pdq_size hO m _ _ _ _ _ _ (by omega) (by omega) (by rw [pdq_size hO m _ _ _ _ _ _ (by omega) (by omega) (by omega)]; omega), pdq_size hO m _ _ _ _ _ _ (by omega) (by omega) (by omega)]; omega
        · rw [pdq_size hO m _ _ _ _ _ _ (by omega) (by omega) (by rw [pdq_size hO m _ _ _ _ _ _ (by omega) (by omega) (by omega)]; omega), pdq_size hO m _ _ _ _ _ _ (by omega) (by omega) (by omega)]; omega
    have hB : ∀ (d2 : Array β) (p l2 : Nat) (hh : Hint), d2.size = d.size → a ≤ p → p < b → (pdqB lt d2 p hh a b l2 wb wp).size = d.size := by
      intro d2 p l2 hh h2 hp1 hp2
      rw [pdqB]
      split
      · split
        · rw [partialInsertionSort, partialIns_size, h2]
        · exact hC _ _ _ (by rw [partialInsertionSort, partialIns_size, h2]) hp1 hp2
      · exact hC _ _ _ h2 hp1 hp2
    have hA : ∀ (d1 : Array β) (l2 : Nat), d1.size = d.size → a < b → (pdqA lt d1 a b l2 wb wp).size = d.size := by
      intro d1 l2 h1 hlt
      obtain ⟨p1, p2⟩ := choosePivot_holds lt d1 a b hlt
      rw [pdqA]
      split
      · exact hB _ _ _ _ (by rw [reverseRange, reverseLoop_size, h1]) (by omega) (by omega)
      · exact hB _ _ _ _ h1 p1 p2
    rw [pdq_eq]
    split
    · exact (insertionSort_holds hO d a b hab hb).1.1
    · split
      · exact (heapSort_holds hO d a b hab hb).1.1
      · split
        · exact hA _ _ rfl (by omega)
        · exact hA _ _ (breakPatterns_holds d a b hab hb).1 (by omega)
end
set_option maxHeartbeats 4000000 in
set_option maxRecDepth 20000 in
theorem s60 (hc : Cmp Try.prog g caps 4 c cf) (hO : SWO (ltC cf)) (σ : Store) (id : Nat) (n : Nat) (hs : n < 2305843009213693952)
    (h72 : ∀ (d : Array β) (a b : Nat), d.size = n → a ≤ b → b ≤ n → ACalls Try.prog 72 [.os id 4 0 n, .int .i64 a, .int .i64 b, .fn g caps] (σ.set id (arrA 4 c d)) (fun r s => r = .tup [] ∧ s = σ.set id (arrA 4 c (breakPatterns d a b)))) :
    ∀ (w : Nat) (d : Array β) (a b limit : Nat), d.size = n → b - a < w → a ≤ b → b ≤ n → limit < 1000 →
    ACalls Try.prog 60 [.os id 4 0 n, .int .i64 a, .int .i64 b, .int .i64 limit, .fn g caps] (σ.set id (arrA 4 c d)) (fun r s => r = .tup [] ∧ s = σ.set id (arrA 4 c (pdq (ltC cf) d a b limit true true))) := by
  intro w
  induction w with
  | zero => intro d a b limit h1 h2; omega
  | succ w ih =>
  intro d a b limit hd hw hab hb hl
  refine calls_of Tst.F60 (by simp [Tst.F60, Fn.mk']) ?_
  simp only [Tst.F60, Fn.mk', Tst.b60]
  have hk := hc.hk
  have tk : ∀ x, List.take 4 (c x) = c x := fun x => List.take_of_length_le (by rw [hk]; exact Nat.le_refl _)
  have sp : ∀ x y, splice 0 (c x) (c y) = some (c x) := s_splice hk
  simp only [hk, tk, sp, ↓vcPre, ↓s_get, ↓reduceIte, vcPost, vcStd, Store.set_set, s_arr, s_setL, s_fold, swp_size, Nat.le_refl, Nat.zero_add, Array.size_setIfInBounds, Nat.reduceEqDiff, reduceCtorEq, Nat.reduceAdd, Nat.reduceLeDiff, Int.reduceLT, Int.reduceLE, ↓u_setN]
  refine LoopQ.inv (S := Nat × Nat × Nat × Bool × Bool × Array β) (fun s => [(0, .os id 4 0 n), (1, .int .i64 s.1), (2, .int .i64 s.2.1), (3, .int .i64 s.2.2.1), (4, .fn g caps), (10, .bool s.2.2.2.1), (11, .bool s.2.2.2.2.1)]) (fun s => σ.set id (arrA 4 c s.2.2.2.2.2))
    (fun s => s.2.2.2.2.2.size = n ∧ s.1 ≤ s.2.1 ∧ s.2.1 ≤ n ∧ s.2.2.1 < 1000 ∧ s.2.1 - s.1 ≤ b - a ∧ pdq (ltC cf) s.2.2.2.2.2 s.1 s.2.1 s.2.2.1 s.2.2.2.1 s.2.2.2.2.1 = pdq (ltC cf) d a b limit true true) (fun s => s.2.1 - s.1) (a, b, limit, true, true, d) rfl (Store.sub_refl _)
    ⟨hd, hab, hb, hl, Nat.le_refl _, rfl⟩ ?_
  rintro ⟨a1, b1, lm, wb, wp, d1⟩ ⟨g1, g2, g3, g4, g5, g6⟩
  simp only at g1 g2 g3 g4 g5 g6
  have eL : IntKind.i64.wrap ((b1 : Int) - a1) = ((b1 - a1 : Nat) : Int) := wI (by omega) (by omega)
  simp only [hk, tk, sp, g1, eL, ↓vcPre, ↓s_get, ↓reduceIte, vcPost, vcStd, Store.set_set, s_arr, s_setL, s_fold, swp_size, Nat.le_refl, Nat.zero_add, Array.size_setIfInBounds, Nat.reduceEqDiff, reduceCtorEq, Nat.reduceAdd, Nat.reduceLeDiff, Int.reduceLT, Int.reduceLE, ↓u_setN]
  rw [pdq_eq] at g6
  refine ⟨fun q1 => ?_, fun q1 => ⟨fun q2 => ?_, fun q2 => ?_⟩⟩
  · rw [if_pos (by omega)] at g6
    have h := s70 hc d1 a1 b1 g2 (by omega) (by omega) σ id
    rw [g1] at h
    refine h.Q ?_
    rintro r s ⟨rfl, rfl⟩
    simp only [↓vcPre, ↓wit_get, ↓reduceIte, vcPost, vcStd, Nat.reduceEqDiff, reduceCtorEq, Nat.reduceAdd, Nat.reduceLeDiff, Int.reduceLT, Int.reduceLE, ↓u_setN]
    exact EndQ.to _ _ rfl (Store.sub_refl _) ⟨rfl, by rw [g6]⟩
  · rw [if_neg (by omega), if_pos (by omega)] at g6
    have h := s71 hc d1 a1 b1 g2 (by omega) (by omega) σ id
    rw [g1] at h
    refine h.Q ?_
    rintro r s ⟨rfl, rfl⟩
    simp only [↓vcPre, ↓wit_get, ↓reduceIte, vcPost, vcStd, Nat.reduceEqDiff, reduceCtorEq, Nat.reduceAdd, Nat.reduceLeDiff, Int.reduceLT, Int.reduceLE, ↓u_setN]
    exact EndQ.to _ _ rfl (Store.sub_refl _) ⟨rfl, by rw [g6]⟩
  · rw [if_neg (by omega), if_neg (by omega)] at g6
    have e1 : IntKind.i64.wrap ((lm : Int) - 1) = ((lm - 1 : Nat) : Int) := wI (by omega) (by omega)
    cases wb
    · simp only [↓vcPre, ↓wit_get, ↓reduceIte, vcPost, vcStd, Nat.reduceEqDiff, reduceCtorEq, Nat.reduceAdd, Nat.reduceLeDiff, Int.reduceLT, Int.reduceLE, ↓u_setN]
      refine (h72 d1 a1 b1 g1 g2 g3).Q ?_
      rintro r s ⟨rfl, rfl⟩
      simp only [e1, ↓vcPre, ↓wit_get, ↓reduceIte, vcPost, vcStd, Nat.reduceEqDiff, reduceCtorEq, Nat.reduceAdd, Nat.reduceLeDiff, Int.reduceLT, Int.reduceLE, ↓u_setN]
      rw [if_neg (by simp)] at g6
      obtain ⟨d2, hd2⟩ : ∃ x, x = breakPatterns d1 a1 b1 := ⟨_, rfl⟩
      rw [← hd2] at g6 ⊢
      have k1 : d2.size = n := by
        rw [hd2, (breakPatterns_holds d1 a1 b1 g2 (by omega)).1]; exact g1
      have hA := s73 hc d2 a1 b1 (by omega) (by omega) (by omega) σ id
      rw [k1] at hA
      refine hA.Q ?_
      rintro r s ⟨rfl, rfl⟩
      obtain ⟨pv1, pv2⟩ := choosePivot_holds (ltC cf) d2 a1 b1 (by omega)
      rw [pdqA] at g6
      clear hA
      generalize choosePivot (ltC cf) d2 a1 b1 = R at *
      obtain ⟨p, hh⟩ := R
      simp only at pv1 pv2 g6
      cases hh
      · rw [if_neg (by decide)] at g6
        simp only [hk, tk, sp, k1, eL, e1, ↓vcPre, ↓s_get, ↓reduceIte, vcPost, vcStd, Store.set_set, s_arr, s_setL, s_fold, swp_size, Nat.le_refl, Nat.zero_add, Array.size_setIfInBounds, Nat.reduceEqDiff, reduceCtorEq, Nat.reduceAdd, Nat.reduceLeDiff, Int.reduceLT, Int.reduceLE, ↓u_setN]
        refine ⟨fun z => (by exfalso; omega), fun _ => ?_⟩
        obtain ⟨d3, hd3⟩ : ∃ x, x = d2 := ⟨_, rfl⟩
        rw [← hd3] at g6 ⊢
        have k3 : d3.size = n := by rw [hd3]; exact k1
        have pw1 := pv1
        have pw2 := pv2
        rw [pdqB, if_neg (by simp)] at g6
        rw [pdqC] at g6
        refine ⟨fun c1 => ?_, fun c1 => ?_⟩
        · have f1 : IntKind.i64.wrap ((a1 : Int) - 1) = ((a1 - 1 : Nat) : Int) := wI (by omega) (by omega)
          simp only [f1, Int.toNat_natCast]
          and_intros <;> try omega
          refine (hc.call _ _).Q ?_
          simp only [hk, tk, sp, k3, eL, e1, f1, ↓vcPre, ↓s_get, ↓reduceIte, vcPost, vcStd, Store.set_set, s_arr, s_setL, s_fold, swp_size, Nat.le_refl, Nat.zero_add, Array.size_setIfInBounds, Nat.reduceEqDiff, reduceCtorEq, Nat.reduceAdd, Nat.reduceLeDiff, Int.reduceLT, Int.reduceLE, ↓u_setN]
          refine ⟨fun c2 => ?_, fun c2 => ?_⟩
          · have hlt : ltC cf d3[a1 - 1]! d3[p]! = false := decide_eq_false c2
            rw [if_pos (by simp [hlt]; omega)] at g6
            have h76 := s76 hc d3 a1 b1 p pw1 pw2 (by omega) (by omega) σ id
            rw [k3] at h76
            refine h76.Q ?_
            rintro r s ⟨rfl, rfl⟩
            obtain ⟨r1, r2⟩ := partitionEqual_range (ltC cf) d3 a1 b1 p (by omega)
            have r3 := partitionEqual_size (ltC cf) d3 a1 b1 p
            clear h76
            generalize partitionEqual (ltC cf) d3 a1 b1 p = R at *
            obtain ⟨mid, d4⟩ := R
            simp only at r1 r2 r3 g6
            rw [if_pos ⟨r1, r2⟩] at g6
            simp only [hk, tk, sp, k3, eL, e1, f1, ↓vcPre, ↓s_get, ↓reduceIte, vcPost, vcStd, Store.set_set, s_arr, s_setL, s_fold, swp_size, Nat.le_refl, Nat.zero_add, Array.size_setIfInBounds, Nat.reduceEqDiff, reduceCtorEq, Nat.reduceAdd, Nat.reduceLeDiff, Int.reduceLT, Int.reduceLE, ↓u_setN]
            refine NextQ.to (mid, b1, (lm - 1), false, wp, d4) ?_ ?_ ?_ ?_
            · rfl
            · exact Store.sub_refl _
            · simp only; omega
            · exact ⟨by simp only; omega, by simp only; omega, g3, by simp only; omega, by simp only; omega, g6⟩
          · have hlt : ltC cf d3[a1 - 1]! d3[p]! = true := decide_eq_true (by omega)
            rw [if_neg (by simp [hlt])] at g6
            have hP := s77 hc d3 a1 b1 p pw1 pw2 (by omega) (by omega) σ id
            rw [k3] at hP
            refine hP.Q ?_
            rintro r s ⟨rfl, rfl⟩
            obtain ⟨r1, r2, r3, _⟩ := partition_holds (ltC cf) hO d3 a1 b1 p pw1 pw2 (by omega)
            clear hP
            generalize partition (ltC cf) d3 a1 b1 p = R at *
            obtain ⟨mid, ap, d4⟩ := R
            simp only at r1 r2 r3 g6
            have k4 : d4.size = n := by rw [r3.1]; exact k3
            rw [if_pos ⟨r1, r2⟩] at g6
            have f2 : IntKind.i64.wrap ((mid : Int) - a1) = ((mid - a1 : Nat) : Int) := wI (by omega) (by omega)
            have f3 : IntKind.i64.wrap ((b1 : Int) - mid) = ((b1 - mid : Nat) : Int) := wI (by omega) (by omega)
            have f4 : IntKind.i64.wrap ((mid : Int) + 1) = ((mid + 1 : Nat) : Int) := wI (by omega) (by omega)
            have f5 : IntKind.i64.wrap (((b1 - a1 : Nat) : Int).tdiv 8) = (((b1 - a1) / 8 : Nat) : Int) := wI (by rw [Int.tdiv_eq_ediv_of_nonneg (by omega)]; omega) (by omega)
            simp only [hk, tk, sp, k4, eL, e1, f2, f3, f4, f5, ↓vcPre, ↓s_get, ↓reduceIte, vcPost, vcStd, Store.set_set, s_arr, s_setL, s_fold, swp_size, Nat.le_refl, Nat.zero_add, Array.size_setIfInBounds, Nat.reduceEqDiff, reduceCtorEq, Nat.reduceAdd, Nat.reduceLeDiff, Int.reduceLT, Int.reduceLE, ↓u_setN]
            refine ⟨by omega, fun z => ?_, fun z => ?_⟩
            · rw [if_pos (by omega)] at g6
              have hI := ih d4 a1 mid (lm - 1) k4 (by omega) (by omega) (by omega) (by omega)
              have k5 : (pdq (ltC cf) d4 a1 mid (lm - 1) true true).size = n := by rw [pdq_size _ hO _ _ _ _ _ _ _ (Nat.lt_succ_self _) (by omega) (by omega)]; exact k4
              generalize pdq (ltC cf) d4 a1 mid (lm - 1) true true = D at hI k5 g6
              refine hI.Q ?_
              intro r s hrs
              have hr1 := hrs.1
              have hs1 := hrs.2
              clear hrs
              subst hr1
              subst hs1
              simp only [hk, tk, sp, k5, eL, e1, f2, f3, f4, f5, ↓vcPre, ↓s_get, ↓reduceIte, vcPost, vcStd, Store.set_set, s_arr, s_setL, s_fold, swp_size, Nat.le_refl, Nat.zero_add, Array.size_setIfInBounds, Nat.reduceEqDiff, reduceCtorEq, Nat.reduceAdd, Nat.reduceLeDiff, Int.reduceLT, Int.reduceLE, ↓u_setN]
              refine NextQ.to (mid + 1, b1, (lm - 1), decide ((b1 - a1) / 8 ≤ mid - a1), ap, D) ?_ ?_ ?_ ?_
              · simp only [Int.ofNat_le]
              · exact Store.sub_refl _
              · simp only; omega
              · exact ⟨k5, by simp only; omega, g3, by simp only; omega, by simp only; omega, g6⟩
            · rw [if_neg (by omega)] at g6
              have hI := ih d4 (mid + 1) b1 (lm - 1) k4 (by omega) (by omega) (by omega) (by omega)
              have k5 : (pdq (ltC cf) d4 (mid + 1) b1 (lm - 1) true true).size = n := by rw [pdq_size _ hO _ _ _ _ _ _ _ (Nat.lt_succ_self _) (by omega) (by omega)]; exact k4
              generalize pdq (ltC cf) d4 (mid + 1) b1 (lm - 1) true true = D at hI k5 g6
              refine hI.Q ?_
              intro r s hrs
              have hr1 := hrs.1
              have hs1 := hrs.2
              clear hrs
              subst hr1
              subst hs1
              simp only [hk, tk, sp, k5, eL, e1, f2, f3, f4, f5, ↓vcPre, ↓s_get, ↓reduceIte, vcPost, vcStd, Store.set_set, s_arr, s_setL, s_fold, swp_size, Nat.le_refl, Nat.zero_add, Array.size_setIfInBounds, Nat.reduceEqDiff, reduceCtorEq, Nat.reduceAdd, Nat.reduceLeDiff, Int.reduceLT, Int.reduceLE, ↓u_setN]
              refine NextQ.to (a1, mid, (lm - 1), decide ((b1 - a1) / 8 ≤ b1 - mid), ap, D) ?_ ?_ ?_ ?_
              · simp only [Int.ofNat_le]
              · exact Store.sub_refl _
              · simp only; omega
              · exact ⟨k5, by simp only; omega, by simp only; omega, by simp only; omega, by simp only; omega, g6⟩
        · rw [if_neg (by simp; omega)] at g6
          have hP := s77 hc d3 a1 b1 p pw1 pw2 (by omega) (by omega) σ id
          rw [k3] at hP
          refine hP.Q ?_
          rintro r s ⟨rfl, rfl⟩
          obtain ⟨r1, r2, r3, _⟩ := partition_holds (ltC cf) hO d3 a1 b1 p pw1 pw2 (by omega)
          clear hP
          generalize partition (ltC cf) d3 a1 b1 p = R at *
          obtain ⟨mid, ap, d4⟩ := R
          simp only at r1 r2 r3 g6
          have k4 : d4.size = n := by rw [r3.1]; exact k3
          rw [if_pos ⟨r1, r2⟩] at g6
          have f2 : IntKind.i64.wrap ((mid : Int) - a1) = ((mid - a1 : Nat) : Int) := wI (by omega) (by omega)
          have f3 : IntKind.i64.wrap ((b1 : Int) - mid) = ((b1 - mid : Nat) : Int) := wI (by omega) (by omega)
          have f4 : IntKind.i64.wrap ((mid : Int) + 1) = ((mid + 1 : Nat) : Int) := wI (by omega) (by omega)
          have f5 : IntKind.i64.wrap (((b1 - a1 : Nat) : Int).tdiv 8) = (((b1 - a1) / 8 : Nat) : Int) := wI (by rw [Int.tdiv_eq_ediv_of_nonneg (by omega)]; omega) (by omega)
          simp only [hk, tk, sp, k4, eL, e1, f2, f3, f4, f5, ↓vcPre, ↓s_get, ↓reduceIte, vcPost, vcStd, Store.set_set, s_arr, s_setL, s_fold, swp_size, Nat.le_refl, Nat.zero_add, Array.size_setIfInBounds, Nat.reduceEqDiff, reduceCtorEq, Nat.reduceAdd, Nat.reduceLeDiff, Int.reduceLT, Int.reduceLE, ↓u_setN]
          refine ⟨by omega, fun z => ?_, fun z => ?_⟩
          · rw [if_pos (by omega)] at g6
            have hI := ih d4 a1 mid (lm - 1) k4 (by omega) (by omega) (by omega) (by omega)
            have k5 : (pdq (ltC cf) d4 a1 mid (lm - 1) true true).size = n := by rw [pdq_size _ hO _ _ _ _ _ _ _ (Nat.lt_succ_self _) (by omega) (by omega)]; exact k4
            generalize pdq (ltC cf) d4 a1 mid (lm - 1) true true = D at hI k5 g6
            refine hI.Q ?_
            intro r s hrs
            have hr1 := hrs.1
            have hs1 := hrs.2
            clear hrs
            subst hr1
            subst hs1
            simp only [hk, tk, sp, k5, eL, e1, f2, f3, f4, f5, ↓vcPre, ↓s_get, ↓reduceIte, vcPost, vcStd, Store.set_set, s_arr, s_setL, s_fold, swp_size, Nat.le_refl, Nat.zero_add, Array.size_setIfInBounds, Nat.reduceEqDiff, reduceCtorEq, Nat.reduceAdd, Nat.reduceLeDiff, Int.reduceLT, Int.reduceLE, ↓u_setN]
            refine NextQ.to (mid + 1, b1, (lm - 1), decide ((b1 - a1) / 8 ≤ mid - a1), ap, D) ?_ ?_ ?_ ?_
            · simp only [Int.ofNat_le]
            · exact Store.sub_refl _
            · simp only; omega
            · exact ⟨k5, by simp only; omega, g3, by simp only; omega, by simp only; omega, g6⟩
          · rw [if_neg (by omega)] at g6
            have hI := ih d4 (mid + 1) b1 (lm - 1) k4 (by omega) (by omega) (by omega) (by omega)
            have k5 : (pdq (ltC cf) d4 (mid + 1) b1 (lm - 1) true true).size = n := by rw [pdq_size _ hO _ _ _ _ _ _ _ (Nat.lt_succ_self _) (by omega) (by omega)]; exact k4
            generalize pdq (ltC cf) d4 (mid + 1) b1 (lm - 1) true true = D at hI k5 g6
            refine hI.Q ?_
            intro r s hrs
            have hr1 := hrs.1
            have hs1 := hrs.2
            clear hrs
            subst hr1
            subst hs1
            simp only [hk, tk, sp, k5, eL, e1, f2, f3, f4, f5, ↓vcPre, ↓s_get, ↓reduceIte, vcPost, vcStd, Store.set_set, s_arr, s_setL, s_fold, swp_size, Nat.le_refl, Nat.zero_add, Array.size_setIfInBounds, Nat.reduceEqDiff, reduceCtorEq, Nat.reduceAdd, Nat.reduceLeDiff, Int.reduceLT, Int.reduceLE, ↓u_setN]
            refine NextQ.to (a1, mid, (lm - 1), decide ((b1 - a1) / 8 ≤ b1 - mid), ap, D) ?_ ?_ ?_ ?_
            · simp only [Int.ofNat_le]
            · exact Store.sub_refl _
            · simp only; omega
            · exact ⟨k5, by simp only; omega, by simp only; omega, by simp only; omega, by simp only; omega, g6⟩
      · rw [if_neg (by decide)] at g6
        simp only [hk, tk, sp, k1, eL, e1, ↓vcPre, ↓s_get, ↓reduceIte, vcPost, vcStd, Store.set_set, s_arr, s_setL, s_fold, swp_size, Nat.le_refl, Nat.zero_add, Array.size_setIfInBounds, Nat.reduceEqDiff, reduceCtorEq, Nat.reduceAdd, Nat.reduceLeDiff, Int.reduceLT, Int.reduceLE, ↓u_setN]
        refine ⟨fun z => (by exfalso; omega), fun _ => ?_⟩
        obtain ⟨d3, hd3⟩ : ∃ x, x = d2 := ⟨_, rfl⟩
        rw [← hd3] at g6 ⊢
        have k3 : d3.size = n := by rw [hd3]; exact k1
        have pw1 := pv1
        have pw2 := pv2
        rw [pdqB, if_neg (by simp)] at g6
        rw [pdqC] at g6
        refine ⟨fun c1 => ?_, fun c1 => ?_⟩
        · have f1 : IntKind.i64.wrap ((a1 : Int) - 1) = ((a1 - 1 : Nat) : Int) := wI (by omega) (by omega)
          simp only [f1, Int.toNat_natCast]
          and_intros <;> try omega
          refine (hc.call _ _).Q ?_
          simp only [hk, tk, sp, k3, eL, e1, f1, ↓vcPre, ↓s_get, ↓reduceIte, vcPost, vcStd, Store.set_set, s_arr, s_setL, s_fold, swp_size, Nat.le_refl, Nat.zero_add, Array.size_setIfInBounds, Nat.reduceEqDiff, reduceCtorEq, Nat.reduceAdd, Nat.reduceLeDiff, Int.reduceLT, Int.reduceLE, ↓u_setN]
          refine ⟨fun c2 => ?_, fun c2 => ?_⟩
          · have hlt : ltC cf d3[a1 - 1]! d3[p]! = false := decide_eq_false c2
            rw [if_pos (by simp [hlt]; omega)] at g6
            have h76 := s76 hc d3 a1 b1 p pw1 pw2 (by omega) (by omega) σ id
            rw [k3] at h76
            refine h76.Q ?_
            rintro r s ⟨rfl, rfl⟩
            obtain ⟨r1, r2⟩ := partitionEqual_range (ltC cf) d3 a1 b1 p (by omega)
            have r3 := partitionEqual_size (ltC cf) d3 a1 b1 p
            clear h76
            generalize partitionEqual (ltC cf) d3 a1 b1 p = R at *
            obtain ⟨mid, d4⟩ := R
            simp only at r1 r2 r3 g6
            rw [if_pos ⟨r1, r2⟩] at g6
            simp only [hk, tk, sp, k3, eL, e1, f1, ↓vcPre, ↓s_get, ↓reduceIte, vcPost, vcStd, Store.set_set, s_arr, s_setL, s_fold, swp_size, Nat.le_refl, Nat.zero_add, Array.size_setIfInBounds, Nat.reduceEqDiff, reduceCtorEq, Nat.reduceAdd, Nat.reduceLeDiff, Int.reduceLT, Int.reduceLE, ↓u_setN]
            refine NextQ.to (mid, b1, (lm - 1), false, wp, d4) ?_ ?_ ?_ ?_
            · rfl
            · exact Store.sub_refl _
            · simp only; omega
            · exact ⟨by simp only; omega, by simp only; omega, g3, by simp only; omega, by simp only; omega, g6⟩
          · have hlt : ltC cf d3[a1 - 1]! d3[p]! = true := decide_eq_true (by omega)
            rw [if_neg (by simp [hlt])] at g6
            have hP := s77 hc d3 a1 b1 p pw1 pw2 (by omega) (by omega) σ id
            rw [k3] at hP
            refine hP.Q ?_
            rintro r s ⟨rfl, rfl⟩
            obtain ⟨r1, r2, r3, _⟩ := partition_holds (ltC cf) hO d3 a1 b1 p pw1 pw2 (by omega)
            clear hP
            generalize partition (ltC cf) d3 a1 b1 p = R at *
            obtain ⟨mid, ap, d4⟩ := R
            simp only at r1 r2 r3 g6
            have k4 : d4.size = n := by rw [r3.1]; exact k3
            rw [if_pos ⟨r1, r2⟩] at g6
            have f2 : IntKind.i64.wrap ((mid : Int) - a1) = ((mid - a1 : Nat) : Int) := wI (by omega) (by omega)
            have f3 : IntKind.i64.wrap ((b1 : Int) - mid) = ((b1 - mid : Nat) : Int) := wI (by omega) (by omega)
            have f4 : IntKind.i64.wrap ((mid : Int) + 1) = ((mid + 1 : Nat) : Int) := wI (by omega) (by omega)
            have f5 : IntKind.i64.wrap (((b1 - a1 : Nat) : Int).tdiv 8) = (((b1 - a1) / 8 : Nat) : Int) := wI (by rw [Int.tdiv_eq_ediv_of_nonneg (by omega)]; omega) (by omega)
            simp only [hk, tk, sp, k4, eL, e1, f2, f3, f4, f5, ↓vcPre, ↓s_get, ↓reduceIte, vcPost, vcStd, Store.set_set, s_arr, s_setL, s_fold, swp_size, Nat.le_refl, Nat.zero_add, Array.size_setIfInBounds, Nat.reduceEqDiff, reduceCtorEq, Nat.reduceAdd, Nat.reduceLeDiff, Int.reduceLT, Int.reduceLE, ↓u_setN]
            refine ⟨by omega, fun z => ?_, fun z => ?_⟩
            · rw [if_pos (by omega)] at g6
              have hI := ih d4 a1 mid (lm - 1) k4 (by omega) (by omega) (by omega) (by omega)
              have k5 : (pdq (ltC cf) d4 a1 mid (lm - 1) true true).size = n := by rw [pdq_size _ hO _ _ _ _ _ _ _ (Nat.lt_succ_self _) (by omega) (by omega)]; exact k4
              generalize pdq (ltC cf) d4 a1 mid (lm - 1) true true = D at hI k5 g6
              refine hI.Q ?_
              intro r s hrs
              have hr1 := hrs.1
              have hs1 := hrs.2
              clear hrs
              subst hr1
              subst hs1
              simp only [hk, tk, sp, k5, eL, e1, f2, f3, f4, f5, ↓vcPre, ↓s_get, ↓reduceIte, vcPost, vcStd, Store.set_set, s_arr, s_setL, s_fold, swp_size, Nat.le_refl, Nat.zero_add, Array.size_setIfInBounds, Nat.reduceEqDiff, reduceCtorEq, Nat.reduceAdd, Nat.reduceLeDiff, Int.reduceLT, Int.reduceLE, ↓u_setN]
              refine NextQ.to (mid + 1, b1, (lm - 1), decide ((b1 - a1) / 8 ≤ mid - a1), ap, D) ?_ ?_ ?_ ?_
              · simp only [Int.ofNat_le]
              · exact Store.sub_refl _
              · simp only; omega
              · exact ⟨k5, by simp only; omega, g3, by simp only; omega, by simp only; omega, g6⟩
            · rw [if_neg (by omega)] at g6
              have hI := ih d4 (mid + 1) b1 (lm - 1) k4 (by omega) (by omega) (by omega) (by omega)
              have k5 : (pdq (ltC cf) d4 (mid + 1) b1 (lm - 1) true true).size = n := by rw [pdq_size _ hO _ _ _ _ _ _ _ (Nat.lt_succ_self _) (by omega) (by omega)]; exact k4
              generalize pdq (ltC cf) d4 (mid + 1) b1 (lm - 1) true true = D at hI k5 g6
              refine hI.Q ?_
              intro r s hrs
              have hr1 := hrs.1
              have hs1 := hrs.2
              clear hrs
              subst hr1
              subst hs1
              simp only [hk, tk, sp, k5, eL, e1, f2, f3, f4, f5, ↓vcPre, ↓s_get, ↓reduceIte, vcPost, vcStd, Store.set_set, s_arr, s_setL, s_fold, swp_size, Nat.le_refl, Nat.zero_add, Array.size_setIfInBounds, Nat.reduceEqDiff, reduceCtorEq, Nat.reduceAdd, Nat.reduceLeDiff, Int.reduceLT, Int.reduceLE, ↓u_setN]
              refine NextQ.to (a1, mid, (lm - 1), decide ((b1 - a1) / 8 ≤ b1 - mid), ap, D) ?_ ?_ ?_ ?_
              · simp only [Int.ofNat_le]
              · exact Store.sub_refl _
              · simp only; omega
              · exact ⟨k5, by simp only; omega, by simp only; omega, by simp only; omega, by simp only; omega, g6⟩
        · rw [if_neg (by simp; omega)] at g6
          have hP := s77 hc d3 a1 b1 p pw1 pw2 (by omega) (by omega) σ id
          rw [k3] at hP
          refine hP.Q ?_
          rintro r s ⟨rfl, rfl⟩
          obtain ⟨r1, r2, r3, _⟩ := partition_holds (ltC cf) hO d3 a1 b1 p pw1 pw2 (by omega)
          clear hP
          generalize partition (ltC cf) d3 a1 b1 p = R at *
          obtain ⟨mid, ap, d4⟩ := R
          simp only at r1 r2 r3 g6
          have k4 : d4.size = n := by rw [r3.1]; exact k3
          rw [if_pos ⟨r1, r2⟩] at g6
          have f2 : IntKind.i64.wrap ((mid : Int) - a1) = ((mid - a1 : Nat) : Int) := wI (by omega) (by omega)
          have f3 : IntKind.i64.wrap ((b1 : Int) - mid) = ((b1 - mid : Nat) : Int) := wI (by omega) (by omega)
          have f4 : IntKind.i64.wrap ((mid : Int) + 1) = ((mid + 1 : Nat) : Int) := wI (by omega) (by omega)
          have f5 : IntKind.i64.wrap (((b1 - a1 : Nat) : Int).tdiv 8) = (((b1 - a1) / 8 : Nat) : Int) := wI (by rw [Int.tdiv_eq_ediv_of_nonneg (by omega)]; omega) (by omega)
          simp only [hk, tk, sp, k4, eL, e1, f2, f3, f4, f5, ↓vcPre, ↓s_get, ↓reduceIte, vcPost, vcStd, Store.set_set, s_arr, s_setL, s_fold, swp_size, Nat.le_refl, Nat.zero_add, Array.size_setIfInBounds, Nat.reduceEqDiff, reduceCtorEq, Nat.reduceAdd, Nat.reduceLeDiff, Int.reduceLT, Int.reduceLE, ↓u_setN]
          refine ⟨by omega, fun z => ?_, fun z => ?_⟩
          · rw [if_pos (by omega)] at g6
            have hI := ih d4 a1 mid (lm - 1) k4 (by omega) (by omega) (by omega) (by omega)
            have k5 : (pdq (ltC cf) d4 a1 mid (lm - 1) true true).size = n := by rw [pdq_size _ hO _ _ _ _ _ _ _ (Nat.lt_succ_self _) (by omega) (by omega)]; exact k4
            generalize pdq (ltC cf) d4 a1 mid (lm - 1) true true = D at hI k5 g6
            refine hI.Q ?_
            intro r s hrs
            have hr1 := hrs.1
            have hs1 := hrs.2
            clear hrs
            subst hr1
            subst hs1
            simp only [hk, tk, sp, k5, eL, e1, f2, f3, f4, f5, ↓vcPre, ↓s_get, ↓reduceIte, vcPost, vcStd, Store.set_set, s_arr, s_setL, s_fold, swp_size, Nat.le_refl, Nat.zero_add, Array.size_setIfInBounds, Nat.reduceEqDiff, reduceCtorEq, Nat.reduceAdd, Nat.reduceLeDiff, Int.reduceLT, Int.reduceLE, ↓u_setN]
            refine NextQ.to (mid + 1, b1, (lm - 1), decide ((b1 - a1) / 8 ≤ mid - a1), ap, D) ?_ ?_ ?_ ?_
            · simp only [Int.ofNat_le]
            · exact Store.sub_refl _
            · simp only; omega
            · exact ⟨k5, by simp only; omega, g3, by simp only; omega, by simp only; omega, g6⟩
          · rw [if_neg (by omega)] at g6
            have hI := ih d4 (mid + 1) b1 (lm - 1) k4 (by omega) (by omega) (by omega) (by omega)
            have k5 : (pdq (ltC cf) d4 (mid + 1) b1 (lm - 1) true true).size = n := by rw [pdq_size _ hO _ _ _ _ _ _ _ (Nat.lt_succ_self _) (by omega) (by omega)]; exact k4
            generalize pdq (ltC cf) d4 (mid + 1) b1 (lm - 1) true true = D at hI k5 g6
            refine hI.Q ?_
            intro r s hrs
            have hr1 := hrs.1
            have hs1 := hrs.2
            clear hrs
            subst hr1
            subst hs1
            simp only [hk, tk, sp, k5, eL, e1, f2, f3, f4, f5, ↓vcPre, ↓s_get, ↓reduceIte, vcPost, vcStd, Store.set_set, s_arr, s_setL, s_fold, swp_size, Nat.le_refl, Nat.zero_add, Array.size_setIfInBounds, Nat.reduceEqDiff, reduceCtorEq, Nat.reduceAdd, Nat.reduceLeDiff, Int.reduceLT, Int.reduceLE, ↓u_setN]
            refine NextQ.to (a1, mid, (lm - 1), decide ((b1 - a1) / 8 ≤ b1 - mid), ap, D) ?_ ?_ ?_ ?_
            · simp only [Int.ofNat_le]
            · exact Store.sub_refl _
            · simp only; omega
            · exact ⟨k5, by simp only; omega, by simp only; omega, by simp only; omega, by simp only; omega, g6⟩
      · rw [if_pos rfl] at g6
        have f6 : IntKind.i64.wrap ((b1 : Int) - 1) = ((b1 - 1 : Nat) : Int) := wI (by omega) (by omega)
        have f7 : IntKind.i64.wrap ((p : Int) - a1) = ((p - a1 : Nat) : Int) := wI (by omega) (by omega)
        have f8 : IntKind.i64.wrap (((b1 - 1 : Nat) : Int) - ((p - a1 : Nat) : Int)) = ((b1 - 1 - (p - a1) : Nat) : Int) := wI (by omega) (by omega)
        simp only [hk, tk, sp, k1, eL, e1, ↓vcPre, ↓s_get, ↓reduceIte, vcPost, vcStd, Store.set_set, s_arr, s_setL, s_fold, swp_size, Nat.le_refl, Nat.zero_add, Array.size_setIfInBounds, Nat.reduceEqDiff, reduceCtorEq, Nat.reduceAdd, Nat.reduceLeDiff, Int.reduceLT, Int.reduceLE, ↓u_setN]
        have h74 := s74 hc d2 a1 b1 g2 (by omega) (by omega) σ id
        rw [k1] at h74
        refine h74.Q ?_
        intro r s hrs
        have hr1 := hrs.1
        have hs1 := hrs.2
        clear hrs
        subst hr1
        subst hs1
        obtain ⟨d3, hd3⟩ : ∃ x, x = reverseRange d2 a1 b1 := ⟨_, rfl⟩
        rw [← hd3] at g6 ⊢
        have k3 : d3.size = n := by rw [hd3, reverseRange, reverseLoop_size]; exact k1
        simp only [hk, tk, sp, k3, eL, e1, f6, f7, f8, ↓vcPre, ↓s_get, ↓reduceIte, vcPost, vcStd, Store.set_set, s_arr, s_setL, s_fold, swp_size, Nat.le_refl, Nat.zero_add, Array.size_setIfInBounds, Nat.reduceEqDiff, reduceCtorEq, Nat.reduceAdd, Nat.reduceLeDiff, Int.reduceLT, Int.reduceLE, ↓u_setN]
        have pw1 : a1 ≤ b1 - 1 - (p - a1) := by omega
        have pw2 : b1 - 1 - (p - a1) < b1 := by omega
        generalize b1 - 1 - (p - a1) = p at *
        rw [pdqB, if_neg (by simp)] at g6
        rw [pdqC] at g6
        refine ⟨fun c1 => ?_, fun c1 => ?_⟩
        · have f1 : IntKind.i64.wrap ((a1 : Int) - 1) = ((a1 - 1 : Nat) : Int) := wI (by omega) (by omega)
          simp only [f1, Int.toNat_natCast]
          and_intros <;> try omega
          refine (hc.call _ _).Q ?_
          simp only [hk, tk, sp, k3, eL, e1, f1, ↓vcPre, ↓s_get, ↓reduceIte, vcPost, vcStd, Store.set_set, s_arr, s_setL, s_fold, swp_size, Nat.le_refl, Nat.zero_add, Array.size_setIfInBounds, Nat.reduceEqDiff, reduceCtorEq, Nat.reduceAdd, Nat.reduceLeDiff, Int.reduceLT, Int.reduceLE, ↓u_setN]
          refine ⟨fun c2 => ?_, fun c2 => ?_⟩
          · have hlt : ltC cf d3[a1 - 1]! d3[p]! = false := decide_eq_false c2
            rw [if_pos (by simp [hlt]; omega)] at g6
            have h76 := s76 hc d3 a1 b1 p pw1 pw2 (by omega) (by omega) σ id
            rw [k3] at h76
            refine h76.Q ?_
            rintro r s ⟨rfl, rfl⟩
            obtain ⟨r1, r2⟩ := partitionEqual_range (ltC cf) d3 a1 b1 p (by omega)
            have r3 := partitionEqual_size (ltC cf) d3 a1 b1 p
            clear h76
            generalize partitionEqual (ltC cf) d3 a1 b1 p = R at *
            obtain ⟨mid, d4⟩ := R
            simp only at r1 r2 r3 g6
            rw [if_pos ⟨r1, r2⟩] at g6
            simp only [hk, tk, sp, k3, eL, e1, f1, ↓vcPre, ↓s_get, ↓reduceIte, vcPost, vcStd, Store.set_set, s_arr, s_setL, s_fold, swp_size, Nat.le_refl, Nat.zero_add, Array.size_setIfInBounds, Nat.reduceEqDiff, reduceCtorEq, Nat.reduceAdd, Nat.reduceLeDiff, Int.reduceLT, Int.reduceLE, ↓u_setN]
            refine NextQ.to (mid, b1, (lm - 1), false, wp, d4) ?_ ?_ ?_ ?_
            · rfl
            · exact Store.sub_refl _
            · simp only; omega
            · exact ⟨by simp only; omega, by simp only; omega, g3, by simp only; omega, by simp only; omega, g6⟩
          · have hlt : ltC cf d3[a1 - 1]! d3[p]! = true := decide_eq_true (by omega)
            rw [if_neg (by simp [hlt])] at g6
            have hP := s77 hc d3 a1 b1 p pw1 pw2 (by omega) (by omega) σ id
            rw [k3] at hP
            refine hP.Q ?_
            rintro r s ⟨rfl, rfl⟩
            obtain ⟨r1, r2, r3, _⟩ := partition_holds (ltC cf) hO d3 a1 b1 p pw1 pw2 (by omega)
            clear hP
            generalize partition (ltC cf) d3 a1 b1 p = R at *
            obtain ⟨mid, ap, d4⟩ := R
            simp only at r1 r2 r3 g6
            have k4 : d4.size = n := by rw [r3.1]; exact k3
            rw [if_pos ⟨r1, r2⟩] at g6
            have f2 : IntKind.i64.wrap ((mid : Int) - a1) = ((mid - a1 : Nat) : Int) := wI (by omega) (by omega)
            have f3 : IntKind.i64.wrap ((b1 : Int) - mid) = ((b1 - mid : Nat) : Int) := wI (by omega) (by omega)
            have f4 : IntKind.i64.wrap ((mid : Int) + 1) = ((mid + 1 : Nat) : Int) := wI (by omega) (by omega)
            have f5 : IntKind.i64.wrap (((b1 - a1 : Nat) : Int).tdiv 8) = (((b1 - a1) / 8 : Nat) : Int) := wI (by rw [Int.tdiv_eq_ediv_of_nonneg (by omega)]; omega) (by omega)
            simp only [hk, tk, sp, k4, eL, e1, f2, f3, f4, f5, ↓vcPre, ↓s_get, ↓reduceIte, vcPost, vcStd, Store.set_set, s_arr, s_setL, s_fold, swp_size, Nat.le_refl, Nat.zero_add, Array.size_setIfInBounds, Nat.reduceEqDiff, reduceCtorEq, Nat.reduceAdd, Nat.reduceLeDiff, Int.reduceLT, Int.reduceLE, ↓u_setN]
            refine ⟨by omega, fun z => ?_, fun z => ?_⟩
            · rw [if_pos (by omega)] at g6
              have hI := ih d4 a1 mid (lm - 1) k4 (by omega) (by omega) (by omega) (by omega)
              have k5 : (pdq (ltC cf) d4 a1 mid (lm - 1) true true).size = n := by rw [pdq_size _ hO _ _ _ _ _ _ _ (Nat.lt_succ_self _) (by omega) (by omega)]; exact k4
              generalize pdq (ltC cf) d4 a1 mid (lm - 1) true true = D at hI k5 g6
              refine hI.Q ?_
              intro r s hrs
              have hr1 := hrs.1
              have hs1 := hrs.2
              clear hrs
              subst hr1
              subst hs1
              simp only [hk, tk, sp, k5, eL, e1, f2, f3, f4, f5, ↓vcPre, ↓s_get, ↓reduceIte, vcPost, vcStd, Store.set_set, s_arr, s_setL, s_fold, swp_size, Nat.le_refl, Nat.zero_add, Array.size_setIfInBounds, Nat.reduceEqDiff, reduceCtorEq, Nat.reduceAdd, Nat.reduceLeDiff, Int.reduceLT, Int.reduceLE, ↓u_setN]
              refine NextQ.to (mid + 1, b1, (lm - 1), decide ((b1 - a1) / 8 ≤ mid - a1), ap, D) ?_ ?_ ?_ ?_
              · simp only [Int.ofNat_le]
              · exact Store.sub_refl _
              · simp only; omega
              · exact ⟨k5, by simp only; omega, g3, by simp only; omega, by simp only; omega, g6⟩
            · rw [if_neg (by omega)] at g6
              have hI := ih d4 (mid + 1) b1 (lm - 1) k4 (by omega) (by omega) (by omega) (by omega)
              have k5 : (pdq (ltC cf) d4 (mid + 1) b1 (lm - 1) true true).size = n := by rw [pdq_size _ hO _ _ _ _ _ _ _ (Nat.lt_succ_self _) (by omega) (by omega)]; exact k4
              generalize pdq (ltC cf) d4 (mid + 1) b1 (lm - 1) true true = D at hI k5 g6
              refine hI.Q ?_
              intro r s hrs
              have hr1 := hrs.1
              have hs1 := hrs.2
              clear hrs
              subst hr1
              subst hs1
              simp only [hk, tk, sp, k5, eL, e1, f2, f3, f4, f5, ↓vcPre, ↓s_get, ↓reduceIte, vcPost, vcStd, Store.set_set, s_arr, s_setL, s_fold, swp_size, Nat.le_refl, Nat.zero_add, Array.size_setIfInBounds, Nat.reduceEqDiff, reduceCtorEq, Nat.reduceAdd, Nat.reduceLeDiff, Int.reduceLT, Int.reduceLE, ↓u_setN]
              refine NextQ.to (a1, mid, (lm - 1), decide ((b1 - a1) / 8 ≤ b1 - mid), ap, D) ?_ ?_ ?_ ?_
              · simp only [Int.ofNat_le]
              · exact Store.sub_refl _
              · simp only; omega
              · exact ⟨k5, by simp only; omega, by simp only; omega, by simp only; omega, by simp only; omega, g6⟩
        · rw [if_neg (by simp; omega)] at g6
          have hP := s77 hc d3 a1 b1 p pw1 pw2 (by omega) (by omega) σ id
          rw [k3] at hP
          refine hP.Q ?_
          rintro r s ⟨rfl, rfl⟩
          obtain ⟨r1, r2, r3, _⟩ := partition_holds (ltC cf) hO d3 a1 b1 p pw1 pw2 (by omega)
          clear hP
          generalize partition (ltC cf) d3 a1 b1 p = R at *
          obtain ⟨mid, ap, d4⟩ := R
          simp only at r1 r2 r3 g6
          have k4 : d4.size = n := by rw [r3.1]; exact k3
          rw [if_pos ⟨r1, r2⟩] at g6
          have f2 : IntKind.i64.wrap ((mid : Int) - a1) = ((mid - a1 : Nat) : Int) := wI (by omega) (by omega)
          have f3 : IntKind.i64.wrap ((b1 : Int) - mid) = ((b1 - mid : Nat) : Int) := wI (by omega) (by omega)
          have f4 : IntKind.i64.wrap ((mid : Int) + 1) = ((mid + 1 : Nat) : Int) := wI (by omega) (by omega)
          have f5 : IntKind.i64.wrap (((b1 - a1 : Nat) : Int).tdiv 8) = (((b1 - a1) / 8 : Nat) : Int) := wI (by rw [Int.tdiv_eq_ediv_of_nonneg (by omega)]; omega) (by omega)
          simp only [hk, tk, sp, k4, eL, e1, f2, f3, f4, f5, ↓vcPre, ↓s_get, ↓reduceIte, vcPost, vcStd, Store.set_set, s_arr, s_setL, s_fold, swp_size, Nat.le_refl, Nat.zero_add, Array.size_setIfInBounds, Nat.reduceEqDiff, reduceCtorEq, Nat.reduceAdd, Nat.reduceLeDiff, Int.reduceLT, Int.reduceLE, ↓u_setN]
          refine ⟨by omega, fun z => ?_, fun z => ?_⟩
          · rw [if_pos (by omega)] at g6
            have hI := ih d4 a1 mid (lm - 1) k4 (by omega) (by omega) (by omega) (by omega)
            have k5 : (pdq (ltC cf) d4 a1 mid (lm - 1) true true).size = n := by rw [pdq_size _ hO _ _ _ _ _ _ _ (Nat.lt_succ_self _) (by omega) (by omega)]; exact k4
            generalize pdq (ltC cf) d4 a1 mid (lm - 1) true true = D at hI k5 g6
            refine hI.Q ?_
            intro r s hrs
            have hr1 := hrs.1
            have hs1 := hrs.2
            clear hrs
            subst hr1
            subst hs1
            simp only [hk, tk, sp, k5, eL, e1, f2, f3, f4, f5, ↓vcPre, ↓s_get, ↓reduceIte, vcPost, vcStd, Store.set_set, s_arr, s_setL, s_fold, swp_size, Nat.le_refl, Nat.zero_add, Array.size_setIfInBounds, Nat.reduceEqDiff, reduceCtorEq, Nat.reduceAdd, Nat.reduceLeDiff, Int.reduceLT, Int.reduceLE, ↓u_setN]
            refine NextQ.to (mid + 1, b1, (lm - 1), decide ((b1 - a1) / 8 ≤ mid - a1), ap, D) ?_ ?_ ?_ ?_
            · simp only [Int.ofNat_le]
            · exact Store.sub_refl _
            · simp only; omega
            · exact ⟨k5, by simp only; omega, g3, by simp only; omega, by simp only; omega, g6⟩
          · rw [if_neg (by omega)] at g6
            have hI := ih d4 (mid + 1) b1 (lm - 1) k4 (by omega) (by omega) (by omega) (by omega)
            have k5 : (pdq (ltC cf) d4 (mid + 1) b1 (lm - 1) true true).size = n := by rw [pdq_size _ hO _ _ _ _ _ _ _ (Nat.lt_succ_self _) (by omega) (by omega)]; exact k4
            generalize pdq (ltC cf) d4 (mid + 1) b1 (lm - 1) true true = D at hI k5 g6
            refine hI.Q ?_
            intro r s hrs
            have hr1 := hrs.1
            have hs1 := hrs.2
            clear hrs
            subst hr1
            subst hs1
            simp only [hk, tk, sp, k5, eL, e1, f2, f3, f4, f5, ↓vcPre, ↓s_get, ↓reduceIte, vcPost, vcStd, Store.set_set, s_arr, s_setL, s_fold, swp_size, Nat.le_refl, Nat.zero_add, Array.size_setIfInBounds, Nat.reduceEqDiff, reduceCtorEq, Nat.reduceAdd, Nat.reduceLeDiff, Int.reduceLT, Int.reduceLE, ↓u_setN]
            refine NextQ.to (a1, mid, (lm - 1), decide ((b1 - a1) / 8 ≤ b1 - mid), ap, D) ?_ ?_ ?_ ?_
            · simp only [Int.ofNat_le]
            · exact Store.sub_refl _
            · simp only; omega
            · exact ⟨k5, by simp only; omega, by simp only; omega, by simp only; omega, by simp only; omega, g6⟩
    · simp only [↓vcPre, ↓wit_get, ↓reduceIte, vcPost, vcStd, Nat.reduceEqDiff, reduceCtorEq, Nat.reduceAdd, Nat.reduceLeDiff, Int.reduceLT, Int.reduceLE, ↓u_setN]
      rw [if_pos rfl] at g6
      obtain ⟨d2, hd2⟩ : ∃ x, x = d1 := ⟨_, rfl⟩
      rw [← hd2] at g6 ⊢
      have k1 : d2.size = n := by rw [hd2]; exact g1
      cases wp
      · have hA := s73 hc d2 a1 b1 (by omega) (by omega) (by omega) σ id
        rw [k1] at hA
        refine hA.Q ?_
        rintro r s ⟨rfl, rfl⟩
        obtain ⟨pv1, pv2⟩ := choosePivot_holds (ltC cf) d2 a1 b1 (by omega)
        rw [pdqA] at g6
        clear hA
        generalize choosePivot (ltC cf) d2 a1 b1 = R at *
        obtain ⟨p, hh⟩ := R
        simp only at pv1 pv2 g6
        cases hh
        · rw [if_neg (by decide)] at g6
          simp only [hk, tk, sp, k1, eL, e1, ↓vcPre, ↓s_get, ↓reduceIte, vcPost, vcStd, Store.set_set, s_arr, s_setL, s_fold, swp_size, Nat.le_refl, Nat.zero_add, Array.size_setIfInBounds, Nat.reduceEqDiff, reduceCtorEq, Nat.reduceAdd, Nat.reduceLeDiff, Int.reduceLT, Int.reduceLE, ↓u_setN]
          refine ⟨fun z => (by exfalso; omega), fun _ => ?_⟩
          obtain ⟨d3, hd3⟩ : ∃ x, x = d2 := ⟨_, rfl⟩
          rw [← hd3] at g6 ⊢
          have k3 : d3.size = n := by rw [hd3]; exact k1
          have pw1 := pv1
          have pw2 := pv2
          rw [pdqB, if_neg (by simp)] at g6
          rw [pdqC] at g6
          refine ⟨fun c1 => ?_, fun c1 => ?_⟩
          · have f1 : IntKind.i64.wrap ((a1 : Int) - 1) = ((a1 - 1 : Nat) : Int) := wI (by omega) (by omega)
            simp only [f1, Int.toNat_natCast]
            and_intros <;> try omega
            refine (hc.call _ _).Q ?_
            simp only [hk, tk, sp, k3, eL, e1, f1, ↓vcPre, ↓s_get, ↓reduceIte, vcPost, vcStd, Store.set_set, s_arr, s_setL, s_fold, swp_size, Nat.le_refl, Nat.zero_add, Array.size_setIfInBounds, Nat.reduceEqDiff, reduceCtorEq, Nat.reduceAdd, Nat.reduceLeDiff, Int.reduceLT, Int.reduceLE, ↓u_setN]
            refine ⟨fun c2 => ?_, fun c2 => ?_⟩
            · have hlt : ltC cf d3[a1 - 1]! d3[p]! = false := decide_eq_false c2
              rw [if_pos (by simp [hlt]; omega)] at g6
              have h76 := s76 hc d3 a1 b1 p pw1 pw2 (by omega) (by omega) σ id
              rw [k3] at h76
              refine h76.Q ?_
              rintro r s ⟨rfl, rfl⟩
              obtain ⟨r1, r2⟩ := partitionEqual_range (ltC cf) d3 a1 b1 p (by omega)
              have r3 := partitionEqual_size (ltC cf) d3 a1 b1 p
              clear h76
              generalize partitionEqual (ltC cf) d3 a1 b1 p = R at *
              obtain ⟨mid, d4⟩ := R
              simp only at r1 r2 r3 g6
              rw [if_pos ⟨r1, r2⟩] at g6
              simp only [hk, tk, sp, k3, eL, e1, f1, ↓vcPre, ↓s_get, ↓reduceIte, vcPost, vcStd, Store.set_set, s_arr, s_setL, s_fold, swp_size, Nat.le_refl, Nat.zero_add, Array.size_setIfInBounds, Nat.reduceEqDiff, reduceCtorEq, Nat.reduceAdd, Nat.reduceLeDiff, Int.reduceLT, Int.reduceLE, ↓u_setN]
              refine NextQ.to (mid, b1, lm, true, false, d4) ?_ ?_ ?_ ?_
              · rfl
              · exact Store.sub_refl _
              · simp only; omega
              · exact ⟨by simp only; omega, by simp only; omega, g3, by simp only; omega, by simp only; omega, g6⟩
            · have hlt : ltC cf d3[a1 - 1]! d3[p]! = true := decide_eq_true (by omega)
              rw [if_neg (by simp [hlt])] at g6
              have hP := s77 hc d3 a1 b1 p pw1 pw2 (by omega) (by omega) σ id
              rw [k3] at hP
              refine hP.Q ?_
              rintro r s ⟨rfl, rfl⟩
              obtain ⟨r1, r2, r3, _⟩ := partition_holds (ltC cf) hO d3 a1 b1 p pw1 pw2 (by omega)
              clear hP
              generalize partition (ltC cf) d3 a1 b1 p = R at *
              obtain ⟨mid, ap, d4⟩ := R
              simp only at r1 r2 r3 g6
              have k4 : d4.size = n := by rw [r3.1]; exact k3
              rw [if_pos ⟨r1, r2⟩] at g6
              have f2 : IntKind.i64.wrap ((mid : Int) - a1) = ((mid - a1 : Nat) : Int) := wI (by omega) (by omega)
              have f3 : IntKind.i64.wrap ((b1 : Int) - mid) = ((b1 - mid : Nat) : Int) := wI (by omega) (by omega)
              have f4 : IntKind.i64.wrap ((mid : Int) + 1) = ((mid + 1 : Nat) : Int) := wI (by omega) (by omega)
              have f5 : IntKind.i64.wrap (((b1 - a1 : Nat) : Int).tdiv 8) = (((b1 - a1) / 8 : Nat) : Int) := wI (by rw [Int.tdiv_eq_ediv_of_nonneg (by omega)]; omega) (by omega)
              simp only [hk, tk, sp, k4, eL, e1, f2, f3, f4, f5, ↓vcPre, ↓s_get, ↓reduceIte, vcPost, vcStd, Store.set_set, s_arr, s_setL, s_fold, swp_size, Nat.le_refl, Nat.zero_add, Array.size_setIfInBounds, Nat.reduceEqDiff, reduceCtorEq, Nat.reduceAdd, Nat.reduceLeDiff, Int.reduceLT, Int.reduceLE, ↓u_setN]
              refine ⟨by omega, fun z => ?_, fun z => ?_⟩
              · rw [if_pos (by omega)] at g6
                have hI := ih d4 a1 mid lm k4 (by omega) (by omega) (by omega) (by omega)
                have k5 : (pdq (ltC cf) d4 a1 mid lm true true).size = n := by rw [pdq_size _ hO _ _ _ _ _ _ _ (Nat.lt_succ_self _) (by omega) (by omega)]; exact k4
                generalize pdq (ltC cf) d4 a1 mid lm true true = D at hI k5 g6
                refine hI.Q ?_
                intro r s hrs
                have hr1 := hrs.1
                have hs1 := hrs.2
                clear hrs
                subst hr1
                subst hs1
                simp only [hk, tk, sp, k5, eL, e1, f2, f3, f4, f5, ↓vcPre, ↓s_get, ↓reduceIte, vcPost, vcStd, Store.set_set, s_arr, s_setL, s_fold, swp_size, Nat.le_refl, Nat.zero_add, Array.size_setIfInBounds, Nat.reduceEqDiff, reduceCtorEq, Nat.reduceAdd, Nat.reduceLeDiff, Int.reduceLT, Int.reduceLE, ↓u_setN]
                refine NextQ.to (mid + 1, b1, lm, decide ((b1 - a1) / 8 ≤ mid - a1), ap, D) ?_ ?_ ?_ ?_
                · simp only [Int.ofNat_le]
                · exact Store.sub_refl _
                · simp only; omega
                · exact ⟨k5, by simp only; omega, g3, by simp only; omega, by simp only; omega, g6⟩
              · rw [if_neg (by omega)] at g6
                have hI := ih d4 (mid + 1) b1 lm k4 (by omega) (by omega) (by omega) (by omega)
                have k5 : (pdq (ltC cf) d4 (mid + 1) b1 lm true true).size = n := by rw [pdq_size _ hO _ _ _ _ _ _ _ (Nat.lt_succ_self _) (by omega) (by omega)]; exact k4
                generalize pdq (ltC cf) d4 (mid + 1) b1 lm true true = D at hI k5 g6
                refine hI.Q ?_
                intro r s hrs
                have hr1 := hrs.1
                have hs1 := hrs.2
                clear hrs
                subst hr1
                subst hs1
                simp only [hk, tk, sp, k5, eL, e1, f2, f3, f4, f5, ↓vcPre, ↓s_get, ↓reduceIte, vcPost, vcStd, Store.set_set, s_arr, s_setL, s_fold, swp_size, Nat.le_refl, Nat.zero_add, Array.size_setIfInBounds, Nat.reduceEqDiff, reduceCtorEq, Nat.reduceAdd, Nat.reduceLeDiff, Int.reduceLT, Int.reduceLE, ↓u_setN]
                refine NextQ.to (a1, mid, lm, decide ((b1 - a1) / 8 ≤ b1 - mid), ap, D) ?_ ?_ ?_ ?_
                · simp only [Int.ofNat_le]
                · exact Store.sub_refl _
                · simp only; omega
                · exact ⟨k5, by simp only; omega, by simp only; omega, by simp only; omega, by simp only; omega, g6⟩
          · rw [if_neg (by simp; omega)] at g6
            have hP := s77 hc d3 a1 b1 p pw1 pw2 (by omega) (by omega) σ id
            rw [k3] at hP
            refine hP.Q ?_
            rintro r s ⟨rfl, rfl⟩
            obtain ⟨r1, r2, r3, _⟩ := partition_holds (ltC cf) hO d3 a1 b1 p pw1 pw2 (by omega)
            clear hP
            generalize partition (ltC cf) d3 a1 b1 p = R at *
            obtain ⟨mid, ap, d4⟩ := R
            simp only at r1 r2 r3 g6
            have k4 : d4.size = n := by rw [r3.1]; exact k3
            rw [if_pos ⟨r1, r2⟩] at g6
            have f2 : IntKind.i64.wrap ((mid : Int) - a1) = ((mid - a1 : Nat) : Int) := wI (by omega) (by omega)
            have f3 : IntKind.i64.wrap ((b1 : Int) - mid) = ((b1 - mid : Nat) : Int) := wI (by omega) (by omega)
            have f4 : IntKind.i64.wrap ((mid : Int) + 1) = ((mid + 1 : Nat) : Int) := wI (by omega) (by omega)
            have f5 : IntKind.i64.wrap (((b1 - a1 : Nat) : Int).tdiv 8) = (((b1 - a1) / 8 : Nat) : Int) := wI (by rw [Int.tdiv_eq_ediv_of_nonneg (by omega)]; omega) (by omega)
            simp only [hk, tk, sp, k4, eL, e1, f2, f3, f4, f5, ↓vcPre, ↓s_get, ↓reduceIte, vcPost, vcStd, Store.set_set, s_arr, s_setL, s_fold, swp_size, Nat.le_refl, Nat.zero_add, Array.size_setIfInBounds, Nat.reduceEqDiff, reduceCtorEq, Nat.reduceAdd, Nat.reduceLeDiff, Int.reduceLT, Int.reduceLE, ↓u_setN]
            refine ⟨by omega, fun z => ?_, fun z => ?_⟩
            · rw [if_pos (by omega)] at g6
              have hI := ih d4 a1 mid lm k4 (by omega) (by omega) (by omega) (by omega)
              have k5 : (pdq (ltC cf) d4 a1 mid lm true true).size = n := by rw [pdq_size _ hO _ _ _ _ _ _ _ (Nat.lt_succ_self _) (by omega) (by omega)]; exact k4
              generalize pdq (ltC cf) d4 a1 mid lm true true = D at hI k5 g6
              refine hI.Q ?_
              intro r s hrs
              have hr1 := hrs.1
              have hs1 := hrs.2
              clear hrs
              subst hr1
              subst hs1
              simp only [hk, tk, sp, k5, eL, e1, f2, f3, f4, f5, ↓vcPre, ↓s_get, ↓reduceIte, vcPost, vcStd, Store.set_set, s_arr, s_setL, s_fold, swp_size, Nat.le_refl, Nat.zero_add, Array.size_setIfInBounds, Nat.reduceEqDiff, reduceCtorEq, Nat.reduceAdd, Nat.reduceLeDiff, Int.reduceLT, Int.reduceLE, ↓u_setN]
              refine NextQ.to (mid + 1, b1, lm, decide ((b1 - a1) / 8 ≤ mid - a1), ap, D) ?_ ?_ ?_ ?_
              · simp only [Int.ofNat_le]
              · exact Store.sub_refl _
              · simp only; omega
              · exact ⟨k5, by simp only; omega, g3, by simp only; omega, by simp only; omega, g6⟩
            · rw [if_neg (by omega)] at g6
              have hI := ih d4 (mid + 1) b1 lm k4 (by omega) (by omega) (by omega) (by omega)
              have k5 : (pdq (ltC cf) d4 (mid + 1) b1 lm true true).size = n := by rw [pdq_size _ hO _ _ _ _ _ _ _ (Nat.lt_succ_self _) (by omega) (by omega)]; exact k4
              generalize pdq (ltC cf) d4 (mid + 1) b1 lm true true = D at hI k5 g6
              refine hI.Q ?_
              intro r s hrs
              have hr1 := hrs.1
              have hs1 := hrs.2
              clear hrs
              subst hr1
              subst hs1
              simp only [hk, tk, sp, k5, eL, e1, f2, f3, f4, f5, ↓vcPre, ↓s_get, ↓reduceIte, vcPost, vcStd, Store.set_set, s_arr, s_setL, s_fold, swp_size, Nat.le_refl, Nat.zero_add, Array.size_setIfInBounds, Nat.reduceEqDiff, reduceCtorEq, Nat.reduceAdd, Nat.reduceLeDiff, Int.reduceLT, Int.reduceLE, ↓u_setN]
              refine NextQ.to (a1, mid, lm, decide ((b1 - a1) / 8 ≤ b1 - mid), ap, D) ?_ ?_ ?_ ?_
              · simp only [Int.ofNat_le]
              · exact Store.sub_refl _
              · simp only; omega
              · exact ⟨k5, by simp only; omega, by simp only; omega, by simp only; omega, by simp only; omega, g6⟩
        · rw [if_neg (by decide)] at g6
          simp only [hk, tk, sp, k1, eL, e1, ↓vcPre, ↓s_get, ↓reduceIte, vcPost, vcStd, Store.set_set, s_arr, s_setL, s_fold, swp_size, Nat.le_refl, Nat.zero_add, Array.size_setIfInBounds, Nat.reduceEqDiff, reduceCtorEq, Nat.reduceAdd, Nat.reduceLeDiff, Int.reduceLT, Int.reduceLE, ↓u_setN]
          refine ⟨fun z => (by exfalso; omega), fun _ => ?_⟩
          obtain ⟨d3, hd3⟩ : ∃ x, x = d2 := ⟨_, rfl⟩
          rw [← hd3] at g6 ⊢
          have k3 : d3.size = n := by rw [hd3]; exact k1
          have pw1 := pv1
          have pw2 := pv2
          rw [pdqB, if_neg (by simp)] at g6
          rw [pdqC] at g6
          refine ⟨fun c1 => ?_, fun c1 => ?_⟩
          · have f1 : IntKind.i64.wrap ((a1 : Int) - 1) = ((a1 - 1 : Nat) : Int) := wI (by omega) (by omega)
            simp only [f1, Int.toNat_natCast]
            and_intros <;> try omega
            refine (hc.call _ _).Q ?_
            simp only [hk, tk, sp, k3, eL, e1, f1, ↓vcPre, ↓s_get, ↓reduceIte, vcPost, vcStd, Store.set_set, s_arr, s_setL, s_fold, swp_size, Nat.le_refl, Nat.zero_add, Array.size_setIfInBounds, Nat.reduceEqDiff, reduceCtorEq, Nat.reduceAdd, Nat.reduceLeDiff, Int.reduceLT, Int.reduceLE, ↓u_setN]
            refine ⟨fun c2 => ?_, fun c2 => ?_⟩
            · have hlt : ltC cf d3[a1 - 1]! d3[p]! = false := decide_eq_false c2
              rw [if_pos (by simp [hlt]; omega)] at g6
              have h76 := s76 hc d3 a1 b1 p pw1 pw2 (by omega) (by omega) σ id
              rw [k3] at h76
              refine h76.Q ?_
              rintro r s ⟨rfl, rfl⟩
              obtain ⟨r1, r2⟩ := partitionEqual_range (ltC cf) d3 a1 b1 p (by omega)
              have r3 := partitionEqual_size (ltC cf) d3 a1 b1 p
              clear h76
              generalize partitionEqual (ltC cf) d3 a1 b1 p = R at *
              obtain ⟨mid, d4⟩ := R
              simp only at r1 r2 r3 g6
              rw [if_pos ⟨r1, r2⟩] at g6
              simp only [hk, tk, sp, k3, eL, e1, f1, ↓vcPre, ↓s_get, ↓reduceIte, vcPost, vcStd, Store.set_set, s_arr, s_setL, s_fold, swp_size, Nat.le_refl, Nat.zero_add, Array.size_setIfInBounds, Nat.reduceEqDiff, reduceCtorEq, Nat.reduceAdd, Nat.reduceLeDiff, Int.reduceLT, Int.reduceLE, ↓u_setN]
              refine NextQ.to (mid, b1, lm, true, false, d4) ?_ ?_ ?_ ?_
              · rfl
              · exact Store.sub_refl _
              · simp only; omega
              · exact ⟨by simp only; omega, by simp only; omega, g3, by simp only; omega, by simp only; omega, g6⟩
            · have hlt : ltC cf d3[a1 - 1]! d3[p]! = true := decide_eq_true (by omega)
              rw [if_neg (by simp [hlt])] at g6
              have hP := s77 hc d3 a1 b1 p pw1 pw2 (by omega) (by omega) σ id
              rw [k3] at hP
              refine hP.Q ?_
              rintro r s ⟨rfl, rfl⟩
              obtain ⟨r1, r2, r3, _⟩ := partition_holds (ltC cf) hO d3 a1 b1 p pw1 pw2 (by omega)
              clear hP
              generalize partition (ltC cf) d3 a1 b1 p = R at *
              obtain ⟨mid, ap, d4⟩ := R
              simp only at r1 r2 r3 g6
              have k4 : d4.size = n := by rw [r3.1]; exact k3
              rw [if_pos ⟨r1, r2⟩] at g6
              have f2 : IntKind.i64.wrap ((mid : Int) - a1) = ((mid - a1 : Nat) : Int) := wI (by omega) (by omega)
              have f3 : IntKind.i64.wrap ((b1 : Int) - mid) = ((b1 - mid : Nat) : Int) := wI (by omega) (by omega)
              have f4 : IntKind.i64.wrap ((mid : Int) + 1) = ((mid + 1 : Nat) : Int) := wI (by omega) (by omega)
              have f5 : IntKind.i64.wrap (((b1 - a1 : Nat) : Int).tdiv 8) = (((b1 - a1) / 8 : Nat) : Int) := wI (by rw [Int.tdiv_eq_ediv_of_nonneg (by omega)]; omega) (by omega)
              simp only [hk, tk, sp, k4, eL, e1, f2, f3, f4, f5, ↓vcPre, ↓s_get, ↓reduceIte, vcPost, vcStd, Store.set_set, s_arr, s_setL, s_fold, swp_size, Nat.le_refl, Nat.zero_add, Array.size_setIfInBounds, Nat.reduceEqDiff, reduceCtorEq, Nat.reduceAdd, Nat.reduceLeDiff, Int.reduceLT, Int.reduceLE, ↓u_setN]
              refine ⟨by omega, fun z => ?_, fun z => ?_⟩
              · rw [if_pos (by omega)] at g6
                have hI := ih d4 a1 mid lm k4 (by omega) (by omega) (by omega) (by omega)
                have k5 : (pdq (ltC cf) d4 a1 mid lm true true).size = n := by rw [pdq_size _ hO _ _ _ _ _ _ _ (Nat.lt_succ_self _) (by omega) (by omega)]; exact k4
                generalize pdq (ltC cf) d4 a1 mid lm true true = D at hI k5 g6
                refine hI.Q ?_
                intro r s hrs
                have hr1 := hrs.1
                have hs1 := hrs.2
                clear hrs
                subst hr1
                subst hs1
                simp only [hk, tk, sp, k5, eL, e1, f2, f3, f4, f5, ↓vcPre, ↓s_get, ↓reduceIte, vcPost, vcStd, Store.set_set, s_arr, s_setL, s_fold, swp_size, Nat.le_refl, Nat.zero_add, Array.size_setIfInBounds, Nat.reduceEqDiff, reduceCtorEq, Nat.reduceAdd, Nat.reduceLeDiff, Int.reduceLT, Int.reduceLE, ↓u_setN]
                refine NextQ.to (mid + 1, b1, lm, decide ((b1 - a1) / 8 ≤ mid - a1), ap, D) ?_ ?_ ?_ ?_
                · simp only [Int.ofNat_le]
                · exact Store.sub_refl _
                · simp only; omega
                · exact ⟨k5, by simp only; omega, g3, by simp only; omega, by simp only; omega, g6⟩
              · rw [if_neg (by omega)] at g6
                have hI := ih d4 (mid + 1) b1 lm k4 (by omega) (by omega) (by omega) (by omega)
                have k5 : (pdq (ltC cf) d4 (mid + 1) b1 lm true true).size = n := by rw [pdq_size _ hO _ _ _ _ _ _ _ (Nat.lt_succ_self _) (by omega) (by omega)]; exact k4
                generalize pdq (ltC cf) d4 (mid + 1) b1 lm true true = D at hI k5 g6
                refine hI.Q ?_
                intro r s hrs
                have hr1 := hrs.1
                have hs1 := hrs.2
                clear hrs
                subst hr1
                subst hs1
                simp only [hk, tk, sp, k5, eL, e1, f2, f3, f4, f5, ↓vcPre, ↓s_get, ↓reduceIte, vcPost, vcStd, Store.set_set, s_arr, s_setL, s_fold, swp_size, Nat.le_refl, Nat.zero_add, Array.size_setIfInBounds, Nat.reduceEqDiff, reduceCtorEq, Nat.reduceAdd, Nat.reduceLeDiff, Int.reduceLT, Int.reduceLE, ↓u_setN]
                refine NextQ.to (a1, mid, lm, decide ((b1 - a1) / 8 ≤ b1 - mid), ap, D) ?_ ?_ ?_ ?_
                · simp only [Int.ofNat_le]
                · exact Store.sub_refl _
                · simp only; omega
                · exact ⟨k5, by simp only; omega, by simp only; omega, by simp only; omega, by simp only; omega, g6⟩
          · rw [if_neg (by simp; omega)] at g6
            have hP := s77 hc d3 a1 b1 p pw1 pw2 (by omega) (by omega) σ id
            rw [k3] at hP
            refine hP.Q ?_
            rintro r s ⟨rfl, rfl⟩
            obtain ⟨r1, r2, r3, _⟩ := partition_holds (ltC cf) hO d3 a1 b1 p pw1 pw2 (by omega)
            clear hP
            generalize partition (ltC cf) d3 a1 b1 p = R at *
            obtain ⟨mid, ap, d4⟩ := R
            simp only at r1 r2 r3 g6
            have k4 : d4.size = n := by rw [r3.1]; exact k3
            rw [if_pos ⟨r1, r2⟩] at g6
            have f2 : IntKind.i64.wrap ((mid : Int) - a1) = ((mid - a1 : Nat) : Int) := wI (by omega) (by omega)
            have f3 : IntKind.i64.wrap ((b1 : Int) - mid) = ((b1 - mid : Nat) : Int) := wI (by omega) (by omega)
            have f4 : IntKind.i64.wrap ((mid : Int) + 1) = ((mid + 1 : Nat) : Int) := wI (by omega) (by omega)
            have f5 : IntKind.i64.wrap (((b1 - a1 : Nat) : Int).tdiv 8) = (((b1 - a1) / 8 : Nat) : Int) := wI (by rw [Int.tdiv_eq_ediv_of_nonneg (by omega)]; omega) (by omega)
            simp only [hk, tk, sp, k4, eL, e1, f2, f3, f4, f5, ↓vcPre, ↓s_get, ↓reduceIte, vcPost, vcStd, Store.set_set, s_arr, s_setL, s_fold, swp_size, Nat.le_refl, Nat.zero_add, Array.size_setIfInBounds, Nat.reduceEqDiff, reduceCtorEq, Nat.reduceAdd, Nat.reduceLeDiff, Int.reduceLT, Int.reduceLE, ↓u_setN]
            refine ⟨by omega, fun z => ?_, fun z => ?_⟩
            · rw [if_pos (by omega)] at g6
              have hI := ih d4 a1 mid lm k4 (by omega) (by omega) (by omega) (by omega)
              have k5 : (pdq (ltC cf) d4 a1 mid lm true true).size = n := by rw [pdq_size _ hO _ _ _ _ _ _ _ (Nat.lt_succ_self _) (by omega) (by omega)]; exact k4
              generalize pdq (ltC cf) d4 a1 mid lm true true = D at hI k5 g6
              refine hI.Q ?_
              intro r s hrs
              have hr1 := hrs.1
              have hs1 := hrs.2
              clear hrs
              subst hr1
              subst hs1
              simp only [hk, tk, sp, k5, eL, e1, f2, f3, f4, f5, ↓vcPre, ↓s_get, ↓reduceIte, vcPost, vcStd, Store.set_set, s_arr, s_setL, s_fold, swp_size, Nat.le_refl, Nat.zero_add, Array.size_setIfInBounds, Nat.reduceEqDiff, reduceCtorEq, Nat.reduceAdd, Nat.reduceLeDiff, Int.reduceLT, Int.reduceLE, ↓u_setN]
              refine NextQ.to (mid + 1, b1, lm, decide ((b1 - a1) / 8 ≤ mid - a1), ap, D) ?_ ?_ ?_ ?_
              · simp only [Int.ofNat_le]
              · exact Store.sub_refl _
              · simp only; omega
              · exact ⟨k5, by simp only; omega, g3, by simp only; omega, by simp only; omega, g6⟩
            · rw [if_neg (by omega)] at g6
              have hI := ih d4 (mid + 1) b1 lm k4 (by omega) (by omega) (by omega) (by omega)
              have k5 : (pdq (ltC cf) d4 (mid + 1) b1 lm true true).size = n := by rw [pdq_size _ hO _ _ _ _ _ _ _ (Nat.lt_succ_self _) (by omega) (by omega)]; exact k4
              generalize pdq (ltC cf) d4 (mid + 1) b1 lm true true = D at hI k5 g6
              refine hI.Q ?_
              intro r s hrs
              have hr1 := hrs.1
              have hs1 := hrs.2
              clear hrs
              subst hr1
              subst hs1
              simp only [hk, tk, sp, k5, eL, e1, f2, f3, f4, f5, ↓vcPre, ↓s_get, ↓reduceIte, vcPost, vcStd, Store.set_set, s_arr, s_setL, s_fold, swp_size, Nat.le_refl, Nat.zero_add, Array.size_setIfInBounds, Nat.reduceEqDiff, reduceCtorEq, Nat.reduceAdd, Nat.reduceLeDiff, Int.reduceLT, Int.reduceLE, ↓u_setN]
              refine NextQ.to (a1, mid, lm, decide ((b1 - a1) / 8 ≤ b1 - mid), ap, D) ?_ ?_ ?_ ?_
              · simp only [Int.ofNat_le]
              · exact Store.sub_refl _
              · simp only; omega
              · exact ⟨k5, by simp only; omega, by simp only; omega, by simp only; omega, by simp only; omega, g6⟩
        · rw [if_pos rfl] at g6
          have f6 : IntKind.i64.wrap ((b1 : Int) - 1) = ((b1 - 1 : Nat) : Int) := wI (by omega) (by omega)
          have f7 : IntKind.i64.wrap ((p : Int) - a1) = ((p - a1 : Nat) : Int) := wI (by omega) (by omega)
          have f8 : IntKind.i64.wrap (((b1 - 1 : Nat) : Int) - ((p - a1 : Nat) : Int)) = ((b1 - 1 - (p - a1) : Nat) : Int) := wI (by omega) (by omega)
          simp only [hk, tk, sp, k1, eL, e1, ↓vcPre, ↓s_get, ↓reduceIte, vcPost, vcStd, Store.set_set, s_arr, s_setL, s_fold, swp_size, Nat.le_refl, Nat.zero_add, Array.size_setIfInBounds, Nat.reduceEqDiff, reduceCtorEq, Nat.reduceAdd, Nat.reduceLeDiff, Int.reduceLT, Int.reduceLE, ↓u_setN]
          have h74 := s74 hc d2 a1 b1 g2 (by omega) (by omega) σ id
          rw [k1] at h74
          refine h74.Q ?_
          intro r s hrs
          have hr1 := hrs.1
          have hs1 := hrs.2
          clear hrs
          subst hr1
          subst hs1
          obtain ⟨d3, hd3⟩ : ∃ x, x = reverseRange d2 a1 b1 := ⟨_, rfl⟩
          rw [← hd3] at g6 ⊢
          have k3 : d3.size = n := by rw [hd3, reverseRange, reverseLoop_size]; exact k1
          simp only [hk, tk, sp, k3, eL, e1, f6, f7, f8, ↓vcPre, ↓s_get, ↓reduceIte, vcPost, vcStd, Store.set_set, s_arr, s_setL, s_fold, swp_size, Nat.le_refl, Nat.zero_add, Array.size_setIfInBounds, Nat.reduceEqDiff, reduceCtorEq, Nat.reduceAdd, Nat.reduceLeDiff, Int.reduceLT, Int.reduceLE, ↓u_setN]
          have pw1 : a1 ≤ b1 - 1 - (p - a1) := by omega
          have pw2 : b1 - 1 - (p - a1) < b1 := by omega
          generalize b1 - 1 - (p - a1) = p at *
          rw [pdqB, if_neg (by simp)] at g6
          rw [pdqC] at g6
          refine ⟨fun c1 => ?_, fun c1 => ?_⟩
          · have f1 : IntKind.i64.wrap ((a1 : Int) - 1) = ((a1 - 1 : Nat) : Int) := wI (by omega) (by omega)
            simp only [f1, Int.toNat_natCast]
            and_intros <;> try omega
            refine (hc.call _ _).Q ?_
            simp only [hk, tk, sp, k3, eL, e1, f1, ↓vcPre, ↓s_get, ↓reduceIte, vcPost, vcStd, Store.set_set, s_arr, s_setL, s_fold, swp_size, Nat.le_refl, Nat.zero_add, Array.size_setIfInBounds, Nat.reduceEqDiff, reduceCtorEq, Nat.reduceAdd, Nat.reduceLeDiff, Int.reduceLT, Int.reduceLE, ↓u_setN]
            refine ⟨fun c2 => ?_, fun c2 => ?_⟩
            · have hlt : ltC cf d3[a1 - 1]! d3[p]! = false := decide_eq_false c2
              rw [if_pos (by simp [hlt]; omega)] at g6
              have h76 := s76 hc d3 a1 b1 p pw1 pw2 (by omega) (by omega) σ id
              rw [k3] at h76
              refine h76.Q ?_
              rintro r s ⟨rfl, rfl⟩
              obtain ⟨r1, r2⟩ := partitionEqual_range (ltC cf) d3 a1 b1 p (by omega)
              have r3 := partitionEqual_size (ltC cf) d3 a1 b1 p
              clear h76
              generalize partitionEqual (ltC cf) d3 a1 b1 p = R at *
              obtain ⟨mid, d4⟩ := R
              simp only at r1 r2 r3 g6
              rw [if_pos ⟨r1, r2⟩] at g6
              simp only [hk, tk, sp, k3, eL, e1, f1, ↓vcPre, ↓s_get, ↓reduceIte, vcPost, vcStd, Store.set_set, s_arr, s_setL, s_fold, swp_size, Nat.le_refl, Nat.zero_add, Array.size_setIfInBounds, Nat.reduceEqDiff, reduceCtorEq, Nat.reduceAdd, Nat.reduceLeDiff, Int.reduceLT, Int.reduceLE, ↓u_setN]
              refine NextQ.to (mid, b1, lm, true, false, d4) ?_ ?_ ?_ ?_
              · rfl
              · exact Store.sub_refl _
              · simp only; omega
              · exact ⟨by simp only; omega, by simp only; omega, g3, by simp only; omega, by simp only; omega, g6⟩
            · have hlt : ltC cf d3[a1 - 1]! d3[p]! = true := decide_eq_true (by omega)
              rw [if_neg (by simp [hlt])] at g6
              have hP := s77 hc d3 a1 b1 p pw1 pw2 (by omega) (by omega) σ id
              rw [k3] at hP
              refine hP.Q ?_
              rintro r s ⟨rfl, rfl⟩
              obtain ⟨r1, r2, r3, _⟩ := partition_holds (ltC cf) hO d3 a1 b1 p pw1 pw2 (by omega)
              clear hP
              generalize partition (ltC cf) d3 a1 b1 p = R at *
              obtain ⟨mid, ap, d4⟩ := R
              simp only at r1 r2 r3 g6
              have k4 : d4.size = n := by rw [r3.1]; exact k3
              rw [if_pos ⟨r1, r2⟩] at g6
              have f2 : IntKind.i64.wrap ((mid : Int) - a1) = ((mid - a1 : Nat) : Int) := wI (by omega) (by omega)
              have f3 : IntKind.i64.wrap ((b1 : Int) - mid) = ((b1 - mid : Nat) : Int) := wI (by omega) (by omega)
              have f4 : IntKind.i64.wrap ((mid : Int) + 1) = ((mid + 1 : Nat) : Int) := wI (by omega) (by omega)
              have f5 : IntKind.i64.wrap (((b1 - a1 : Nat) : Int).tdiv 8) = (((b1 - a1) / 8 : Nat) : Int) := wI (by rw [Int.tdiv_eq_ediv_of_nonneg (by omega)]; omega) (by omega)
              simp only [hk, tk, sp, k4, eL, e1, f2, f3, f4, f5, ↓vcPre, ↓s_get, ↓reduceIte, vcPost, vcStd, Store.set_set, s_arr, s_setL, s_fold, swp_size, Nat.le_refl, Nat.zero_add, Array.size_setIfInBounds, Nat.reduceEqDiff, reduceCtorEq, Nat.reduceAdd, Nat.reduceLeDiff, Int.reduceLT, Int.reduceLE, ↓u_setN]
              refine ⟨by omega, fun z => ?_, fun z => ?_⟩
              · rw [if_pos (by omega)] at g6
                have hI := ih d4 a1 mid lm k4 (by omega) (by omega) (by omega) (by omega)
                have k5 : (pdq (ltC cf) d4 a1 mid lm true true).size = n := by rw [pdq_size _ hO _ _ _ _ _ _ _ (Nat.lt_succ_self _) (by omega) (by omega)]; exact k4
                generalize pdq (ltC cf) d4 a1 mid lm true true = D at hI k5 g6
                refine hI.Q ?_
                intro r s hrs
                have hr1 := hrs.1
                have hs1 := hrs.2
                clear hrs
                subst hr1
                subst hs1
                simp only [hk, tk, sp, k5, eL, e1, f2, f3, f4, f5, ↓vcPre, ↓s_get, ↓reduceIte, vcPost, vcStd, Store.set_set, s_arr, s_setL, s_fold, swp_size, Nat.le_refl, Nat.zero_add, Array.size_setIfInBounds, Nat.reduceEqDiff, reduceCtorEq, Nat.reduceAdd, Nat.reduceLeDiff, Int.reduceLT, Int.reduceLE, ↓u_setN]
                refine NextQ.to (mid + 1, b1, lm, decide ((b1 - a1) / 8 ≤ mid - a1), ap, D) ?_ ?_ ?_ ?_
                · simp only [Int.ofNat_le]
                · exact Store.sub_refl _
                · simp only; omega
                · exact ⟨k5, by simp only; omega, g3, by simp only; omega, by simp only; omega, g6⟩
              · rw [if_neg (by omega)] at g6
                have hI := ih d4 (mid + 1) b1 lm k4 (by omega) (by omega) (by omega) (by omega)
                have k5 : (pdq (ltC cf) d4 (mid + 1) b1 lm true true).size = n := by rw [pdq_size _ hO _ _ _ _ _ _ _ (Nat.lt_succ_self _) (by omega) (by omega)]; exact k4
                generalize pdq (ltC cf) d4 (mid + 1) b1 lm true true = D at hI k5 g6
                refine hI.Q ?_
                intro r s hrs
                have hr1 := hrs.1
                have hs1 := hrs.2
                clear hrs
                subst hr1
                subst hs1
                simp only [hk, tk, sp, k5, eL, e1, f2, f3, f4, f5, ↓vcPre, ↓s_get, ↓reduceIte, vcPost, vcStd, Store.set_set, s_arr, s_setL, s_fold, swp_size, Nat.le_refl, Nat.zero_add, Array.size_setIfInBounds, Nat.reduceEqDiff, reduceCtorEq, Nat.reduceAdd, Nat.reduceLeDiff, Int.reduceLT, Int.reduceLE, ↓u_setN]
                refine NextQ.to (a1, mid, lm, decide ((b1 - a1) / 8 ≤ b1 - mid), ap, D) ?_ ?_ ?_ ?_
                · simp only [Int.ofNat_le]
                · exact Store.sub_refl _
                · simp only; omega
                · exact ⟨k5, by simp only; omega, by simp only; omega, by simp only; omega, by simp only; omega, g6⟩
          · rw [if_neg (by simp; omega)] at g6
            have hP := s77 hc d3 a1 b1 p pw1 pw2 (by omega) (by omega) σ id
            rw [k3] at hP
            refine hP.Q ?_
            rintro r s ⟨rfl, rfl⟩
            obtain ⟨r1, r2, r3, _⟩ := partition_holds (ltC cf) hO d3 a1 b1 p pw1 pw2 (by omega)
            clear hP
            generalize partition (ltC cf) d3 a1 b1 p = R at *
            obtain ⟨mid, ap, d4⟩ := R
            simp only at r1 r2 r3 g6
            have k4 : d4.size = n := by rw [r3.1]; exact k3
            rw [if_pos ⟨r1, r2⟩] at g6
            have f2 : IntKind.i64.wrap ((mid : Int) - a1) = ((mid - a1 : Nat) : Int) := wI (by omega) (by omega)
            have f3 : IntKind.i64.wrap ((b1 : Int) - mid) = ((b1 - mid : Nat) : Int) := wI (by omega) (by omega)
            have f4 : IntKind.i64.wrap ((mid : Int) + 1) = ((mid + 1 : Nat) : Int) := wI (by omega) (by omega)
            have f5 : IntKind.i64.wrap (((b1 - a1 : Nat) : Int).tdiv 8) = (((b1 - a1) / 8 : Nat) : Int) := wI (by rw [Int.tdiv_eq_ediv_of_nonneg (by omega)]; omega) (by omega)
            simp only [hk, tk, sp, k4, eL, e1, f2, f3, f4, f5, ↓vcPre, ↓s_get, ↓reduceIte, vcPost, vcStd, Store.set_set, s_arr, s_setL, s_fold, swp_size, Nat.le_refl, Nat.zero_add, Array.size_setIfInBounds, Nat.reduceEqDiff, reduceCtorEq, Nat.reduceAdd, Nat.reduceLeDiff, Int.reduceLT, Int.reduceLE, ↓u_setN]
            refine ⟨by omega, fun z => ?_, fun z => ?_⟩
            · rw [if_pos (by omega)] at g6
              have hI := ih d4 a1 mid lm k4 (by omega) (by omega) (by omega) (by omega)
              have k5 : (pdq (ltC cf) d4 a1 mid lm true true).size = n := by rw [pdq_size _ hO _ _ _ _ _ _ _ (Nat.lt_succ_self _) (by omega) (by omega)]; exact k4
              generalize pdq (ltC cf) d4 a1 mid lm true true = D at hI k5 g6
              refine hI.Q ?_
              intro r s hrs
              have hr1 := hrs.1
              have hs1 := hrs.2
              clear hrs
              subst hr1
              subst hs1
              simp only [hk, tk, sp, k5, eL, e1, f2, f3, f4, f5, ↓vcPre, ↓s_get, ↓reduceIte, vcPost, vcStd, Store.set_set, s_arr, s_setL, s_fold, swp_size, Nat.le_refl, Nat.zero_add, Array.size_setIfInBounds, Nat.reduceEqDiff, reduceCtorEq, Nat.reduceAdd, Nat.reduceLeDiff, Int.reduceLT, Int.reduceLE, ↓u_setN]
              refine NextQ.to (mid + 1, b1, lm, decide ((b1 - a1) / 8 ≤ mid - a1), ap, D) ?_ ?_ ?_ ?_
              · simp only [Int.ofNat_le]
              · exact Store.sub_refl _
              · simp only; omega
              · exact ⟨k5, by simp only; omega, g3, by simp only; omega, by simp only; omega, g6⟩
            · rw [if_neg (by omega)] at g6
              have hI := ih d4 (mid + 1) b1 lm k4 (by omega) (by omega) (by omega) (by omega)
              have k5 : (pdq (ltC cf) d4 (mid + 1) b1 lm true true).size = n := by rw [pdq_size _ hO _ _ _ _ _ _ _ (Nat.lt_succ_self _) (by omega) (by omega)]; exact k4
              generalize pdq (ltC cf) d4 (mid + 1) b1 lm true true = D at hI k5 g6
              refine hI.Q ?_
              intro r s hrs
              have hr1 := hrs.1
              have hs1 := hrs.2
              clear hrs
              subst hr1
              subst hs1
              simp only [hk, tk, sp, k5, eL, e1, f2, f3, f4, f5, ↓vcPre, ↓s_get, ↓reduceIte, vcPost, vcStd, Store.set_set, s_arr, s_setL, s_fold, swp_size, Nat.le_refl, Nat.zero_add, Array.size_setIfInBounds, Nat.reduceEqDiff, reduceCtorEq, Nat.reduceAdd, Nat.reduceLeDiff, Int.reduceLT, Int.reduceLE, ↓u_setN]
              refine NextQ.to (a1, mid, lm, decide ((b1 - a1) / 8 ≤ b1 - mid), ap, D) ?_ ?_ ?_ ?_
              · simp only [Int.ofNat_le]
              · exact Store.sub_refl _
              · simp only; omega
              · exact ⟨k5, by simp only; omega, by simp only; omega, by simp only; omega, by simp only; omega, g6⟩
      · have hA := s73 hc d2 a1 b1 (by omega) (by omega) (by omega) σ id
        rw [k1] at hA
        refine hA.Q ?_
        rintro r s ⟨rfl, rfl⟩
        obtain ⟨pv1, pv2⟩ := choosePivot_holds (ltC cf) d2 a1 b1 (by omega)
        rw [pdqA] at g6
        clear hA
        generalize choosePivot (ltC cf) d2 a1 b1 = R at *
        obtain ⟨p, hh⟩ := R
        simp only at pv1 pv2 g6
        cases hh
        · rw [if_neg (by decide)] at g6
          simp only [hk, tk, sp, k1, eL, e1, ↓vcPre, ↓s_get, ↓reduceIte, vcPost, vcStd, Store.set_set, s_arr, s_setL, s_fold, swp_size, Nat.le_refl, Nat.zero_add, Array.size_setIfInBounds, Nat.reduceEqDiff, reduceCtorEq, Nat.reduceAdd, Nat.reduceLeDiff, Int.reduceLT, Int.reduceLE, ↓u_setN]
          refine ⟨fun z => (by exfalso; omega), fun _ => ?_⟩
          obtain ⟨d3, hd3⟩ : ∃ x, x = d2 := ⟨_, rfl⟩
          rw [← hd3] at g6 ⊢
          have k3 : d3.size = n := by rw [hd3]; exact k1
          have pw1 := pv1
          have pw2 := pv2
          rw [pdqB, if_neg (by simp)] at g6
          refine ⟨fun z => (by exfalso; omega), fun _ => ?_⟩
          rw [pdqC] at g6
          refine ⟨fun c1 => ?_, fun c1 => ?_⟩
          · have f1 : IntKind.i64.wrap ((a1 : Int) - 1) = ((a1 - 1 : Nat) : Int) := wI (by omega) (by omega)
            simp only [f1, Int.toNat_natCast]
            and_intros <;> try omega
            refine (hc.call _ _).Q ?_
            simp only [hk, tk, sp, k3, eL, e1, f1, ↓vcPre, ↓s_get, ↓reduceIte, vcPost, vcStd, Store.set_set, s_arr, s_setL, s_fold, swp_size, Nat.le_refl, Nat.zero_add, Array.size_setIfInBounds, Nat.reduceEqDiff, reduceCtorEq, Nat.reduceAdd, Nat.reduceLeDiff, Int.reduceLT, Int.reduceLE, ↓u_setN]
            refine ⟨fun c2 => ?_, fun c2 => ?_⟩
            · have hlt : ltC cf d3[a1 - 1]! d3[p]! = false := decide_eq_false c2
              rw [if_pos (by simp [hlt]; omega)] at g6
              have h76 := s76 hc d3 a1 b1 p pw1 pw2 (by omega) (by omega) σ id
              rw [k3] at h76
              refine h76.Q ?_
              rintro r s ⟨rfl, rfl⟩
              obtain ⟨r1, r2⟩ := partitionEqual_range (ltC cf) d3 a1 b1 p (by omega)
              have r3 := partitionEqual_size (ltC cf) d3 a1 b1 p
              clear h76
              generalize partitionEqual (ltC cf) d3 a1 b1 p = R at *
              obtain ⟨mid, d4⟩ := R
              simp only at r1 r2 r3 g6
              rw [if_pos ⟨r1, r2⟩] at g6
              simp only [hk, tk, sp, k3, eL, e1, f1, ↓vcPre, ↓s_get, ↓reduceIte, vcPost, vcStd, Store.set_set, s_arr, s_setL, s_fold, swp_size, Nat.le_refl, Nat.zero_add, Array.size_setIfInBounds, Nat.reduceEqDiff, reduceCtorEq, Nat.reduceAdd, Nat.reduceLeDiff, Int.reduceLT, Int.reduceLE, ↓u_setN]
              refine NextQ.to (mid, b1, lm, true, true, d4) ?_ ?_ ?_ ?_
              · rfl
              · exact Store.sub_refl _
              · simp only; omega
              · exact ⟨by simp only; omega, by simp only; omega, g3, by simp only; omega, by simp only; omega, g6⟩
            · have hlt : ltC cf d3[a1 - 1]! d3[p]! = true := decide_eq_true (by omega)
              rw [if_neg (by simp [hlt])] at g6
              have hP := s77 hc d3 a1 b1 p pw1 pw2 (by omega) (by omega) σ id
              rw [k3] at hP
              refine hP.Q ?_
              rintro r s ⟨rfl, rfl⟩
              obtain ⟨r1, r2, r3, _⟩ := partition_holds (ltC cf) hO d3 a1 b1 p pw1 pw2 (by omega)
              clear hP
              generalize partition (ltC cf) d3 a1 b1 p = R at *
              obtain ⟨mid, ap, d4⟩ := R
              simp only at r1 r2 r3 g6
              have k4 : d4.size = n := by rw [r3.1]; exact k3
              rw [if_pos ⟨r1, r2⟩] at g6
              have f2 : IntKind.i64.wrap ((mid : Int) - a1) = ((mid - a1 : Nat) : Int) := wI (by omega) (by omega)
              have f3 : IntKind.i64.wrap ((b1 : Int) - mid) = ((b1 - mid : Nat) : Int) := wI (by omega) (by omega)
              have f4 : IntKind.i64.wrap ((mid : Int) + 1) = ((mid + 1 : Nat) : Int) := wI (by omega) (by omega)
              have f5 : IntKind.i64.wrap (((b1 - a1 : Nat) : Int).tdiv 8) = (((b1 - a1) / 8 : Nat) : Int) := wI (by rw [Int.tdiv_eq_ediv_of_nonneg (by omega)]; omega) (by omega)
              simp only [hk, tk, sp, k4, eL, e1, f2, f3, f4, f5, ↓vcPre, ↓s_get, ↓reduceIte, vcPost, vcStd, Store.set_set, s_arr, s_setL, s_fold, swp_size, Nat.le_refl, Nat.zero_add, Array.size_setIfInBounds, Nat.reduceEqDiff, reduceCtorEq, Nat.reduceAdd, Nat.reduceLeDiff, Int.reduceLT, Int.reduceLE, ↓u_setN]
              refine ⟨by omega, fun z => ?_, fun z => ?_⟩
              · rw [if_pos (by omega)] at g6
                have hI := ih d4 a1 mid lm k4 (by omega) (by omega) (by omega) (by omega)
                have k5 : (pdq (ltC cf) d4 a1 mid lm true true).size = n := by rw [pdq_size _ hO _ _ _ _ _ _ _ (Nat.lt_succ_self _) (by omega) (by omega)]; exact k4
                generalize pdq (ltC cf) d4 a1 mid lm true true = D at hI k5 g6
                refine hI.Q ?_
                intro r s hrs
                have hr1 := hrs.1
                have hs1 := hrs.2
                clear hrs
                subst hr1
                subst hs1
                simp only [hk, tk, sp, k5, eL, e1, f2, f3, f4, f5, ↓vcPre, ↓s_get, ↓reduceIte, vcPost, vcStd, Store.set_set, s_arr, s_setL, s_fold, swp_size, Nat.le_refl, Nat.zero_add, Array.size_setIfInBounds, Nat.reduceEqDiff, reduceCtorEq, Nat.reduceAdd, Nat.reduceLeDiff, Int.reduceLT, Int.reduceLE, ↓u_setN]
                refine NextQ.to (mid + 1, b1, lm, decide ((b1 - a1) / 8 ≤ mid - a1), ap, D) ?_ ?_ ?_ ?_
                · simp only [Int.ofNat_le]
                · exact Store.sub_refl _
                · simp only; omega
                · exact ⟨k5, by simp only; omega, g3, by simp only; omega, by simp only; omega, g6⟩
              · rw [if_neg (by omega)] at g6
                have hI := ih d4 (mid + 1) b1 lm k4 (by omega) (by omega) (by omega) (by omega)
                have k5 : (pdq (ltC cf) d4 (mid + 1) b1 lm true true).size = n := by rw [pdq_size _ hO _ _ _ _ _ _ _ (Nat.lt_succ_self _) (by omega) (by omega)]; exact k4
                generalize pdq (ltC cf) d4 (mid + 1) b1 lm true true = D at hI k5 g6
                refine hI.Q ?_
                intro r s hrs
                have hr1 := hrs.1
                have hs1 := hrs.2
                clear hrs
                subst hr1
                subst hs1
                simp only [hk, tk, sp, k5, eL, e1, f2, f3, f4, f5, ↓vcPre, ↓s_get, ↓reduceIte, vcPost, vcStd, Store.set_set, s_arr, s_setL, s_fold, swp_size, Nat.le_refl, Nat.zero_add, Array.size_setIfInBounds, Nat.reduceEqDiff, reduceCtorEq, Nat.reduceAdd, Nat.reduceLeDiff, Int.reduceLT, Int.reduceLE, ↓u_setN]
                refine NextQ.to (a1, mid, lm, decide ((b1 - a1) / 8 ≤ b1 - mid), ap, D) ?_ ?_ ?_ ?_
                · simp only [Int.ofNat_le]
                · exact Store.sub_refl _
                · simp only; omega
                · exact ⟨k5, by simp only; omega, by simp only; omega, by simp only; omega, by simp only; omega, g6⟩
          · rw [if_neg (by simp; omega)] at g6
            have hP := s77 hc d3 a1 b1 p pw1 pw2 (by omega) (by omega) σ id
            rw [k3] at hP
            refine hP.Q ?_
            rintro r s ⟨rfl, rfl⟩
            obtain ⟨r1, r2, r3, _⟩ := partition_holds (ltC cf) hO d3 a1 b1 p pw1 pw2 (by omega)
            clear hP
            generalize partition (ltC cf) d3 a1 b1 p = R at *
            obtain ⟨mid, ap, d4⟩ := R
            simp only at r1 r2 r3 g6
            have k4 : d4.size = n := by rw [r3.1]; exact k3
            rw [if_pos ⟨r1, r2⟩] at g6
            have f2 : IntKind.i64.wrap ((mid : Int) - a1) = ((mid - a1 : Nat) : Int) := wI (by omega) (by omega)
            have f3 : IntKind.i64.wrap ((b1 : Int) - mid) = ((b1 - mid : Nat) : Int) := wI (by omega) (by omega)
            have f4 : IntKind.i64.wrap ((mid : Int) + 1) = ((mid + 1 : Nat) : Int) := wI (by omega) (by omega)
            have f5 : IntKind.i64.wrap (((b1 - a1 : Nat) : Int).tdiv 8) = (((b1 - a1) / 8 : Nat) : Int) := wI (by rw [Int.tdiv_eq_ediv_of_nonneg (by omega)]; omega) (by omega)
            simp only [hk, tk, sp, k4, eL, e1, f2, f3, f4, f5, ↓vcPre, ↓s_get, ↓reduceIte, vcPost, vcStd, Store.set_set, s_arr, s_setL, s_fold, swp_size, Nat.le_refl, Nat.zero_add, Array.size_setIfInBounds, Nat.reduceEqDiff, reduceCtorEq, Nat.reduceAdd, Nat.reduceLeDiff, Int.reduceLT, Int.reduceLE, ↓u_setN]
            refine ⟨by omega, fun z => ?_, fun z => ?_⟩
            · rw [if_pos (by omega)] at g6
              have hI := ih d4 a1 mid lm k4 (by omega) (by omega) (by omega) (by omega)
              have k5 : (pdq (ltC cf) d4 a1 mid lm true true).size = n := by rw [pdq_size _ hO _ _ _ _ _ _ _ (Nat.lt_succ_self _) (by omega) (by omega)]; exact k4
              generalize pdq (ltC cf) d4 a1 mid lm true true = D at hI k5 g6
              refine hI.Q ?_
              intro r s hrs
              have hr1 := hrs.1
              have hs1 := hrs.2
              clear hrs
              subst hr1
              subst hs1
              simp only [hk, tk, sp, k5, eL, e1, f2, f3, f4, f5, ↓vcPre, ↓s_get, ↓reduceIte, vcPost, vcStd, Store.set_set, s_arr, s_setL, s_fold, swp_size, Nat.le_refl, Nat.zero_add, Array.size_setIfInBounds, Nat.reduceEqDiff, reduceCtorEq, Nat.reduceAdd, Nat.reduceLeDiff, Int.reduceLT, Int.reduceLE, ↓u_setN]
              refine NextQ.to (mid + 1, b1, lm, decide ((b1 - a1) / 8 ≤ mid - a1), ap, D) ?_ ?_ ?_ ?_
              · simp only [Int.ofNat_le]
              · exact Store.sub_refl _
              · simp only; omega
              · exact ⟨k5, by simp only; omega, g3, by simp only; omega, by simp only; omega, g6⟩
            · rw [if_neg (by omega)] at g6
              have hI := ih d4 (mid + 1) b1 lm k4 (by omega) (by omega) (by omega) (by omega)
              have k5 : (pdq (ltC cf) d4 (mid + 1) b1 lm true true).size = n := by rw [pdq_size _ hO _ _ _ _ _ _ _ (Nat.lt_succ_self _) (by omega) (by omega)]; exact k4
              generalize pdq (ltC cf) d4 (mid + 1) b1 lm true true = D at hI k5 g6
              refine hI.Q ?_
              intro r s hrs
              have hr1 := hrs.1
              have hs1 := hrs.2
              clear hrs
              subst hr1
              subst hs1
              simp only [hk, tk, sp, k5, eL, e1, f2, f3, f4, f5, ↓vcPre, ↓s_get, ↓reduceIte, vcPost, vcStd, Store.set_set, s_arr, s_setL, s_fold, swp_size, Nat.le_refl, Nat.zero_add, Array.size_setIfInBounds, Nat.reduceEqDiff, reduceCtorEq, Nat.reduceAdd, Nat.reduceLeDiff, Int.reduceLT, Int.reduceLE, ↓u_setN]
              refine NextQ.to (a1, mid, lm, decide ((b1 - a1) / 8 ≤ b1 - mid), ap, D) ?_ ?_ ?_ ?_
              · simp only [Int.ofNat_le]
              · exact Store.sub_refl _
              · simp only; omega
              · exact ⟨k5, by simp only; omega, by simp only; omega, by simp only; omega, by simp only; omega, g6⟩
        · rw [if_neg (by decide)] at g6
          simp only [hk, tk, sp, k1, eL, e1, ↓vcPre, ↓s_get, ↓reduceIte, vcPost, vcStd, Store.set_set, s_arr, s_setL, s_fold, swp_size, Nat.le_refl, Nat.zero_add, Array.size_setIfInBounds, Nat.reduceEqDiff, reduceCtorEq, Nat.reduceAdd, Nat.reduceLeDiff, Int.reduceLT, Int.reduceLE, ↓u_setN]
          refine ⟨fun z => (by exfalso; omega), fun _ => ?_⟩
          obtain ⟨d3, hd3⟩ : ∃ x, x = d2 := ⟨_, rfl⟩
          rw [← hd3] at g6 ⊢
          have k3 : d3.size = n := by rw [hd3]; exact k1
          have pw1 := pv1
          have pw2 := pv2
          rw [pdqB, if_pos (by simp)] at g6
          have h75 := s75 hc d3 a1 b1 (by omega) (by omega) (by omega) σ id
          have k7 : (partialInsertionSort (ltC cf) d3 a1 b1).1.size = n := by rw [partialInsertionSort, partialIns_size]; exact k3
          rw [k3] at h75
          generalize partialInsertionSort (ltC cf) d3 a1 b1 = R at h75 k7 g6
          refine h75.Q ?_
          intro r s hrs
          have hr1 := hrs.1
          have hs1 := hrs.2
          clear hrs
          subst hr1
          subst hs1
          clear h75
          obtain ⟨d3, pb⟩ := R
          have k3 : d3.size = n := k7
          simp only at g6
          cases pb
          · rw [if_neg (by simp)] at g6
            simp only [hk, tk, sp, k3, eL, e1, ↓vcPre, ↓s_get, ↓reduceIte, vcPost, vcStd, Store.set_set, s_arr, s_setL, s_fold, swp_size, Nat.le_refl, Nat.zero_add, Array.size_setIfInBounds, Nat.reduceEqDiff, reduceCtorEq, Nat.reduceAdd, Nat.reduceLeDiff, Int.reduceLT, Int.reduceLE, ↓u_setN]
            rw [pdqC] at g6
            refine ⟨fun c1 => ?_, fun c1 => ?_⟩
            · have f1 : IntKind.i64.wrap ((a1 : Int) - 1) = ((a1 - 1 : Nat) : Int) := wI (by omega) (by omega)
              simp only [f1, Int.toNat_natCast]
              and_intros <;> try omega
              refine (hc.call _ _).Q ?_
              simp only [hk, tk, sp, k3, eL, e1, f1, ↓vcPre, ↓s_get, ↓reduceIte, vcPost, vcStd, Store.set_set, s_arr, s_setL, s_fold, swp_size, Nat.le_refl, Nat.zero_add, Array.size_setIfInBounds, Nat.reduceEqDiff, reduceCtorEq, Nat.reduceAdd, Nat.reduceLeDiff, Int.reduceLT, Int.reduceLE, ↓u_setN]
              refine ⟨fun c2 => ?_, fun c2 => ?_⟩
              · have hlt : ltC cf d3[a1 - 1]! d3[p]! = false := decide_eq_false c2
                rw [if_pos (by simp [hlt]; omega)] at g6
                have h76 := s76 hc d3 a1 b1 p pw1 pw2 (by omega) (by omega) σ id
                rw [k3] at h76
                refine h76.Q ?_
                rintro r s ⟨rfl, rfl⟩
                obtain ⟨r1, r2⟩ := partitionEqual_range (ltC cf) d3 a1 b1 p (by omega)
                have r3 := partitionEqual_size (ltC cf) d3 a1 b1 p
                clear h76
                generalize partitionEqual (ltC cf) d3 a1 b1 p = R at *
                obtain ⟨mid, d4⟩ := R
                simp only at r1 r2 r3 g6
                rw [if_pos ⟨r1, r2⟩] at g6
                simp only [hk, tk, sp, k3, eL, e1, f1, ↓vcPre, ↓s_get, ↓reduceIte, vcPost, vcStd, Store.set_set, s_arr, s_setL, s_fold, swp_size, Nat.le_refl, Nat.zero_add, Array.size_setIfInBounds, Nat.reduceEqDiff, reduceCtorEq, Nat.reduceAdd, Nat.reduceLeDiff, Int.reduceLT, Int.reduceLE, ↓u_setN]
                refine NextQ.to (mid, b1, lm, true, true, d4) ?_ ?_ ?_ ?_
                · rfl
                · exact Store.sub_refl _
                · simp only; omega
                · exact ⟨by simp only; omega, by simp only; omega, g3, by simp only; omega, by simp only; omega, g6⟩
              · have hlt : ltC cf d3[a1 - 1]! d3[p]! = true := decide_eq_true (by omega)
                rw [if_neg (by simp [hlt])] at g6
                have hP := s77 hc d3 a1 b1 p pw1 pw2 (by omega) (by omega) σ id
                rw [k3] at hP
                refine hP.Q ?_
                rintro r s ⟨rfl, rfl⟩
                obtain ⟨r1, r2, r3, _⟩ := partition_holds (ltC cf) hO d3 a1 b1 p pw1 pw2 (by omega)
                clear hP
                generalize partition (ltC cf) d3 a1 b1 p = R at *
                obtain ⟨mid, ap, d4⟩ := R
                simp only at r1 r2 r3 g6
                have k4 : d4.size = n := by rw [r3.1]; exact k3
                rw [if_pos ⟨r1, r2⟩] at g6
                have f2 : IntKind.i64.wrap ((mid : Int) - a1) = ((mid - a1 : Nat) : Int) := wI (by omega) (by omega)
                have f3 : IntKind.i64.wrap ((b1 : Int) - mid) = ((b1 - mid : Nat) : Int) := wI (by omega) (by omega)
                have f4 : IntKind.i64.wrap ((mid : Int) + 1) = ((mid + 1 : Nat) : Int) := wI (by omega) (by omega)
                have f5 : IntKind.i64.wrap (((b1 - a1 : Nat) : Int).tdiv 8) = (((b1 - a1) / 8 : Nat) : Int) := wI (by rw [Int.tdiv_eq_ediv_of_nonneg (by omega)]; omega) (by omega)
                simp only [hk, tk, sp, k4, eL, e1, f2, f3, f4, f5, ↓vcPre, ↓s_get, ↓reduceIte, vcPost, vcStd, Store.set_set, s_arr, s_setL, s_fold, swp_size, Nat.le_refl, Nat.zero_add, Array.size_setIfInBounds, Nat.reduceEqDiff, reduceCtorEq, Nat.reduceAdd, Nat.reduceLeDiff, Int.reduceLT, Int.reduceLE, ↓u_setN]
                refine ⟨by omega, fun z => ?_, fun z => ?_⟩
                · rw [if_pos (by omega)] at g6
                  have hI := ih d4 a1 mid lm k4 (by omega) (by omega) (by omega) (by omega)
                  have k5 : (pdq (ltC cf) d4 a1 mid lm true true).size = n := by rw [pdq_size _ hO _ _ _ _ _ _ _ (Nat.lt_succ_self _) (by omega) (by omega)]; exact k4
                  generalize pdq (ltC cf) d4 a1 mid lm true true = D at hI k5 g6
                  refine hI.Q ?_
                  intro r s hrs
                  have hr1 := hrs.1
                  have hs1 := hrs.2
                  clear hrs
                  subst hr1
                  subst hs1
                  simp only [hk, tk, sp, k5, eL, e1, f2, f3, f4, f5, ↓vcPre, ↓s_get, ↓reduceIte, vcPost, vcStd, Store.set_set, s_arr, s_setL, s_fold, swp_size, Nat.le_refl, Nat.zero_add, Array.size_setIfInBounds, Nat.reduceEqDiff, reduceCtorEq, Nat.reduceAdd, Nat.reduceLeDiff, Int.reduceLT, Int.reduceLE, ↓u_setN]
                  refine NextQ.to (mid + 1, b1, lm, decide ((b1 - a1) / 8 ≤ mid - a1), ap, D) ?_ ?_ ?_ ?_
                  · simp only [Int.ofNat_le]
                  · exact Store.sub_refl _
                  · simp only; omega
                  · exact ⟨k5, by simp only; omega, g3, by simp only; omega, by simp only; omega, g6⟩
                · rw [if_neg (by omega)] at g6
                  have hI := ih d4 (mid + 1) b1 lm k4 (by omega) (by omega) (by omega) (by omega)
                  have k5 : (pdq (ltC cf) d4 (mid + 1) b1 lm true true).size = n := by rw [pdq_size _ hO _ _ _ _ _ _ _ (Nat.lt_succ_self _) (by omega) (by omega)]; exact k4
                  generalize pdq (ltC cf) d4 (mid + 1) b1 lm true true = D at hI k5 g6
                  refine hI.Q ?_
                  intro r s hrs
                  have hr1 := hrs.1
                  have hs1 := hrs.2
                  clear hrs
                  subst hr1
                  subst hs1
                  simp only [hk, tk, sp, k5, eL, e1, f2, f3, f4, f5, ↓vcPre, ↓s_get, ↓reduceIte, vcPost, vcStd, Store.set_set, s_arr, s_setL, s_fold, swp_size, Nat.le_refl, Nat.zero_add, Array.size_setIfInBounds, Nat.reduceEqDiff, reduceCtorEq, Nat.reduceAdd, Nat.reduceLeDiff, Int.reduceLT, Int.reduceLE, ↓u_setN]
                  refine NextQ.to (a1, mid, lm, decide ((b1 - a1) / 8 ≤ b1 - mid), ap, D) ?_ ?_ ?_ ?_
                  · simp only [Int.ofNat_le]
                  · exact Store.sub_refl _
                  · simp only; omega
                  · exact ⟨k5, by simp only; omega, by simp only; omega, by simp only; omega, by simp only; omega, g6⟩
            · rw [if_neg (by simp; omega)] at g6
              have hP := s77 hc d3 a1 b1 p pw1 pw2 (by omega) (by omega) σ id
              rw [k3] at hP
              refine hP.Q ?_
              rintro r s ⟨rfl, rfl⟩
              obtain ⟨r1, r2, r3, _⟩ := partition_holds (ltC cf) hO d3 a1 b1 p pw1 pw2 (by omega)
              clear hP
              generalize partition (ltC cf) d3 a1 b1 p = R at *
              obtain ⟨mid, ap, d4⟩ := R
              simp only at r1 r2 r3 g6
              have k4 : d4.size = n := by rw [r3.1]; exact k3
              rw [if_pos ⟨r1, r2⟩] at g6
              have f2 : IntKind.i64.wrap ((mid : Int) - a1) = ((mid - a1 : Nat) : Int) := wI (by omega) (by omega)
              have f3 : IntKind.i64.wrap ((b1 : Int) - mid) = ((b1 - mid : Nat) : Int) := wI (by omega) (by omega)
              have f4 : IntKind.i64.wrap ((mid : Int) + 1) = ((mid + 1 : Nat) : Int) := wI (by omega) (by omega)
              have f5 : IntKind.i64.wrap (((b1 - a1 : Nat) : Int).tdiv 8) = (((b1 - a1) / 8 : Nat) : Int) := wI (by rw [Int.tdiv_eq_ediv_of_nonneg (by omega)]; omega) (by omega)
              simp only [hk, tk, sp, k4, eL, e1, f2, f3, f4, f5, ↓vcPre, ↓s_get, ↓reduceIte, vcPost, vcStd, Store.set_set, s_arr, s_setL, s_fold, swp_size, Nat.le_refl, Nat.zero_add, Array.size_setIfInBounds, Nat.reduceEqDiff, reduceCtorEq, Nat.reduceAdd, Nat.reduceLeDiff, Int.reduceLT, Int.reduceLE, ↓u_setN]
              refine ⟨by omega, fun z => ?_, fun z => ?_⟩
              · rw [if_pos (by omega)] at g6
                have hI := ih d4 a1 mid lm k4 (by omega) (by omega) (by omega) (by omega)
                have k5 : (pdq (ltC cf) d4 a1 mid lm true true).size = n := by rw [pdq_size _ hO _ _ _ _ _ _ _ (Nat.lt_succ_self _) (by omega) (by omega)]; exact k4
                generalize pdq (ltC cf) d4 a1 mid lm true true = D at hI k5 g6
                refine hI.Q ?_
                intro r s hrs
                have hr1 := hrs.1
                have hs1 := hrs.2
                clear hrs
                subst hr1
                subst hs1
                simp only [hk, tk, sp, k5, eL, e1, f2, f3, f4, f5, ↓vcPre, ↓s_get, ↓reduceIte, vcPost, vcStd, Store.set_set, s_arr, s_setL, s_fold, swp_size, Nat.le_refl, Nat.zero_add, Array.size_setIfInBounds, Nat.reduceEqDiff, reduceCtorEq, Nat.reduceAdd, Nat.reduceLeDiff, Int.reduceLT, Int.reduceLE, ↓u_setN]
                refine NextQ.to (mid + 1, b1, lm, decide ((b1 - a1) / 8 ≤ mid - a1), ap, D) ?_ ?_ ?_ ?_
                · simp only [Int.ofNat_le]
                · exact Store.sub_refl _
                · simp only; omega
                · exact ⟨k5, by simp only; omega, g3, by simp only; omega, by simp only; omega, g6⟩
              · rw [if_neg (by omega)] at g6
                have hI := ih d4 (mid + 1) b1 lm k4 (by omega) (by omega) (by omega) (by omega)
                have k5 : (pdq (ltC cf) d4 (mid + 1) b1 lm true true).size = n := by rw [pdq_size _ hO _ _ _ _ _ _ _ (Nat.lt_succ_self _) (by omega) (by omega)]; exact k4
                generalize pdq (ltC cf) d4 (mid + 1) b1 lm true true = D at hI k5 g6
                refine hI.Q ?_
                intro r s hrs
                have hr1 := hrs.1
                have hs1 := hrs.2
                clear hrs
                subst hr1
                subst hs1
                simp only [hk, tk, sp, k5, eL, e1, f2, f3, f4, f5, ↓vcPre, ↓s_get, ↓reduceIte, vcPost, vcStd, Store.set_set, s_arr, s_setL, s_fold, swp_size, Nat.le_refl, Nat.zero_add, Array.size_setIfInBounds, Nat.reduceEqDiff, reduceCtorEq, Nat.reduceAdd, Nat.reduceLeDiff, Int.reduceLT, Int.reduceLE, ↓u_setN]
                refine NextQ.to (a1, mid, lm, decide ((b1 - a1) / 8 ≤ b1 - mid), ap, D) ?_ ?_ ?_ ?_
                · simp only [Int.ofNat_le]
                · exact Store.sub_refl _
                · simp only; omega
                · exact ⟨k5, by simp only; omega, by simp only; omega, by simp only; omega, by simp only; omega, g6⟩
          · rw [if_pos rfl] at g6
            simp only [hk, tk, sp, k3, eL, e1, ↓vcPre, ↓s_get, ↓reduceIte, vcPost, vcStd, Store.set_set, s_arr, s_setL, s_fold, swp_size, Nat.le_refl, Nat.zero_add, Array.size_setIfInBounds, Nat.reduceEqDiff, reduceCtorEq, Nat.reduceAdd, Nat.reduceLeDiff, Int.reduceLT, Int.reduceLE, ↓u_setN]
            exact EndQ.to _ _ rfl (Store.sub_refl _) ⟨rfl, by rw [g6]⟩
        · rw [if_pos rfl] at g6
          have f6 : IntKind.i64.wrap ((b1 : Int) - 1) = ((b1 - 1 : Nat) : Int) := wI (by omega) (by omega)
          have f7 : IntKind.i64.wrap ((p : Int) - a1) = ((p - a1 : Nat) : Int) := wI (by omega) (by omega)
          have f8 : IntKind.i64.wrap (((b1 - 1 : Nat) : Int) - ((p - a1 : Nat) : Int)) = ((b1 - 1 - (p - a1) : Nat) : Int) := wI (by omega) (by omega)
          simp only [hk, tk, sp, k1, eL, e1, ↓vcPre, ↓s_get, ↓reduceIte, vcPost, vcStd, Store.set_set, s_arr, s_setL, s_fold, swp_size, Nat.le_refl, Nat.zero_add, Array.size_setIfInBounds, Nat.reduceEqDiff, reduceCtorEq, Nat.reduceAdd, Nat.reduceLeDiff, Int.reduceLT, Int.reduceLE, ↓u_setN]
          have h74 := s74 hc d2 a1 b1 g2 (by omega) (by omega) σ id
          rw [k1] at h74
          refine h74.Q ?_
          intro r s hrs
          have hr1 := hrs.1
          have hs1 := hrs.2
          clear hrs
          subst hr1
          subst hs1
          obtain ⟨d3, hd3⟩ : ∃ x, x = reverseRange d2 a1 b1 := ⟨_, rfl⟩
          rw [← hd3] at g6 ⊢
          have k3 : d3.size = n := by rw [hd3, reverseRange, reverseLoop_size]; exact k1
          simp only [hk, tk, sp, k3, eL, e1, f6, f7, f8, ↓vcPre, ↓s_get, ↓reduceIte, vcPost, vcStd, Store.set_set, s_arr, s_setL, s_fold, swp_size, Nat.le_refl, Nat.zero_add, Array.size_setIfInBounds, Nat.reduceEqDiff, reduceCtorEq, Nat.reduceAdd, Nat.reduceLeDiff, Int.reduceLT, Int.reduceLE, ↓u_setN]
          have pw1 : a1 ≤ b1 - 1 - (p - a1) := by omega
          have pw2 : b1 - 1 - (p - a1) < b1 := by omega
          generalize b1 - 1 - (p - a1) = p at *
          rw [pdqB, if_pos (by simp)] at g6
          have h75 := s75 hc d3 a1 b1 (by omega) (by omega) (by omega) σ id
          have k7 : (partialInsertionSort (ltC cf) d3 a1 b1).1.size = n := by rw [partialInsertionSort, partialIns_size]; exact k3
          rw [k3] at h75
          generalize partialInsertionSort (ltC cf) d3 a1 b1 = R at h75 k7 g6
          refine h75.Q ?_
          intro r s hrs
          have hr1 := hrs.1
          have hs1 := hrs.2
          clear hrs
          subst hr1
          subst hs1
          clear h75
          obtain ⟨d3, pb⟩ := R
          have k3 : d3.size = n := k7
          simp only at g6
          cases pb
          · rw [if_neg (by simp)] at g6
            simp only [hk, tk, sp, k3, eL, e1, ↓vcPre, ↓s_get, ↓reduceIte, vcPost, vcStd, Store.set_set, s_arr, s_setL, s_fold, swp_size, Nat.le_refl, Nat.zero_add, Array.size_setIfInBounds, Nat.reduceEqDiff, reduceCtorEq, Nat.reduceAdd, Nat.reduceLeDiff, Int.reduceLT, Int.reduceLE, ↓u_setN]
            rw [pdqC] at g6
            refine ⟨fun c1 => ?_, fun c1 => ?_⟩
            · have f1 : IntKind.i64.wrap ((a1 : Int) - 1) = ((a1 - 1 : Nat) : Int) := wI (by omega) (by omega)
              simp only [f1, Int.toNat_natCast]
              and_intros <;> try omega
              refine (hc.call _ _).Q ?_
              simp only [hk, tk, sp, k3, eL, e1, f1, ↓vcPre, ↓s_get, ↓reduceIte, vcPost, vcStd, Store.set_set, s_arr, s_setL, s_fold, swp_size, Nat.le_refl, Nat.zero_add, Array.size_setIfInBounds, Nat.reduceEqDiff, reduceCtorEq, Nat.reduceAdd, Nat.reduceLeDiff, Int.reduceLT, Int.reduceLE, ↓u_setN]
              refine ⟨fun c2 => ?_, fun c2 => ?_⟩
              · have hlt : ltC cf d3[a1 - 1]! d3[p]! = false := decide_eq_false c2
                rw [if_pos (by simp [hlt]; omega)] at g6
                have h76 := s76 hc d3 a1 b1 p pw1 pw2 (by omega) (by omega) σ id
                rw [k3] at h76
                refine h76.Q ?_
                rintro r s ⟨rfl, rfl⟩
                obtain ⟨r1, r2⟩ := partitionEqual_range (ltC cf) d3 a1 b1 p (by omega)
                have r3 := partitionEqual_size (ltC cf) d3 a1 b1 p
                clear h76
                generalize partitionEqual (ltC cf) d3 a1 b1 p = R at *
                obtain ⟨mid, d4⟩ := R
                simp only at r1 r2 r3 g6
                rw [if_pos ⟨r1, r2⟩] at g6
                simp only [hk, tk, sp, k3, eL, e1, f1, ↓vcPre, ↓s_get, ↓reduceIte, vcPost, vcStd, Store.set_set, s_arr, s_setL, s_fold, swp_size, Nat.le_refl, Nat.zero_add, Array.size_setIfInBounds, Nat.reduceEqDiff, reduceCtorEq, Nat.reduceAdd, Nat.reduceLeDiff, Int.reduceLT, Int.reduceLE, ↓u_setN]
                refine NextQ.to (mid, b1, lm, true, true, d4) ?_ ?_ ?_ ?_
                · rfl
                · exact Store.sub_refl _
                · simp only; omega
                · exact ⟨by simp only; omega, by simp only; omega, g3, by simp only; omega, by simp only; omega, g6⟩
              · have hlt : ltC cf d3[a1 - 1]! d3[p]! = true := decide_eq_true (by omega)
                rw [if_neg (by simp [hlt])] at g6
                have hP := s77 hc d3 a1 b1 p pw1 pw2 (by omega) (by omega) σ id
                rw [k3] at hP
                refine hP.Q ?_
                rintro r s ⟨rfl, rfl⟩
                obtain ⟨r1, r2, r3, _⟩ := partition_holds (ltC cf) hO d3 a1 b1 p pw1 pw2 (by omega)
                clear hP
                generalize partition (ltC cf) d3 a1 b1 p = R at *
                obtain ⟨mid, ap, d4⟩ := R
                simp only at r1 r2 r3 g6
                have k4 : d4.size = n := by rw [r3.1]; exact k3
                rw [if_pos ⟨r1, r2⟩] at g6
                have f2 : IntKind.i64.wrap ((mid : Int) - a1) = ((mid - a1 : Nat) : Int) := wI (by omega) (by omega)
                have f3 : IntKind.i64.wrap ((b1 : Int) - mid) = ((b1 - mid : Nat) : Int) := wI (by omega) (by omega)
                have f4 : IntKind.i64.wrap ((mid : Int) + 1) = ((mid + 1 : Nat) : Int) := wI (by omega) (by omega)
                have f5 : IntKind.i64.wrap (((b1 - a1 : Nat) : Int).tdiv 8) = (((b1 - a1) / 8 : Nat) : Int) := wI (by rw [Int.tdiv_eq_ediv_of_nonneg (by omega)]; omega) (by omega)
                simp only [hk, tk, sp, k4, eL, e1, f2, f3, f4, f5, ↓vcPre, ↓s_get, ↓reduceIte, vcPost, vcStd, Store.set_set, s_arr, s_setL, s_fold, swp_size, Nat.le_refl, Nat.zero_add, Array.size_setIfInBounds, Nat.reduceEqDiff, reduceCtorEq, Nat.reduceAdd, Nat.reduceLeDiff, Int.reduceLT, Int.reduceLE, ↓u_setN]
                refine ⟨by omega, fun z => ?_, fun z => ?_⟩
                · rw [if_pos (by omega)] at g6
                  have hI := ih d4 a1 mid lm k4 (by omega) (by omega) (by omega) (by omega)
                  have k5 : (pdq (ltC cf) d4 a1 mid lm true true).size = n := by rw [pdq_size _ hO _ _ _ _ _ _ _ (Nat.lt_succ_self _) (by omega) (by omega)]; exact k4
                  generalize pdq (ltC cf) d4 a1 mid lm true true = D at hI k5 g6
                  refine hI.Q ?_
                  intro r s hrs
                  have hr1 := hrs.1
                  have hs1 := hrs.2
                  clear hrs
                  subst hr1
                  subst hs1
                  simp only [hk, tk, sp, k5, eL, e1, f2, f3, f4, f5, ↓vcPre, ↓s_get, ↓reduceIte, vcPost, vcStd, Store.set_set, s_arr, s_setL, s_fold, swp_size, Nat.le_refl, Nat.zero_add, Array.size_setIfInBounds, Nat.reduceEqDiff, reduceCtorEq, Nat.reduceAdd, Nat.reduceLeDiff, Int.reduceLT, Int.reduceLE, ↓u_setN]
                  refine NextQ.to (mid + 1, b1, lm, decide ((b1 - a1) / 8 ≤ mid - a1), ap, D) ?_ ?_ ?_ ?_
                  · simp only [Int.ofNat_le]
                  · exact Store.sub_refl _
                  · simp only; omega
                  · exact ⟨k5, by simp only; omega, g3, by simp only; omega, by simp only; omega, g6⟩
                · rw [if_neg (by omega)] at g6
                  have hI := ih d4 (mid + 1) b1 lm k4 (by omega) (by omega) (by omega) (by omega)
                  have k5 : (pdq (ltC cf) d4 (mid + 1) b1 lm true true).size = n := by rw [pdq_size _ hO _ _ _ _ _ _ _ (Nat.lt_succ_self _) (by omega) (by omega)]; exact k4
                  generalize pdq (ltC cf) d4 (mid + 1) b1 lm true true = D at hI k5 g6
                  refine hI.Q ?_
                  intro r s hrs
                  have hr1 := hrs.1
                  have hs1 := hrs.2
                  clear hrs
                  subst hr1
                  subst hs1
                  simp only [hk, tk, sp, k5, eL, e1, f2, f3, f4, f5, ↓vcPre, ↓s_get, ↓reduceIte, vcPost, vcStd, Store.set_set, s_arr, s_setL, s_fold, swp_size, Nat.le_refl, Nat.zero_add, Array.size_setIfInBounds, Nat.reduceEqDiff, reduceCtorEq, Nat.reduceAdd, Nat.reduceLeDiff, Int.reduceLT, Int.reduceLE, ↓u_setN]
                  refine NextQ.to (a1, mid, lm, decide ((b1 - a1) / 8 ≤ b1 - mid), ap, D) ?_ ?_ ?_ ?_
                  · simp only [Int.ofNat_le]
                  · exact Store.sub_refl _
                  · simp only; omega
                  · exact ⟨k5, by simp only; omega, by simp only; omega, by simp only; omega, by simp only; omega, g6⟩
            · rw [if_neg (by simp; omega)] at g6
              have hP := s77 hc d3 a1 b1 p pw1 pw2 (by omega) (by omega) σ id
              rw [k3] at hP
              refine hP.Q ?_
              rintro r s ⟨rfl, rfl⟩
              obtain ⟨r1, r2, r3, _⟩ := partition_holds (ltC cf) hO d3 a1 b1 p pw1 pw2 (by omega)
              clear hP
              generalize partition (ltC cf) d3 a1 b1 p = R at *
              obtain ⟨mid, ap, d4⟩ := R
              simp only at r1 r2 r3 g6
              have k4 : d4.size = n := by rw [r3.1]; exact k3
              rw [if_pos ⟨r1, r2⟩] at g6
              have f2 : IntKind.i64.wrap ((mid : Int) - a1) = ((mid - a1 : Nat) : Int) := wI (by omega) (by omega)
              have f3 : IntKind.i64.wrap ((b1 : Int) - mid) = ((b1 - mid : Nat) : Int) := wI (by omega) (by omega)
              have f4 : IntKind.i64.wrap ((mid : Int) + 1) = ((mid + 1 : Nat) : Int) := wI (by omega) (by omega)
              have f5 : IntKind.i64.wrap (((b1 - a1 : Nat) : Int).tdiv 8) = (((b1 - a1) / 8 : Nat) : Int) := wI (by rw [Int.tdiv_eq_ediv_of_nonneg (by omega)]; omega) (by omega)
              simp only [hk, tk, sp, k4, eL, e1, f2, f3, f4, f5, ↓vcPre, ↓s_get, ↓reduceIte, vcPost, vcStd, Store.set_set, s_arr, s_setL, s_fold, swp_size, Nat.le_refl, Nat.zero_add, Array.size_setIfInBounds, Nat.reduceEqDiff, reduceCtorEq, Nat.reduceAdd, Nat.reduceLeDiff, Int.reduceLT, Int.reduceLE, ↓u_setN]
              refine ⟨by omega, fun z => ?_, fun z => ?_⟩
              · rw [if_pos (by omega)] at g6
                have hI := ih d4 a1 mid lm k4 (by omega) (by omega) (by omega) (by omega)
                have k5 : (pdq (ltC cf) d4 a1 mid lm true true).size = n := by rw [pdq_size _ hO _ _ _ _ _ _ _ (Nat.lt_succ_self _) (by omega) (by omega)]; exact k4
                generalize pdq (ltC cf) d4 a1 mid lm true true = D at hI k5 g6
                refine hI.Q ?_
                intro r s hrs
                have hr1 := hrs.1
                have hs1 := hrs.2
                clear hrs
                subst hr1
                subst hs1
                simp only [hk, tk, sp, k5, eL, e1, f2, f3, f4, f5, ↓vcPre, ↓s_get, ↓reduceIte, vcPost, vcStd, Store.set_set, s_arr, s_setL, s_fold, swp_size, Nat.le_refl, Nat.zero_add, Array.size_setIfInBounds, Nat.reduceEqDiff, reduceCtorEq, Nat.reduceAdd, Nat.reduceLeDiff, Int.reduceLT, Int.reduceLE, ↓u_setN]
                refine NextQ.to (mid + 1, b1, lm, decide ((b1 - a1) / 8 ≤ mid - a1), ap, D) ?_ ?_ ?_ ?_
                · simp only [Int.ofNat_le]
                · exact Store.sub_refl _
                · simp only; omega
                · exact ⟨k5, by simp only; omega, g3, by simp only; omega, by simp only; omega, g6⟩
              · rw [if_neg (by omega)] at g6
                have hI := ih d4 (mid + 1) b1 lm k4 (by omega) (by omega) (by omega) (by omega)
                have k5 : (pdq (ltC cf) d4 (mid + 1) b1 lm true true).size = n := by rw [pdq_size _ hO _ _ _ _ _ _ _ (Nat.lt_succ_self _) (by omega) (by omega)]; exact k4
                generalize pdq (ltC cf) d4 (mid + 1) b1 lm true true = D at hI k5 g6
                refine hI.Q ?_
                intro r s hrs
                have hr1 := hrs.1
                have hs1 := hrs.2
                clear hrs
                subst hr1
                subst hs1
                simp only [hk, tk, sp, k5, eL, e1, f2, f3, f4, f5, ↓vcPre, ↓s_get, ↓reduceIte, vcPost, vcStd, Store.set_set, s_arr, s_setL, s_fold, swp_size, Nat.le_refl, Nat.zero_add, Array.size_setIfInBounds, Nat.reduceEqDiff, reduceCtorEq, Nat.reduceAdd, Nat.reduceLeDiff, Int.reduceLT, Int.reduceLE, ↓u_setN]
                refine NextQ.to (a1, mid, lm, decide ((b1 - a1) / 8 ≤ b1 - mid), ap, D) ?_ ?_ ?_ ?_
                · simp only [Int.ofNat_le]
                · exact Store.sub_refl _
                · simp only; omega
                · exact ⟨k5, by simp only; omega, by simp only; omega, by simp only; omega, by simp only; omega, g6⟩
          · rw [if_pos rfl] at g6
            simp only [hk, tk, sp, k3, eL, e1, ↓vcPre, ↓s_get, ↓reduceIte, vcPost, vcStd, Store.set_set, s_arr, s_setL, s_fold, swp_size, Nat.le_refl, Nat.zero_add, Array.size_setIfInBounds, Nat.reduceEqDiff, reduceCtorEq, Nat.reduceAdd, Nat.reduceLeDiff, Int.reduceLT, Int.reduceLE, ↓u_setN]
            exact EndQ.to _ _ rfl (Store.sub_refl _) ⟨rfl, by rw [g6]⟩
end Go.Am

/- S10b -/
namespace Go.Am
open Go.Proofs Go.Sort
section
variable {β : Type} [Inhabited β]
/-- So many rounds are left; t have been made. -/
def bpR (a L M i0 : Nat) : Nat → Nat → UInt64 × Array β → Array β
  | 0, _, st => st.2
  | k + 1, t, st => bpR a L M i0 k (t + 1) (breakStep a L M st (i0 + t))
theorem bp_eq (d : Array β) (a L : Nat) (h8 : 8 ≤ L) : breakPatterns d a (a + L) = bpR a L (1 <<< bitsLen L) (a + L / 4 * 2 - 1) 3 0 (UInt64.ofNat L, d) := by
  unfold breakPatterns
  simp only [Nat.add_sub_cancel_left]
  rw [if_pos h8]
  rfl
theorem bpR_step (a L M i0 t : Nat) (r : UInt64) (d : Array β) (o : Nat) (ht : t < 3) (ho : (if (xorNext r).toNat &&& (M - 1) ≥ L then ((xorNext r).toNat &&& (M - 1)) - L else (xorNext r).toNat &&& (M - 1)) = o) :
    bpR a L M i0 (3 - t) t (r, d) = bpR a L M i0 (3 - (t + 1)) (t + 1) (xorNext r, swp d (i0 + t) (a + o)) := by
  rw [show 3 - t = (3 - (t + 1)) + 1 by omega, bpR]
  unfold breakStep
  simp only [ho]
end
section
variable {β : Type} [Inhabited β] {c : β → List AV} {cf : β → β → Int} {g : Nat} {caps : List AV}
set_option maxRecDepth 20000 in
theorem s72 (hc : Cmp Try.prog g caps 4 c cf) (σ : Store) (id : Nat) (n : Nat) (hs : n < 2305843009213693952) (d : Array β) (a b : Nat) (hd : d.size = n) (hab : a ≤ b) (hb : b ≤ n) :
    ACalls Try.prog 72 [.os id 4 0 n, .int .i64 a, .int .i64 b, .fn g caps] (σ.set id (arrA 4 c d)) (fun r s => r = .tup [] ∧ s = σ.set id (arrA 4 c (breakPatterns d a b))) := by
  refine calls_of Tst.F72 (by simp [Tst.F72, Fn.mk']) ?_
  simp only [Tst.F72, Fn.mk', Tst.b72]
  have hk := hc.hk
  have tk : ∀ x, List.take 4 (c x) = c x := fun x => List.take_of_length_le (by rw [hk]; exact Nat.le_refl _)
  have sp : ∀ x y, splice 0 (c x) (c y) = some (c x) := s_splice hk
  obtain ⟨L, rfl⟩ : ∃ L, b = a + L := ⟨b - a, by omega⟩
  have e1 : IntKind.i64.wrap (((a + L : Nat) : Int) - a) = (L : Int) := wI (by omega) (by omega)
  simp only [hk, tk, sp, hd, e1, ↓vcPre, ↓s_get, ↓reduceIte, vcPost, vcStd, Store.set_set, s_arr, s_setL, s_fold, swp_size, Nat.le_refl, Nat.zero_add, Array.size_setIfInBounds, Nat.reduceEqDiff, reduceCtorEq, Nat.reduceAdd, Nat.reduceLeDiff, Int.reduceLT, Int.reduceLE, ↓u_setN]
  refine ⟨fun h8 => ?_, fun h8 => ?_⟩
  · have h8' : 8 ≤ L := by omega
    have e2 : IntKind.u64.wrap (L : Int) = L := w_u64 (by omega)
    refine AllocQ.i1 fun i hi1 hi2 hi3 => ?_
    simp only [hk, tk, sp, hd, e1, e2, ↓vcPre, ↓s_get, ↓reduceIte, vcPost, vcStd, Store.set_set, s_arr, s_setL, s_fold, swp_size, Nat.le_refl, Nat.zero_add, Array.size_setIfInBounds, Nat.reduceEqDiff, reduceCtorEq, Nat.reduceAdd, Nat.reduceLeDiff, Int.reduceLT, Int.reduceLE, ↓u_setN]
    refine (c86 L (by omega)).Q ?_
    obtain ⟨M, hM⟩ : ∃ M : Nat, M = 1 <<< bitsLen L := ⟨_, rfl⟩
    have hM1 : 1 ≤ M := by rw [hM, Nat.one_shiftLeft]; exact Nat.two_pow_pos _
    have hM2 : M ≤ 2 * L := by rw [hM, Nat.one_shiftLeft]; exact two_pow_bitsLen_le (by omega)
    rw [← hM]
    have q1 : IntKind.i64.wrap ((L : Int).tdiv 4) = ((L / 4 : Nat) : Int) := wI (by rw [Int.tdiv_eq_ediv_of_nonneg (by omega)]; omega) (by omega)
    have q2 : IntKind.i64.wrap (((L / 4 : Nat) : Int) * 2) = ((L / 4 * 2 : Nat) : Int) := wI (by omega) (by omega)
    have q3 : IntKind.i64.wrap ((a : Int) + ((L / 4 * 2 : Nat) : Int)) = ((a + L / 4 * 2 : Nat) : Int) := wI (by omega) (by omega)
    have q4 : IntKind.i64.wrap (((a + L / 4 * 2 : Nat) : Int) - 1) = ((a + L / 4 * 2 - 1 : Nat) : Int) := wI (by omega) (by omega)
    have q5 : IntKind.i64.wrap (((a + L / 4 * 2 : Nat) : Int) + 1) = ((a + L / 4 * 2 + 1 : Nat) : Int) := wI (by omega) (by omega)
    simp only [hk, tk, sp, hd, e1, e2, q1, q2, q3, q4, ↓vcPre, ↓s_get, ↓reduceIte, vcPost, vcStd, Store.set_set, s_arr, s_setL, s_fold, swp_size, Nat.le_refl, Nat.zero_add, Array.size_setIfInBounds, Nat.reduceEqDiff, reduceCtorEq, Nat.reduceAdd, Nat.reduceLeDiff, Int.reduceLT, Int.reduceLE, ↓u_setN]
    obtain ⟨i0, hi0⟩ : ∃ i0, i0 = a + L / 4 * 2 - 1 := ⟨_, rfl⟩
    rw [← hi0]
    have hb0 := bp_eq d a L h8'
    rw [← hM, ← hi0] at hb0
    refine ⟨by decide, ?_⟩
    refine LoopQ.inv (S := Nat × UInt64 × Array β) (fun s => [(0, .os id 4 0 n), (1, .int .i64 a), (8, .int .i64 L), (9, .ptr i 0), (10, .int .u64 M), (11, .int .i64 ((i0 + s.1 : Nat) : Int))])
      (fun s => (σ.set id (arrA 4 c s.2.2)).set i (.box [.int .u64 (s.2.1.toNat : Int)]))
      (fun s => s.1 ≤ 3 ∧ s.2.2.size = n ∧ bpR a L M i0 (3 - s.1) s.1 (s.2.1, s.2.2) = breakPatterns d a (a + L)) (fun s => 3 - s.1) (0, UInt64.ofNat L, d) ?_ ?_ ⟨by simp only; omega, hd, hb0.symm⟩ ?_
    · simp only [Nat.add_zero]
    · simp only [UInt64.toNat_ofNat']
      rw [show L % 2 ^ 64 = L by omega]
      exact Store.sub_refl _
    · rintro ⟨t, r, d1⟩ ⟨h1, h2, h3⟩
      simp only at h1 h2 h3
      simp only [hk, tk, sp, h2, q1, q2, q3, q5, ↓vcPre, ↓s_get, ↓reduceIte, vcPost, vcStd, Store.set_set, s_arr, s_setL, s_fold, swp_size, Nat.le_refl, Nat.zero_add, Array.size_setIfInBounds, Nat.reduceEqDiff, reduceCtorEq, Nat.reduceAdd, Nat.reduceLeDiff, Int.reduceLT, Int.reduceLE, ↓u_setN]
      refine ⟨by decide, fun c1 => ?_, fun c1 => ?_⟩
      · have ht : t < 3 := by omega
        refine (s87 r.toNat (UInt64.toNat_lt r) _ i (by simp [Store.set])).Q ?_
        intro r1 s1 hrs
        have hr1 := hrs.1
        have hs1 := hrs.2
        clear hrs
        subst hr1
        subst hs1
        rw [← xorNext_toNat r]
        obtain ⟨o1, ho1⟩ : ∃ o1, o1 = (xorNext r).toNat &&& (M - 1) := ⟨_, rfl⟩
        have lo1 : o1 ≤ M - 1 := by rw [ho1]; exact Nat.and_le_right
        have u1 : IntKind.u64.wrap ((M : Int) - 1) = ((M - 1 : Nat) : Int) := by rw [show ((M : Int) - 1) = ((M - 1 : Nat) : Int) by omega]; exact w_u64 (by omega)
        have u2 : bitInt .and .u64 (((xorNext r).toNat : Nat) : Int) ((M - 1 : Nat) : Int) = (o1 : Int) := by
          rw [ho1, ← bits_and_u64_nat _ _ (UInt64.toNat_lt _) (by omega)]; rfl
        have u3 : IntKind.i64.wrap (o1 : Int) = o1 := w_i64 (by omega)
        simp only [hk, tk, sp, h2, q1, q2, q3, q5, u1, u2, u3, Store.set_set, ↓vcPre, ↓s_get, ↓reduceIte, vcPost, vcStd, Store.set_set, s_arr, s_setL, s_fold, swp_size, Nat.le_refl, Nat.zero_add, Array.size_setIfInBounds, Nat.reduceEqDiff, reduceCtorEq, Nat.reduceAdd, Nat.reduceLeDiff, Int.reduceLT, Int.reduceLE, ↓u_setN]
        have hrd : ∀ X Y : Obj, ((σ.set id X).set i Y) id = some X := fun X Y => by rw [Store.set_ne _ _ hi2]; simp [Store.set]
        have hst : ∀ X Y Z : Obj, ((σ.set id X).set i Y).set id Z = (σ.set id Z).set i Y := fun X Y Z => by
          rw [Store.set_comm (σ.set id X) Y Z hi1, Store.set_set]
        have w1 : IntKind.i64.wrap (((i0 + t : Nat) : Int) + 1) = ((i0 + (t + 1) : Nat) : Int) := wI (by omega) (by omega)
        have p1 : i0 + t < n := by omega
        refine ⟨fun c2 => ?_, fun c2 => ?_⟩
        · have v1 : IntKind.i64.wrap ((o1 : Int) - L) = ((o1 - L : Nat) : Int) := wI (by omega) (by omega)
          have v2 : IntKind.i64.wrap ((a : Int) + ((o1 - L : Nat) : Int)) = ((a + (o1 - L) : Nat) : Int) := wI (by omega) (by omega)
          have p2 : a + (o1 - L) < n := by omega
          rw [bpR_step a L M i0 t r d1 (o1 - L) ht (by rw [← ho1, if_pos (by omega)])] at h3
          simp only [hk, tk, sp, h2, hrd, hst, v1, v2, w1, ↓vcPre, ↓s_get, ↓reduceIte, vcPost, vcStd, Store.set_set, s_arr, s_setL, s_fold, swp_size, Nat.le_refl, Nat.zero_add, Array.size_setIfInBounds, Nat.reduceEqDiff, reduceCtorEq, Nat.reduceAdd, Nat.reduceLeDiff, Int.reduceLT, Int.reduceLE, ↓u_setN]
          and_intros <;> try omega
          refine NextQ.to (t + 1, xorNext r, swp d1 (i0 + t) (a + (o1 - L))) ?_ ?_ ?_ ?_
          · rfl
          · exact Store.sub_refl _
          · simp only; omega
          · exact ⟨by simp only; omega, by simp only [swp_size]; exact h2, h3⟩
        · have v2 : IntKind.i64.wrap ((a : Int) + (o1 : Int)) = ((a + o1 : Nat) : Int) := wI (by omega) (by omega)
          have p2 : a + o1 < n := by omega
          rw [bpR_step a L M i0 t r d1 o1 ht (by rw [← ho1, if_neg (by omega)])] at h3
          simp only [hk, tk, sp, h2, hrd, hst, v2, w1, ↓vcPre, ↓s_get, ↓reduceIte, vcPost, vcStd, Store.set_set, s_arr, s_setL, s_fold, swp_size, Nat.le_refl, Nat.zero_add, Array.size_setIfInBounds, Nat.reduceEqDiff, reduceCtorEq, Nat.reduceAdd, Nat.reduceLeDiff, Int.reduceLT, Int.reduceLE, ↓u_setN]
          and_intros <;> try omega
          refine NextQ.to (t + 1, xorNext r, swp d1 (i0 + t) (a + o1)) ?_ ?_ ?_ ?_
          · rfl
          · exact Store.sub_refl _
          · simp only; omega
          · exact ⟨by simp only; omega, by simp only [swp_size]; exact h2, h3⟩
      · have ht : t = 3 := by omega
        subst ht
        exact EndQ.to (σ.set id (arrA 4 c d1)) (.tup []) rfl (Store.sub_set _ _ _ (by rw [Store.set_ne _ _ hi1]; exact hi3)) ⟨rfl, by rw [← h3]; rfl⟩
  · have : breakPatterns d a (a + L) = d := by
      unfold breakPatterns
      simp only [Nat.add_sub_cancel_left]
      rw [if_neg (by omega)]
    exact EndQ.to _ _ rfl (Store.sub_refl _) ⟨rfl, by rw [this]⟩
end
end Go.Am

/- S11 -/
namespace Go.Am
open Go.Proofs Go.Sort
section
variable {β : Type} [Inhabited β] {c : β → List AV} {cf : β → β → Int} {g : Nat} {caps : List AV}
/-- slices.SortFunc, on what is owned. -/
theorem s39 (hc : Cmp Try.prog g caps 4 c cf) (hO : SWO (ltC cf)) (d : Array β) (hs : d.size < 2305843009213693952) (σ : Store) (id : Nat) :
    ACalls Try.prog 39 [.os id 4 0 d.size, .fn g caps] (σ.set id (arrA 4 c d)) (fun r s => r = .tup [] ∧ s = σ.set id (arrA 4 c (pdq (ltC cf) d 0 d.size (bitsLen d.size) true true))) := by
  refine calls_of Tst.F39 (by simp [Tst.F39, Fn.mk']) ?_
  simp only [Tst.F39, Fn.mk', Tst.b39]
  simp only [w_u64 (n := d.size) (by omega), ↓vcPre, ↓s_get, ↓reduceIte, vcPost, vcStd, Store.set_set, s_arr, s_setL, s_fold, swp_size, Nat.le_refl, Nat.zero_add, Array.size_setIfInBounds, Nat.reduceEqDiff, reduceCtorEq, Nat.reduceAdd, Nat.reduceLeDiff, Int.reduceLT, Int.reduceLE, ↓u_setN]
  refine (c61 d.size (by omega)).Q ?_
  simp only [hs, ↓vcPre, ↓s_get, ↓reduceIte, vcPost, vcStd, Store.set_set, s_arr, s_setL, s_fold, swp_size, Nat.le_refl, Nat.zero_add, Array.size_setIfInBounds, Nat.reduceEqDiff, reduceCtorEq, Nat.reduceAdd, Nat.reduceLeDiff, Int.reduceLT, Int.reduceLE, ↓u_setN]
  have hl : bitsLen d.size ≤ 61 := (bitsLen_le_iff d.size 61).2 (by omega)
  have h := s60 hc hO σ id d.size hs (fun d' a b h1 h2 h3 => s72 hc σ id d.size hs d' a b h1 h2 h3) (d.size + 1) d 0 d.size (bitsLen d.size) rfl (by omega) (by omega) (by omega) (by omega)
  refine h.Q ?_
  intro r s hrs
  have hr1 := hrs.1
  have hs1 := hrs.2
  clear hrs h
  subst hr1
  subst hs1
  simp only [hs, ↓vcPre, ↓s_get, ↓reduceIte, vcPost, vcStd, Store.set_set, s_arr, s_setL, s_fold, swp_size, Nat.le_refl, Nat.zero_add, Array.size_setIfInBounds, Nat.reduceEqDiff, reduceCtorEq, Nat.reduceAdd, Nat.reduceLeDiff, Int.reduceLT, Int.reduceLE, ↓u_setN]
  exact EndQ.to _ _ rfl (Store.sub_refl _) ⟨rfl, rfl⟩
end
end Go.Am

/- W10 -/
namespace Go.Am
open Go.Proofs Go.Sort

/-- Writes of right prefixes. -/
abbrev RW := { w : Wr // rightF w.e.a w.e.n = true }
def RW.c (w : RW) : List AV := w.1.c
instance : Inhabited RW := ⟨⟨⟨false, ⟨0, 0, none⟩⟩, by decide⟩⟩
def setC (x y : RW) : Int := setCmp x.1 y.1
def cutC (x y : RW) : Int := cutCmp x.1 y.1
theorem wr_len (x : RW) : x.c.length = 4 := rfl
theorem cmp40 : Cmp Try.prog 40 [] 4 RW.c setC := ⟨wr_len, fun x y => c40 x.1 y.1⟩
theorem cmp44 : Cmp Try.prog 44 [] 4 RW.c cutC := ⟨wr_len, fun x y => c44 x.1 y.1⟩

theorem lessF_iff {a n b m : Int} (h1 : rightF a n = true) (h2 : rightF b m = true) : lessF a n b m = true ↔ a < b ∨ (a = b ∧ n < m) := by
  unfold lessF
  simp [h1, h2]
theorem cmpF_neg {a n b m : Int} (g1 : rightF a n = true) (g2 : rightF b m = true) : cmpF a n b m < 0 ↔ a < b ∨ (a = b ∧ n < m) := by
  unfold cmpF
  have h1 := lessF_iff g1 g2
  split
  · simp_all
  · split <;> simp_all
theorem cmpI_neg (x y : Int) : cmpI x y < 0 ↔ x < y := by unfold cmpI; split <;> (try split) <;> omega
theorem cmpI_zero (x y : Int) : cmpI x y = 0 ↔ x = y := by unfold cmpI; split <;> (try split) <;> omega
theorem set_lt (x y : RW) : ltC setC x y = true ↔ y.1.e.n < x.1.e.n ∨ (y.1.e.n = x.1.e.n ∧ x.1.e.a < y.1.e.a) := by
  have h1 := cmpI_neg y.1.e.n x.1.e.n
  have h2 := cmpI_zero y.1.e.n x.1.e.n
  have h3 := cmpF_neg x.2 y.2
  unfold ltC setC setCmp orI
  rw [decide_eq_true_iff]
  split <;> omega
theorem cut_lt (x y : RW) : ltC cutC x y = true ↔ x.1.e.n < y.1.e.n ∨ (x.1.e.n = y.1.e.n ∧ x.1.e.a < y.1.e.a) := by
  have h1 := cmpI_neg x.1.e.n y.1.e.n
  have h2 := cmpI_zero x.1.e.n y.1.e.n
  have h3 := cmpF_neg x.2 y.2
  unfold ltC cutC cutCmp orI
  rw [decide_eq_true_iff]
  split <;> omega

theorem swo_of {lt : RW → RW → Bool} {R : RW → RW → Prop} (h : ∀ x y, lt x y = true ↔ R x y) (h1 : ∀ x, ¬ R x x) (h2 : ∀ x y z, R x y → R y z → R x z) (h3 : ∀ x y z, ¬ R x y → ¬ R y z → ¬ R x z) : SWO lt where
  irrefl x := by rw [Bool.eq_false_iff]; exact fun hh => h1 x ((h x x).1 hh)
  trans x y z a b := (h x z).2 (h2 x y z ((h x y).1 a) ((h y z).1 b))
  ntrans x y z a b := by
    rw [Bool.eq_false_iff] at a b ⊢
    exact fun hh => h3 x y z (fun k => a ((h x y).2 k)) (fun k => b ((h y z).2 k)) ((h x z).1 hh)
theorem swo_set : SWO (ltC setC) := swo_of set_lt (fun x => by omega) (fun x y z => by omega) (fun x y z => by omega)
theorem swo_cut : SWO (ltC cutC) := swo_of cut_lt (fun x => by omega) (fun x y z => by omega) (fun x y z => by omega)

/-- Writes that a function collects, in a slice of its own. -/
def OwnW (τ : Store) (L : List RW) (v : AV) (s : Store) : Prop :=
  (L = [] ∧ v = .nils) ∨ ∃ g, v = .os g 4 0 L.length ∧ τ g = none ∧ s g = some (.arr 4 (L.map RW.c))

theorem own_app {τ s : Store} {L : List RW} {v wv : AV} {w : RW} {K : AV → Store → Prop} (hsub : Store.sub τ s) (ho : OwnW τ L v s) (hw : slc s 4 wv = some [w.c]) (hsz : L.length < 1000000)
    (h : ∀ v' s', Store.sub τ s' → OwnW τ (L ++ [w]) v' s' → K v' s') : appwp 4 48 v wv s K := by
  rcases ho with ⟨rfl, rfl⟩ | ⟨g, rfl, hg, hs⟩
  · refine app_nil hw (by simp) (fun h0 => by cases h0) (fun _ j hj => ?_)
    have hτ : τ j = none := by
      cases hc : τ j with
      | none => rfl
      | some q => rw [hsub j q hc] at hj; cases hj
    refine h _ _ (fun x q hx => ?_) (.inr ⟨j, rfl, hτ, Store.set_same _ _ _⟩)
    rw [Store.set_ne _ _ (fun e => by subst e; rw [hτ] at hx; cases hx)]; exact hsub x q hx
  · refine app_os (slc_os0 hs (by simp)) hw (by simp; omega) fun j hj => ?_
    have hτ : τ j = none := by
      cases hc : τ j with
      | none => rfl
      | some q => rw [hsub j q hc] at hj; cases hj
    refine h _ _ (fun x q hx => ?_) (.inr ⟨j, by simp, hτ, by rw [Store.set_same, List.map_append]; rfl⟩)
    have hxj : x ≠ j := fun e => by subst e; rw [hτ] at hx; cases hx
    have hxg : x ≠ g := fun e => by subst e; rw [hg] at hx; cases hx
    rw [Store.set_ne _ _ hxj, Store.del_ne _ hxg]; exact hsub x q hx

end Go.Am

/- W11 -/
namespace Go.Am
open Go.Proofs Go.Sort

theorem s70n (f : AV) (σ : Store) : ACalls Try.prog 70 [.nils, .int .i64 0, .int .i64 0, f] σ (fun r s => r = .tup [] ∧ s = σ) := by
  refine calls_of Tst.F70 (by simp [Tst.F70, Fn.mk']) ?_
  simp only [Tst.F70, Fn.mk', Tst.b70]
  have e1 : IntKind.i64.wrap (0 + 1) = 1 := by decide
  simp only [e1, ↓vcPre, ↓wit_get, ↓reduceIte, vcPost, vcStd, Nat.reduceEqDiff, reduceCtorEq, Nat.reduceAdd, Nat.reduceLeDiff, Int.reduceLT, Int.reduceLE, ↓u_setN]
  refine LoopQ.inv (S := Unit) (fun _ => [(0, .nils), (1, .int .i64 0), (2, .int .i64 0), (3, f), (8, .int .i64 1)]) (fun _ => σ) (fun _ => True) (fun _ => 0) () rfl (Store.sub_refl _) trivial ?_
  intro _ _
  simp only [↓vcPre, ↓wit_get, ↓reduceIte, vcPost, vcStd, Nat.reduceEqDiff, reduceCtorEq, Nat.reduceAdd, Nat.reduceLeDiff, Int.reduceLT, Int.reduceLE, ↓u_setN]
  exact EndQ.to _ _ rfl (Store.sub_refl _) ⟨rfl, rfl⟩

theorem s60n (f : AV) (m : Int) (σ : Store) : ACalls Try.prog 60 [.nils, .int .i64 0, .int .i64 0, .int .i64 m, f] σ (fun r s => r = .tup [] ∧ s = σ) := by
  refine calls_of Tst.F60 (by simp [Tst.F60, Fn.mk']) ?_
  simp only [Tst.F60, Fn.mk', Tst.b60]
  simp only [↓vcPre, ↓wit_get, ↓reduceIte, vcPost, vcStd, Nat.reduceEqDiff, reduceCtorEq, Nat.reduceAdd, Nat.reduceLeDiff, Int.reduceLT, Int.reduceLE, ↓u_setN]
  refine LoopQ.inv (S := Unit) (fun _ => [(0, .nils), (1, .int .i64 0), (2, .int .i64 0), (3, .int .i64 m), (4, f), (10, .bool true), (11, .bool true)]) (fun _ => σ) (fun _ => True) (fun _ => 0) () rfl (Store.sub_refl _) trivial ?_
  intro _ _
  have e1 : IntKind.i64.wrap (0 - 0) = 0 := by decide
  simp only [e1, ↓vcPre, ↓wit_get, ↓reduceIte, vcPost, vcStd, Nat.reduceEqDiff, reduceCtorEq, Nat.reduceAdd, Nat.reduceLeDiff, Int.reduceLT, Int.reduceLE, ↓u_setN]
  refine (s70n f σ).Q ?_
  rintro r s ⟨rfl, rfl⟩
  simp only [↓vcPre, ↓wit_get, ↓reduceIte, vcPost, vcStd, Nat.reduceEqDiff, reduceCtorEq, Nat.reduceAdd, Nat.reduceLeDiff, Int.reduceLT, Int.reduceLE, ↓u_setN]
  exact EndQ.to _ _ rfl (Store.sub_refl _) ⟨rfl, rfl⟩

theorem s39n (f : AV) (σ : Store) : ACalls Try.prog 39 [.nils, f] σ (fun r s => r = .tup [] ∧ s = σ) := by
  refine calls_of Tst.F39 (by simp [Tst.F39, Fn.mk']) ?_
  simp only [Tst.F39, Fn.mk', Tst.b39]
  have e1 : IntKind.u64.wrap 0 = ((0 : Nat) : Int) := by decide
  simp only [e1, ↓vcPre, ↓wit_get, ↓reduceIte, vcPost, vcStd, Nat.reduceEqDiff, reduceCtorEq, Nat.reduceAdd, Nat.reduceLeDiff, Int.reduceLT, Int.reduceLE, ↓u_setN]
  refine (c61 0 (by omega)).Q ?_
  simp only [↓vcPre, ↓wit_get, ↓reduceIte, vcPost, vcStd, Nat.reduceEqDiff, reduceCtorEq, Nat.reduceAdd, Nat.reduceLeDiff, Int.reduceLT, Int.reduceLE, ↓u_setN]
  refine (s60n f _ σ).Q ?_
  rintro r s ⟨rfl, rfl⟩
  simp only [↓vcPre, ↓wit_get, ↓reduceIte, vcPost, vcStd, Nat.reduceEqDiff, reduceCtorEq, Nat.reduceAdd, Nat.reduceLeDiff, Int.reduceLT, Int.reduceLE, ↓u_setN]
  exact EndQ.to _ _ rfl (Store.sub_refl _) ⟨rfl, rfl⟩

/-- A sort of what a function owns. -/
theorem sort_own {cf : RW → RW → Int} {g : Nat} (hc : Cmp Try.prog g [] 4 RW.c cf) (hO : SWO (ltC cf)) {τ s : Store} {v : AV} {L : List RW} (ho : OwnW τ L v s) (hsz : L.length < 1000000) :
    ACalls Try.prog 39 [v, .fn g []] s (fun r s' => r = .tup [] ∧ ∃ L' : List RW, L'.Perm L ∧ L'.Pairwise (fun x y => ltC cf y x = false) ∧
      ((L' = [] ∧ v = .nils ∧ s' = s) ∨ ∃ i, v = .os i 4 0 L'.length ∧ τ i = none ∧ (s i).isSome ∧ s' = s.set i (.arr 4 (L'.map RW.c)))) := by
  rcases ho with ⟨rfl, rfl⟩ | ⟨i, rfl, hi, hs⟩
  · refine (s39n _ s).mono ?_
    rintro r s' ⟨rfl, rfl⟩
    exact ⟨rfl, [], List.Perm.refl _, List.Pairwise.nil, .inl ⟨rfl, rfl, rfl⟩⟩
  · have hs' : s = s.set i (arrA 4 RW.c L.toArray) := (Store.set_self (by simpa [arrA] using hs)).symm
    have h := s39 hc hO L.toArray (by simp; omega) s i
    rw [← hs'] at h
    have hz : L.toArray.size = L.length := by simp
    rw [hz] at h
    refine h.mono ?_
    rintro r s' ⟨rfl, rfl⟩
    generalize hd : pdq (ltC cf) L.toArray 0 L.length (bitsLen L.length) true true = d
    have hp := pdq_sorts (ltC cf) hO L.toArray 0 L.length (bitsLen L.length) true true (by omega) (by simp) (.inl rfl)
    rw [hd] at hp
    obtain ⟨⟨h1, h2, h3⟩, h4⟩ := hp
    have hx : ∀ (a : Array RW), a.size = L.length → a.extract 0 L.length = a := fun a ha => by rw [← ha]; simp
    rw [hx _ (by simpa using h1), hx _ (by simp)] at h3
    refine ⟨rfl, d.toList, by simpa using h3, ?_, .inr ⟨i, by simp [h1], hi, by rw [hs]; rfl, rfl⟩⟩
    rw [List.pairwise_iff_getElem]
    intro a b ha hb hab
    have := h4 a b (Nat.zero_le _) hab (by simpa [h1] using hb)
    rw [getElem!_pos d a (by simpa using ha), getElem!_pos d b (by simpa using hb)] at this
    simpa using this
end Go.Am

/- W12 -/
namespace Go.Am
open Go.Proofs Go.Sort

theorem look_E {σ : Store} {m : Nat} {l : List En} (a n : Int) (h : σ m = some (.map (l.map kvE))) :
    ldv (.look true (.two .u32 .i64) .nils) [.mp m, .agg [.int .u32 a, .int .i64 n]] σ = some (.tup [hopsO ((lookE l a n).getD none), .bool (lookE l a n).isSome]) := by
  obtain ⟨r, h1, h2⟩ := mfind_E a n l 0
  have hm : mpOf σ (.mp m) = some (l.map kvE) := by simp [mpOf, h]
  have hk : keyFits (.two .u32 .i64) (.agg [.int .u32 a, .int .i64 n]) = true := rfl
  have h1' : mfind (.agg [.int .u32 a, .int .i64 n]) (l.map kvE) 0 = some r := h1
  simp only [ldv, hk, if_true, hm, Option.bind_some, h1', Option.map_some]
  cases r with
  | none =>
    cases hl : lookE l a n with
    | none => rfl
    | some x => rw [hl] at h2; cases h2
  | some p =>
    cases hl : lookE l a n with
    | none => rw [hl] at h2; cases h2
    | some x =>
      rw [hl] at h2
      simp only [Option.map_some, Option.some.injEq] at h2
      simp only [lookRes, Option.getD_some, Option.isSome_some, h2, if_true]

/-- An end with a pair, the first of which may be read otherwise. -/
theorem EndQ.two {slots : List RS} {Q : AV → Store → Prop} {e : Env} {τ : Store} (v x : AV) (σ : Store) (h1 : e.res τ slots = some (.tup [v, x])) (h : WeakL [v, x] τ (fun l s => Q (.tup l) s)) : @EndQ e τ ⟨slots, Q⟩ :=
  by unfold EndQ; exact ⟨_, h1, Weak.tup h⟩

theorem EndQ.twoNil {slots : List RS} {Q : AV → Store → Prop} {e : Env} {τ : Store} (x : AV) (esz : Nat) (σ : Store) (h1 : e.res τ slots = some (.tup [.nils, x])) (h2 : Store.sub σ τ) (h3 : Q (.tup [.sl esz [], x]) σ) : @EndQ e τ ⟨slots, Q⟩ :=
  EndQ.two .nils x σ h1 (WeakL.nil 0 esz rfl (WeakL.forget h2 (WeakL.pure h3)))
theorem EndQ.twoFrz {slots : List RS} {Q : AV → Store → Prop} {e : Env} {τ : Store} (x : AV) (id esz len : Nat) (es : List (List AV)) (σ : Store) (h1 : e.res τ slots = some (.tup [.os id esz 0 len, x])) (h2 : τ id = some (.arr esz es))
    (hle : len ≤ es.length) (h3 : Store.sub σ (τ.del id)) (h4 : Q (.tup [.sl esz (es.take len), x]) σ) : @EndQ e τ ⟨slots, Q⟩ :=
  EndQ.two _ x σ h1 (WeakL.freeze 0 rfl h2 (by omega) (WeakL.forget h3 (WeakL.pure h4)))
theorem EndQ.cat {slots : List RS} {Q : AV → Store → Prop} {e : Env} {σ σ1 τ s : Store} {x r : AV} {tot : Nat} {W : List (List AV)} (h1 : e.res τ slots = some (.tup [r, x])) (hc : CatI σ1 tot W r s) (hτ : Store.sub s τ) (h0 : Store.sub σ σ1)
    (hQ : Q (.tup [.sl 4 W, x]) σ) : @EndQ e τ ⟨slots, Q⟩ := by
  rcases hc with ⟨_, rfl, rfl, rfl⟩ | ⟨g, es, rfl, hg, rfl, hle, ht⟩
  · exact EndQ.twoNil x 4 σ h1 (Store.sub_trans h0 hτ) hQ
  · refine EndQ.twoFrz x g 4 W.length es σ h1 (hτ g _ (Store.set_same _ _ _)) hle (fun i o hi => ?_) (by rw [ht]; exact hQ)
    have hig : i ≠ g := fun e => by subst e; rw [h0 _ _ hi] at hg; cases hg
    rw [Store.del_ne _ hig]
    refine hτ i o ?_
    rw [Store.set_ne _ _ hig]; exact h0 i o hi
end Go.Am
