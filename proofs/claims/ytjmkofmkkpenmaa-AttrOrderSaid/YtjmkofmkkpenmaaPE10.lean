/- A part of the proof: a logic for calls over plain values, and the functions that the law reaches, each walked once. -/
import Derived.Test.YtjmkofmkkpenmaaPE9
set_option linter.unusedVariables false
set_option linter.unusedSimpArgs false
set_option linter.unusedSectionVars false

/- Ex2 -/
namespace Go.Am

/-! ## Ids by other names -/
mutual
def AV.ren (m : Nat → Nat) : AV → AV
  | .ptr id off => .ptr (m id) off
  | .aptr id esz i off => .aptr (m id) esz i off
  | .ep cells => .ep (AV.renL m cells)
  | .sl esz es => .sl esz (AV.renLL m es)
  | .os id esz off len => .os (m id) esz off len
  | .mp id => .mp (m id)
  | .fn f caps => .fn f (AV.renL m caps)
  | .agg cells => .agg (AV.renL m cells)
  | .tup vs => .tup (AV.renL m vs)
  | .iface t v => .iface t (AV.ren m v)
  | .bool b => .bool b
  | .int k n => .int k n
  | .str s => .str s
  | .flt n => .flt n
  | .nil => .nil
  | .nils => .nils
  | .nilmap => .nilmap
  | .nilfn => .nilfn
  | .nilIface => .nilIface
def AV.renL (m : Nat → Nat) : List AV → List AV
  | [] => []
  | a :: r => AV.ren m a :: AV.renL m r
def AV.renLL (m : Nat → Nat) : List (List AV) → List (List AV)
  | [] => []
  | a :: r => AV.renL m a :: AV.renLL m r
end

theorem renL_eq (m : Nat → Nat) : ∀ l, AV.renL m l = l.map (AV.ren m)
  | [] => by simp [AV.renL]
  | a :: r => by simp [AV.renL, renL_eq m r]
theorem renLL_eq (m : Nat → Nat) : ∀ l, AV.renLL m l = l.map (List.map (AV.ren m))
  | [] => by simp [AV.renLL]
  | a :: r => by simp [AV.renLL, renL_eq, renLL_eq m r]

def Agree (n : Nat → Prop) (m m' : Nat → Nat) : Prop := ∀ i, n i → m' i = m i

mutual
theorem und_ren {n : Nat → Bool} {m m' : Nat → Nat} (h : ∀ i, n i = true → m' i = m i) : ∀ a : AV, a.und n = true → a.ren m' = a.ren m
  | .ptr id _, hb => by simp only [AV.und] at hb; simp only [AV.ren, h id hb]
  | .aptr id _ _ _, hb => by simp only [AV.und] at hb; simp only [AV.ren, h id hb]
  | .ep cells, hb => by simp only [AV.und] at hb; simp only [AV.ren, undL_ren h cells hb]
  | .sl _ es, hb => by simp only [AV.und] at hb; simp only [AV.ren, undLL_ren h es hb]
  | .os id _ _ _, hb => by simp only [AV.und] at hb; simp only [AV.ren, h id hb]
  | .mp id, hb => by simp only [AV.und] at hb; simp only [AV.ren, h id hb]
  | .fn _ caps, hb => by simp only [AV.und] at hb; simp only [AV.ren, undL_ren h caps hb]
  | .agg cells, hb => by simp only [AV.und] at hb; simp only [AV.ren, undL_ren h cells hb]
  | .tup vs, hb => by simp only [AV.und] at hb; simp only [AV.ren, undL_ren h vs hb]
  | .iface _ v, hb => by simp only [AV.und] at hb; simp only [AV.ren, und_ren h v hb]
  | .bool _, _ => by simp only [AV.ren]
  | .int _ _, _ => by simp only [AV.ren]
  | .str _, _ => by simp only [AV.ren]
  | .flt _, _ => by simp only [AV.ren]
  | .nil, _ => by simp only [AV.ren]
  | .nils, _ => by simp only [AV.ren]
  | .nilmap, _ => by simp only [AV.ren]
  | .nilfn, _ => by simp only [AV.ren]
  | .nilIface, _ => by simp only [AV.ren]
theorem undL_ren {n : Nat → Bool} {m m' : Nat → Nat} (h : ∀ i, n i = true → m' i = m i) : ∀ l : List AV, AV.undL n l = true → AV.renL m' l = AV.renL m l
  | [], _ => by simp only [AV.renL]
  | a :: r, hb => by
    simp only [AV.undL, Bool.and_eq_true] at hb
    simp only [AV.renL, und_ren h a hb.1, undL_ren h r hb.2]
theorem undLL_ren {n : Nat → Bool} {m m' : Nat → Nat} (h : ∀ i, n i = true → m' i = m i) : ∀ l : List (List AV), AV.undLL n l = true → AV.renLL m' l = AV.renLL m l
  | [], _ => by simp only [AV.renLL]
  | a :: r, hb => by
    simp only [AV.undLL, Bool.and_eq_true] at hb
    simp only [AV.renLL, undL_ren h a hb.1, undLL_ren h r hb.2]
end

mutual
theorem ren_id : ∀ a : AV, a.ren (fun i => i) = a
  | .ptr .. | .aptr .. | .os .. | .mp _ | .bool _ | .int _ _ | .str _ | .flt _ | .nil | .nils | .nilmap | .nilfn | .nilIface => by simp only [AV.ren]
  | .ep cells => by simp only [AV.ren, renL_id cells]
  | .sl _ es => by simp only [AV.ren, renLL_id es]
  | .fn _ caps => by simp only [AV.ren, renL_id caps]
  | .agg cells => by simp only [AV.ren, renL_id cells]
  | .tup vs => by simp only [AV.ren, renL_id vs]
  | .iface _ v => by simp only [AV.ren, ren_id v]
theorem renL_id : ∀ l : List AV, AV.renL (fun i => i) l = l
  | [] => by simp only [AV.renL]
  | a :: r => by simp only [AV.renL, ren_id a, renL_id r]
theorem renLL_id : ∀ l : List (List AV), AV.renLL (fun i => i) l = l
  | [] => by simp only [AV.renLL]
  | a :: r => by simp only [AV.renLL, renL_id a, renLL_id r]
end

theorem closed_ren {a : AV} (h : a.und noId = true) (m : Nat → Nat) : a.ren m = a := by
  rw [und_ren (m := fun i => i) (m' := m) (n := noId) (fun i hi => by cases hi) a h, ren_id]
theorem closedL_ren {l : List AV} (h : AV.undL noId l = true) (m : Nat → Nat) : l.map (AV.ren m) = l := by
  rw [← renL_eq, undL_ren (m := fun i => i) (m' := m) (n := noId) (fun i hi => by cases hi) l h, renL_id]

section
variable (m : Nat → Nat)

@[simp] theorem ren_bool (b : Bool) : AV.ren m (.bool b) = .bool b := by simp only [AV.ren]
@[simp] theorem ren_int (k : IntKind) (n : Int) : AV.ren m (.int k n) = .int k n := by simp only [AV.ren]
@[simp] theorem ren_str (s : ByteArray) : AV.ren m (.str s) = .str s := by simp only [AV.ren]
@[simp] theorem ren_flt (n : Nat) : AV.ren m (.flt n) = .flt n := by simp only [AV.ren]
@[simp] theorem ren_nil : AV.ren m .nil = .nil := by simp only [AV.ren]
@[simp] theorem ren_nils : AV.ren m .nils = .nils := by simp only [AV.ren]
@[simp] theorem ren_nilmap : AV.ren m .nilmap = .nilmap := by simp only [AV.ren]
@[simp] theorem ren_nilfn : AV.ren m .nilfn = .nilfn := by simp only [AV.ren]
@[simp] theorem ren_nilIface : AV.ren m .nilIface = .nilIface := by simp only [AV.ren]
@[simp] theorem ren_ptr (i o : Nat) : AV.ren m (.ptr i o) = .ptr (m i) o := by simp only [AV.ren]
@[simp] theorem ren_aptr (i e j o : Nat) : AV.ren m (.aptr i e j o) = .aptr (m i) e j o := by simp only [AV.ren]
@[simp] theorem ren_os (i e j o : Nat) : AV.ren m (.os i e j o) = .os (m i) e j o := by simp only [AV.ren]
@[simp] theorem ren_mp (i : Nat) : AV.ren m (.mp i) = .mp (m i) := by simp only [AV.ren]
@[simp] theorem ren_ep (c : List AV) : AV.ren m (.ep c) = .ep (c.map (AV.ren m)) := by simp only [AV.ren, renL_eq]
@[simp] theorem ren_agg (c : List AV) : AV.ren m (.agg c) = .agg (c.map (AV.ren m)) := by simp only [AV.ren, renL_eq]
@[simp] theorem ren_tup (c : List AV) : AV.ren m (.tup c) = .tup (c.map (AV.ren m)) := by simp only [AV.ren, renL_eq]
@[simp] theorem ren_fn (f : Nat) (c : List AV) : AV.ren m (.fn f c) = .fn f (c.map (AV.ren m)) := by simp only [AV.ren, renL_eq]
@[simp] theorem ren_sl (e : Nat) (c : List (List AV)) : AV.ren m (.sl e c) = .sl e (c.map (List.map (AV.ren m))) := by simp only [AV.ren, renLL_eq]
@[simp] theorem ren_iface (t : Nat) (v : AV) : AV.ren m (.iface t v) = .iface t (v.ren m) := by simp only [AV.ren]

theorem cells_ren (a : AV) : (a.ren m).cells = a.cells.map (AV.ren m) := by cases a <;> simp [AV.cells]
theorem isTup_ren (a : AV) : (a.ren m).isTup = a.isTup := by cases a <;> simp [AV.isTup]

theorem splice_ren (f : AV → AV) : ∀ (off : Nat) (vs cs : List AV), splice off (vs.map f) (cs.map f) = (splice off vs cs).map (List.map f)
  | 0, [], cs => by simp [splice]
  | 0, v :: vs, c :: cs => by
    simp only [List.map, splice, splice_ren f 0 vs cs]
    cases splice 0 vs cs <;> simp
  | 0, v :: vs, [] => by simp [splice]
  | n + 1, vs, c :: cs => by
    simp only [List.map, splice, splice_ren f n vs cs]
    cases splice n vs cs <;> simp
  | n + 1, vs, [] => by simp [splice]

theorem pBuild_ren : ∀ (as : List AV) (ps : List (Nat × Nat)) (cells : List AV), pBuild (cells.map (AV.ren m)) ps (as.map (AV.ren m)) = (pBuild cells ps as).map (List.map (AV.ren m))
  | [], [], cells => by simp [pBuild]
  | [], _ :: _, cells => by simp [pBuild]
  | _ :: _, [], cells => by simp [pBuild]
  | a :: as, (off, sz) :: ps, cells => by
    simp only [List.map, pBuild, cells_ren, isTup_ren, List.length_map, splice_ren]
    split
    · cases splice off a.cells cells with
      | none => simp
      | some c => simpa using pBuild_ren as ps c
    · simp

theorem binInt_ren {op : BinOp} {k : IntKind} {x y : Int} {a : AV} (h : binInt op k x y = some a) : a.ren m = a := by
  cases op <;> simp only [binInt] at h <;> first | (cases h; simp; done) | (split at h <;> cases h; simp; done) | cases h

theorem pBin_ren {op : BinOp} {a b c : AV} (h : pBin op a b = some c) : pBin op (a.ren m) (b.ren m) = some (c.ren m) := by
  unfold pBin at h
  split at h
  · split at h
    · cases h
    · rename_i hy; cases h; simp [pBin, hy]
  · split at h
    · cases h
    · rename_i hy; cases h; simp [pBin, hy]
  · rename_i op k x k' y h1 h2
    split at h
    · rename_i hk
      subst hk
      simp only [ren_int, binInt_ren m h]
      cases op <;> first
        | exact (h1 rfl).elim
        | exact (h2 rfl).elim
        | simpa [pBin] using h
    · cases h
  · cases h

theorem isNilS_ren (a : AV) : isNilS (a.ren m) = isNilS a := by
  cases a <;> simp [isNilS]
theorem isNilP_ren (a : AV) : isNilP (a.ren m) = isNilP a := by
  cases a <;> simp [isNilP]

theorem pEq2_ren {neg : Bool} {k1 k2 : IntKind} {a b c : AV} (h : pEq2 neg k1 k2 a b = some c) : pEq2 neg k1 k2 (a.ren m) (b.ren m) = some (c.ren m) := by
  unfold pEq2 at h
  split at h
  · split at h
    · rename_i hk; cases h; simp [pEq2, hk]
    · cases h
  · cases h

theorem pPart_ren {off sz : Nat} {agg : Bool} {cells : List AV} {a : AV} (h : pPart off sz agg cells = some a) : pPart off sz agg (cells.map (AV.ren m)) = some (a.ren m) := by
  unfold pPart at h ⊢
  cases agg
  · simp only [Bool.false_eq_true, if_false] at h ⊢
    simp [h]
  · simp only [if_true] at h ⊢
    split at h
    · rename_i hle; cases h; simp [hle, List.map_drop, List.map_take]
    · cases h

theorem pSlice_ren {esz : Nat} {x a : AV} {l : Int} {h : Option Int} (hp : pSlice esz x l h = some a) : pSlice esz (x.ren m) l h = some (a.ren m) := by
  unfold pSlice at hp
  split at hp
  · dsimp only at hp
    split at hp
    · rename_i hk; cases hp
      simp only [ren_sl, pSlice, List.length_map, List.map_take, List.map_drop]
      rw [if_pos hk]
    · cases hp
  · dsimp only at hp
    split at hp
    · rename_i hk; cases hp
      simp only [ren_os, pSlice]
      rw [if_pos hk]
    · cases hp
  · dsimp only at hp
    split at hp
    · rename_i hk; cases hp
      simp only [ren_nils, pSlice]
      rw [if_pos hk]
    · cases hp
  · cases hp

theorem pMin_ren (mx : Bool) : ∀ (r : List AV) (p a : AV), pMin mx p r = some a → pMin mx (p.ren m) (r.map (AV.ren m)) = some (a.ren m)
  | [], p, a, h => by simp only [pMin] at h; cases h; simp [pMin]
  | y :: r, p, a, h => by
    unfold pMin at h
    split at h
    · rename_i he; cases he
    · rename_i k x k' y' r' he1
      cases he1
      split at h
      · rename_i hk
        subst hk
        have := pMin_ren mx r _ _ h
        simp only [ren_int] at this
        simp only [List.map, ren_int, pMin, if_true]
        exact this
      · cases h
    · cases h

theorem pv_ren {k : PK} {as : List AV} {a : AV} (hok : okPK k = true) (h : pv k as = some a) : pv k (as.map (AV.ren m)) = some (a.ren m) := by
  unfold pv at h
  split at h
  · cases h; simp [pv]
  · split at h
    all_goals first
      | cases h; done
      | (cases h; simp [pv])
  · simpa [pv] using pBin_ren m h
  · cases h; simp [pv]
  · rename_i neg p a'
    obtain ⟨b, hb, rfl⟩ := Option.map_eq_some_iff.1 h
    simp only [List.map, pv, ren_bool]
    cases p
    · simp only [Bool.false_eq_true, if_false, isNilS_ren] at hb ⊢; simp [hb]
    · simp only [if_true, isNilP_ren] at hb ⊢; simp [hb]
  · simpa [pv] using pEq2_ren m h
  · cases h; simp [pv]
  · cases h; simp [pv]
  · cases h; simp [pv]
  · cases h; simp [pv]
  · rename_i off a'
    unfold pFld at h
    split at h <;> first | cases h; done | (cases h; simp [pv, pFld, List.map_drop])
  · rename_i off sz agg a'
    unfold pFldv at h
    split at h
    · simpa [pv, pFldv] using pPart_ren m h
    · cases h
  · rename_i esz x i
    unfold pIdx at h
    split at h
    · split at h
      · rename_i hk
        obtain ⟨c, hc, rfl⟩ := Option.map_eq_some_iff.1 h
        simp [pv, pIdx, hk, hc]
      · cases h
    · split at h
      · rename_i hk; cases h; simp [pv, pIdx, hk]
      · cases h
    · cases h
  · rename_i len esz x i
    unfold pIdxa at h
    split at h <;> first
      | cases h; done
      | (split at h
         · rename_i hk; cases h; simp [pv, pIdxa, hk, List.map_drop]
         · cases h)
  · rename_i len esz agg x i
    unfold pIdxv at h
    split at h
    · split at h
      · rename_i hk; simpa [pv, pIdxv, hk] using pPart_ren m h
      · cases h
    · cases h
  · rename_i x i
    unfold pIdxs at h
    split at h
    · split at h
      · rename_i hk
        obtain ⟨b, hb, rfl⟩ := Option.map_eq_some_iff.1 h
        simp [pv, pIdxs, hk, hb]
      · cases h
    · cases h
  · rename_i x
    unfold pCap at h
    split at h <;> first | cases h; done | (cases h; simp [pv, pCap])
  · rename_i ng a' b'
    unfold pEqs at h
    split at h
    · cases h; simp [pv, pEqs]
    · cases h
  · rename_i x
    unfold pLen at h
    split at h <;> first | cases h; done | (cases h; simp [pv, pLen])
  · simpa [pv] using pSlice_ren m h
  · simpa [pv] using pSlice_ren m h
  · simpa [pv] using pSlice_ren m h
  · simpa [pv] using pSlice_ren m h
  · rename_i zeros places
    obtain ⟨cs, hcs, rfl⟩ := Option.map_eq_some_iff.1 h
    have hz : zeros.map (AV.ren m) = zeros := closedL_ren (by simpa [okPK] using hok) m
    have := pBuild_ren m as places zeros
    rw [hz, hcs] at this
    simp [pv, this]
  · rename_i i vs
    simp [pv, h]
  · cases h; simp [pv]
  · cases h; simp [pv]
  · rename_i mx a' r
    simpa [pv] using pMin_ren m mx r a' a h
  · cases h

end

/-! ### Stores -/
def Obj.ren (m : Nat → Nat) : Obj → Obj
  | .box c => .box (c.map (AV.ren m))
  | .arr e es => .arr e (es.map (List.map (AV.ren m)))
  | .map es => .map (es.map fun p => (p.1.ren m, p.2.ren m))

def Live (m : Nat → Nat) (st σ : Store) : Prop := ∀ i o, st i = some o → σ (m i) = some (o.ren m)

section
variable {m : Nat → Nat} {st σ : Store}

theorem takeN_ren (f : AV → AV) (off sz : Nat) (cells : List AV) : takeN off sz (cells.map f) = (takeN off sz cells).map (List.map f) := by
  unfold takeN
  simp only [List.length_map]
  split <;> simp [List.map_take, List.map_drop]

theorem rd_ren (hl : Live m st σ) {sz : Nat} {p : AV} {cs : List AV} (h : rd st sz p = some cs) : rd σ sz (p.ren m) = some (cs.map (AV.ren m)) := by
  unfold rd at h
  split at h
  · split at h
    · rename_i hs
      have := hl _ _ hs
      simp only [ren_ptr, rd, this, Obj.ren, takeN_ren, h, Option.map_some]
    · cases h
  · split at h
    · rename_i hs
      have := hl _ _ hs
      split at h
      · rename_i he
        obtain ⟨c, h1, h2⟩ := opt_bind h
        simp only [ren_aptr, rd, this, Obj.ren, he, if_true, List.getElem?_map, h1, Option.map_some, Option.bind_some, takeN_ren, h2]
      · cases h
    · cases h
  · simp only [ren_ep, rd, takeN_ren, h, Option.map_some]
  · cases h

theorem asOne_ren (a : AV) : asOne (a.ren m) = asOne a := by cases a <;> simp [asOne]
theorem asTwo_ren (a : AV) : asTwo (a.ren m) = asTwo a := by
  cases a <;> try (simp [asTwo]; done)
  rename_i c
  simp only [ren_agg]
  match c with
  | [] => rfl
  | [x] => cases x <;> simp [asTwo]
  | [x, y] => cases x <;> cases y <;> simp [asTwo]
  | x :: y :: z :: r => simp [asTwo]

theorem kEq_ren (a b : AV) : kEq (a.ren m) (b.ren m) = kEq a b := by
  unfold kEq
  simp only [asOne_ren, asTwo_ren]

theorem keyFits_ren (mk : MKey) (a : AV) : keyFits mk (a.ren m) = keyFits mk a := by
  cases mk <;> simp only [keyFits, asOne_ren, asTwo_ren]

theorem mfind_ren (k : AV) : ∀ (es : List (AV × AV)) (i : Nat), mfind (k.ren m) (es.map fun p => (p.1.ren m, p.2.ren m)) i = (mfind k es i).map (Option.map fun p => (p.1, p.2.ren m))
  | [], i => by simp [mfind]
  | (k', v) :: r, i => by
    simp only [List.map, mfind, kEq_ren]
    cases kEq k k' with
    | none => simp
    | some b => cases b
                · simpa using mfind_ren k r (i + 1)
                · simp

theorem mpOf_ren (hl : Live m st σ) {a : AV} {es : List (AV × AV)} (h : mpOf st a = some es) : mpOf σ (a.ren m) = some (es.map fun p => (p.1.ren m, p.2.ren m)) := by
  unfold mpOf at h
  split at h
  · cases h; simp [mpOf]
  · split at h
    · rename_i hs; cases h; simp [mpOf, hl _ _ hs, Obj.ren]
    · cases h
  · cases h

theorem slc_ren (hl : Live m st σ) {esz : Nat} {x : AV} {xs : List (List AV)} (h : slc st esz x = some xs) : slc σ esz (x.ren m) = some (xs.map (List.map (AV.ren m))) := by
  unfold slc at h
  split at h
  · cases h; simp [slc]
  · split at h
    · rename_i he; cases h; simp [slc, he]
    · cases h
  · split at h
    · rename_i hs
      split at h
      · rename_i hc
        cases h
        simp only [ren_os, slc, hl _ _ hs, Obj.ren, List.length_map]
        rw [if_pos hc]
        simp [List.map_take, List.map_drop]
      · cases h
    · cases h
  · cases h

theorem toBytes_ren (m : Nat → Nat) : ∀ (es : List (List AV)) (acc l : List UInt8), toBytes es acc = some l → toBytes (es.map (List.map (AV.ren m))) acc = some l
  | [], acc, l, h => h
  | x :: r, acc, l, h => by
    unfold toBytes at h
    split at h
    · rename_i he; cases he
    · rename_i n r' he
      cases he
      simp only [List.map, ren_int, toBytes]
      exact toBytes_ren m r _ l h
    · cases h

theorem ldv_ren (hl : Live m st σ) {k : LK} {as : List AV} {a : AV} (hok : okLK k = true) (h : ldv k as st = some a) : ldv k (as.map (AV.ren m)) σ = some (a.ren m) := by
  unfold ldv at h
  split at h
  · obtain ⟨cs, h1, rfl⟩ := Option.map_eq_some_iff.1 h
    simp [ldv, rd_ren hl h1]
  · obtain ⟨cs, h1, h2⟩ := opt_bind h
    split at h2
    · cases h2
      simp [ldv, rd_ren hl h1]
    · cases h2
  · rename_i ok mk zero mm kk
    split at h
    · rename_i hk
      obtain ⟨es, h1, h2⟩ := opt_bind h
      obtain ⟨r, h3, rfl⟩ := Option.map_eq_some_iff.1 h2
      have hz : zero.ren m = zero := closed_ren (by simpa [okLK] using hok) m
      simp only [List.map, ldv, keyFits_ren, hk, if_true, mpOf_ren hl h1, Option.bind_some, mfind_ren, h3, Option.map_some, Option.some.injEq]
      cases r with
      | none => cases ok <;> simp [lookRes, hz]
      | some p => cases ok <;> simp [lookRes]
    · cases h
  · obtain ⟨es, h1, rfl⟩ := Option.map_eq_some_iff.1 h
    simp [ldv, mpOf_ren hl h1]
  · obtain ⟨es, h1, h2⟩ := opt_bind h
    obtain ⟨l, h3, rfl⟩ := Option.map_eq_some_iff.1 h2
    simp [ldv, slc_ren hl h1, toBytes_ren m es [] l h3]
  · cases h

theorem alv_ren (m : Nat → Nat) {k : AK} {as : List AV} {p : Obj × (Nat → AV)} (hok : okAK k = true) (h : alv k as = some p) :
    ∃ p', alv k (as.map (AV.ren m)) = some p' ∧ p'.1 = p.1.ren m ∧ ∀ (m' : Nat → Nat) (id : Nat), p'.2 (m' id) = (p.2 id).ren m' := by
  unfold alv at h
  split at h
  · rename_i z
    cases h
    exact ⟨_, rfl, by simp [Obj.ren, closedL_ren (by simpa [okAK] using hok) m], fun m' id => by simp⟩
  · split at h
    · cases h
    · rename_i ht
      cases h
      refine ⟨(Obj.box (AV.cells (AV.ren m _)), fun id => .ptr id 0), by simp only [List.map, alv, isTup_ren, if_neg ht]; rfl, by simp [Obj.ren, cells_ren], fun m' id => by simp⟩
  · rename_i esz n as
    split at h
    · rename_i hc
      cases h
      refine ⟨_, by
        rw [alv, if_pos]
        refine ⟨by simpa using hc.1, ?_⟩
        have := hc.2
        simp only [List.all_map, List.all_eq_true, Function.comp, isTup_ren, cells_ren, List.length_map] at this ⊢
        exact this, by simp [Obj.ren, cells_ren], fun m' id => by simp⟩
    · cases h
  · cases h
    exact ⟨_, rfl, by simp [Obj.ren], fun m' id => by simp⟩
  · rename_i esz z bytes n n'
    split at h
    · rename_i hc
      cases h
      refine ⟨_, by simp only [List.map, ren_int, alv]; rw [if_pos hc], by simp [Obj.ren, closedL_ren (l := z) (by simpa [okAK] using hok) m], fun m' id => by simp⟩
    · cases h
  · cases h

end
end Go.Am
