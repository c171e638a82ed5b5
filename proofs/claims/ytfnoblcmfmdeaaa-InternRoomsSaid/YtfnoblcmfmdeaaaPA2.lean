/- A part of the proof: a logic for calls over plain values, and the functions that the law reaches, each walked once. -/
import Derived.Test.YtfnoblcmfmdeaaaPA1
import Derived.Still
import Derived.Scope
set_option linter.unusedVariables false
set_option linter.unusedSimpArgs false
set_option linter.unusedSectionVars false

/- Am13 -/
namespace Go.Am
section
variable {P : Program} {w : World} {G : Gh} {σ : Store} {ev : Operand → Value} {oev : Opd → Option AV}

theorem run_i64max : IntKind.i64.max = 9223372036854775807 := by decide

theorem append_grows {sT xT e : TypeId} {size : Nat} {d : TypeDesc} {i : TypeInfo} {base xb : Option Addr} {sLen sCap n xc : Nat} {old new : Array Value} {zv : Value} {ty : TypeId}
    (hs : P.underlying sT = some (.slice e)) (hsz : tsz P e = some size) (hx : P.underlying xT = some d) (hd : ∀ k, d ≠ .int k) (hi : P.info? e = some i) (hb : 1 ≤ i.bytes)
    (hfit : sCap < sLen + n) (hroom : (sLen + n) * i.bytes ≤ 140737488355328)
    (hold : ∀ w', w'.heap = w.heap → (Builtin.firstCells size sLen (.slice base sLen sCap)).run P w' = .ok old w')
    (hnew : ∀ w', w'.heap = w.heap → (Builtin.firstCells size n (.slice xb n xc)).run P w' = .ok new w') (hz : ∀ w', (zeroValue e).run P w' = .ok zv w') :
    ∃ newCap, sLen + n ≤ newCap ∧ (Builtin.append_ #[sT, xT] ty #[.slice base sLen sCap, .slice xb n xc]).run P w =
      .ok (.slice (some ⟨w.heap.size, 0, none⟩) (sLen + n) newCap) (w.drew.alloc (.cells (old ++ new ++ Builtin.zeroCells zv.cells (newCap - (sLen + n))) e (0, 0))) := by
  have hz' : (match d with | .int _ => true | _ => false) = false := by cases d <;> first | rfl | exact absurd rfl (hd _)
  have hle : sLen + n ≤ 140737488355328 := by
    have := Nat.mul_le_mul_left (sLen + n) hb
    omega
  have hcap : Builtin.nextslicecap (sLen + n) sCap * i.bytes ≤ 281474976710656 := by
    have := Nat.mul_le_mul_right i.bytes (nextcap_le hfit)
    rw [Nat.mul_assoc] at this; omega
  refine ⟨(Question.appendCap (sLen + n) sCap e).cut (w.tape w.drawn (.appendCap (sLen + n) sCap e)), by simp only [Question.cut]; omega, ?_⟩
  generalize hq : (Question.appendCap (sLen + n) sCap e).cut (w.tape w.drawn (.appendCap (sLen + n) sCap e)) = newCap
  unfold Builtin.append_
  simp only [List.getElem?_toArray, List.getElem?_cons_zero, List.getElem?_cons_succ, Sem.run_bind, rUnderlying hs, rUnderlying hx, Result.andThen_ok, rSizeOf hsz, Sem.run_pure, hz']
  simp only [Bool.false_eq_true, if_false, Sem.run_bind, run_lenOf, Result.andThen_ok, Bool.not_false, if_true, rTypeInfo hi]
  rw [if_neg (by omega)]
  simp only [Sem.run_bind, rTypeInfo hi, Result.andThen_ok]
  rw [if_neg (by rw [run_i64max]; omega), ]
  simp only [Sem.run_bind, rTypeInfo hi, Result.andThen_ok]
  rw [if_neg (by omega)]
  simp only [Sem.run_bind, run_choose, Question.forced, Bool.false_eq_true, if_false, Result.andThen_ok, hq, rTypeInfo hi, run_askRoom]
  have h1 := hold w.drew rfl
  have h2 := hnew w.drew rfl
  have h3 := hz w.drew
  show ((Builtin.firstCells size sLen (.slice base sLen sCap)).run P w.drew).andThen _ = _
  simp only [h1, Result.andThen_ok, Sem.run_bind, h2, h3, newRow, run_newObj, Sem.run_pure]
  rfl

theorem Ext.drew (G : Gh) (σ : Store) (w : World) : Ext G σ w G σ w.drew :=
  { Ext.refl G σ w with }

/-- What an append comes to. -/
def appwp (esz bytes : Nat) (x y : AV) (σ : Store) (K : AV → Store → Prop) : Prop :=
  match slc σ esz x, slc σ esz y with
  | some xs, some ys => (xs.length + ys.length) * bytes ≤ 140737488355328 ∧
    match x with
    | .nils => (ys = [] → K .nils σ) ∧ (ys ≠ [] → ∀ id, σ id = none → K (.os id esz 0 ys.length) (σ.set id (.arr esz ys)))
    | .os id0 _ _ _ => ∀ id, σ id = none → K (.os id esz 0 (xs.length + ys.length)) ((σ.del id0).set id (.arr esz (xs ++ ys)))
    | _ => False
  | _, _ => False

theorem getD_map_range {n k : Nat} {f : Nat → Value} (h : k < n) : ((List.range n).map f).toArray.getD k undef = f k := by
  rw [Array.getD_eq_getD_getElem?, List.getElem?_toArray, List.getElem?_map, List.getElem?_range h]; rfl

theorem getD_append_left {a b : Array Value} {k : Nat} (h : k < a.size) : (a ++ b).getD k undef = a.getD k undef := by
  simp only [Array.getD_eq_getD_getElem?, Array.getElem?_append_left h]
theorem getD_append_right {a b : Array Value} {k : Nat} (h : a.size ≤ k) : (a ++ b).getD k undef = b.getD (k - a.size) undef := by
  simp only [Array.getD_eq_getD_getElem?, Array.getElem?_append_right h]

theorem ERel.append {esz : Nat} {xs ys : List (List AV)} {fx fy g : Nat → Value} (hx : ERel G w esz xs fx) (hy : ERel G w esz ys fy)
    (g1 : ∀ k, k < xs.length * esz → g k = fx k) (g2 : ∀ k, k < ys.length * esz → g (xs.length * esz + k) = fy k) : ERel G w esz (xs ++ ys) g := by
  obtain ⟨x1, x2, x3⟩ := hx
  obtain ⟨y1, y2, y3⟩ := hy
  refine ⟨fun e he => (List.mem_append.1 he).elim (x1 e) (y1 e), fun e he => (List.mem_append.1 he).elim (x2 e) (y2 e), fun i j hi hj => ?_⟩
  by_cases h : i < xs.length
  · have e : (xs ++ ys)[i] = xs[i] := List.getElem_append_left h
    have hj' : j < esz := by rw [← x1 _ (List.getElem_mem h), ← e]; exact hj
    simp only [e] at hj ⊢
    rw [g1 _ (mul_lt h hj')]; exact x3 i j h hj
  · have h' : i - xs.length < ys.length := by simp at hi; omega
    have e : (xs ++ ys)[i] = ys[i - xs.length] := List.getElem_append_right (by omega)
    have hj' : j < esz := by rw [← y1 _ (List.getElem_mem h'), ← e]; exact hj
    simp only [e] at hj ⊢
    have : i * esz + j = xs.length * esz + ((i - xs.length) * esz + j) := by
      rw [← Nat.add_assoc, ← Nat.add_mul, show xs.length + (i - xs.length) = i by omega]
    rw [this, g2 _ (mul_lt h' hj')]; exact y3 _ j h' hj

theorem ERel.nil (esz : Nat) (f : Nat → Value) : ERel G w esz [] f := ⟨fun e he => (nomatch he), fun e he => (nomatch he), fun i j hi => absurd hi (by simp)⟩

/-- Its cells, as firstCells reads them. -/
theorem slc_first (hs : Sim G σ w) {esz : Nat} {x : AV} {v : Value} {es : List (List AV)} (hx : VRel G w x v) (h : slc σ esz x = some es) :
    ∃ b c, v = .slice b es.length c ∧ es.length ≤ c ∧ ∃ f : Nat → Value, ERel G w esz es f ∧
      ∀ w' : World, w'.heap = w.heap → (Builtin.firstCells esz es.length (.slice b es.length c)).run P w' = .ok ((List.range (es.length * esz)).map f).toArray w' := by
  obtain ⟨b, c, hv, hc, hcase⟩ := slc_rel hs hx h
  refine ⟨b, c, hv, hc, ?_⟩
  rcases hcase with rfl | ⟨blk, o, rfl, f, hf, hcell⟩
  · exact ⟨fun _ => undef, .nil _ _, fun w' _ => by simpa using firstCells_zero⟩
  · refine ⟨f, hf, fun w' hw' => firstCells_run fun k hk => ?_⟩
    have := hcell k hk
    simp only [World.cell?, hw'] at this ⊢; exact this

theorem app_grow (hs : Sim G σ w) {sT xT e : TypeId} {size : Nat} {d : TypeDesc} {i : TypeInfo} {z : List AV} {base xb : Option Addr} {sCap xc : Nat} {ty : TypeId} {xs ys : List (List AV)} {fx fy : Nat → Value}
    (hsT : P.underlying sT = some (.slice e)) (hsz : tsz P e = some size) (hxT : P.underlying xT = some d) (hd : ∀ k, d ≠ .int k) (hi : P.info? e = some i) (hb : 1 ≤ i.bytes)
    (hz : tzero P e = some z) (hzl : z.length = size) (hfit : sCap < xs.length + ys.length) (hroom : (xs.length + ys.length) * i.bytes ≤ 140737488355328)
    (hfx : ERel G w size xs fx) (hfy : ERel G w size ys fy)
    (hx : ∀ w' : World, w'.heap = w.heap → (Builtin.firstCells size xs.length (.slice base xs.length sCap)).run P w' = .ok ((List.range (xs.length * size)).map fx).toArray w')
    (hy : ∀ w' : World, w'.heap = w.heap → (Builtin.firstCells size ys.length (.slice xb ys.length xc)).run P w' = .ok ((List.range (ys.length * size)).map fy).toArray w')
    {σ1 : Store} (hsub : σ1.sub σ) {id : Nat} (hρ : G.ρ id = none) (hid : σ1 id = none) :
    ∃ v w' G', (Builtin.append_ #[sT, xT] ty #[.slice base xs.length sCap, .slice xb ys.length xc]).run P w = .ok v w' ∧
      Ext G σ w G' (σ1.set id (.arr size (xs ++ ys))) w' ∧ Sim G' (σ1.set id (.arr size (xs ++ ys))) w' ∧ VRel G' w' (.os id size 0 (xs.length + ys.length)) v := by
  obtain ⟨zv, hz1, hz2⟩ := rZeroCells (G := G) (w := w) hz
  have hz1' : ∀ w' : World, (zeroValue e).run P w' = .ok zv w' := fun w' => by
    obtain ⟨zv', h1, h2⟩ := rZero (P := P) (w := w') hz
    obtain ⟨zv2, h3, h4⟩ := rZero (P := P) (w := w) hz
    rw [hz1] at h3; cases h3
    unfold zeroValue at hz1 h1
    cases hinf : P.info? e with
    | none => rw [hinf] at hi; cases hi
    | some ii =>
      simp only [Sem.run_bind, rTypeInfo hinf, Result.andThen_ok] at hz1 h1
      cases hzz : ii.zero with
      | none => simp [hzz] at hz1
      | some q =>
        simp [hzz] at hz1 h1
        unfold zeroValue
        simp [rTypeInfo hinf, hzz, hz1]
  obtain ⟨newCap, hcap, hrun⟩ := append_grows (ty := ty) hsT hsz hxT hd hi hb hfit hroom hx hy hz1'
  have hzsz : zv.cells.size = size := by rw [← hz2.1, hzl]
  have hs1 : Sim G σ1 w.drew := (hs.heap (w' := w.drew) rfl).sub hsub
  have h1 : ((List.range (xs.length * size)).map fx).toArray.size = xs.length * size := by simp
  have h2 : ((List.range (ys.length * size)).map fy).toArray.size = ys.length * size := by simp
  have h3 : (Builtin.zeroCells zv.cells (newCap - (xs.length + ys.length))).size = (newCap - (xs.length + ys.length)) * size := by simp [Builtin.zeroCells, hzsz]
  have hadd : (xs.length + ys.length) * size = xs.length * size + ys.length * size := Nat.add_mul _ _ _
  generalize hA : ((List.range (xs.length * size)).map fx).toArray = A at hrun h1
  generalize hB : ((List.range (ys.length * size)).map fy).toArray = B at hrun h2
  generalize hC : Builtin.zeroCells zv.cells (newCap - (xs.length + ys.length)) = C at hrun h3
  have hE : ERel G w size (xs ++ ys) (fun k => (A ++ B ++ C).getD k undef) := hfx.append hfy
    (fun k hk => by
      show (A ++ B ++ C).getD k undef = fx k
      rw [getD_append_left (by simp; omega), getD_append_left (by omega), ← hA, getD_map_range hk])
    (fun k hk => by
      show (A ++ B ++ C).getD (xs.length * size + k) undef = fy k
      rw [getD_append_left (by simp; omega), getD_append_right (by omega), h1, ← hB, Nat.add_sub_cancel_left, getD_map_range hk])
  obtain ⟨e1, e2, e3⟩ := hE
  obtain ⟨G', g1, g2, g3⟩ := new_arr (es := xs ++ ys) (esz := size) (cs := A ++ B ++ C) hs1 hρ hid e e1 e2
    (by simp only [List.length_append, Array.size_append]; omega)
    (fun a j ha hj => by have h := VRel.heap (w' := w.drew) (w := w) rfl (e3 a j ha hj); exact h)
  refine ⟨_, _, G', hrun, ((Ext.drew G σ w).sub hsub).trans g1, g2, ?_⟩
  have hcell : newCap * size ≤ (A ++ B ++ C).size := by
    simp only [Array.size_append, h1, h2, h3]
    have : newCap * size = (xs.length + ys.length) * size + (newCap - (xs.length + ys.length)) * size := by rw [← Nat.add_mul]; congr 1; omega
    omega
  have := VRel.os (w := w.drew.alloc (.cells (A ++ B ++ C) e (0, 0))) (esz := size) (off := 0) (len := xs.length + ys.length) (c := newCap) g3 hcap ⟨e, _, alloc_shape _ _, by simpa using hcell⟩
  simpa using this

theorem slc_os {esz id esz' off len : Nat} {xs : List (List AV)} (h : slc σ esz (.os id esz' off len) = some xs) :
    esz' = esz ∧ ∃ es, σ id = some (.arr esz es) ∧ off + len ≤ es.length ∧ xs = (es.drop off).take len ∧ xs.length = len := by
  simp only [slc] at h
  split at h
  · rename_i e2 es hσ
    split at h
    · rename_i hc
      obtain ⟨rfl, rfl, hle⟩ := hc
      cases h
      exact ⟨rfl, es, hσ, hle, rfl, by simp; omega⟩
    · cases h
  · cases h

theorem app_ok (hs : Sim G σ w) {sT xT e : TypeId} {size : Nat} {d : TypeDesc} {i : TypeInfo} {z : List AV} {ty : TypeId} {x y : AV} {vx vy : Value} {K : AV → Store → Prop}
    (hsT : P.underlying sT = some (.slice e)) (hsz : tsz P e = some size) (hxT : P.underlying xT = some d) (hd : ∀ k, d ≠ .int k) (hi : P.info? e = some i) (hb : 1 ≤ i.bytes)
    (hz : tzero P e = some z) (hzl : z.length = size) (hx : VRel G w x vx) (hy : VRel G w y vy) (hK : appwp size i.bytes x y σ K) :
    ∃ v w' G' σ' av, (Builtin.append_ #[sT, xT] ty #[vx, vy]).run P w = .ok v w' ∧ Ext G σ w G' σ' w' ∧ Sim G' σ' w' ∧ VRel G' w' av v ∧ K av σ' := by
  unfold appwp at hK
  split at hK
  · rename_i xs ys hxs hys
    obtain ⟨hroom, hK⟩ := hK
    obtain ⟨yb, yc, rfl, hyc, fy, hfy, hyrun⟩ := slc_first (P := P) hs hy hys
    obtain ⟨id, hidρ, hidσ⟩ := hs.fresh
    split at hK
    · -- onto nil
      have e1 := hx.of_nils
      subst e1
      simp only [slc, Option.some.injEq] at hxs
      subst hxs
      obtain ⟨hK1, hK2⟩ := hK
      by_cases hne : ys = []
      · subst hne
        refine ⟨_, w, G, σ, .nils, append_fits (w' := w) (new := #[]) hsT hsz hxT hd (by simp) firstCells_zero (by simp), Ext.refl _ _ _, hs, .nils, hK1 rfl⟩
      · have hpos : 0 < ys.length := List.length_pos_iff.2 hne
        obtain ⟨v, w', G', h1, h2, h3, h4⟩ := app_grow (ty := ty) (xs := []) (base := none) (sCap := 0) (fx := fun _ => undef) hs hsT hsz hxT hd hi hb hz hzl (by simpa using hpos) (by simpa using hroom) (ERel.nil _ _) hfy
          (fun w' _ => by simpa using firstCells_zero) hyrun (Store.sub_refl σ) hidρ hidσ
        simp only [List.length_nil, List.nil_append, Nat.zero_add] at h1 h2 h3 h4
        exact ⟨v, w', G', _, _, h1, h2, h3, h4, hK2 hne id hidσ⟩
    · -- onto what is owned
      rename_i id0 esz' off len
      obtain ⟨hesz, es, hσ, hle, hxe, hxl⟩ := slc_os hxs
      obtain rfl := hesz.symm
      obtain ⟨xb, xc, hv, hxc, fx, hfx, hxrun⟩ := slc_first (P := P) hs hx hxs
      subst hv
      have hdel : ((σ.del id0) id) = none := by
        simp only [Store.del]; split
        · rfl
        · exact hidσ
      by_cases hfit : xs.length + ys.length ≤ xc
      · have hnew := hyrun w rfl
        obtain ⟨b, base, hbρ, ⟨c, hv, hlen, ty', n, hsh, hcap⟩ | ⟨h0, x0, hv⟩⟩ := hx.of_os
        · cases hv
          obtain ⟨b', base', hb', ho⟩ := hs.used id0 _ hσ
          rw [hbρ] at hb'; cases hb'
          cases ho with
          | arr hh hsz' hln hf hr =>
            rename_i cur tyc
            have hsh' : n = cur.size := by
              simp only [World.shape?, hh, Option.some.injEq, Prod.mk.injEq] at hsh; exact hsh.2.symm
            subst hsh'
            have hm1 : (off + xc) * size = off * size + xc * size := Nat.add_mul _ _ _
            have hm2 : (xs.length + ys.length) * size ≤ xc * size := Nat.mul_le_mul_right _ hfit
            have hm3 : (xs.length + ys.length) * size = xs.length * size + ys.length * size := Nat.add_mul _ _ _
            generalize hN : (List.range (ys.length * size)).map fy = N at hnew
            have hNl : N.length = ys.length * size := by rw [← hN]; simp
            have hone : ∀ v ∈ N, v.oneCell' = true := by
              intro v hv
              rw [← hN] at hv
              obtain ⟨k, hk, rfl⟩ := List.mem_map.1 hv
              have hk' : k < ys.length * size := by simpa using hk
              have hpos : 0 < size := by
                rcases Nat.eq_zero_or_pos size with h | h
                · subst h; simp at hk'
                · exact h
              obtain ⟨f1, f2, f3⟩ := hfy
              have hi' : k / size < ys.length := by rw [Nat.div_lt_iff_lt_mul hpos]; exact hk'
              have hj' : k % size < (ys[k / size]).length := by rw [f1 _ (List.getElem_mem hi')]; exact Nat.mod_lt _ hpos
              have := f3 (k / size) (k % size) hi' hj'
              rw [Nat.div_add_mod'] at this
              exact this.oneCell (f2 _ (List.getElem_mem hi') _ (List.getElem_mem hj'))
            have hle2 : base + off * size + xs.length * size + 0 + N.length ≤ cur.size := by omega
            have hrun := run_storeCells_at (P := P) b (base + off * size + xs.length * size) tyc N 0 cur w hh hle2 hone
            simp only [Nat.add_zero] at hrun hle2
            obtain ⟨G', g1, g2, g3⟩ := hs.move (id' := id) (o' := .arr size (xs ++ ys)) (base' := base + off * size) (w' := w.setRow b (cur.toList.take (base + off * size + xs.length * size) ++ N ++ cur.toList.drop (base + off * size + xs.length * size + N.length)).toArray)
              hσ hbρ hidρ rfl rfl rfl (Nat.le_refl _) (setRow_size _ _) (fun c hc => setRow_ne _ hc)
              (by simp only [World.shape?, setRow_get hh, hh, lay_size hle2])
              (fun G' hvr => by
                have hE : ERel G w size (xs ++ ys) (fun k => (cur.toList.take (base + off * size + xs.length * size) ++ N ++ cur.toList.drop (base + off * size + xs.length * size + N.length)).toArray.getD (base + off * size + k) undef) := by
                  refine ERel.append (fx := fun k => cur.getD (base + (off * size + k)) undef) ⟨fun e he => hln e (by rw [hxe] at he; exact List.mem_of_mem_drop (List.mem_of_mem_take he)), fun e he => hf e (by rw [hxe] at he; exact List.mem_of_mem_drop (List.mem_of_mem_take he)), fun i j hi hj => ?_⟩ hfy (fun k hk => ?_) (fun k hk => ?_)
                  · have e : xs[i] = es[off + i]'(by omega) := by
                      have h0 := congrArg (fun l : List (List AV) => l[i]?) hxe
                      simp only [List.getElem?_take_of_lt hi, List.getElem?_drop] at h0
                      rw [List.getElem?_eq_getElem hi, List.getElem?_eq_getElem (by omega)] at h0
                      exact Option.some.inj h0
                    have h1 := hr (off + i) j (by omega) (by rw [← e]; exact hj)
                    simp only [e]
                    rw [Nat.add_mul, Nat.add_assoc] at h1
                    exact h1
                  · show (List.toArray _).getD _ _ = _
                    rw [lay_get hle2, if_neg (by omega), Nat.add_assoc]
                  · show (List.toArray _).getD _ _ = _
                    rw [lay_get hle2, if_pos (by omega)]
                    have : base + off * size + (xs.length * size + k) - (base + off * size + xs.length * size) = k := by omega
                    rw [this, ← hN]
                    simp [List.getD, hk]
                obtain ⟨q1, q2, q3⟩ := hE
                exact .arr (setRow_get hh) (by rw [lay_size hle2, List.length_append]; omega) q1 q2 fun i j hi hj => hvr _ _ (q3 i j hi hj))
            refine ⟨_, _, G', _, _, append_fits (ty := ty) hsT hsz hxT hd hfit hnew (by
              show (storeCells ((⟨b, base + off * size, none⟩ : Addr).add (xs.length * size)) N.toArray.toList).run P w = _
              rw [add_mk]; exact hrun), g1, g2, ?_, hK id hidσ⟩
            have hs2 : (w.setRow b (cur.toList.take (base + off * size + xs.length * size) ++ N ++ cur.toList.drop (base + off * size + xs.length * size + N.length)).toArray).shape? b = some (tyc, cur.size) := by
              simp only [World.shape?, setRow_get hh, lay_size hle2]
            have := VRel.os (esz := size) (off := 0) (len := xs.length + ys.length) (c := xc) g3 hfit ⟨tyc, _, hs2, by rw [Nat.zero_add]; omega⟩
            simpa using this
        · simp only [Value.slice.injEq] at hv
          obtain ⟨rfl, hxl0, rfl⟩ := hv
          have hy0 : ys = [] := by apply List.eq_nil_of_length_eq_zero; omega
          have hx0 : xs = [] := by apply List.eq_nil_of_length_eq_zero; omega
          subst hy0; subst hx0
          obtain ⟨b', base', hb', ho⟩ := hs.used id0 _ hσ
          rw [hbρ] at hb'; cases hb'
          cases ho with
          | arr hh hsz' hln hf hr =>
            obtain ⟨G', g1, g2, g3⟩ := hs.move (id' := id) (o' := .arr size []) (base' := base) (w' := w) hσ hbρ hidρ rfl rfl rfl (Nat.le_refl _) rfl (fun c hc => rfl) rfl
              (fun G' hvr => .arr hh (by simp; omega) (fun e he => (nomatch he)) (fun e he => (nomatch he)) (fun i j hi => absurd hi (by simp)))
            exact ⟨_, _, G', _, _, append_fits (ty := ty) (w' := w) (new := #[]) hsT hsz hxT hd hfit firstCells_zero (by simp [storeCells]), g1, g2, .os0 g3, hK id hidσ⟩
      · obtain ⟨v, w', G', h1, h2, h3, h4⟩ := app_grow (ty := ty) hs hsT hsz hxT hd hi hb hz hzl (by omega) hroom hfx hfy hxrun hyrun (Store.sub_del σ id0) hidρ hdel
        exact ⟨v, w', G', _, _, h1, h2, h3, h4, hK id hidσ⟩
    · exact hK.elim
  · exact hK.elim

/-- An append of so many zeros, onto nil. -/
def appzwp (esz bytes : Nat) (z : List AV) (x n : AV) (σ : Store) (K : AV → Store → Prop) : Prop :=
  match x, n with
  | .nils, .int .i64 n => 0 ≤ n ∧ n * bytes ≤ 140737488355328 ∧ (n = 0 → K .nils σ) ∧
    (n ≠ 0 → ∀ id, σ id = none → K (.os id esz 0 n.toNat) (σ.set id (.arr esz (List.replicate n.toNat z))))
  | _, _ => False

theorem appz_ok (hs : Sim G σ w) {sT xT e : TypeId} {size : Nat} {k : IntKind} {i : TypeInfo} {z : List AV} {ty : TypeId} {x y : AV} {vx vy : Value} {K : AV → Store → Prop}
    (hsT : P.underlying sT = some (.slice e)) (hsz : tsz P e = some size) (hxT : P.underlying xT = some (.int k)) (hi : P.info? e = some i) (hb : 1 ≤ i.bytes)
    (hz : tzero P e = some z) (hzl : z.length = size) (hx : VRel G w x vx) (hy : VRel G w y vy) (hK : appzwp size i.bytes z x y σ K) :
    ∃ v w' G' σ' av, (Builtin.append_ #[sT, xT] ty #[vx, vy]).run P w = .ok v w' ∧ Ext G σ w G' σ' w' ∧ Sim G' σ' w' ∧ VRel G' w' av v ∧ K av σ' := by
  unfold appzwp at hK
  split at hK
  · rename_i n
    obtain ⟨h0, hroom, hK1, hK2⟩ := hK
    obtain rfl := hx.of_nils
    obtain rfl := hy.of_int
    have hle : n ≤ 140737488355328 := by
      have h1 : (1 : Int) ≤ (i.bytes : Int) := by omega
      have := Int.mul_le_mul_of_nonneg_left h1 h0
      rw [Int.mul_one] at this
      omega
    have hw : IntKind.i64.wrap n = n := IntWalk.i64_in n (by omega)
    obtain ⟨zv, hz1, hz2⟩ := rZeroCells (G := G) (w := w) hz
    have hz1' : ∀ w' : World, (zeroValue e).run P w' = .ok zv w' := fun w' => by
      obtain ⟨zv', h1, h2⟩ := rZero (P := P) (w := w') hz
      unfold zeroValue at hz1 h1
      cases hinf : P.info? e with
      | none => rw [hinf] at hi; cases hi
      | some ii =>
        simp only [Sem.run_bind, rTypeInfo hinf, Result.andThen_ok] at hz1 h1
        cases hzz : ii.zero with
        | none => simp [hzz] at hz1
        | some q =>
          simp [hzz] at hz1 h1
          unfold zeroValue
          simp [rTypeInfo hinf, hzz, hz1]
    have hzsz : zv.cells.size = size := by rw [← hz2.1, hzl]
    obtain ⟨z1, z2, z3⟩ := hz2
    have hbig : ¬ (n * (i.bytes : Int) > 2 ^ 48) := by
      have : (2 : Int) ^ 48 = 281474976710656 := by decide
      omega
    by_cases hn : n = 0
    · subst hn
      refine ⟨.slice none 0 0, w, G, σ, .nils, ?_, Ext.refl _ _ _, hs, .nils, hK1 rfl⟩
      unfold Builtin.append_
      simp only [List.getElem?_toArray, List.getElem?_cons_zero, List.getElem?_cons_succ, Sem.run_bind, rUnderlying hsT, rUnderlying hxT, Result.andThen_ok, rSizeOf hsz, Sem.run_pure]
      simp [asInt, asIntOf_run, rTypeInfo hi, hw, Sem.run_bind]
    · obtain ⟨id, hidρ, hidσ⟩ := hs.fresh
      have hpos : 0 < n.toNat := by omega
      have hcap : Builtin.nextslicecap (0 + n.toNat) 0 * i.bytes ≤ 281474976710656 := by
        have h1 : Builtin.nextslicecap (0 + n.toNat) 0 = n.toNat := by
          unfold Builtin.nextslicecap
          rw [if_pos (by omega)]; omega
        rw [h1]
        have : ((n.toNat * i.bytes : Nat) : Int) ≤ 140737488355328 := by
          rw [Int.natCast_mul, Int.toNat_of_nonneg h0]; exact hroom
        omega
      have hrun : ∃ newCap, n.toNat ≤ newCap ∧ (Builtin.append_ #[sT, xT] ty #[.slice none 0 0, .int .i64 n]).run P w =
          .ok (.slice (some ⟨w.heap.size, 0, none⟩) n.toNat newCap) (w.drew.alloc (.cells (Builtin.zeroCells zv.cells n.toNat ++ Builtin.zeroCells zv.cells (newCap - n.toNat)) e (0, 0))) := by
        refine ⟨(Question.appendCap (0 + n.toNat) 0 e).cut (w.tape w.drawn (.appendCap (0 + n.toNat) 0 e)), by simp only [Question.cut]; omega, ?_⟩
        generalize hq : (Question.appendCap (0 + n.toNat) 0 e).cut (w.tape w.drawn (.appendCap (0 + n.toNat) 0 e)) = newCap
        unfold Builtin.append_
        simp only [List.getElem?_toArray, List.getElem?_cons_zero, List.getElem?_cons_succ, Sem.run_bind, rUnderlying hsT, rUnderlying hxT, Result.andThen_ok, rSizeOf hsz, Sem.run_pure,
          asInt, asIntOf_run, hw, if_true]
        rw [if_neg (by omega)]
        simp only [Sem.run_bind, rTypeInfo hi, Result.andThen_ok, Sem.run_pure]
        rw [if_neg hbig]
        simp only [Sem.run_bind, rTypeInfo hi, Result.andThen_ok, Sem.run_pure]
        rw [if_neg (by omega)]
        simp only [Sem.run_bind, rTypeInfo hi, Result.andThen_ok]
        rw [if_neg (by rw [run_i64max]; omega)]
        simp only [Sem.run_bind, rTypeInfo hi, Result.andThen_ok]
        rw [if_neg (by omega)]
        simp only [Sem.run_bind, run_choose, Question.forced, Bool.false_eq_true, if_false, Result.andThen_ok, hq, rTypeInfo hi, run_askRoom]
        have h3 := hz1' w.drew
        by_cases h00 : n.toNat * size = 0
        · have hs0 : size = 0 := by
            rcases Nat.mul_eq_zero.1 h00 with h | h <;> omega
          show ((Builtin.firstCells size 0 (.slice none 0 0)).run P w.drew).andThen _ = _
          simp only [Builtin.firstCells, Sem.run_pure, Result.andThen_ok, Bool.not_true, Bool.false_eq_true, if_false, h00, if_true, Sem.run_bind, h3, newRow, run_newObj]
          have : Builtin.zeroCells zv.cells n.toNat = #[] := by
            unfold Builtin.zeroCells; rw [hzsz, hs0]; simp
          rw [this]
          simp
          rfl
        · show ((Builtin.firstCells size 0 (.slice none 0 0)).run P w.drew).andThen _ = _
          simp only [Builtin.firstCells, Sem.run_pure, Result.andThen_ok, Bool.not_true, Bool.false_eq_true, if_false, if_neg h00, Sem.run_bind, h3, newRow, run_newObj]
          simp
          rfl
      obtain ⟨newCap, hcap', hrun⟩ := hrun
      have hs1 : Sim G σ w.drew := hs.heap (w' := w.drew) rfl
      have hC1 : (Builtin.zeroCells zv.cells n.toNat).size = n.toNat * size := by simp [Builtin.zeroCells, hzsz]
      have hC2 : (Builtin.zeroCells zv.cells (newCap - n.toNat)).size = (newCap - n.toNat) * size := by simp [Builtin.zeroCells, hzsz]
      generalize hcells : Builtin.zeroCells zv.cells n.toNat ++ Builtin.zeroCells zv.cells (newCap - n.toNat) = cells at hrun
      have hcs : cells.size = newCap * size := by
        rw [← hcells, Array.size_append, hC1, hC2, ← Nat.add_mul]; congr 1; omega
      obtain ⟨G', g1, g2, g3⟩ := new_arr (es := List.replicate n.toNat z) (esz := size) (cs := cells) hs1 hidρ hidσ e
        (fun x hx => by rw [List.eq_of_mem_replicate hx]; exact hzl)
        (fun x hx c hc => by rw [List.eq_of_mem_replicate hx] at hc; exact z2 c hc)
        (by rw [hcs, List.length_replicate]; exact Nat.mul_le_mul_right _ hcap')
        (fun a j ha hj => by
          simp only [List.getElem_replicate] at hj ⊢
          simp only [List.length_replicate] at ha
          obtain ⟨x, hx, hr⟩ := z3 j _ (List.getElem?_eq_getElem hj)
          have hjs : j < size := by omega
          have hlt : a * size + j < n.toNat * size := by
            have := Nat.mul_le_mul_right size (Nat.succ_le_of_lt ha)
            rw [Nat.succ_mul] at this; omega
          have hmod : (a * size + j) % size = j := by rw [Nat.mul_comm, Nat.mul_add_mod]; exact Nat.mod_eq_of_lt hjs
          have : cells.getD (a * size + j) undef = x := by
            rw [← hcells, getD_append_left (by rw [hC1]; exact hlt), Array.getD_eq_getD_getElem?]
            simp only [Builtin.zeroCells, Array.getElem?_map, hzsz, Array.getElem?_range, if_pos hlt, Option.map_some, hmod, Option.getD_some]
            rw [Array.getElem!_eq_getD, Array.getD_eq_getD_getElem?, hx]; rfl
          rw [this]; exact VRel.heap (w' := w.drew) (w := w) rfl hr)
      refine ⟨_, _, G', _, _, hrun, (Ext.drew G σ w).trans g1, g2, ?_, hK2 hn id hidσ⟩
      have := VRel.os (w := w.drew.alloc (.cells cells e (0, 0))) (esz := size) (off := 0) (len := n.toNat) (c := newCap) g3 hcap' ⟨e, cells.size, alloc_shape _ _, by rw [hcs]; simp⟩
      simpa using this
  · exact hK.elim

/-- The elements of a slice are made zeros. -/
def clrwp (esz : Nat) (z : List AV) (x : AV) (σ : Store) (K : Store → Prop) : Prop := match x with
  | .nils => K σ
  | .os id esz' off len => match σ id with
    | some (.arr esz'' es) => esz' = esz ∧ esz'' = esz ∧ off + len ≤ es.length ∧ K (σ.set id (.arr esz (es.take off ++ (List.replicate len z ++ es.drop (off + len)))))
    | _ => False
  | _ => False

theorem Store.set_id {σ : Store} {id : Nat} {o : Obj} (h : σ id = some o) : σ.set id o = σ := by
  funext j
  simp only [Store.set]
  split
  · rename_i e; subst e; exact h.symm
  · rfl

theorem clr_ok (hs : Sim G σ w) {t e ty : TypeId} {size : Nat} {z : List AV} {x : AV} {vx : Value} {K : Store → Prop}
    (hT : P.underlying t = some (.slice e)) (hsz : tsz P e = some size) (hz : tzero P e = some z) (hzl : z.length = size) (hx : VRel G w x vx) (hK : clrwp size z x σ K) :
    ∃ w' σ', (Builtin.clear_ #[t] ty #[vx]).run P w = .ok (.tuple #[]) w' ∧ Ext G σ w G σ' w' ∧ Sim G σ' w' ∧ K σ' := by
  unfold clrwp at hK
  split at hK
  · obtain rfl := hx.of_nils
    refine ⟨w, σ, ?_, Ext.refl _ _ _, hs, hK⟩
    unfold Builtin.clear_
    simp [Sem.run_bind, rUnderlying hT]
  · rename_i id esz' off len
    split at hK
    · rename_i esz'' es hσ
      obtain ⟨rfl, rfl, hle, hK⟩ := hK
      rcases Nat.eq_zero_or_pos len with h0 | hpos
      · subst h0
        have e1 : es.take off ++ (List.replicate 0 z ++ es.drop (off + 0)) = es := by simp
        rw [e1, Store.set_id hσ] at hK
        have : ∃ a c, vx = .slice a 0 c := by
          obtain ⟨b, base, hb, ⟨c, hv, _⟩ | ⟨_, y, hv⟩⟩ := hx.of_os
          · exact ⟨_, _, hv⟩
          · exact ⟨_, _, hv⟩
        obtain ⟨a, c, rfl⟩ := this
        refine ⟨w, σ, ?_, Ext.refl _ _ _, hs, hK⟩
        unfold Builtin.clear_
        cases a <;> simp [Sem.run_bind, rUnderlying hT]
      · obtain ⟨b, base, hbρ, ⟨c, rfl, hlen, _⟩ | ⟨hl0, _⟩⟩ := hx.of_os
        · obtain ⟨b', base', hb', ho⟩ := hs.used id _ hσ
          rw [hbρ] at hb'; cases hb'
          obtain ⟨zv, hz1, z1, z2, z3⟩ := rZeroCells (G := G) (w := w) hz
          cases ho with
          | arr hh hsz' hln hf hr =>
            rename_i cur tyc
            have hzsz : zv.cells.size = esz'' := by omega
            generalize hN : (Builtin.zeroCells zv.cells len).toList = N
            have hNl : N.length = len * esz'' := by rw [← hN]; simp [Builtin.zeroCells, hzsz]
            have hm : (off + len) * esz'' = off * esz'' + len * esz'' := Nat.add_mul _ _ _
            have hm2 : (off + len) * esz'' ≤ es.length * esz'' := Nat.mul_le_mul_right _ hle
            have hget : ∀ k, k < len * esz'' → ∃ q, z[k % esz'']? = some q ∧ VRel G w q (N.getD k undef) ∧ q.flat = true := fun k hk => by
              have hp : 0 < esz'' := by
                rcases Nat.eq_zero_or_pos esz'' with h | h
                · rw [h] at hk; simp at hk
                · exact h
              have hlt : k % esz'' < z.length := by rw [hzl]; exact Nat.mod_lt _ hp
              obtain ⟨v, hv, hvr⟩ := z3 (k % esz'') _ (List.getElem?_eq_getElem hlt)
              refine ⟨_, List.getElem?_eq_getElem hlt, ?_, z2 _ (List.getElem_mem hlt)⟩
              have : N.getD k undef = v := by
                rw [← hN]
                simp only [Builtin.zeroCells, Array.toList_map, Array.toList_range, hzsz, List.getD, List.getElem?_map, List.getElem?_range hk, Option.map_some, Option.getD_some]
                rw [Array.getElem!_eq_getD, Array.getD_eq_getD_getElem?, hv]; rfl
              rw [this]; exact hvr
            have hone : ∀ v ∈ N, v.oneCell' = true := by
              intro v hv
              obtain ⟨k, hk, rfl⟩ := List.getElem_of_mem hv
              obtain ⟨q, _, hq2, hq3⟩ := hget k (by omega)
              rw [List.getD_eq_getElem?_getD, List.getElem?_eq_getElem hk] at hq2
              exact hq2.oneCell hq3
            have hle2 : base + off * esz'' + 0 + N.length ≤ cur.size := by omega
            have hrun := run_storeCells_at (P := P) b (base + off * esz'') tyc N 0 cur w hh hle2 hone
            simp only [Nat.add_zero] at hrun hle2
            generalize hw' : w.setRow b (cur.toList.take (base + off * esz'') ++ N ++ cur.toList.drop (base + off * esz'' + N.length)).toArray = w' at hrun
            have hput := hs.put (o' := .arr esz'' (es.take off ++ (List.replicate len z ++ es.drop (off + len)))) (w' := w') hσ hbρ (by rw [← hw']; rfl) (by rw [← hw']; rfl) (by rw [← hw']; rfl) (by rw [← hw']; exact Nat.le_refl _)
              (by rw [← hw']; exact setRow_size _ _) (fun c hc => by rw [← hw']; exact setRow_ne _ hc) (by rw [← hw']; simp only [World.shape?, setRow_get hh, hh, lay_size hle2])
              (fun hvr => by
                have hlen' : (es.take off ++ (List.replicate len z ++ es.drop (off + len))).length = es.length := by simp; omega
                have hmem : ∀ x ∈ (es.take off ++ (List.replicate len z ++ es.drop (off + len))), x ∈ es ∨ x = z := fun x hx => by
                  rcases List.mem_append.1 hx with h | h
                  · exact .inl (List.mem_of_mem_take h)
                  · rcases List.mem_append.1 h with h | h
                    · exact .inr (List.eq_of_mem_replicate h)
                    · exact .inl (List.mem_of_mem_drop h)
                refine .arr (cs := (cur.toList.take (base + off * esz'') ++ N ++ cur.toList.drop (base + off * esz'' + N.length)).toArray) (by rw [← hw']; exact setRow_get hh) (by rw [lay_size hle2, hlen']; exact hsz')
                  (fun x hx => by rcases hmem x hx with h | rfl
                                  · exact hln x h
                                  · exact hzl)
                  (fun x hx => by rcases hmem x hx with h | rfl
                                  · exact hf x h
                                  · exact fun c hc => z2 c hc) (fun i j hi hj => ?_)
                apply hvr
                have hi0 : i < es.length := by rw [← hlen']; exact hi
                have hjs : j < esz'' := by
                  have : ((es.take off ++ (List.replicate len z ++ es.drop (off + len)))[i]).length = esz'' := by
                    rcases hmem _ (List.getElem_mem hi) with h | h
                    · exact hln _ h
                    · rw [h]; exact hzl
                  omega
                have hij : (i + 1) * esz'' ≤ es.length * esz'' := Nat.mul_le_mul_right _ hi0
                rw [Nat.succ_mul] at hij
                rw [lay_get hle2]
                by_cases hlo : i < off
                · have h1 : (i + 1) * esz'' ≤ off * esz'' := Nat.mul_le_mul_right _ hlo
                  rw [Nat.succ_mul] at h1
                  rw [if_neg (by omega)]
                  have e : (es.take off ++ (List.replicate len z ++ es.drop (off + len)))[i] = es[i] := by
                    rw [List.getElem_append_left (by simp; omega)]; simp
                  simp only [e] at hj ⊢
                  exact hr i j hi0 hj
                · by_cases hhi : i < off + len
                  · have h1 : (i - off + 1) * esz'' ≤ len * esz'' := Nat.mul_le_mul_right _ (by omega)
                    rw [Nat.succ_mul] at h1
                    have h2 : i * esz'' = off * esz'' + (i - off) * esz'' := by rw [← Nat.add_mul]; congr 1; omega
                    rw [if_pos (by omega)]
                    have e : (es.take off ++ (List.replicate len z ++ es.drop (off + len)))[i] = z := by
                      rw [List.getElem_append_right (by simp; omega), List.getElem_append_left (by simp; omega)]; simp
                    simp only [e] at hj ⊢
                    obtain ⟨q, hq1, hq2, _⟩ := hget ((i - off) * esz'' + j) (by omega)
                    have hmod : ((i - off) * esz'' + j) % esz'' = j := by rw [Nat.mul_comm, Nat.mul_add_mod]; exact Nat.mod_eq_of_lt hjs
                    rw [hmod, List.getElem?_eq_getElem hj] at hq1
                    cases hq1
                    have : base + (i * esz'' + j) - (base + off * esz'') = (i - off) * esz'' + j := by omega
                    rw [this]; exact hq2
                  · have h1 : (off + len) * esz'' ≤ i * esz'' := Nat.mul_le_mul_right _ (by omega)
                    rw [if_neg (by omega)]
                    have e : (es.take off ++ (List.replicate len z ++ es.drop (off + len)))[i] = es[i] := by
                      rw [List.getElem_append_right (by simp; omega), List.getElem_append_right (by simp; omega), List.getElem_drop]
                      congr 1; simp; omega
                    simp only [e] at hj ⊢
                    exact hr i j hi0 hj)
            refine ⟨w', _, ?_, hput.1, hput.2, hK⟩
            unfold Builtin.clear_
            obtain ⟨n, rfl⟩ : ∃ n, len = n + 1 := ⟨len - 1, by omega⟩
            simp [Sem.run_bind, rUnderlying hT, hz1, hN, hrun]
        · omega
    · exact hK.elim
  · exact hK.elim

end
end Go.Am

/- AmM2 -/
namespace Go.Am

/-- What a map's write comes to. -/
def mupdwp (mk : MKey) (m k v : AV) (σ : Store) (K : Store → Prop) : Prop :=
  keyFits mk k = true ∧ match m with
  | .mp id => match σ id with
    | some (.map es) => match mfind k es 0 with
      | some (some (i, _)) => K (σ.set id (.map (es.set i (k, v))))
      | some none => K (σ.set id (.map (es ++ [(k, v)])))
      | none => False
    | _ => False
  | _ => False

def mdelwp (mk : MKey) (m k : AV) (σ : Store) (K : Store → Prop) : Prop :=
  keyFits mk k = true ∧ match m with
  | .mp id => match σ id with
    | some (.map es) => match mfind k es 0 with
      | some (some (i, _)) => K (σ.set id (.map (es.eraseIdx i)))
      | some none => K σ
      | none => False
    | _ => False
  | .nilmap => K σ
  | _ => False

theorem mfind_get {k : AV} : ∀ (es : List (AV × AV)) (s i : Nat) (v : AV), mfind k es s = some (some (i, v)) → s ≤ i ∧ ∃ k', es[i - s]? = some (k', v) ∧ kEq k k' = some true
  | [], s, i, v, h => by cases h
  | (k', v') :: r, s, i, v, h => by
    simp only [mfind] at h
    split at h
    · rename_i hk
      cases h
      exact ⟨Nat.le_refl _, k', by simp, hk⟩
    · obtain ⟨h1, k2, h2, h3⟩ := mfind_get r (s + 1) i v h
      refine ⟨by omega, k2, ?_, h3⟩
      rw [show i - s = (i - (s + 1)) + 1 by omega]; simpa using h2
    · cases h

section
variable {P : Program} {w : World} {G : Gh} {σ : Store}

theorem kEq_same {a b : AV} {x y : Value} (ha : VRel G w a x) (hb : VRel G w b y) (h : kEq a b = some true) : x = y := by
  unfold kEq at h
  split at h
  · rename_i j m k n h1 h2
    rw [asOne_some h1] at ha; rw [asOne_some h2] at hb
    rw [ha.of_int, hb.of_int]
    split at h
    · rename_i hj; subst hj; simp at h; rw [h]
    · cases h
  · split at h
    · rename_i h1 h2
      rw [asTwo_some h1] at ha; rw [asTwo_some h2] at hb
      obtain ⟨x1, y1, rfl, r1, r2⟩ := agg2 ha rfl
      obtain ⟨x2, y2, rfl, r3, r4⟩ := agg2 hb rfl
      rw [r1.of_int, r2.of_int, r3.of_int, r4.of_int]
      split at h
      · rename_i hj; obtain ⟨rfl, rfl⟩ := hj; simp at h; rw [h.1, h.2]
      · cases h
    · cases h

theorem sameBits_plain {a : AV} {x : Value} (ha : VRel G w a x) {mk : MKey} (hf : keyFits mk a = true) (d : Nat) : Instr.sameBits (d + 1 + 1) x x = true := by
  cases mk with
  | int k => obtain ⟨n, rfl⟩ := keyFits_int hf; rw [ha.of_int]; simp [Instr.sameBits]
  | two k1 k2 =>
    obtain ⟨m, n, rfl⟩ := keyFits_two hf
    obtain ⟨u, v, rfl, r1, r2⟩ := agg2 ha rfl
    rw [r1.of_int, r2.of_int]
    simp [Instr.sameBits]

theorem keyThatStays_run {a b : AV} {x y : Value} (ha : VRel G w a x) (hb : VRel G w b y) {mk : MKey} (hf : keyFits mk a = true) (h : kEq a b = some true) : (Instr.keyThatStays y x).run P w = .ok x w := by
  have e := kEq_same ha hb h
  subst e
  unfold Instr.keyThatStays
  have : Instr.sameBits 10000 x x = true := sameBits_plain ha hf 9998
  rw [if_pos this]; rfl

theorem setObj_run {b : Nat} {ents : Array MapEntry} {clock : Nat} (h : w.heap[b]? = some (.map ents clock)) (o : Go.Obj) : (setObj b o).run P w = .ok () { w with heap := w.heap.setIfInBounds b o } := by
  simp [setObj, Sem.run, h]

/-- A map object is written. -/
theorem put_map (hs : Sim G σ w) {id : Nat} {es es' : List (AV × AV)} {b base : Nat} {ents ents' : Array MapEntry} {clock clock' : Nat} (hσ : σ id = some (.map es)) (hρ : G.ρ id = some (b, base)) (hh : w.heap[b]? = some (.map ents clock))
    (hl : es'.length = ents'.size) (hv : ∀ k (h : k < es'.length) (h' : k < ents'.size), VRel G w es'[k].1 ents'[k].key ∧ VRel G w es'[k].2 ents'[k].val)
    (hborn : ∀ k (h : k < ents'.size), ents'[k].born < clock') (hinj : ∀ i j (hi : i < ents'.size) (hj : j < ents'.size), ents'[i].born = ents'[j].born → i = j) :
    Ext G σ w G (σ.set id (.map es')) { w with heap := w.heap.setIfInBounds b (.map ents' clock') } ∧ Sim G (σ.set id (.map es')) { w with heap := w.heap.setIfInBounds b (.map ents' clock') } := by
  have hlt : b < w.heap.size := (Array.getElem?_eq_some_iff.1 hh).1
  obtain ⟨b', base', hb', ho⟩ := hs.used id _ hσ
  rw [hρ] at hb'; cases hb'
  have h0 : base = 0 := by cases ho with | map _ h0 => exact h0
  have e : ({ w with heap := w.heap.setIfInBounds b (.map ents' clock') } : World).heap[b]? = some (.map ents' clock') := by simp [hlt]
  refine hs.put hσ hρ rfl rfl rfl (Nat.le_refl _) (by simp) (fun c hc => by simp [Array.getElem?_setIfInBounds_ne (Ne.symm hc)]) (by simp only [World.shape?, e, hh]) (fun hvr => ?_)
  exact .map (by simp [hlt]) h0 hl (fun k h h' => ⟨hvr _ _ (hv k h h').1, hvr _ _ (hv k h h').2⟩) hborn hinj

theorem mupd_ok (hs : Sim G σ w) {t kt et : TypeId} {mk : MKey} {m k v : AV} {vm vk vv : Value} {K : Store → Prop} (ht : P.underlying t = some (.map kt et)) (hk : keyKind P kt = some mk)
    (hm : VRel G w m vm) (hkv : VRel G w k vk) (hvv : VRel G w v vv) (h : mupdwp mk m k v σ K) :
    ∃ w' σ', (Instr.mapUpdate t vm vk vv).run P w = .ok () w' ∧ Ext G σ w G σ' w' ∧ Sim G σ' w' ∧ K σ' := by
  obtain ⟨hf, h⟩ := h
  split at h
  case h_2 => exact h.elim
  rename_i id
  split at h
  case h_2 => exact h.elim
  rename_i es hσ
  obtain ⟨b, base, hb, rfl⟩ := hm.of_mp
  obtain ⟨b', base', hb', ho⟩ := hs.used id _ hσ
  rw [hb] at hb'; cases hb'
  cases ho with
  | map hh h0 hl hr hborn hinj =>
    rename_i ents clock
    have hrel : Rels (fun e x => VRel G w e.1 x.key ∧ VRel G w e.2 x.val) es ents.toList := Rels.of_get (by simpa using hl) fun k hk hk' => by
      have := hr k hk (by simpa using hk')
      simpa using this
    have hck := checkKey_run (P := P) hk hf hkv false 9998
    have e10 : (9998 + 1 + 1 : Nat) = 10000 := rfl
    rw [e10] at hck
    have hlt : b < w.heap.size := (Array.getElem?_eq_some_iff.1 hh).1
    unfold Instr.mapUpdate
    simp only [Sem.run_bind, rUnderlying ht, Result.andThen_ok, getObj_run hh, hck]
    split at h
    · rename_i i u hfd
      obtain ⟨r', h1, h2⟩ := findKey_run (P := P) hk hf hkv hrel hfd
      obtain ⟨j, a, y, hj, rfl, hy⟩ := h2.resolve_left (fun e => by cases e.1)
      cases hj
      obtain ⟨_, k', hget, heq⟩ := mfind_get es 0 i u hfd
      simp only [Nat.sub_zero] at hget
      obtain ⟨hi, hge⟩ := List.getElem?_eq_some_iff.1 hget
      have hi' : i < ents.size := by omega
      have hkk : VRel G w k' ents[i].key := by have := (hr i hi hi').1; rw [hge] at this; exact this
      have hst := keyThatStays_run (P := P) hkv hkk hf heq
      have hold : ((ents[i]?).map (·.key)).getD vk = ents[i].key := by simp [hi']
      obtain ⟨g1, g2⟩ := put_map hs (es' := es.set i (k, v)) (ents' := ents.modify i fun e => { e with key := vk, val := vv }) (clock' := clock) hσ hb hh (by simpa using hl)
        (fun q hq hq' => by
          rw [Array.getElem_modify]
          by_cases hqi : i = q
          · subst hqi; simp; exact ⟨hkv, hvv⟩
          · rw [if_neg hqi, List.getElem_set_ne hqi]
            have hq2 : q < es.length := by simpa using hq
            exact hr q hq2 (by omega))
        (fun q hq => by
          have hq2 : q < ents.size := by simpa using hq
          rw [Array.getElem_modify]; split <;> exact hborn q hq2)
        (fun p q hp hq he => by
          have hp2 : p < ents.size := by simpa using hp
          have hq2 : q < ents.size := by simpa using hq
          refine hinj p q hp2 hq2 ?_
          rw [Array.getElem_modify, Array.getElem_modify] at he
          split at he <;> split at he <;> exact he)
      refine ⟨_, _, ?_, g1, g2, h⟩
      simp only [h1, Result.andThen_ok, Sem.run_bind, hold, hst, setObj_run hh]
    · rename_i hfd
      obtain ⟨r', h1, h2⟩ := findKey_run (P := P) hk hf hkv hrel hfd
      have hr' : r' = none := by rcases h2 with h2 | ⟨_, _, _, h2, _⟩; exact h2.2; cases h2
      subst hr'
      obtain ⟨g1, g2⟩ := put_map hs (es' := es ++ [(k, v)]) (ents' := ents.push { key := vk, val := vv, born := clock }) (clock' := clock + 1) hσ hb hh (by simp [hl])
        (fun q hq hq' => by
          rw [Array.getElem_push]
          by_cases hqs : q < ents.size
          · have e : (es ++ [(k, v)])[q] = es[q] := List.getElem_append_left (by omega)
            simp only [dif_pos hqs, e]
            exact hr q (by omega) hqs
          · have hqe : q = es.length := by simp at hq; omega
            subst hqe
            simp [hqs]; exact ⟨hkv, hvv⟩)
        (fun q hq => by
          rw [Array.getElem_push]
          by_cases hqs : q < ents.size
          · simp only [dif_pos hqs]; have := hborn q hqs; omega
          · simp only [dif_neg hqs]; omega)
        (fun p q hp hq he => by
          rw [Array.getElem_push, Array.getElem_push] at he
          simp only [Array.size_push] at hp hq
          by_cases hps : p < ents.size <;> by_cases hqs : q < ents.size
          · simp only [dif_pos hps, dif_pos hqs] at he; exact hinj p q hps hqs he
          · simp only [dif_pos hps, dif_neg hqs] at he; have := hborn p hps; omega
          · simp only [dif_neg hps, dif_pos hqs] at he; have := hborn q hqs; omega
          · omega)
      refine ⟨_, _, ?_, g1, g2, h⟩
      simp only [h1, Result.andThen_ok, setObj_run hh]
    · exact h.elim

theorem mdel_ok (hs : Sim G σ w) {t kt et : TypeId} {mk : MKey} {m k : AV} {vm vk : Value} {K : Store → Prop} {ty : TypeId} {kT : TypeId} (ht : P.underlying t = some (.map kt et)) (hk : keyKind P kt = some mk)
    (hm : VRel G w m vm) (hkv : VRel G w k vk) (h : mdelwp mk m k σ K) :
    ∃ w' σ', (Builtin.delete_ #[t, kT] ty #[vm, vk]).run P w = .ok (.tuple #[]) w' ∧ Ext G σ w G σ' w' ∧ Sim G σ' w' ∧ K σ' := by
  obtain ⟨hf, h⟩ := h
  have e10 : (9998 + 1 + 1 : Nat) = 10000 := rfl
  unfold Builtin.delete_
  simp only [List.getElem?_toArray, List.getElem?_cons_zero, List.getElem?_cons_succ, Sem.run_bind, rUnderlying ht, Result.andThen_ok]
  split at h
  · rename_i id
    split at h
    case h_2 => exact h.elim
    rename_i es hσ
    obtain ⟨b, base, hb, rfl⟩ := hm.of_mp
    obtain ⟨b', base', hb', ho⟩ := hs.used id _ hσ
    rw [hb] at hb'; cases hb'
    cases ho with
    | map hh h0 hl hr hborn hinj =>
      rename_i ents clock
      have hrel : Rels (fun e x => VRel G w e.1 x.key ∧ VRel G w e.2 x.val) es ents.toList := Rels.of_get (by simpa using hl) fun k hk hk' => by
        have := hr k hk (by simpa using hk')
        simpa using this
      have hck := checkKey_run (P := P) hk hf hkv ents.isEmpty 9998
      rw [e10] at hck
      have hlt : b < w.heap.size := (Array.getElem?_eq_some_iff.1 hh).1
      simp only [Sem.run_bind, Result.andThen_ok, getObj_run hh, hck]
      split at h
      · rename_i i u hfd
        obtain ⟨r', h1, h2⟩ := findKey_run (P := P) hk hf hkv hrel hfd
        obtain ⟨j, a, y, hj, rfl, hy⟩ := h2.resolve_left (fun e => by cases e.1)
        cases hj
        obtain ⟨_, k', hget, heq⟩ := mfind_get es 0 i u hfd
        simp only [Nat.sub_zero] at hget
        obtain ⟨hi, hge⟩ := List.getElem?_eq_some_iff.1 hget
        have hi' : i < ents.size := by omega
        have hel : ∀ q (hq : q < (ents.eraseIdxIfInBounds i).size), ∃ (p : Nat) (hp : p < ents.size), (ents.eraseIdxIfInBounds i)[q] = ents[p] ∧ p = (if q < i then q else q + 1) := fun q hq => by
          have hsz : (ents.eraseIdxIfInBounds i).size = ents.size - 1 := by simp [Array.eraseIdxIfInBounds, hi']
          by_cases hqi : q < i
          · exact ⟨q, by omega, by simp [Array.eraseIdxIfInBounds, hi', Array.getElem_eraseIdx, hqi], by rw [if_pos hqi]⟩
          · exact ⟨q + 1, by omega, by simp [Array.eraseIdxIfInBounds, hi', Array.getElem_eraseIdx, hqi], by rw [if_neg hqi]⟩
        obtain ⟨g1, g2⟩ := put_map hs (es' := es.eraseIdx i) (ents' := ents.eraseIdxIfInBounds i) (clock' := clock) hσ hb hh (by simp [Array.eraseIdxIfInBounds, hi', List.length_eraseIdx, hi, hl])
          (fun q hq hq' => by
            obtain ⟨p, hp, he, hpq⟩ := hel q hq'
            rw [he]
            have hp2 : p < es.length := by omega
            have e2 : (es.eraseIdx i)[q] = es[p] := by
              rw [List.getElem_eraseIdx]
              split
              · rename_i hqi; rw [if_pos hqi] at hpq; subst hpq; rfl
              · rename_i hqi; rw [if_neg hqi] at hpq; subst hpq; rfl
            rw [e2]
            exact hr p hp2 hp)
          (fun q hq => by obtain ⟨p, hp, he, _⟩ := hel q hq; rw [he]; exact hborn p hp)
          (fun p q hp hq he => by
            obtain ⟨p', hp', e1, f1⟩ := hel p hp
            obtain ⟨q', hq', e2, f2⟩ := hel q hq
            rw [e1, e2] at he
            have := hinj p' q' hp' hq' he
            subst this
            rw [f1] at f2
            split at f2 <;> split at f2 <;> omega)
        refine ⟨_, _, ?_, g1, g2, h⟩
        simp only [h1, Result.andThen_ok, Sem.run_bind, setObj_run hh, Sem.run_pure]
      · rename_i hfd
        obtain ⟨r', h1, h2⟩ := findKey_run (P := P) hk hf hkv hrel hfd
        have hr' : r' = none := by rcases h2 with h2 | ⟨_, _, _, h2, _⟩; exact h2.2; cases h2
        subst hr'
        have hself : ({ w with heap := w.heap.setIfInBounds b (.map ents clock) } : World) = w := by
          have : w.heap.setIfInBounds b (.map ents clock) = w.heap := by
            apply Array.ext
            · simp
            · intro q h1 h2
              by_cases hq : b = q
              · subst hq
                simp
                have := (Array.getElem?_eq_some_iff.1 hh).2
                exact this.symm
              · rw [Array.getElem_setIfInBounds_ne _ hq]
          rw [this]
        refine ⟨w, σ, ?_, Ext.refl _ _ _, hs, h⟩
        simp only [h1, Result.andThen_ok, Sem.run_bind, setObj_run hh, hself, Sem.run_pure]
      · exact h.elim
  · have hck := checkKey_run (P := P) hk hf hkv true 9998
    rw [e10] at hck
    have : vm = .map none := by cases hm; rfl
    subst this
    refine ⟨w, σ, ?_, Ext.refl _ _ _, hs, h⟩
    simp only [Sem.run_bind, hck, Result.andThen_ok, Sem.run_pure]
  · exact h.elim

end
end Go.Am

/- Am14 -/
namespace Go.Am

/-- A function that can be entered: it has a body. -/
def Ent (P : Program) (f : Nat) : Prop := ∃ fn, P.funcs[f]? = some fn ∧ (fn.name == "runtime.NumGoroutine") = false ∧ fn.body.isSome = true

/-- A call, over abstract values: it returns, and what it returns and leaves is as said. -/
def ACalls (P : Program) (f : Nat) (args : List AV) (σ : Store) (Q : AV → Store → Prop) : Prop :=
  Ent P f ∧ ∀ G w vs, Sim G σ w → Rels (VRel G w) args vs →
    Calls P f vs.toArray w (fun e w' => ∃ v a G' σ', e = .returned v ∧ Ext G σ w G' σ' w' ∧ Sim G' σ' w' ∧ VRel G' w' a v ∧ Q a σ')

theorem ACalls.mono {P : Program} {f : Nat} {args : List AV} {σ : Store} {Q Q' : AV → Store → Prop} (h : ACalls P f args σ Q) (hq : ∀ a s, Q a s → Q' a s) : ACalls P f args σ Q' :=
  ⟨h.1, fun G w vs hs hv => (h.2 G w vs hs hv).mono fun e w' ⟨v, a, G', σ', h1, h2, h3, h4, h5⟩ => ⟨v, a, G', σ', h1, h2, h3, h4, hq a σ' h5⟩⟩

/-- What was promised behind a call may be forgotten in part. -/
theorem ACalls.forget {P : Program} {f : Nat} {args : List AV} {σ : Store} {Q : AV → Store → Prop} (h : ACalls P f args σ (fun a s => ∃ s', Store.sub s' s ∧ Q a s')) : ACalls P f args σ Q :=
  ⟨h.1, fun G w vs hs hv => (h.2 G w vs hs hv).mono fun e w' ⟨v, a, G', σ', h1, h2, h3, h4, s', h5, h6⟩ => ⟨v, a, G', s', h1, h2.sub h5, h3.sub h5, h4, h6⟩⟩

theorem Store.union_left {σ φ : Store} {id : Nat} {o : Obj} (h : σ id = some o) : (σ.union φ) id = some o := by simp [Store.union, h]
theorem Store.union_right {σ φ : Store} {id : Nat} (h : σ id = none) : (σ.union φ) id = φ id := by simp [Store.union, h]
theorem Store.sub_union (σ φ : Store) : σ.sub (σ.union φ) := fun _ _ h => Store.union_left h
theorem Store.sub_union_right {σ φ : Store} (hd : σ.disj φ) : φ.sub (σ.union φ) := fun id o h => by
  cases hσ : σ id with
  | none => rw [Store.union_right hσ]; exact h
  | some x => rw [hd id x hσ] at h; cases h

/-- What is beside a piece of store stays as it was. -/
theorem Sim.frame {G G' : Gh} {σ σ' φ : Store} {w w' : World} (hs : Sim G (σ.union φ) w) (hd : σ.disj φ) (hx : Ext G σ w G' σ' w') (hs' : Sim G' σ' w') :
    σ'.disj φ ∧ Ext G (σ.union φ) w G' (σ'.union φ) w' ∧ Sim G' (σ'.union φ) w' := by
  have hφ := hs.sub (Store.sub_union_right hd)
  have hσ := hs.sub (Store.sub_union σ φ)
  have hd' : σ'.disj φ := fun id o ho => by
    cases hp : φ id with
    | none => rfl
    | some p =>
      obtain ⟨b, base, h1, _⟩ := hφ.used id p hp
      rcases hx.newId id o ho with ⟨o', h2⟩ | h2
      · rw [hd id o' h2] at hp; cases hp
      · rw [h1] at h2; cases h2
  have hnot : ∀ id p b base, φ id = some p → G.ρ id = some (b, base) → ¬ own G σ b := fun id p b base hp hb ⟨i, o, base', h1, h2⟩ => by
    have := hs.inj i id o p b base' base (Store.union_left h1) ((Store.sub_union_right hd) id p hp) h2 hb
    subst this
    rw [hd i o h1] at hp; cases hp
  have huni : ∀ {s : Store} {id : Nat} {o : Obj}, (s.union φ) id = some o → s id = some o ∨ (s id = none ∧ φ id = some o) := fun {s id o} h => by
    cases hs : s id with
    | none => rw [Store.union_right hs] at h; exact .inr ⟨rfl, h⟩
    | some x => rw [Store.union_left hs] at h; exact .inl h
  refine ⟨hd', ?_, ?_⟩
  · exact { hx with
      keep := fun b hb hn => hx.keep b hb (fun ho => hn (own_sub (Store.sub_union σ φ) ho))
      newI := fun b hb => (hx.newI b hb).imp id (Or.imp (own_sub (Store.sub_union σ φ)) id)
      newOwn := fun b ⟨i, o, base, h1, h2⟩ => by
        rcases huni h1 with h | ⟨_, h⟩
        · exact (hx.newOwn b ⟨i, o, base, h, h2⟩).imp (own_sub (Store.sub_union σ φ)) id
        · obtain ⟨b', base', h3, _⟩ := hφ.used i o h
          rw [hx.ρ _ _ h3] at h2; cases h2
          exact .inl ⟨i, o, base, (Store.sub_union_right hd) i o h, h3⟩
      newId := fun i o h1 => by
        rcases huni h1 with h | ⟨_, h⟩
        · rcases hx.newId i o h with ⟨o', h2⟩ | h2
          · exact .inl ⟨o', Store.union_left h2⟩
          · exact .inr h2
        · exact .inl ⟨o, (Store.sub_union_right hd) i o h⟩ }
  · exact
      { lt := hs'.lt, fin := hs'.fin, blk := hs'.blk
        used := fun i o h1 => by
          rcases huni h1 with h | ⟨_, h⟩
          · exact hs'.used i o h
          · obtain ⟨b, base, h3, h4⟩ := hφ.used i o h
            exact ⟨b, base, hx.ρ _ _ h3, h4.grow (hx.keep b (hφ.blk i b base h3) (hnot i o b base h h3)) fun a v hv => hx.vrel hσ hv⟩
        inj := fun i j oi oj b bi bj h1 h2 h3 h4 => by
          rcases huni h1 with h | ⟨_, h⟩ <;> rcases huni h2 with h' | ⟨_, h'⟩
          · exact hs'.inj i j oi oj b bi bj h h' h3 h4
          · obtain ⟨c, base, h5, _⟩ := hφ.used j oj h'
            rw [hx.ρ _ _ h5] at h4; cases h4
            rcases hx.newOwn b ⟨i, oi, bi, h, h3⟩ with h6 | h6
            · exact absurd h6 (hnot j oj _ _ h' h5)
            · have := hφ.blk j _ _ h5; omega
          · obtain ⟨c, base, h5, _⟩ := hφ.used i oi h
            rw [hx.ρ _ _ h5] at h3; cases h3
            rcases hx.newOwn b ⟨j, oj, bj, h', h4⟩ with h6 | h6
            · exact absurd h6 (hnot i oi _ _ h h5)
            · have := hφ.blk i _ _ h5; omega
          · obtain ⟨c, base, h5, _⟩ := hφ.used i oi h
            obtain ⟨c', base', h6, _⟩ := hφ.used j oj h'
            rw [hx.ρ _ _ h5] at h3; rw [hx.ρ _ _ h6] at h4
            exact hφ.inj i j oi oj b bi bj h h' (by rw [h5]; exact h3) (by rw [h6]; exact h4)
        apart := fun i o b base h1 h2 => by
          rcases huni h1 with h | ⟨_, h⟩
          · exact hs'.apart i o b base h h2
          · obtain ⟨c, base', h5, _⟩ := hφ.used i o h
            rw [hx.ρ _ _ h5] at h2; cases h2
            intro hI
            rcases hx.newI b hI with h6 | h6 | h6
            · exact hφ.apart i o _ _ h h5 h6
            · exact hnot i o _ _ h h5 h6
            · have := hφ.blk i _ _ h5; omega }

theorem ACalls.frame {P : Program} {f : Nat} {args : List AV} {σ φ : Store} {Q : AV → Store → Prop} (h : ACalls P f args σ Q) (hd : σ.disj φ) :
    ACalls P f args (σ.union φ) (fun a s => ∃ σ', s = σ'.union φ ∧ σ'.disj φ ∧ Q a σ') :=
  ⟨h.1, fun G w vs hs hv => (h.2 G w vs (hs.sub (Store.sub_union σ φ)) hv).mono fun e w' ⟨v, a, G', σ', h1, h2, h3, h4, h5⟩ => by
    obtain ⟨f1, f2, f3⟩ := hs.frame hd h2 h3
    exact ⟨v, a, G', _, h1, f2, f3, h4, σ', rfl, f1, h5⟩⟩

/-! ## Loud operations -/
inductive LO where
  | st (sz : Nat)
  | app (esz bytes : Nat)
  | appz (esz bytes : Nat) (z : List AV)
  | call (f : Nat)
  | callv
  | mupd (mk : MKey)
  | mdel (mk : MKey)
  | nilq (neg : Bool)
  | clr (esz : Nat) (z : List AV)

/-- Is a slice nil? Of an empty one it need not be known. -/
def nilqwp (neg : Bool) (a : AV) (K : AV → Prop) : Prop := match a with
  | .nils => K (.bool (!neg))
  | .sl _ [] => K (.bool true) ∧ K (.bool false)
  | .sl _ (_ :: _) => K (.bool neg)
  | .os .. => K (.bool neg)
  | _ => False

def lwp (P : Program) : LO → List AV → Store → (AV → Store → Prop) → Prop
  | .st sz, [p, a], σ, K => a.isTup = false ∧ a.cells.length = sz ∧ match wr σ a.cells p with | some σ' => K (.tup []) σ' | none => False
  | .app esz bytes, [x, y], σ, K => appwp esz bytes x y σ K
  | .appz esz bytes z, [x, y], σ, K => appzwp esz bytes z x y σ K
  | .call f, args, σ, K => ACalls P f args σ K
  | .callv, .fn f caps :: args, σ, K => ACalls P f (args ++ caps) σ K
  | .mupd mk, [m, k, v], σ, K => mupdwp mk m k v σ (K (.tup []))
  | .mdel mk, [m, k], σ, K => mdelwp mk m k σ (K (.tup []))
  | .nilq neg, [a], σ, K => nilqwp neg a (fun b => K b σ)
  | .clr esz z, [x], σ, K => clrwp esz z x σ (K (.tup []))
  | _, _, _, _ => False

def compLoudCall (P : Program) (c : Call) : Option (LO × List Opd) :=
  match c.callee with
  | .builtin .append => do
    let [sT, xT] := c.argTypes.toList | none
    let [x, y] := c.args.toList | none
    let .slice e ← P.underlying sT | none
    match ← P.underlying xT with
    | .slice _ => do
      let s ← tsz P e
      let i ← P.info? e
      let z ← tzero P e
      if z.length = s ∧ 1 ≤ i.bytes then pure (.app s i.bytes, [← compOpd x, ← compOpd y]) else none
    | .int _ => do
      let s ← tsz P e
      let i ← P.info? e
      let z ← tzero P e
      if z.length = s ∧ 1 ≤ i.bytes then pure (.appz s i.bytes z, [← compOpd x, ← compOpd y]) else none
    | _ => none
  | .builtin .delete => do
    let [mT, _] := c.argTypes.toList | none
    let [x, y] := c.args.toList | none
    let .map kt _ ← P.underlying mT | none
    pure (.mdel (← keyKind P kt), [← compOpd x, ← compOpd y])
  | .builtin .clear => do
    let [t] := c.argTypes.toList | none
    let [x] := c.args.toList | none
    let .slice e ← P.underlying t | none
    let s ← tsz P e
    let z ← tzero P e
    if z.length = s then pure (.clr s z, [← compOpd x]) else none
  | .value (.func f) => do pure (.call f, ← c.args.toList.mapM compOpd)
  | .value (.tmp t) => do pure (.callv, (.t t) :: (← c.args.toList.mapM compOpd))
  | _ => none

def compNilq (P : Program) (op : BinOp) (t : TypeId) (x y : Operand) : Option (LO × List Opd) := do
  let .slice _ ← P.underlying t | none
  let .const (.slice none 0 0) := y | none
  match op with
  | .eql => pure (.nilq false, [← compOpd x])
  | .neq => pure (.nilq true, [← compOpd x])
  | _ => none

def compLoud (P : Program) : Op → Option (LO × List Opd)
  | .store t a x => do pure (.st (← tsz P t), [← compOpd a, ← compOpd x])
  | .call c => compLoudCall P c
  | .mapUpdate t m k x => do
    let .map kt _ ← P.underlying t | none
    pure (.mupd (← keyKind P kt), [← compOpd m, ← compOpd k, ← compOpd x])
  | .binOp op t x y _ => compNilq P op t x y
  | _ => none

section
variable {P : Program} {w : World} {G : Gh} {σ : Store} {oev : Opd → Option AV}

/-- What is owed of an operation of the code, at some state: all ways on go on. -/
def Does (P : Program) (o : Oper) (a : Act) (G : Gh) (σ : Store) (w : World) (K : AV → Store → Prop) : Prop :=
  ∀ (next : Act → World → Prop) (Q : Exit → Act → World → Prop),
    (∀ v w' G' σ' av, Ext G σ w G' σ' w' → Sim G' σ' w' → (VRel G' w' av v ∨ o.dst = none) → K av σ' → next (a.put o.dst v) w') → o.wp P a w next Q

theorem callFunc_run {f : Nat} (h : Ent P f) (args : Array Value) : (callFunc f args).run P w = .ok (.enter f args) w := by
  obtain ⟨fn, h1, h2, h3⟩ := h
  unfold callFunc
  simp only [Sem.run_bind, run_program, Result.andThen_ok, h1, h2, Bool.false_eq_true, if_false]
  have : fn.body.isNone = false := by cases hb : fn.body <;> simp [hb] at h3 ⊢
  simp only [this, Bool.false_eq_true, if_false, Sem.run_pure]

theorem does_call {o : Oper} {a : Act} {f : Nat} {as : List AV} {vs : List Value} {K : AV → Store → Prop} (hs : Sim G σ w) (hr : Rels (VRel G w) as vs)
    (hrun : (execOp a.eval o).run P w = .ok (.enter f vs.toArray) w) (h : ACalls P f as σ K) : Does P o a G σ w K := by
  intro next Q hn
  unfold Oper.wp
  rw [hrun, Oper.upon_enter]
  refine (h.2 G w vs hs hr).mono ?_
  rintro e w' ⟨v, av, G', σ', rfl, h1, h2, h3, h4⟩
  exact hn v w' G' σ' av h1 h2 (.inl h3) h4

theorem nilq_slice {p : AV} {v : Value} {neg : Bool} {K : AV → Prop} (h : VRel G w p v) (hK : nilqwp neg p K) : ∃ a n c, v = .slice a n c ∧ K (.bool (if neg then !a.isNone else a.isNone)) := by
  cases h with
  | nils => refine ⟨_, _, _, rfl, ?_⟩; cases neg <;> exact hK
  | @sl0 e a c =>
    refine ⟨_, _, _, rfl, ?_⟩
    obtain ⟨h1, h2⟩ := hK
    cases (if neg then !a.isNone else a.isNone) <;> assumption
  | @sl e es b off c vs _ hne =>
    refine ⟨_, _, _, rfl, ?_⟩
    cases es with
    | nil => exact absurd rfl hne
    | cons x r => cases neg <;> exact hK
  | os => refine ⟨_, _, _, rfl, ?_⟩; cases neg <;> exact hK
  | os0 => refine ⟨_, _, _, rfl, ?_⟩; cases neg <;> exact hK
  | _ => exact hK.elim

theorem nilq_ok {op : BinOp} {t yt : TypeId} {x y : Operand} {lo : LO} {xs : List Opd} {as : List AV} {K : AV → Store → Prop} {ev : Operand → Value} (hcst : ∀ v, ev (.const v) = v) (H : OpdOk G w ev oev)
    (hc : compNilq P op t x y = some (lo, xs)) (has : xs.mapM oev = some as) (hK : lwp P lo as σ K) : ∃ b, Gives P ev (.binOp op t x y yt) w (.bool b) ∧ K (.bool b) σ := by
  unfold compNilq at hc
  simp only [Option.bind_eq_bind, Option.pure_def] at hc
  obtain ⟨d, hd, hc⟩ := opt_bind hc
  split at hc
  case h_2 => cases hc
  split at hc
  case h_2 => cases hc
  have key : ∀ (neg : Bool) (X : Opd), op = (if neg then .neq else .eql) → compOpd x = some X → [X].mapM oev = some as → lwp P (.nilq neg) as σ K → ∃ b, Gives P ev (.binOp op t x (.const (.slice none 0 0)) yt) w (.bool b) ∧ K (.bool b) σ := by
    intro neg X hop hX has hK
    obtain ⟨p', h1, rfl⟩ := mapM1 has
    have hx := H x X p' hX h1
    simp only [lwp] at hK
    obtain ⟨a, n, c, hv, hb⟩ := nilq_slice hx hK
    refine ⟨_, gives_of (fun _ _ _ _ _ => rfl) ?_, hb⟩
    rw [hv, hcst]
    simp only [Sem.run_bind, eqGuard_plain (P := P) (w := w) (a := .slice a n c) (by simp) (by simp), Result.andThen_ok]
    rw [hop]
    exact eq_run (P := P) (w := w) (neg := neg) (t := t) rfl rfl (equalIn_slice 9999 hd a n c)
  split at hc
  · obtain ⟨X, hX, hc⟩ := opt_bind hc; cases hc; exact key false X rfl hX has hK
  · obtain ⟨X, hX, hc⟩ := opt_bind hc; cases hc; exact key true X rfl hX has hK
  · cases hc

theorem loud_ok {o : Oper} {a : Act} {lo : LO} {xs : List Opd} {as : List AV} {K : AV → Store → Prop} (hs : Sim G σ w) (H : OpdOk G w a.eval oev)
    (hc : compLoud P o.op = some (lo, xs)) (hdst : (∃ t x y, o.op = .store t x y) ∨ (∃ t x y z, o.op = .mapUpdate t x y z) → o.dst = none) (has : xs.mapM oev = some as) (hK : lwp P lo as σ K) : Does P o a G σ w K := by
  obtain ⟨dst, op, ty, pos, after, guard⟩ := o
  unfold compLoud at hc
  simp only [Option.bind_eq_bind, Option.pure_def] at hc
  split at hc
  · rename_i t p x
    obtain ⟨n, hn, hc⟩ := opt_bind hc
    obtain ⟨X, hX, hc⟩ := opt_bind hc
    obtain ⟨Y, hY, hc⟩ := opt_bind hc
    cases hc
    obtain ⟨q, r, h1, h2, rfl⟩ := mapM2 has
    have hp := H p X q hX h1
    have hx := H x Y r hY h2
    simp only [lwp] at hK
    obtain ⟨ht, hl, hK⟩ := hK
    split at hK
    · rename_i σ' hw
      obtain ⟨hrel, hfl⟩ := cells_rels hx ht
      obtain ⟨b, o, hv, w', hrun, hext, hsim⟩ := wr_rel (P := P) hs hp hrel hfl hw
      intro next Q hnext
      unfold Oper.wp
      have : (execOp a.eval ⟨dst, .store t p x, ty, pos, after, guard⟩).run P w = .ok .skip w' := by
        show (do Instr.storeAt t (a.eval p) (a.eval x); pure .skip : Sem Next).run P w = _
        rw [hv]
        unfold Instr.storeAt Instr.sureAddr storeVar
        have hsz : (a.eval x).cells.size = n := by rw [← hl]; exact (hrel.length.trans (by simp)).symm
        simp only [Sem.run_bind, Sem.run_pure, Result.andThen_ok, rSizeOf hn, hsz, ne_eq, not_true_eq_false, if_false, hrun, pure_bind]
      rw [this, Oper.upon_skip]
      exact hnext undef w' G σ' _ hext hsim (.inr (hdst (.inl ⟨t, p, x, rfl⟩))) hK
    · exact hK.elim
  · rename_i c
    obtain ⟨callee, args, ats⟩ := c
    unfold compLoudCall at hc
    simp only [Option.bind_eq_bind, Option.pure_def] at hc
    split at hc
    · split at hc
      · rename_i sT xT hats
        split at hc
        · rename_i x y hargs
          obtain ⟨d, hd, hc⟩ := opt_bind hc
          split at hc
          · rename_i e
            obtain ⟨d', hd', hc⟩ := opt_bind hc
            split at hc
            · obtain ⟨s, hsz, hc⟩ := opt_bind hc
              obtain ⟨i, hi, hc⟩ := opt_bind hc
              obtain ⟨z, hz, hc⟩ := opt_bind hc
              split at hc
              · rename_i hzl
                obtain ⟨hzl, hb⟩ := hzl
                obtain ⟨X, hX, hc⟩ := opt_bind hc
                obtain ⟨Y, hY, hc⟩ := opt_bind hc
                cases hc
                obtain ⟨p, q, h1, h2, rfl⟩ := mapM2 has
                simp only [lwp] at hK
                have hats' : ats = #[sT, xT] := by rw [← Array.toArray_toList (xs := ats), hats]
                have hargs' : args = #[x, y] := by rw [← Array.toArray_toList (xs := args), hargs]
                subst hats' hargs'
                obtain ⟨v, w', G', σ', av, g1, g2, g3, g4, g5⟩ := app_ok (ty := ty) hs hd hsz hd' (fun k => by simp) hi hb hz hzl (H x X p hX h1) (H y Y q hY h2) hK
                intro next Q hnext
                unfold Oper.wp
                have : (execOp a.eval ⟨dst, .call { callee := .builtin .append, args := #[x, y], argTypes := #[sT, xT] }, ty, pos, after, guard⟩).run P w = .ok (.value v) w' := by
                  simp [execOp, resolve, invoke, builtin, g1]
                rw [this, Oper.upon_value]
                exact hnext v w' G' σ' av g2 g3 (.inl g4) g5
              · cases hc
            · obtain ⟨s, hsz, hc⟩ := opt_bind hc
              obtain ⟨i, hi, hc⟩ := opt_bind hc
              obtain ⟨z, hz, hc⟩ := opt_bind hc
              split at hc
              · rename_i hzl
                obtain ⟨hzl, hb⟩ := hzl
                obtain ⟨X, hX, hc⟩ := opt_bind hc
                obtain ⟨Y, hY, hc⟩ := opt_bind hc
                cases hc
                obtain ⟨p, q, h1, h2, rfl⟩ := mapM2 has
                simp only [lwp] at hK
                have hats' : ats = #[sT, xT] := by rw [← Array.toArray_toList (xs := ats), hats]
                have hargs' : args = #[x, y] := by rw [← Array.toArray_toList (xs := args), hargs]
                subst hats' hargs'
                obtain ⟨v, w', G', σ', av, g1, g2, g3, g4, g5⟩ := appz_ok (ty := ty) hs hd hsz hd' hi hb hz hzl (H x X p hX h1) (H y Y q hY h2) hK
                intro next Q hnext
                unfold Oper.wp
                have : (execOp a.eval ⟨dst, .call { callee := .builtin .append, args := #[x, y], argTypes := #[sT, xT] }, ty, pos, after, guard⟩).run P w = .ok (.value v) w' := by
                  simp [execOp, resolve, invoke, builtin, g1]
                rw [this, Oper.upon_value]
                exact hnext v w' G' σ' av g2 g3 (.inl g4) g5
              · cases hc
            · cases hc
          · cases hc
        · cases hc
      · cases hc
    · split at hc
      · rename_i mT kT hats
        split at hc
        · rename_i x y hargs
          obtain ⟨d, hd, hc⟩ := opt_bind hc
          split at hc
          · rename_i kt et
            obtain ⟨mk, hmk, hc⟩ := opt_bind hc
            obtain ⟨X, hX, hc⟩ := opt_bind hc
            obtain ⟨Y, hY, hc⟩ := opt_bind hc
            cases hc
            obtain ⟨p, q, h1, h2, rfl⟩ := mapM2 has
            simp only [lwp] at hK
            have hats' : ats = #[mT, kT] := by rw [← Array.toArray_toList (xs := ats), hats]
            have hargs' : args = #[x, y] := by rw [← Array.toArray_toList (xs := args), hargs]
            subst hats' hargs'
            obtain ⟨w', σ', g1, g2, g3, g5⟩ := mdel_ok (ty := ty) (kT := kT) hs hd hmk (H x X p hX h1) (H y Y q hY h2) hK
            intro next Q hnext
            unfold Oper.wp
            have : (execOp a.eval ⟨dst, .call { callee := .builtin .delete, args := #[x, y], argTypes := #[mT, kT] }, ty, pos, after, guard⟩).run P w = .ok (.value (.tuple #[])) w' := by
              simp [execOp, resolve, invoke, builtin, g1]
            rw [this, Oper.upon_value]
            exact hnext (.tuple #[]) w' G σ' _ g2 g3 (.inl (.tup (cs := []) rfl (fun k h => absurd h (by simp)))) g5
          · cases hc
        · cases hc
      · cases hc
    · split at hc
      · rename_i tT hats
        split at hc
        · rename_i x hargs
          obtain ⟨d, hd, hc⟩ := opt_bind hc
          split at hc
          · rename_i e
            obtain ⟨s, hsz, hc⟩ := opt_bind hc
            obtain ⟨z, hz, hc⟩ := opt_bind hc
            split at hc
            · rename_i hzl
              obtain ⟨X, hX, hc⟩ := opt_bind hc
              cases hc
              obtain ⟨p, h1, rfl⟩ := mapM1 has
              simp only [lwp] at hK
              have hats' : ats = #[tT] := by rw [← Array.toArray_toList (xs := ats), hats]
              have hargs' : args = #[x] := by rw [← Array.toArray_toList (xs := args), hargs]
              subst hats' hargs'
              obtain ⟨w', σ', g1, g2, g3, g5⟩ := clr_ok (ty := ty) hs hd hsz hz hzl (H x X p hX h1) hK
              intro next Q hnext
              unfold Oper.wp
              have : (execOp a.eval ⟨dst, .call { callee := .builtin .clear, args := #[x], argTypes := #[tT] }, ty, pos, after, guard⟩).run P w = .ok (.value (.tuple #[])) w' := by
                simp [execOp, resolve, invoke, builtin, g1]
              rw [this, Oper.upon_value]
              exact hnext (.tuple #[]) w' G σ' _ g2 g3 (.inl (.tup (cs := []) rfl (fun k h => absurd h (by simp)))) g5
            · cases hc
          · cases hc
        · cases hc
      · cases hc
    · rename_i f
      obtain ⟨ys, hys, hc⟩ := opt_bind hc
      cases hc
      simp only [lwp] at hK
      have hrel := mapM_rels H (f := compOpd) (g := fun x => x) (fun x y h => h) args.toList _ as hys has
      have hr := Rels.map_right (R := VRel G w) (f := a.eval) hrel
      refine does_call hs hr ?_ hK
      have e : args.map a.eval = (args.toList.map a.eval).toArray := by rw [← List.map_toArray]
      show (do let d ← resolve a.eval { callee := .value (.func f), args, argTypes := ats } ty; invoke d.target d.args : Sem Next).run P w = _
      simp only [resolve, Act.eval, Deferred.ofValue, pure_bind, invoke, Array.empty_append, Array.append_empty]
      have e' : (args.map fun x => a.eval x) = (args.toList.map a.eval).toArray := e
      rw [callFunc_run hK.1]
      congr 2
    · rename_i t
      obtain ⟨ys, hys, hc⟩ := opt_bind hc
      cases hc
      simp only [List.mapM_cons, Option.bind_eq_bind, Option.pure_def] at has
      obtain ⟨fa, hfa, has⟩ := opt_bind has
      obtain ⟨as', has', has⟩ := opt_bind has
      simp at has; subst has
      have hf := H (.tmp t) (.t t) fa rfl hfa
      obtain ⟨f, caps, rfl⟩ : ∃ f caps, fa = .fn f caps := by
        cases fa <;> simp only [lwp] at hK
        exact ⟨_, _, rfl⟩
      simp only [lwp] at hK
      have hrel := mapM_rels H (f := compOpd) (g := fun x => x) (fun x y h => h) args.toList _ as' hys has'
      have hr := Rels.map_right (R := VRel G w) (f := a.eval) hrel
      obtain ⟨cs, hv, hl, hcv⟩ := hf.of_fn
      have hr2 : Rels (VRel G w) (as' ++ caps) (args.toList.map a.eval ++ cs) := hr.append (Rels.of_get hl hcv)
      refine does_call hs hr2 ?_ hK
      have e : args.map a.eval = (args.toList.map a.eval).toArray := by rw [← List.map_toArray]
      show (do let d ← resolve a.eval { callee := .value (.tmp t), args, argTypes := ats } ty; invoke d.target d.args : Sem Next).run P w = _
      simp only [resolve, hv, Deferred.ofValue, pure_bind, invoke, Array.empty_append]
      rw [callFunc_run hK.1]
      congr 2
      rw [e]; simp
    · cases hc
  · rename_i t m k x
    obtain ⟨d, hd, hc⟩ := opt_bind hc
    split at hc
    · rename_i kt et
      obtain ⟨mk, hmk, hc⟩ := opt_bind hc
      obtain ⟨X, hX, hc⟩ := opt_bind hc
      obtain ⟨Y, hY, hc⟩ := opt_bind hc
      obtain ⟨Z, hZ, hc⟩ := opt_bind hc
      cases hc
      obtain ⟨p, q, r, h1, h2, h3, rfl⟩ := mapM3 has
      simp only [lwp] at hK
      obtain ⟨w', σ', g1, g2, g3, g5⟩ := mupd_ok hs hd hmk (H m X p hX h1) (H k Y q hY h2) (H x Z r hZ h3) hK
      intro next Q hnext
      unfold Oper.wp
      have : (execOp a.eval ⟨dst, .mapUpdate t m k x, ty, pos, after, guard⟩).run P w = .ok .skip w' := by
        show (do Instr.mapUpdate t (a.eval m) (a.eval k) (a.eval x); pure .skip : Sem Next).run P w = _
        simp only [Sem.run_bind, g1, Result.andThen_ok, Sem.run_pure]
      rw [this, Oper.upon_skip]
      exact hnext undef w' G σ' _ g2 g3 (.inr (hdst (.inr ⟨t, m, k, x, rfl⟩))) g5
    · cases hc
  · rename_i op t x y yt
    obtain ⟨b, h1, h2⟩ := nilq_ok (yt := yt) (fun _ => rfl) H hc has hK
    intro next Q hnext
    unfold Oper.wp
    rw [h1 dst ty pos after guard, Oper.upon_value]
    exact hnext (.bool b) w G σ _ (Ext.refl _ _ _) hs (.inl (.bool b)) h2
  · cases hc

end
end Go.Am

/- Am15 -/
namespace Go.Am

/-! ## Operations of a region -/
inductive BK where
  | pure (k : PK)
  | pick
  | load (k : LK)
  | alloc (k : AK)
  | loud (k : LO)
  | qcall (f : Nat)
  | bad

structure BOp where
  dst : Option Nat
  guard : Option (Nat × Bool)
  kind : BK
  xs : List Opd

/-- The slots of a frame, as far as known. -/
abbrev FE := Nat → Option AV

def FE.put (f : FE) (d : Option Nat) (a : AV) : FE := match d with
  | none => f
  | some t => fun n => if n = t then some a else f n

def fev (f : FE) : Opd → Option AV
  | .t n => f n
  | .c a => some a

/-- What an operation is, its operands known. -/
inductive TT where
  | bad
  | const (a : AV)
  | load (k : LK) (as : List AV)
  | alloc (o : Obj) (f : Nat → AV)
  | loud (k : LO) (as : List AV)
  | qcall (f : Nat) (as : List AV)

def BOp.exec (o : BOp) (f : FE) : TT :=
  match o.kind with
  | .pure k => match o.xs.mapM (fev f) with
    | some as => match pv k as with | some a => .const a | none => .bad
    | none => .bad
  | .pick => match o.xs with
    | [c, x, y] => match fev f c with
      | some (.bool true) => match fev f x with | some a => .const a | none => .bad
      | some (.bool false) => match fev f y with | some a => .const a | none => .bad
      | _ => .bad
    | _ => .bad
  | .load k => match o.xs.mapM (fev f) with | some as => .load k as | none => .bad
  | .alloc k => match o.xs.mapM (fev f) with
    | some as => match alv k as with | some (ob, g) => .alloc ob g | none => .bad
    | none => .bad
  | .loud k => match o.xs.mapM (fev f) with | some as => .loud k as | none => .bad
  | .qcall k => match o.xs.mapM (fev f) with | some as => .qcall k as | none => .bad
  | .bad => .bad

def BOp.tt (o : BOp) (f : FE) : TT :=
  match o.guard with
  | none => o.exec f
  | some (g, b) => match f g with
    | some (.bool v) => if v = b then o.exec f else .const (.tup [])
    | some (.tup []) => .const (.tup [])
    | _ => .bad

def TT.run (P : Program) : TT → Store → (AV → Store → Prop) → Prop
  | .bad, _, _ => False
  | .const a, σ, K => K a σ
  | .load k as, σ, K => ∃ a, ldv k as σ = some a ∧ K a σ
  | .alloc o f, σ, K => ∀ id, σ id = none → K (f id) (σ.set id o)
  | .loud k as, σ, K => lwp P k as σ K
  | .qcall f as, σ, K => ACalls P f as σ (fun a s => Store.sub σ s ∧ K a s)

def fops (P : Program) : List BOp → FE → Store → (FE → Store → Prop) → Prop
  | [], f, σ, K => K f σ
  | o :: r, f, σ, K => (o.tt f).run P σ fun a s => fops P r (f.put o.dst a) s K

def compQ (P : Program) (op : Op) : Option (LO × List Opd) := match op with
  | .binOp b t x y _ => compNilq P b t x y
  | _ => none

theorem compQ_loud {P : Program} {op : Op} {r : LO × List Opd} (h : compQ P op = some r) : compLoud P op = some r := by
  unfold compQ at h
  split at h
  · exact h
  · cases h

def compKind (P : Program) (draw : Bool) (op : Op) : Option (BK × List Opd) :=
  match op with
  | .pick c a b => do pure (.pick, [← compOpd c, ← compOpd a, ← compOpd b])
  | _ =>
  match compQ P op with
  | some (k, xs) => some (.loud k, xs)
  | none => match compPure P op with
  | some (k, xs) => some (.pure k, xs)
  | none => match compLoad P op with
    | some (k, xs) => some (.load k, xs)
    | none => match compAlloc P op with
      | some (k, xs) => some (.alloc k, xs)
      | none => match compLoud P op with
        | some (.call f, xs) => if draw then some (.qcall f, xs) else some (.loud (.call f), xs)
        | some (k, xs) => some (.loud k, xs)
        | none => some (.bad, [])

def isStore : Op → Bool
  | .store .. => true
  | .mapUpdate .. => true
  | _ => false

def guardOf (ops : Array Oper) : Option (Nat × Bool) → Option (Option (Nat × Bool))
  | none => some none
  | some (j, b) => ((ops[j]?).bind (·.dst)).map fun t => some (t, b)

def dstOk (N : Nat) : Option Nat → Bool
  | some d => decide (d < N)
  | none => true

def compOp (P : Program) (draw : Bool) (N : Nat) (ops : Array Oper) (o : Oper) : Option BOp :=
  match compKind P draw o.op, guardOf ops o.guard with
  | some (k, xs), some g => if dstOk N o.dst && (!isStore o.op || o.dst.isNone) then some ⟨o.dst, g, k, xs⟩ else none
  | _, _ => none

structure Ref where
  G : Gh
  σ : Store
  w : World

/-- The state of a frame that is under way. -/
def St (R : Ref) (N : Nat) (f : FE) (σ : Store) (a : Act) (w : World) : Prop :=
  ∃ G, Ext R.G R.σ R.w G σ w ∧ Sim G σ w ∧ a.tmps.size = N ∧ a.defers = [] ∧ ∀ t v, f t = some v → ∃ x, a.tmps[t]? = some x ∧ VRel G w v x

section
variable {P : Program} {R : Ref} {N : Nat} {f : FE} {σ : Store} {a : Act} {w : World}

theorem fev_ok {G : Gh} (h : ∀ t v, f t = some v → ∃ x, a.tmps[t]? = some x ∧ VRel G w v x) : OpdOk G w a.eval (fev f) := by
  intro x y v hc hv
  cases x <;> simp only [compOpd] at hc
  · cases hc
    obtain ⟨x, hx, hr⟩ := h _ _ hv
    simp only [Act.eval]
    rw [Array.getD_eq_getD_getElem?, hx]; exact hr
  · obtain ⟨u, hu, rfl⟩ := Option.map_eq_some_iff.1 hc
    cases hv
    exact ofValue_rel hu
  · cases hc
  · cases hc
    cases hv
    exact .fn (cs := []) rfl (fun k h => absurd h (by simp))

theorem put_get {t d : Nat} {v : Value} (hd : d < a.tmps.size) : (a.put (some d) v).tmps[t]? = if t = d then some v else a.tmps[t]? := by
  simp only [Act.put]
  by_cases h : t = d
  · subst h; simp [hd]
  · rw [Array.getElem?_setIfInBounds_ne (Ne.symm h), if_neg h]

/-- The state behind an operation. -/
theorem St.put {dst : Option Nat} {v : Value} {av : AV} {σ' : Store} {w' : World} {G G' : Gh} (hx : Ext R.G R.σ R.w G σ w) (hs : Sim G σ w) (hN : a.tmps.size = N) (hdf : a.defers = [])
    (h : ∀ t v, f t = some v → ∃ x, a.tmps[t]? = some x ∧ VRel G w v x) (hd : ∀ d, dst = some d → d < N)
    (hx' : Ext G σ w G' σ' w') (hs' : Sim G' σ' w') (hv : VRel G' w' av v ∨ dst = none) : St R N (f.put dst av) σ' (a.put dst v) w' := by
  refine ⟨G', hx.trans hx', hs', ?_, ?_, fun t u ht => ?_⟩
  · cases dst <;> simp [Act.put, hN]
  · cases dst <;> simp [Act.put, hdf]
  · cases dst with
    | none =>
      obtain ⟨x, h1, h2⟩ := h t u ht
      exact ⟨x, h1, hx'.vrel hs h2⟩
    | some d =>
      rw [put_get (by rw [hN]; exact hd d rfl)]
      simp only [FE.put] at ht
      split at ht
      · rename_i he; subst he
        cases ht
        rw [if_pos rfl]
        exact ⟨v, rfl, hv.resolve_right (by simp)⟩
      · rename_i he
        rw [if_neg he]
        obtain ⟨x, h1, h2⟩ := h t u ht
        exact ⟨x, h1, hx'.vrel hs h2⟩

def wantB (tmps : Array Value) : Option (Nat × Bool) → Bool
  | none => true
  | some (t, b) => match tmps[t]? with
    | some (.bool v) => v == b
    | _ => false

theorem wanted_eq {ops : Array Oper} {o : Oper} {g : Option (Nat × Bool)} (hg : guardOf ops o.guard = some g) :
    Region.wanted o (yielded ops a.tmps) = wantB a.tmps g := by
  unfold Region.wanted
  cases hgu : o.guard with
  | none => rw [hgu] at hg; cases hg; rfl
  | some p =>
    obtain ⟨j, b⟩ := p
    rw [hgu] at hg
    obtain ⟨t, ht, rfl⟩ := Option.map_eq_some_iff.1 hg
    simp only [yielded, ht, Option.bind_some, wantB]
    cases hv : a.tmps[t]? with
    | none => rfl
    | some x => cases x <;> first | rfl | (rename_i v; cases v <;> cases b <;> rfl)

/-- What an operation's run gives to those behind it. -/
theorem op_sound {ops : Array Oper} {draw : Bool} {o : Oper} {bo : BOp} {K : AV → Store → Prop} {next : Act → World → Prop} {Q : Exit → Act → World → Prop}
    (hc : compOp P draw N ops o = some bo) (hst : St R N f σ a w) (hrun : (bo.tt f).run P σ K)
    (hn : ∀ av σ' a' w', St R N (f.put o.dst av) σ' a' w' → K av σ' → next a' w') :
    if Region.wanted o (yielded ops a.tmps) then o.wp P a w next Q ∨ (o.asks P a w ∧ LetsOut Q) else next (a.put o.dst undef) w := by
  obtain ⟨G, hx, hs, hN, hdf, hE⟩ := hst
  unfold compOp at hc
  split at hc
  case h_2 => cases hc
  rename_i k xs g hk hg
  split at hc
  · rename_i hd
    simp only [Bool.and_eq_true, Bool.or_eq_true, Bool.not_eq_true', Option.isNone_iff_eq_none] at hd
    obtain ⟨hd, hst⟩ := hd
    cases hc
    have hd' : ∀ d, o.dst = some d → d < N := fun d hd2 => by rw [hd2] at hd; simpa [dstOk] using hd
    rw [wanted_eq (a := a) hg]
    -- skipped
    have hskip : K (.tup []) σ → next (a.put o.dst undef) w := fun hK =>
      hn (.tup []) σ _ _ (St.put hx hs hN hdf hE hd' (Ext.refl _ _ _) hs (.inl (.tup (cs := []) rfl (fun k h => absurd h (by simp))))) hK
    -- carried out
    have hexec : (BOp.exec ⟨o.dst, g, k, xs⟩ f).run P σ K → o.wp P a w next Q := fun hr => by
      have H : OpdOk G w a.eval (fev f) := fev_ok hE
      have hcst : ∀ v, a.eval (.const v) = v := fun _ => rfl
      have hval : ∀ v w' G' σ' av, (execOp a.eval o).run P w = .ok (.value v) w' → Ext G σ w G' σ' w' → Sim G' σ' w' → VRel G' w' av v → K av σ' → o.wp P a w next Q := by
        intro v w' G' σ' av h1 h2 h3 h4 h5
        unfold Oper.wp
        rw [h1, Oper.upon_value]
        exact hn av σ' _ _ (St.put hx hs hN hdf hE hd' h2 h3 (.inl h4)) h5
      have hdoes : ∀ K', Does P o a G σ w K' → (∀ av s, K' av s → K av s) → o.wp P a w next Q := fun K' hd2 hKK =>
        hd2 next Q fun v w' G' σ' av h1 h2 h3 h4 => hn av σ' _ _ (St.put hx hs hN hdf hE hd' h1 h2 h3) (hKK _ _ h4)
      obtain ⟨dst, op, ty, pos, after, guard⟩ := o
      unfold compKind at hk
      split at hk
      · rename_i c x y heq
        simp only at heq; subst heq
        simp only [Option.bind_eq_bind, Option.pure_def] at hk
        obtain ⟨C, hC, hk⟩ := opt_bind hk
        obtain ⟨X, hX, hk⟩ := opt_bind hk
        obtain ⟨Y, hY, hk⟩ := opt_bind hk
        cases hk
        simp only [BOp.exec] at hr
        split at hr
        · rename_i hc'
          have hcv := (H c C _ hC hc').of_bool
          split at hr
          · rename_i u hu
            exact hval (a.eval x) w G σ u (by simp [execOp, hcv, asBool]) (Ext.refl _ _ _) hs (H x X u hX hu) hr
          · exact hr.elim
        · rename_i hc'
          have hcv := (H c C _ hC hc').of_bool
          split at hr
          · rename_i u hu
            exact hval (a.eval y) w G σ u (by simp [execOp, hcv, asBool]) (Ext.refl _ _ _) hs (H y Y u hY hu) hr
          · exact hr.elim
        · exact hr.elim
      · have hloud : ∀ lo ys as, compLoud P op = some (lo, ys) → ys.mapM (fev f) = some as → ∀ K', lwp P lo as σ K' → (∀ av s, K' av s → K av s) → (⟨dst, op, ty, pos, after, guard⟩ : Oper).wp P a w next Q :=
          fun lo ys as hlo has K' hK' hKK => hdoes K' (loud_ok hs H hlo (fun hh => hst.resolve_left (by rcases hh with ⟨t, x, y, he⟩ | ⟨t, x, y, z, he⟩ <;> (simp only at he; rw [he]; simp [isStore]))) has hK') hKK
        split at hk
        · rename_i lo ys hq
          cases hk
          simp only [BOp.exec] at hr
          split at hr
          · rename_i as has
            exact hloud _ _ as (compQ_loud hq) has _ hr (fun _ _ h => h)
          · exact hr.elim
        split at hk
        · rename_i pk ys hpk
          cases hk
          simp only [BOp.exec] at hr
          split at hr
          · rename_i as has
            split at hr
            · rename_i av hp
              obtain ⟨v, h1, h2⟩ := pure_ok (P := P) H hcst hpk has hp
              exact hval v w G σ av (h1 _ _ _ _ _) (Ext.refl _ _ _) hs h2 hr
            · exact hr.elim
          · exact hr.elim
        · split at hk
          · rename_i lk ys hlk
            cases hk
            simp only [BOp.exec] at hr
            split at hr
            · rename_i as has
              obtain ⟨av, hp, hr⟩ := hr
              obtain ⟨v, h1, h2⟩ := load_ok (P := P) hs H hlk has hp
              exact hval v w G σ av (h1 _ _ _ _ _) (Ext.refl _ _ _) hs h2 hr
            · exact hr.elim
          · split at hk
            · rename_i ak ys hak
              cases hk
              simp only [BOp.exec] at hr
              split at hr
              · rename_i as has
                split at hr
                · rename_i ob g2 hp
                  obtain ⟨id, hρ, hσ⟩ := hs.fresh
                  obtain ⟨v, w', G', h1, h2, h3, h4⟩ := alloc_ok (P := P) hs H hak has hp hρ hσ
                  exact hval v w' G' _ _ (h1 _ _ _ _ _) h2 h3 h4 (hr id hσ)
                · exact hr.elim
              · exact hr.elim
            · split at hk
              · rename_i fn ys hlo
                split at hk
                · cases hk
                  simp only [BOp.exec] at hr
                  split at hr
                  · rename_i as has
                    exact hloud _ _ as hlo has _ hr (fun av s h => h.2)
                  · exact hr.elim
                · cases hk
                  simp only [BOp.exec] at hr
                  split at hr
                  · rename_i as has
                    exact hloud _ _ as hlo has _ hr (fun _ _ h => h)
                  · exact hr.elim
              · rename_i lo ys _ hlo
                cases hk
                simp only [BOp.exec] at hr
                split at hr
                · rename_i as has
                  exact hloud _ _ as hlo has _ hr (fun _ _ h => h)
                · exact hr.elim
              · cases hk
                exact hr.elim
    cases g with
    | none =>
      simp only [BOp.tt] at hrun
      simp only [wantB, if_true]
      exact .inl (hexec hrun)
    | some p =>
      obtain ⟨t, b⟩ := p
      simp only [BOp.tt] at hrun
      split at hrun
      · rename_i v hv
        obtain ⟨x, h1, h2⟩ := hE t _ hv
        rw [h2.of_bool] at h1
        simp only [wantB, h1]
        split at hrun
        · rename_i he
          subst he
          simp only [BEq.rfl, if_true]
          exact .inl (hexec hrun)
        · rename_i he
          have : (v == b) = false := by cases v <;> cases b <;> simp_all
          simp only [this, Bool.false_eq_true, if_false]
          exact hskip hrun
      · rename_i hv
        obtain ⟨x, h1, h2⟩ := hE t _ hv
        obtain ⟨cs, rfl, hl, _⟩ := h2.of_tup
        simp only [wantB, h1, Bool.false_eq_true, if_false]
        exact hskip hrun
      · exact hrun.elim
  · cases hc

end
end Go.Am

/- Am16 -/
namespace Go.Am

theorem TT.run_mono {P : Program} {t : TT} {σ : Store} {K K' : AV → Store → Prop} (h : ∀ a s, K a s → K' a s) (hr : t.run P σ K) : t.run P σ K' := by
  cases t with
  | bad => exact hr
  | const a => exact h _ _ hr
  | load k as => obtain ⟨a, h1, h2⟩ := hr; exact ⟨a, h1, h _ _ h2⟩
  | alloc o f => exact fun id hid => h _ _ (hr id hid)
  | qcall f as => exact hr.mono fun a s ⟨h1, h2⟩ => ⟨h1, h _ _ h2⟩
  | loud k as =>
    simp only [TT.run] at hr ⊢
    unfold lwp at hr ⊢
    split at hr
    · obtain ⟨h1, h2, h3⟩ := hr
      refine ⟨h1, h2, ?_⟩
      split at h3
      · first | exact h _ _ h3 | (rename_i heq; rw [heq]; exact h _ _ h3)
      · exact h3.elim
    · unfold appwp at hr ⊢
      split at hr
      · obtain ⟨h3, h4⟩ := hr
        refine ⟨h3, ?_⟩
        split at h4
        · exact ⟨fun e => h _ _ (h4.1 e), fun e id hid => h _ _ (h4.2 e id hid)⟩
        · exact fun id hid => h _ _ (h4 id hid)
        · exact h4.elim
      · exact hr.elim
    · unfold appzwp at hr ⊢
      split at hr
      · exact ⟨hr.1, hr.2.1, fun e => h _ _ (hr.2.2.1 e), fun e id hid => h _ _ (hr.2.2.2 e id hid)⟩
      · exact hr.elim
    · exact hr.mono h
    · exact hr.mono h
    · unfold mupdwp at hr ⊢
      refine ⟨hr.1, ?_⟩
      have hr := hr.2
      split at hr
      · split at hr
        · split at hr
          · exact h _ _ hr
          · exact h _ _ hr
          · exact hr.elim
        · exact hr.elim
      · exact hr.elim
    · unfold mdelwp at hr ⊢
      refine ⟨hr.1, ?_⟩
      have hr := hr.2
      split at hr
      · split at hr
        · split at hr
          · exact h _ _ hr
          · exact h _ _ hr
          · exact hr.elim
        · exact hr.elim
      · exact h _ _ hr
      · exact hr.elim
    · unfold nilqwp at hr ⊢
      split at hr
      · exact h _ _ hr
      · exact ⟨h _ _ hr.1, h _ _ hr.2⟩
      · exact h _ _ hr
      · exact h _ _ hr
      · exact hr.elim
    · unfold clrwp at hr ⊢
      split at hr
      · exact h _ _ hr
      · split at hr
        · exact ⟨hr.1, hr.2.1, hr.2.2.1, h _ _ hr.2.2.2⟩
        · exact hr.elim
      · exact hr.elim
    · exact hr.elim

section
variable {P : Program} {R : Ref} {N : Nat} {ops : Array Oper} {Q : Exit → Act → World → Prop}

theorem compOp_dst {draw : Bool} {o : Oper} {bo : BOp} (hc : compOp P draw N ops o = some bo) : bo.dst = o.dst := by
  unfold compOp at hc
  split at hc
  · split at hc
    · cases hc; rfl
    · cases hc
  · cases hc

/-- A region in the order of its text. -/
theorem list_sound {draw : Bool} : ∀ (l : List Oper) (bl : List BOp), l.mapM (compOp P draw N ops) = some bl → ∀ (f : FE) (σ : Store) (a : Act) (w : World) (K : FE → Store → Prop), St R N f σ a w → fops P bl f σ K →
    (∀ f' σ' a' w', St R N f' σ' a' w' → K f' σ' → Q .normal a' w') → wpList P ops Q l a w
  | [], bl, hc, f, σ, a, w, K, hst, hf, hq => by
    simp at hc; subst hc
    exact hq f σ a w hst hf
  | o :: l, bl, hc, f, σ, a, w, K, hst, hf, hq => by
    simp only [List.mapM_cons, Option.bind_eq_bind, Option.pure_def] at hc
    obtain ⟨b, hb, hc⟩ := opt_bind hc
    obtain ⟨bs, hbs, hc⟩ := opt_bind hc
    simp at hc; subst hc
    simp only [fops] at hf
    have := op_sound (next := wpList P ops Q l) (Q := Q) hb hst hf (fun av σ' a' w' h1 h2 => list_sound l bs hbs _ _ a' w' K h1 (by rw [compOp_dst hb] at h2; exact h2) hq)
    unfold wpList
    exact this

/-! ## A region that draws its order -/
def Opd.slot : Opd → List Nat
  | .t n => [n]
  | .c _ => []

def BOp.looks (b : BOp) : List Nat := b.xs.flatMap Opd.slot ++ (match b.guard with | some (g, _) => [g] | none => [])

def apartB (x y : BOp) : Bool :=
  (match x.dst with | some d => !(y.looks).contains d && y.dst != some d | none => true) &&
  (match y.dst with | some d => !(x.looks).contains d | none => true)

def plainAlloc (b : BOp) : Bool :=
  match b.kind, b.xs, b.guard with
  | .alloc (.alloc _), [], none => true
  | _, _, _ => false

/-- May the first be taken ahead of the second, that does not wait for it? -/
def mayFirst (x y : BOp) : Bool :=
  match x.kind with
  | .pure _ | .pick => true
  | .load _ => match y.kind with
    | .loud (.nilq _) => true
    | .loud _ => false
    | _ => true
  | .qcall _ | .alloc _ => plainAlloc y
  | .loud _ | .bad => false

theorem fev_put {f : FE} {d : Option Nat} {a : AV} {x : Opd} (h : ∀ t, d = some t → t ∉ x.slot) : fev (f.put d a) x = fev f x := by
  cases x with
  | c => rfl
  | t n =>
    cases d with
    | none => rfl
    | some t =>
      have : n ≠ t := fun e => h t rfl (by simp [Opd.slot, e])
      simp [fev, FE.put, this]

theorem mapM_fev_put {f : FE} {d : Option Nat} {a : AV} : ∀ {xs : List Opd}, (∀ t, d = some t → t ∉ xs.flatMap Opd.slot) → xs.mapM (fev (f.put d a)) = xs.mapM (fev f)
  | [], _ => rfl
  | x :: xs, h => by
    simp only [List.mapM_cons]
    rw [fev_put (fun t ht hm => h t ht (by simp [hm])), mapM_fev_put (xs := xs) (fun t ht hm => h t ht (by simp only [List.flatMap_cons, List.mem_append]; exact .inr hm))]

theorem tt_put {f : FE} {d : Option Nat} {a : AV} {b : BOp} (h : ∀ t, d = some t → t ∉ b.looks) : b.tt (f.put d a) = b.tt f := by
  have h1 : ∀ t, d = some t → t ∉ b.xs.flatMap Opd.slot := fun t ht hm => h t ht (by unfold BOp.looks; exact List.mem_append_left _ hm)
  have hx : b.xs.mapM (fev (f.put d a)) = b.xs.mapM (fev f) := mapM_fev_put h1
  have he : b.exec (f.put d a) = b.exec f := by
    unfold BOp.exec
    split
    · rw [hx]
    · split
      · rename_i c x y hxs
        rw [hxs] at h1
        have g : ∀ z ∈ [c, x, y], fev (f.put d a) z = fev f z := fun z hz => fev_put fun t ht hm => h1 t ht (List.mem_flatMap.2 ⟨z, hz, hm⟩)
        rw [g c (by simp), g x (by simp), g y (by simp)]
      · rfl
    · rw [hx]
    · rw [hx]
    · rw [hx]
    · rw [hx]
    · rfl
  unfold BOp.tt
  cases hg : b.guard with
  | none => exact he
  | some p =>
    obtain ⟨g, v⟩ := p
    have : (f.put d a) g = f g := by
      cases d with
      | none => rfl
      | some t =>
        have : g ≠ t := fun e => h t rfl (by unfold BOp.looks; rw [hg]; simp [e])
        simp [FE.put, this]
    simp only [this, he]

theorem put_comm {f : FE} {d e : Option Nat} {a b : AV} (h : ∀ t, d = some t → e ≠ some t) : (f.put d a).put e b = (f.put e b).put d a := by
  cases d with
  | none => rfl
  | some t =>
    cases e with
    | none => rfl
    | some u =>
      have : t ≠ u := fun e => h t rfl (by rw [e])
      funext n
      simp only [FE.put]
      (repeat' split) <;> first | rfl | omega

def kindOk (b : BK) : TT → Prop
  | .load _ _ => ∃ k, b = .load k
  | .alloc _ _ => ∃ k, b = .alloc k
  | .loud k _ => b = .loud k
  | .qcall _ _ => ∃ k, b = .qcall k
  | _ => True

theorem exec_kind (b : BOp) (f : FE) : kindOk b.kind (b.exec f) := by
  unfold BOp.exec
  split <;> rename_i hk
  · split
    · split <;> trivial
    · trivial
  · split
    · split
      · split <;> trivial
      · split <;> trivial
      · trivial
    · trivial
  · split
    · exact ⟨_, hk⟩
    · trivial
  · split
    · split
      · exact ⟨_, hk⟩
      · trivial
    · trivial
  · split
    · exact hk
    · trivial
  · split
    · exact ⟨_, hk⟩
    · trivial
  · trivial

theorem tt_kind (b : BOp) (f : FE) : kindOk b.kind (b.tt f) := by
  unfold BOp.tt
  split
  · exact exec_kind b f
  · split
    · split
      · exact exec_kind b f
      · trivial
    · trivial
    · trivial

theorem plain_tt {b : BOp} (h : plainAlloc b = true) (f : FE) : ∃ z, b.tt f = .alloc (.box z) (fun id => .ptr id 0) := by
  unfold plainAlloc at h
  split at h
  · rename_i z h1 h2 h3
    exact ⟨z, by simp [BOp.tt, h3, BOp.exec, h1, h2, alv]⟩
  · cases h

theorem rd_sub {σ σ' : Store} {n : Nat} {p : AV} {cs : List AV} (h : rd σ n p = some cs) (hs : σ.sub σ') : rd σ' n p = some cs := by
  unfold rd at h ⊢
  split at h
  · split at h
    · rename_i ho; rw [hs _ _ ho]; exact h
    · cases h
  · split at h
    · rename_i ho; rw [hs _ _ ho]; exact h
    · cases h
  · exact h
  · cases h

theorem mpOf_sub {σ σ' : Store} {m : AV} {es : List (AV × AV)} (h : mpOf σ m = some es) (hs : σ.sub σ') : mpOf σ' m = some es := by
  unfold mpOf at h ⊢
  split at h
  · exact h
  · split at h
    · rename_i e; rw [hs _ _ e]; exact h
    · cases h
  · cases h

theorem slc_sub {σ σ' : Store} {esz : Nat} {x : AV} {es : List (List AV)} (h : slc σ esz x = some es) (hs : σ.sub σ') : slc σ' esz x = some es := by
  unfold slc at h ⊢
  split at h
  · exact h
  · exact h
  · split at h
    · rename_i e; rw [hs _ _ e]; exact h
    · cases h
  · cases h

theorem ldv_sub {σ σ' : Store} {k : LK} {as : List AV} {a : AV} (h : ldv k as σ = some a) (hs : σ.sub σ') : ldv k as σ' = some a := by
  unfold ldv at h ⊢
  split at h
  · obtain ⟨cs, h1, rfl⟩ := Option.map_eq_some_iff.1 h
    simp [rd_sub h1 hs]
  · obtain ⟨cs, h1, h2⟩ := opt_bind h
    rw [rd_sub h1 hs]; exact h2
  · split at h
    · rename_i hk
      obtain ⟨es, h1, h2⟩ := opt_bind h
      simp only [hk, if_true, mpOf_sub h1 hs, Option.bind_some]; exact h2
    · cases h
  · obtain ⟨es, h1, rfl⟩ := Option.map_eq_some_iff.1 h
    simp [mpOf_sub h1 hs]
  · obtain ⟨es, h1, h2⟩ := opt_bind h
    rw [slc_sub h1 hs]; exact h2
  · cases h

def Store.one (id : Nat) (o : Obj) : Store := fun i => if i = id then some o else none

theorem Store.union_one {σ : Store} {id : Nat} {o : Obj} (h : σ id = none) : σ.union (Store.one id o) = σ.set id o := by
  funext i
  simp only [Store.union, Store.one, Store.set]
  by_cases hi : i = id
  · subst hi; rw [h]
  · simp only [hi, if_false]; cases σ i <;> rfl

/-- Two operations, in either order. -/
theorem tt_comm {x y : BOp} {f : FE} {σ : Store} {K : AV → AV → Store → Prop} (hm : mayFirst x y = true)
    (h : (x.tt f).run P σ fun a s => (y.tt f).run P s fun b s' => K a b s') :
    (y.tt f).run P σ fun b s => (x.tt f).run P s fun a s' => K a b s' := by
  have hk := tt_kind x f
  have hky := tt_kind y f
  cases hx : x.tt f with
  | bad => rw [hx] at h; exact h.elim
  | const a => rw [hx] at h; exact h
  | load k as =>
    rw [hx] at h hk
    obtain ⟨k', hk'⟩ := hk
    obtain ⟨a, ha, h⟩ := h
    cases hy : y.tt f with
    | bad => rw [hy] at h; exact h
    | const b => rw [hy] at h; exact ⟨a, ha, h⟩
    | load k2 as2 => rw [hy] at h; obtain ⟨b, hb, h⟩ := h; exact ⟨b, hb, a, ha, h⟩
    | alloc o g => rw [hy] at h; exact fun id hid => ⟨a, ldv_sub ha (Store.sub_set σ id o hid), h id hid⟩
    | qcall g as2 => rw [hy] at h; exact ACalls.mono h fun b s ⟨hs, hK⟩ => ⟨hs, a, ldv_sub ha hs, hK⟩
    | loud k2 as2 =>
      rw [hy] at hky h
      cases k2 with
      | nilq neg =>
        simp only [TT.run] at h ⊢
        unfold lwp at h ⊢
        split at h <;> simp only [reduceCtorEq, LO.nilq.injEq] at *
        · rename_i he; subst he
          unfold nilqwp at h ⊢
          split at h
          · exact ⟨a, ha, h⟩
          · exact ⟨⟨a, ha, h.1⟩, ⟨a, ha, h.2⟩⟩
          · exact ⟨a, ha, h⟩
          · exact ⟨a, ha, h⟩
          · exact h.elim
      | _ => simp only [kindOk] at hky; simp [mayFirst, hk', hky] at hm
  | alloc o g =>
    rw [hx] at h hk
    obtain ⟨k', hk'⟩ := hk
    have hp : plainAlloc y = true := by simpa [mayFirst, hk'] using hm
    obtain ⟨z, hz⟩ := plain_tt hp f
    rw [hz] at h ⊢
    intro id hid id' hid'
    have hne : id' ≠ id := fun e => by subst e; simp at hid'
    rw [Store.set_ne _ _ hne] at hid'
    have := h id' hid' id (by rw [Store.set_ne _ _ (Ne.symm hne)]; exact hid)
    rw [Store.set_comm _ _ _ hne] at this
    exact this
  | qcall g as =>
    rw [hx] at h hk
    obtain ⟨k', hk'⟩ := hk
    have hp : plainAlloc y = true := by simpa [mayFirst, hk'] using hm
    obtain ⟨z, hz⟩ := plain_tt hp f
    rw [hz] at h ⊢
    intro id hid
    have hφ : σ.disj (Store.one id (.box z)) := fun i o hi => by
      simp only [Store.one]; split
      · rename_i e; subst e; rw [hid] at hi; cases hi
      · rfl
    have hu := ACalls.frame h hφ
    rw [Store.union_one hid] at hu
    refine hu.mono ?_
    rintro a s ⟨σ', rfl, hd, hsub, hK⟩
    have hid' : σ' id = none := by
      cases hc : σ' id with
      | none => rfl
      | some o' => have := hd id o' hc; simp [Store.one] at this
    rw [Store.union_one hid']
    refine ⟨fun j o hj => ?_, hK id hid'⟩
    by_cases he : j = id
    · subst he; simpa [Store.set] using hj
    · rw [Store.set_ne _ _ he] at hj ⊢; exact hsub j o hj
  | loud k as =>
    rw [hx] at hk
    simp only [kindOk] at hk
    simp [mayFirst, hk] at hm

end
end Go.Am

/- Am17 -/
namespace Go.Am
section
variable {P : Program} {R : Ref} {N : Nat} {ops : Array Oper} {Q : Exit → Act → World → Prop}

/-- Whatever order is picked from here on. -/
def aAny (P : Program) (ops : Array Oper) (B : List BOp) (K : FE → Store → Prop) : Nat → Array Bool → FE → Store → Prop
  | 0, listed, f, σ => Region.ready .any ops listed = [] ∧ K f σ
  | n + 1, listed, f, σ => (Region.ready .any ops listed = [] → K f σ) ∧
    ∀ i ∈ Region.ready .any ops listed, ∀ b, B[i]? = some b → (b.tt f).run P σ fun a s => aAny P ops B K n (listed.setIfInBounds i true) (f.put b.dst a) s

theorem aAny_sound {dr : Bool} {B : List BOp} (hB : ops.toList.mapM (compOp P dr N ops) = some B) {K : FE → Store → Prop}
    (hq : ∀ f' σ' a' w', St R N f' σ' a' w' → K f' σ' → Q .normal a' w') : ∀ (n : Nat) (listed : Array Bool) (f : FE) (σ : Store) (a : Act) (w : World),
    St R N f σ a w → aAny P ops B K n listed f σ → wpAny P .any ops Q n listed a w
  | 0, listed, f, σ, a, w, hst, h => ⟨h.1, hq f σ a w hst h.2⟩
  | n + 1, listed, f, σ, a, w, hst, h => by
    refine ⟨fun h0 => hq f σ a w hst (h.1 h0), fun i hi => ?_⟩
    obtain ⟨hlt, o, ho, hall⟩ := mem_ready.1 hi
    obtain ⟨h1, h2⟩ := mapM_some_get hB
    have hil : i < ops.toList.length := by
      have := (Array.getElem?_eq_some_iff.1 ho).1; simpa using this
    have hib : i < B.length := by rw [← h1]; exact hil
    have hc := h2 i hil hib
    have ho' : ops.toList[i] = o := by
      have := (Array.getElem?_eq_some_iff.1 ho).2
      simpa using this
    rw [ho'] at hc
    have hrun := h.2 i hi _ (List.getElem?_eq_getElem hib)
    have := op_sound (next := wpAny P .any ops Q n (listed.setIfInBounds i true)) (Q := Q) hc hst hrun
      (fun av σ' a' w' h3 h4 => aAny_sound hB hq n _ _ σ' a' w' h3 (by rw [compOp_dst hc] at h4; exact h4))
    unfold wpOp
    simp only [ho]
    exact this

theorem apartB_spec {x y : BOp} (h : apartB x y = true) :
    (∀ d, x.dst = some d → d ∉ y.looks) ∧ (∀ d, x.dst = some d → y.dst ≠ some d) ∧ (∀ d, y.dst = some d → d ∉ x.looks) := by
  refine ⟨fun d hd => ?_, fun d hd => ?_, fun d hd => ?_⟩ <;> simp [apartB, hd] at h
  · exact h.1.1
  · exact h.1.2
  · exact h.2

/-- Every listed operation has its listed before it. -/
def Down (ops : Array Oper) (listed : Array Bool) : Prop :=
  ∀ j o, ops[j]? = some o → listed.getD j true = true → ∀ e ∈ o.after, Region.binds .any e = true → listed.getD e.on false = true

/-- 'D' tells of each operation some that come ahead of it. -/
def okDep (ops : Array Oper) (D : List (List Nat)) : Bool :=
  (List.range ops.size).all fun j => match ops[j]? with
    | some o => (D.getD j []).all fun i => o.after.toList.any fun e => Region.binds .any e && decide (e.on < j) && (e.on == i || (D.getD e.on []).contains i)
    | none => false

def dep (D : List (List Nat)) (j i : Nat) : Bool := (D.getD j []).contains i

theorem depends_listed {D : List (List Nat)} (hD : okDep ops D = true) {listed : Array Bool} (hd : Down ops listed) (i : Nat) : ∀ (j : Nat) (o : Oper), ops[j]? = some o → dep D j i = true →
    (∀ e ∈ o.after, Region.binds .any e = true → listed.getD e.on false = true) → listed.getD i false = true := by
  intro j
  induction j using Nat.strongRecOn with
  | _ j ih =>
    intro o ho h hall
    have hj : j < ops.size := (Array.getElem?_eq_some_iff.1 ho).1
    have h1 := List.all_eq_true.1 hD j (List.mem_range.2 hj)
    simp only [ho] at h1
    have h2 := List.all_eq_true.1 h1 i (by simpa [dep] using h)
    obtain ⟨e, he, h3⟩ := List.any_eq_true.1 h2
    simp only [Bool.and_eq_true, decide_eq_true_eq, Bool.or_eq_true, beq_iff_eq] at h3
    obtain ⟨⟨hb, hlt⟩, h3⟩ := h3
    have hl := hall e (by simpa using he) hb
    rcases h3 with h3 | h3
    · rw [← h3]; exact hl
    · have hes : e.on < ops.size := by omega
      refine ih e.on hlt ops[e.on] (Array.getElem?_eq_getElem hes) h3 (hd e.on _ (Array.getElem?_eq_getElem hes) ?_)
      rw [Array.getD_eq_getD_getElem?] at hl ⊢
      cases hx : listed[e.on]? with
      | none => rfl
      | some b => rw [hx] at hl; exact hl

theorem Down.set {listed : Array Bool} (hd : Down ops listed) {i : Nat} (hi : i ∈ Region.ready .any ops listed) : Down ops (listed.setIfInBounds i true) := by
  obtain ⟨hun, oi, hoi, hall⟩ := mem_ready.1 hi
  have hmono : ∀ k, listed.getD k false = true → (listed.setIfInBounds i true).getD k false = true := fun k hk => by
    rw [Array.getD_eq_getD_getElem?] at hk ⊢
    by_cases h : i = k
    · subst h
      cases hx : listed[i]? with
      | none => rw [hx] at hk; cases hk
      | some b => have := (Array.getElem?_eq_some_iff.1 hx).1; simp [this]
    · rw [Array.getElem?_setIfInBounds_ne h]; exact hk
  intro j o ho hl e he hb
  by_cases h : i = j
  · subst h
    rw [hoi] at ho; cases ho
    exact hmono _ (hall e he hb)
  · refine hmono _ (hd j o ho ?_ e he hb)
    rw [Array.getD_eq_getD_getElem?] at hl ⊢
    rwa [Array.getElem?_setIfInBounds_ne h] at hl

/-- How many are not listed yet. -/
def unl (n : Nat) (listed : Array Bool) : Nat := ((List.range n).filter fun k => !listed.getD k true).length

theorem unl_set {n : Nat} {listed : Array Bool} {i : Nat} (hi : listed.getD i true = false) (hin : i < n) : unl n (listed.setIfInBounds i true) + 1 = unl n listed := by
  have key : ∀ n, i < n → unl n (listed.setIfInBounds i true) + 1 = unl n listed := by
    have hsame : ∀ k, k ≠ i → (listed.setIfInBounds i true).getD k true = listed.getD k true := fun k hk => getD_set_ne true (Ne.symm hk)
    have hself : (listed.setIfInBounds i true).getD i true = true := by
      rw [Array.getD_eq_getD_getElem?]
      cases hx : (listed.setIfInBounds i true)[i]? with
      | none => rfl
      | some b =>
        have hlt := (Array.getElem?_eq_some_iff.1 hx).1
        simp at hlt
        simp [hlt] at hx
        simp [← hx]
    have hlow : ∀ n, n ≤ i → unl n (listed.setIfInBounds i true) = unl n listed := fun n hn => by
      unfold unl
      congr 1
      apply List.filter_congr
      intro k hk
      rw [hsame k (by have := List.mem_range.1 hk; omega)]
    intro n
    induction n with
    | zero => intro h; omega
    | succ n ih =>
      intro h
      have e : ∀ l : Array Bool, unl (n + 1) l = unl n l + (if l.getD n true = false then 1 else 0) := fun l => by
        unfold unl
        rw [List.range_succ, List.filter_append, List.length_append]
        congr 1
        cases hb : l.getD n true
        · simp only [List.filter_cons, List.filter_nil, hb, Bool.not_false, if_true, List.length_cons, List.length_nil]
        · simp only [List.filter_cons, List.filter_nil, hb, Bool.not_true, Bool.false_eq_true, if_false, List.length_nil, Bool.true_eq_false]
      rw [e, e]
      by_cases hn : n = i
      · subst hn
        rw [hlow n (Nat.le_refl _), hself, hi]; simp
      · rw [hsame n hn, ← ih (by omega)]; omega
  exact key n hin

theorem unl_pos {n : Nat} {listed : Array Bool} {i : Nat} (hi : listed.getD i true = false) (hin : i < n) : 0 < unl n listed := by
  rw [← unl_set hi hin]; omega

theorem ready_lt {listed : Array Bool} {i : Nat} (h : i ∈ Region.ready .any ops listed) : i < ops.size := by
  obtain ⟨_, o, ho, _⟩ := mem_ready.1 h
  exact (Array.getElem?_eq_some_iff.1 ho).1

theorem aAny_first {D : List (List Nat)} (hD : okDep ops D = true) {B : List BOp} {K : FE → Store → Prop} {i : Nat} {bi : BOp} (hi : B[i]? = some bi) :
    ∀ (n : Nat) (listed : Array Bool) (f : FE) (σ : Store), Down ops listed → unl ops.size listed = n + 1 →
      (∀ j bj, B[j]? = some bj → j ≠ i → listed.getD j true = false → dep D j i = false → apartB bi bj = true ∧ mayFirst bi bj = true) →
      i ∈ Region.ready .any ops listed → (bi.tt f).run P σ (fun a s => aAny P ops B K n (listed.setIfInBounds i true) (f.put bi.dst a) s) → aAny P ops B K (n + 1) listed f σ := by
  intro n
  induction n with
  | zero =>
    intro listed f σ hdn hun hfree hr H
    refine ⟨fun h => (by rw [h] at hr; cases hr), fun j hj bj hbj => ?_⟩
    by_cases hji : j = i
    · subst hji; rw [hi] at hbj; cases hbj; exact H
    · have h1 := unl_set (mem_ready.1 hr).1 (ready_lt hr)
      have h2 := unl_pos (n := ops.size) (mem_ready.1 (ready_mono hj hji)).1 (ready_lt hj)
      omega
  | succ n ih =>
    intro listed f σ hdn hun hfree hr H
    refine ⟨fun h => (by rw [h] at hr; cases hr), fun j hj bj hbj => ?_⟩
    by_cases hji : j = i
    · subst hji; rw [hi] at hbj; cases hbj; exact H
    · have hdep : dep D j i = false := by
        cases hdj : dep D j i with
        | false => rfl
        | true =>
          obtain ⟨_, o, ho, hall⟩ := mem_ready.1 hj
          have h1 := depends_listed hD hdn i j o ho hdj hall
          have h0 := (mem_ready.1 hr).1
          rw [Array.getD_eq_getD_getElem?] at h0 h1
          cases hx : listed[i]? with
          | none => rw [hx] at h1; cases h1
          | some b => rw [hx] at h0 h1; rw [Option.getD_some] at h0 h1; rw [h0] at h1; cases h1
      obtain ⟨hap, hmf⟩ := hfree j bj hbj hji (mem_ready.1 hj).1 hdep
      obtain ⟨a1, a2, a3⟩ := apartB_spec hap
      have hjr := ready_mono hj hji
      have hH : (bi.tt f).run P σ fun a s => (bj.tt f).run P s fun b s' => aAny P ops B K n ((listed.setIfInBounds i true).setIfInBounds j true) ((f.put bi.dst a).put bj.dst b) s' :=
        TT.run_mono (fun a s h => by
          have := h.2 j hjr bj hbj
          rw [tt_put a1] at this
          exact this) H
      have hc := tt_comm hmf hH
      refine TT.run_mono (fun b s h => ?_) hc
      have hdn' := hdn.set hj
      have hun' : unl ops.size (listed.setIfInBounds j true) = n + 1 := by
        have := unl_set (mem_ready.1 hj).1 (ready_lt hj); omega
      refine ih (listed.setIfInBounds j true) (f.put bj.dst b) s hdn' hun' (fun k bk hbk hki hku hkd => hfree k bk hbk hki ?_ hkd) (ready_mono hr (Ne.symm hji)) ?_
      · by_cases hjk : j = k
        · subst hjk; exact (mem_ready.1 hj).1
        · rw [getD_set_ne true hjk] at hku; exact hku
      · rw [tt_put a3]
        rw [Array.setIfInBounds_comm _ _ hji]
        refine TT.run_mono (fun a s' h' => ?_) h
        rw [put_comm a2] at h'
        exact h'

/-- The order in which the operations are taken: is it one that may be, and does none overtake another that it may not? -/
def okOrd (ops : Array Oper) (D : List (List Nat)) (B : List BOp) : List Nat → List Nat → Bool
  | [], done => (List.range ops.size).all done.contains
  | i :: r, done =>
    (match ops[i]?, B[i]? with
     | some o, some bi => !done.contains i && o.after.toList.all (fun e => !Region.binds .any e || (done.contains e.on && decide (e.on < ops.size))) &&
        (List.range ops.size).all fun j => done.contains j || j == i || dep D j i || (match B[j]? with | some bj => apartB bi bj && mayFirst bi bj | none => true)
     | _, _ => false) && okOrd ops D B r (i :: done)

/-- 'listed' says what 'done' says. -/
def Says (n : Nat) (listed : Array Bool) (done : List Nat) : Prop := listed.size = n ∧ ∀ k, k < n → listed[k]? = some (done.contains k)

theorem aAny_ord {D : List (List Nat)} (hD : okDep ops D = true) {B : List BOp} {K : FE → Store → Prop} : ∀ (r done : List Nat) (listed : Array Bool) (f : FE) (σ : Store), Says ops.size listed done → Down ops listed → unl ops.size listed = r.length →
    okOrd ops D B r done = true → fops P (r.filterMap fun i => B[i]?) f σ K → aAny P ops B K r.length listed f σ
  | [], done, listed, f, σ, hsay, hdn, hun, hok, h => by
    simp only [okOrd, List.all_eq_true, List.mem_range] at hok
    refine ⟨?_, h⟩
    cases hr : Region.ready .any ops listed with
    | nil => rfl
    | cons j l =>
      have hj : j ∈ Region.ready .any ops listed := by rw [hr]; simp
      have h1 := (mem_ready.1 hj).1
      have h2 := hsay.2 j (ready_lt hj)
      rw [Array.getD_eq_getD_getElem?, h2, hok j (ready_lt hj)] at h1
      cases h1
  | i :: r, done, listed, f, σ, hsay, hdn, hun, hok, h => by
    simp only [okOrd, Bool.and_eq_true] at hok
    obtain ⟨hok1, hok2⟩ := hok
    split at hok1
    · rename_i o bi ho hbi
      simp only [Bool.and_eq_true, List.all_eq_true, Bool.or_eq_true, Bool.not_eq_true', List.mem_range, decide_eq_true_eq] at hok1
      obtain ⟨⟨hnd, hbef⟩, hpairs⟩ := hok1
      have hlt : i < ops.size := (Array.getElem?_eq_some_iff.1 ho).1
      have hr : i ∈ Region.ready .any ops listed := by
        rw [mem_ready]
        refine ⟨by rw [Array.getD_eq_getD_getElem?, hsay.2 i hlt, hnd]; rfl, o, ho, fun e he hb => ?_⟩
        rcases hbef e (by simpa using he) with h1 | h1
        · rw [hb] at h1; cases h1
        · rw [Array.getD_eq_getD_getElem?]
          rw [hsay.2 _ h1.2, h1.1]; rfl
      simp only [List.filterMap_cons, hbi, fops] at h
      refine aAny_first hD hbi r.length listed f σ hdn (by simpa using hun) (fun j bj hbj hji hju hjd => ?_) hr ?_
      · have hjl : j < ops.size ∨ ¬ j < ops.size := Nat.lt_or_ge j ops.size |>.imp id (fun h => by omega)
        rcases hjl with hjl | hjl
        · have h1 := hsay.2 j hjl
          rw [Array.getD_eq_getD_getElem?, h1] at hju
          rcases hpairs j hjl with ((h2 | h2) | h2) | h2
          · rw [h2] at hju; cases hju
          · exact absurd (by simpa using h2) hji
          · rw [hjd] at h2; cases h2
          · rw [hbj] at h2; simpa using h2
        · rw [Array.getD_eq_getD_getElem?, Array.getElem?_eq_none (by rw [hsay.1]; omega)] at hju; cases hju
      · refine TT.run_mono (fun a s h' => aAny_ord hD r (i :: done) _ _ s ?_ (hdn.set hr) ?_ hok2 h') h
        · refine ⟨by simpa using hsay.1, fun k hk => ?_⟩
          by_cases hki : i = k
          · subst hki; simp [hsay.1, hk]
          · rw [Array.getElem?_setIfInBounds_ne hki, hsay.2 k hk]
            have : k ≠ i := fun e => hki e.symm
            simp [this]
        · have := unl_set (mem_ready.1 hr).1 hlt
          simp at hun; omega
    · cases hok1

/-! ## Where the order matters: a tree of all that may come -/
inductive IT where
  | leaf
  | op (i : Nat) (t : IT)
  | alt (i : Nat) (t : IT) (r : IT)
  | stop

def IT.roots : IT → List Nat
  | .alt i _ r => i :: r.roots
  | _ => []

def ttree (P : Program) (B : List BOp) (K : FE → Store → Prop) : IT → FE → Store → Prop
  | .leaf, f, σ => K f σ
  | .op i t, f, σ => ∃ b, B[i]? = some b ∧ (b.tt f).run P σ fun a s => ttree P B K t (f.put b.dst a) s
  | .alt i t r, f, σ => (∃ b, B[i]? = some b ∧ (b.tt f).run P σ fun a s => ttree P B K t (f.put b.dst a) s) ∧ ttree P B K r f σ
  | .stop, _, _ => True

/-- May it be taken now? -/
def rdy (ops : Array Oper) (done : List Nat) (i : Nat) : Bool :=
  !done.contains i && match ops[i]? with
    | some o => o.after.toList.all fun e => !Region.binds .any e || (done.contains e.on && decide (e.on < ops.size))
    | none => false

def okFirst (ops : Array Oper) (D : List (List Nat)) (B : List BOp) (done : List Nat) (i : Nat) : Bool :=
  rdy ops done i && match B[i]? with
    | some bi => (List.range ops.size).all fun j => done.contains j || j == i || dep D j i || (match B[j]? with | some bj => apartB bi bj && mayFirst bi bj | none => true)
    | none => false

def okT (ops : Array Oper) (D : List (List Nat)) (B : List BOp) : Bool → IT → List Nat → Bool
  | true, .leaf, done => (List.range ops.size).all done.contains
  | true, .op i t, done => okFirst ops D B done i && okT ops D B true t (i :: done)
  | top, .alt i t r, done => rdy ops done i && (!top || (List.range ops.size).all fun j => !rdy ops done j || (i :: r.roots).contains j) && okT ops D B true t (i :: done) && okT ops D B false r done
  | false, .stop, _ => true
  | _, _, _ => false

theorem Says.ready {listed : Array Bool} {done : List Nat} (hsay : Says ops.size listed done) {i : Nat} (h : rdy ops done i = true) : i ∈ Region.ready .any ops listed := by
  unfold rdy at h
  simp only [Bool.and_eq_true, Bool.not_eq_true'] at h
  obtain ⟨hnd, h⟩ := h
  split at h
  · rename_i o ho
    have hlt : i < ops.size := (Array.getElem?_eq_some_iff.1 ho).1
    rw [mem_ready]
    refine ⟨by rw [Array.getD_eq_getD_getElem?, hsay.2 i hlt, hnd]; rfl, o, ho, fun e he hb => ?_⟩
    have h1 := List.all_eq_true.1 h e (by simpa using he)
    simp only [Bool.or_eq_true, Bool.not_eq_true', Bool.and_eq_true, decide_eq_true_eq] at h1
    rcases h1 with h1 | h1
    · rw [hb] at h1; cases h1
    · rw [Array.getD_eq_getD_getElem?]
      rw [hsay.2 _ h1.2, h1.1]; rfl
  · cases h

theorem Says.rdy {listed : Array Bool} {done : List Nat} (hsay : Says ops.size listed done) {i : Nat} (h : i ∈ Region.ready .any ops listed) : rdy ops done i = true := by
  obtain ⟨h1, o, ho, hall⟩ := mem_ready.1 h
  have hlt : i < ops.size := (Array.getElem?_eq_some_iff.1 ho).1
  rw [Array.getD_eq_getD_getElem?, hsay.2 i hlt] at h1
  have hsz : ∀ k, listed.getD k false = true → k < ops.size ∧ done.contains k = true := fun k hk => by
    rw [Array.getD_eq_getD_getElem?] at hk
    by_cases hks : k < ops.size
    · rw [hsay.2 k hks] at hk; exact ⟨hks, hk⟩
    · rw [Array.getElem?_eq_none (by rw [hsay.1]; omega)] at hk; cases hk
  simp only [Go.Am.rdy, Bool.and_eq_true, Bool.not_eq_true', ho]
  refine ⟨h1, List.all_eq_true.2 fun e he => ?_⟩
  simp only [Bool.or_eq_true, Bool.not_eq_true', Bool.and_eq_true, decide_eq_true_eq]
  cases hb : Region.binds .any e with
  | false => exact .inl rfl
  | true => have := hsz _ (hall e (by simpa using he) hb); exact .inr ⟨this.2, this.1⟩

theorem Says.set {listed : Array Bool} {done : List Nat} (hsay : Says ops.size listed done) (i : Nat) : Says ops.size (listed.setIfInBounds i true) (i :: done) := by
  refine ⟨by simpa using hsay.1, fun k hk => ?_⟩
  by_cases hki : i = k
  · subst hki; simp [hsay.1, hk]
  · rw [Array.getElem?_setIfInBounds_ne hki, hsay.2 k hk]
    have : k ≠ i := fun e => hki e.symm
    simp [this]

theorem aAny_tree {D : List (List Nat)} (hD : okDep ops D = true) {B : List BOp} {K : FE → Store → Prop} : ∀ (t : IT) (done : List Nat) (listed : Array Bool) (f : FE) (σ : Store) (n : Nat), Says ops.size listed done → Down ops listed → unl ops.size listed = n →
    (∀ top, okT ops D B top t done = true → ttree P B K t f σ →
      if top then aAny P ops B K n listed f σ
      else ∀ j ∈ t.roots, ∀ m, n = m + 1 → j ∈ Region.ready .any ops listed → ∀ b, B[j]? = some b → (b.tt f).run P σ fun a s => aAny P ops B K m (listed.setIfInBounds j true) (f.put b.dst a) s) := by
  intro t
  induction t with
  | leaf =>
    intro done listed f σ n hsay hdn hun top hok h
    cases top with
    | false => simp [okT] at hok
    | true =>
      simp only [okT, List.all_eq_true, List.mem_range] at hok
      have h0 : Region.ready .any ops listed = [] := by
        cases hr : Region.ready .any ops listed with
        | nil => rfl
        | cons j l =>
          have hj : j ∈ Region.ready .any ops listed := by rw [hr]; simp
          have h1 := (mem_ready.1 hj).1
          have h2 := hsay.2 j (ready_lt hj)
          rw [Array.getD_eq_getD_getElem?, h2, hok j (ready_lt hj)] at h1
          cases h1
      simp only [if_true]
      cases n with
      | zero => exact ⟨h0, h⟩
      | succ m => exact ⟨fun _ => h, fun i hi => (by rw [h0] at hi; cases hi)⟩
  | stop =>
    intro done listed f σ n hsay hdn hun top hok h
    cases top with
    | true => simp [okT] at hok
    | false => simp [IT.roots]
  | op i t ih =>
    intro done listed f σ n hsay hdn hun top hok h
    cases top with
    | false => simp [okT] at hok
    | true =>
      simp only [okT, Bool.and_eq_true, okFirst] at hok
      obtain ⟨⟨hrd, hok1⟩, hok2⟩ := hok
      obtain ⟨bi, hbi, h⟩ := h
      simp only [hbi] at hok1
      simp only [if_true]
      have hr := hsay.ready hrd
      have hlt := ready_lt hr
      obtain ⟨m, rfl⟩ : ∃ m, n = m + 1 := ⟨n - 1, by have := unl_pos (mem_ready.1 hr).1 hlt; omega⟩
      refine aAny_first hD hbi m listed f σ hdn hun (fun j bj hbj hji hju hjd => ?_) hr ?_
      · rcases Nat.lt_or_ge j ops.size with hjl | hjl
        · have h1 := hsay.2 j hjl
          rw [Array.getD_eq_getD_getElem?, h1] at hju
          have hp := List.all_eq_true.1 hok1 j (List.mem_range.2 hjl)
          simp only [Bool.or_eq_true] at hp
          rcases hp with ((h2 | h2) | h2) | h2
          · rw [Option.getD_some] at hju; rw [h2] at hju; cases hju
          · exact absurd (by simpa using h2) hji
          · rw [hjd] at h2; cases h2
          · rw [hbj] at h2; simpa using h2
        · rw [Array.getD_eq_getD_getElem?, Array.getElem?_eq_none (by rw [hsay.1]; omega)] at hju; cases hju
      · refine TT.run_mono (fun a s h' => ?_) h
        have hu : unl ops.size (listed.setIfInBounds i true) = m := by have := unl_set (mem_ready.1 hr).1 hlt; omega
        simpa using ih (i :: done) _ (f.put bi.dst a) s m (hsay.set i) (hdn.set hr) hu true hok2 h'
  | alt i t r iht ihr =>
    intro done listed f σ n hsay hdn hun top hok h
    simp only [okT, Bool.and_eq_true] at hok
    obtain ⟨⟨⟨hrd, hcov⟩, hok1⟩, hok2⟩ := hok
    obtain ⟨⟨bi, hbi, hi⟩, hrest⟩ := h
    have key : ∀ j ∈ (IT.alt i t r).roots, ∀ m, n = m + 1 → j ∈ Region.ready .any ops listed → ∀ b, B[j]? = some b → (b.tt f).run P σ fun a s => aAny P ops B K m (listed.setIfInBounds j true) (f.put b.dst a) s := by
      intro j hj m hm hjr b hb
      have hrest' := ihr done listed f σ n hsay hdn hun false hok2 hrest
      simp only [Bool.false_eq_true, if_false] at hrest'
      simp only [IT.roots, List.mem_cons] at hj
      by_cases hji : j = i
      · subst hji
        rw [hbi] at hb; cases hb
        refine TT.run_mono (fun a s h' => ?_) hi
        have hu : unl ops.size (listed.setIfInBounds j true) = m := by have := unl_set (mem_ready.1 hjr).1 (ready_lt hjr); omega
        simpa using iht (j :: done) _ (f.put bi.dst a) s m (hsay.set j) (hdn.set hjr) hu true hok1 h'
      · exact hrest' j (hj.resolve_left hji) m hm hjr b hb
    cases top with
    | false => simpa using key
    | true =>
      simp only [if_true]
      have hr := hsay.ready hrd
      obtain ⟨m, rfl⟩ : ∃ m, n = m + 1 := ⟨n - 1, by have := unl_pos (mem_ready.1 hr).1 (ready_lt hr); omega⟩
      refine ⟨fun h0 => (by rw [h0] at hr; cases hr), fun j hj b hb => ?_⟩
      refine key j ?_ m rfl hj b hb
      have := List.all_eq_true.1 (by simpa using hcov : ((List.range ops.size).all fun j => !Go.Am.rdy ops done j || (i :: r.roots).contains j) = true) j (List.mem_range.2 (ready_lt hj))
      rw [hsay.rdy hj] at this
      simpa [IT.roots] using this

theorem St.drew {f : FE} {σ : Store} {a : Act} {w : World} (h : St R N f σ a w) : St R N f σ a w.drew := by
  obtain ⟨G, h1, h2, h3, h4, h5⟩ := h
  exact ⟨G, h1.trans (Ext.drew G σ w), h2.heap rfl, h3, h4, fun t v ht => by obtain ⟨x, hx, hr⟩ := h5 t v ht; exact ⟨x, hx, VRel.heap (w' := w.drew) (w := w) rfl hr⟩⟩

/-- A region that draws its order: one walk, in an order that may be. -/
theorem draw_sound {dr : Bool} {id : Nat} {D : List (List Nat)} {B : List BOp} {ord : List Nat} {K : FE → Store → Prop} {f : FE} {σ : Store} {a : Act} {w : World} (hm : P.follows .mixedOrders = true)
    (hB : ops.toList.mapM (compOp P dr N ops) = some B) (hD : okDep ops D = true) (hord : okOrd ops D B ord [] = true) (hlen : ord.length = ops.size) (hst : St R N f σ a w)
    (h : fops P (ord.filterMap fun i => B[i]?) f σ K) (hq : ∀ f' σ' a' w', St R N f' σ' a' w' → K f' σ' → Q .normal a' w') : (Code.region id ops true).wp P Q a w := by
  refine wp_region_any hm ?_
  have hrep : ∀ k, k < ops.size → (Array.replicate ops.size false)[k]? = some false := fun k hk => by simp [hk]
  have hA := aAny_ord hD (K := K) (P := P) ord [] (Array.replicate ops.size false) f σ ⟨by simp, fun k hk => by rw [hrep k hk]; rfl⟩
    (fun j o ho hl => by
      have := (Array.getElem?_eq_some_iff.1 ho).1
      rw [Array.getD_eq_getD_getElem?, hrep j this] at hl; cases hl)
    (by
      unfold unl
      rw [hlen, List.filter_eq_self.2 (fun k hk => by rw [Array.getD_eq_getD_getElem?, hrep k (List.mem_range.1 hk)]; rfl), List.length_range]) hord h
  rw [hlen] at hA
  exact aAny_sound hB hq _ _ f σ a _ hst.drew hA

/-- A region that draws its order: all ways of a tree. -/
theorem tree_sound {dr : Bool} {id : Nat} {D : List (List Nat)} {B : List BOp} {t : IT} {K : FE → Store → Prop} {f : FE} {σ : Store} {a : Act} {w : World} (hm : P.follows .mixedOrders = true)
    (hB : ops.toList.mapM (compOp P dr N ops) = some B) (hD : okDep ops D = true) (hord : okT ops D B true t [] = true) (hst : St R N f σ a w)
    (h : ttree P B K t f σ) (hq : ∀ f' σ' a' w', St R N f' σ' a' w' → K f' σ' → Q .normal a' w') : (Code.region id ops true).wp P Q a w := by
  refine wp_region_any hm ?_
  have hrep : ∀ k, k < ops.size → (Array.replicate ops.size false)[k]? = some false := fun k hk => by simp [hk]
  have hA := aAny_tree hD (K := K) (P := P) t [] (Array.replicate ops.size false) f σ ops.size ⟨by simp, fun k hk => by rw [hrep k hk]; rfl⟩
    (fun j o ho hl => by
      have := (Array.getElem?_eq_some_iff.1 ho).1
      rw [Array.getD_eq_getD_getElem?, hrep j this] at hl; cases hl)
    (by
      unfold unl
      rw [List.filter_eq_self.2 (fun k hk => by rw [Array.getD_eq_getD_getElem?, hrep k (List.mem_range.1 hk)]; rfl), List.length_range]) true hord h
  simp only [if_true] at hA
  exact aAny_sound hB hq _ _ f σ a _ hst.drew hA

end
end Go.Am

/- Am18 -/
namespace Go.Am

/-! ## Code -/
inductive BC where
  | skip
  | ret
  | exit (id : Nat)
  | seq (a b : BC)
  | cond (c : Opd) (a b : BC)
  | block (id : Nat) (b : BC)
  | ops (l : List BOp) (live : List Nat)
  | loop (live : List Nat) (b : BC)
  | both (a b : BC)
  | top

/-- A tree's form as code. -/
inductive DS (B : List BOp) : IT → BC → Prop
  | leaf {live} : DS B .leaf (.ops [] live)
  | op {i t b c live} : B[i]? = some b → DS B t c → DS B (.op i t) (.seq (.ops [b] live) c)
  | alt {i t r b c d live} : B[i]? = some b → DS B t c → DS B r d → DS B (.alt i t r) (.both (.seq (.ops [b] live) c) d)
  | stop : DS B .stop .top

/-- A piece of code and its compiled form. -/
inductive CC (P : Program) (N : Nat) : Code → BC → Prop
  | skip : CC P N .skip .skip
  | label {l} : CC P N (.label l) .skip
  | ret : CC P N .ret .ret
  | exit {id} : CC P N (.exit id) (.exit id)
  | seq {a b a' b'} : CC P N a a' → CC P N b b' → CC P N (.seq a b) (.seq a' b')
  | cond {c a b c' a' b'} : compOpd c = some c' → CC P N a a' → CC P N b b' → CC P N (.cond c a b) (.cond c' a' b')
  | block {id b b'} : CC P N b b' → CC P N (.block id b) (.block id b')
  | ops {id ops l live} : ops.toList.mapM (compOp P false N ops) = some l → CC P N (.region id ops false) (.ops l live)
  | draw {id ops dr D B ord live} : P.follows .mixedOrders = true → ops.toList.mapM (compOp P dr N ops) = some B → okDep ops D = true → okOrd ops D B ord [] = true → ord.length = ops.size →
      CC P N (.region id ops true) (.ops (ord.filterMap fun i => B[i]?) live)
  | tree {id ops dr D B t c} : P.follows .mixedOrders = true → ops.toList.mapM (compOp P dr N ops) = some B → okDep ops D = true → okT ops D B true t [] = true → DS B t c → CC P N (.region id ops true) c
  | scope {b b'} : CC P N b b' → CC P N (.scope b) b'
  | loop {b b' live} : CC P N b b' → CC P N (.loop b) (.loop live b')

def subF (f f' : FE) : Prop := ∀ t a, f t = some a → f' t = some a

def fwp (P : Program) : BC → FE → Store → (FE → Store → Prop) → (FE → Store → Prop) → (Nat → FE → Store → Prop) → Prop
  | .skip, f, σ, n, _, _ => n f σ
  | .ret, f, σ, _, r, _ => r f σ
  | .exit i, f, σ, _, _, x => x i f σ
  | .seq a b, f, σ, n, r, x => fwp P a f σ (fun f σ => fwp P b f σ n r x) r x
  | .cond c a b, f, σ, n, r, x => ∃ v, fev f c = some (.bool v) ∧ (v = true → fwp P a f σ n r x) ∧ (v = false → fwp P b f σ n r x)
  | .block id b, f, σ, n, r, x => fwp P b f σ n r (fun i f σ => if i = id then n f σ else x i f σ)
  | .ops l _, f, σ, n, _, _ => fops P l f σ n
  | .loop _ b, f, σ, _, r, x => ∃ I : Nat → FE → Store → Prop, (∃ k f' σ', subF f' f ∧ Store.sub σ' σ ∧ I k f' σ') ∧ ∀ k f σ, I k f σ →
      fwp P b f σ (fun f' σ' => ∃ j f'' σ'', j < k ∧ subF f'' f' ∧ Store.sub σ'' σ' ∧ I j f'' σ'') r x
  | .both a b, f, σ, n, r, x => fwp P a f σ n r x ∧ fwp P b f σ n r x
  | .top, _, _, _, _, _ => True

theorem DS.tree {P : Program} {B : List BOp} {t : IT} {c : BC} (h : DS B t c) : ∀ (f : FE) (σ : Store) (n r : FE → Store → Prop) (x : Nat → FE → Store → Prop), fwp P c f σ n r x → ttree P B n t f σ := by
  induction h with
  | leaf => exact fun f σ n r x h => h
  | op hb _ ih => exact fun f σ n r x h => ⟨_, hb, TT.run_mono (fun a s h' => ih _ s n r x h') h⟩
  | alt hb _ _ ih1 ih2 => exact fun f σ n r x h => ⟨⟨_, hb, TT.run_mono (fun a s h' => ih1 _ s n r x h') h.1⟩, ih2 f σ n r x h.2⟩
  | stop => exact fun _ _ _ _ _ _ => trivial

section
variable {P : Program} {R : Ref} {N : Nat}

theorem St.sub {f f' : FE} {σ σ' : Store} {a : Act} {w : World} (h : St R N f σ a w) (hf : subF f' f) (hs : Store.sub σ' σ) : St R N f' σ' a w := by
  obtain ⟨G, h1, h2, h3, h4, h5⟩ := h
  exact ⟨G, h1.sub hs, h2.sub hs, h3, h4, fun t v ht => h5 t v (hf t v ht)⟩

/-- What is owed of the code's ways on. -/
def QOf (R : Ref) (N : Nat) (n r : FE → Store → Prop) (x : Nat → FE → Store → Prop) : Exit → Act → World → Prop
  | .normal, a, w => ∃ f σ, St R N f σ a w ∧ n f σ
  | .ret, a, w => ∃ f σ, St R N f σ a w ∧ r f σ
  | .exit i, a, w => ∃ f σ, St R N f σ a w ∧ x i f σ
  | _, _, _ => False

theorem wp_loop_n {Q : Exit → Act → World → Prop} {c : Code} (J : Nat → Act → World → Prop) {k : Nat} {a : Act} {w : World} (h0 : J k a w)
    (round : ∀ k a w, J k a w → c.wp P (Exit.then (fun a' w' => ∃ j, j < k ∧ J j a' w') Q) a w) : (Code.loop c).wp P Q a w := by
  intro b kk cs
  have key : ∀ k a w, J k a w → ∃ e a' w', Q e a' w' ∧ Arrives P (lone (b.at a (.code c :: .inLoop c :: kk)) cs w) b kk cs e a' w' := by
    intro k
    induction k using Nat.strongRecOn with
    | _ k ih =>
      intro a w hJ
      obtain ⟨e, a₁, w₁, hq, harr⟩ := round k a w hJ b (.inLoop c :: kk) cs
      cases e with
      | normal =>
        obtain ⟨j, hlt, hJ₁⟩ := hq
        obtain ⟨e₂, a₂, w₂, hq₂, harr₂⟩ := ih j hlt a₁ w₁ hJ₁
        exact ⟨e₂, a₂, w₂, hq₂, .of_steps (Steps.trans harr (.one step_inLoop)) harr₂⟩
      | exit id => exact ⟨_, a₁, w₁, hq, .pass (x := .inLoop c) rfl (fun _ _ => .inl (by simp)) harr⟩
      | goto l => exact ⟨_, a₁, w₁, hq, .pass (x := .inLoop c) rfl (fun _ _ => .inl (by simp)) harr⟩
      | ret => exact ⟨_, a₁, w₁, hq, .pass (x := .inLoop c) rfl (fun _ _ => .inl (by simp)) harr⟩
      | panic ch => exact ⟨_, a₁, w₁, hq, .pass (x := .inLoop c) rfl (fun _ _ => .inl (by simp)) harr⟩
      | outgrown => exact ⟨_, a₁, w₁, hq, .pass (x := .inLoop c) rfl (fun _ _ => .inl (by simp)) harr⟩
  obtain ⟨e, a', w', hq, harr⟩ := key k a w h0
  exact ⟨e, a', w', hq, .of_steps (.one step_loop) harr⟩

theorem code_sound {c : Code} {b : BC} (hc : CC P N c b) : ∀ (f : FE) (σ : Store) (a : Act) (w : World) (n r : FE → Store → Prop) (x : Nat → FE → Store → Prop),
    St R N f σ a w → fwp P b f σ n r x → c.wp P (QOf R N n r x) a w := by
  induction hc with
  | skip => exact fun f σ a w n r x hst h => wp_skip ⟨f, σ, hst, h⟩
  | label => exact fun f σ a w n r x hst h => wp_label ⟨f, σ, hst, h⟩
  | ret => exact fun f σ a w n r x hst h => wp_ret ⟨f, σ, hst, h⟩
  | exit => exact fun f σ a w n r x hst h => wp_exit ⟨f, σ, hst, h⟩
  | seq _ _ ih1 ih2 =>
    intro f σ a w n r x hst h
    refine wp_seq (wp_mono (ih1 f σ a w _ r x hst h) ?_)
    intro e a' w' hq
    cases e with
    | normal => obtain ⟨f', σ', h1, h2⟩ := hq; exact ih2 f' σ' a' w' n r x h1 h2
    | _ => exact hq
  | cond hc _ _ ih1 ih2 =>
    intro f σ a w n r x hst h
    obtain ⟨v, h1, h2, h3⟩ := h
    have hst' := hst
    obtain ⟨G, _, hs, _, _, hE⟩ := hst'
    have hv := (fev_ok (a := a) hE _ _ _ hc h1).of_bool
    refine wp_cond_split hv (fun ht => ih1 f σ a w n r x hst (h2 ht)) (fun ht => ih2 f σ a w n r x hst (h3 ht))
  | block _ ih =>
    intro f σ a w n r x hst h
    refine wp_block (wp_mono (ih f σ a w n r _ hst h) ?_)
    intro e a' w' hq
    cases e with
    | exit i =>
      obtain ⟨f', σ', h1, h2⟩ := hq
      simp only [Exit.inBlock]
      split
      · rename_i he; rw [if_pos he] at h2; exact ⟨f', σ', h1, h2⟩
      · rename_i he; rw [if_neg he] at h2; exact ⟨f', σ', h1, h2⟩
    | normal => exact hq
    | ret => exact hq
    | goto => exact hq.elim
    | panic => exact hq.elim
    | outgrown => exact hq.elim
  | ops hl =>
    intro f σ a w n r x hst h
    exact wp_region_list (list_sound _ _ hl f σ a w n hst h fun f' σ' a' w' h1 h2 => ⟨f', σ', h1, h2⟩)
  | draw hm hB hD ho hlen =>
    intro f σ a w n r x hst h
    exact draw_sound hm hB hD ho hlen hst h fun f' σ' a' w' h1 h2 => ⟨f', σ', h1, h2⟩
  | tree hm hB hD ho hds =>
    intro f σ a w n r x hst h
    exact tree_sound hm hB hD ho hst (hds.tree f σ n r x h) fun f' σ' a' w' h1 h2 => ⟨f', σ', h1, h2⟩
  | scope _ ih =>
    intro f σ a w n r x hst h
    refine wp_scope_straight (wp_mono (ih f σ a w n r x hst h) ?_)
    intro e a' w' hq
    cases e with
    | goto => exact hq.elim
    | _ => exact hq
  | loop _ ih =>
    intro f σ a w n r x hst h
    obtain ⟨I, ⟨k, f0, σ0, hf0, hσ0, h0⟩, hround⟩ := h
    refine wp_loop_n (fun k a w => ∃ f σ, St R N f σ a w ∧ I k f σ) (k := k) ⟨f0, σ0, hst.sub hf0 hσ0, h0⟩ ?_
    rintro k a w ⟨f, σ, hst, hI⟩
    refine wp_mono (ih f σ a w _ r x hst (hround k f σ hI)) ?_
    intro e a' w' hq
    cases e with
    | normal =>
      obtain ⟨f', σ', h1, j, f'', σ'', h2, h3, h4, h5⟩ := hq
      exact ⟨j, h2, f'', σ'', h1.sub h3 h4, h5⟩
    | _ => exact hq

/-! ## Values and stores may be read otherwise -/
def WeakL (as : List AV) (σ : Store) (Q : List AV → Store → Prop) : Prop :=
  ∀ G w vs, Sim G σ w → Rels (VRel G w) as vs → ∃ G' as' σ', Ext G σ w G' σ' w ∧ Sim G' σ' w ∧ Rels (VRel G' w) as' vs ∧ Q as' σ'

def Weak (a : AV) (σ : Store) (Q : AV → Store → Prop) : Prop :=
  ∀ G w v, Sim G σ w → VRel G w a v → ∃ G' a' σ', Ext G σ w G' σ' w ∧ Sim G' σ' w ∧ VRel G' w a' v ∧ Q a' σ'

theorem WeakL.pure {as : List AV} {σ : Store} {Q : List AV → Store → Prop} (h : Q as σ) : WeakL as σ Q :=
  fun G w vs hs hr => ⟨G, as, σ, Ext.refl _ _ _, hs, hr, h⟩
theorem Weak.pure {a : AV} {σ : Store} {Q : AV → Store → Prop} (h : Q a σ) : Weak a σ Q :=
  fun G w v hs hr => ⟨G, a, σ, Ext.refl _ _ _, hs, hr, h⟩
theorem Weak.forget {a : AV} {σ σ' : Store} {Q : AV → Store → Prop} (hsub : Store.sub σ' σ) (h : Weak a σ' Q) : Weak a σ Q := fun G w v hs hr => by
  obtain ⟨G', a', σ'', h1, h2, h3, h4⟩ := h G w v (hs.sub hsub) hr
  exact ⟨G', a', σ'', ((Ext.refl G σ w).sub hsub).trans h1, h2, h3, h4⟩
theorem WeakL.forget {as : List AV} {σ σ' : Store} {Q : List AV → Store → Prop} (hsub : Store.sub σ' σ) (h : WeakL as σ' Q) : WeakL as σ Q := fun G w v hs hr => by
  obtain ⟨G', a', σ'', h1, h2, h3, h4⟩ := h G w v (hs.sub hsub) hr
  exact ⟨G', a', σ'', ((Ext.refl G σ w).sub hsub).trans h1, h2, h3, h4⟩
theorem Weak.of_one {a : AV} {σ : Store} {Q : AV → Store → Prop} (h : WeakL [a] σ (fun as s => ∃ a, as = [a] ∧ Q a s)) : Weak a σ Q := fun G w v hs hr => by
  obtain ⟨G', as', σ', h1, h2, h3, a', rfl, h4⟩ := h G w [v] hs (.cons hr .nil)
  cases h3 with | cons h3 _ => exact ⟨G', a', σ', h1, h2, h3, h4⟩
theorem Weak.tup {as : List AV} {σ : Store} {Q : AV → Store → Prop} (h : WeakL as σ (fun as s => Q (.tup as) s)) : Weak (.tup as) σ Q := fun G w v hs hr => by
  obtain ⟨cs, rfl, hl, hv⟩ := hr.of_tup
  obtain ⟨G', as', σ', h1, h2, h3, h4⟩ := h G w cs hs (Rels.of_get hl hv)
  exact ⟨G', _, σ', h1, h2, .tup h3.length (fun k hk hk' => by
    obtain ⟨b, hb, hbr⟩ := h3.get k _ (List.getElem?_eq_getElem hk)
    rw [List.getElem?_eq_getElem hk'] at hb; cases hb; exact hbr), h4⟩
theorem Weak.agg {as : List AV} {σ : Store} {Q : AV → Store → Prop} (h : WeakL as σ (fun as s => (∀ c ∈ as, c.flat = true) ∧ Q (.agg as) s)) : Weak (.agg as) σ Q := fun G w v hs hr => by
  obtain ⟨cs, rfl, hl, hf, hv⟩ := hr.of_agg
  obtain ⟨G', as', σ', h1, h2, h3, hf', h4⟩ := h G w cs hs (Rels.of_get hl hv)
  exact ⟨G', _, σ', h1, h2, .agg h3.length hf' (fun k hk hk' => by
    obtain ⟨b, hb, hbr⟩ := h3.get k _ (List.getElem?_eq_getElem hk)
    rw [List.getElem?_eq_getElem hk'] at hb; cases hb; exact hbr), h4⟩

/-- What is owned becomes what never changes. -/
theorem Sim.freeze {G : Gh} {σ : Store} {w : World} (hs : Sim G σ w) {id : Nat} {o : Obj} {b base : Nat} (hσ : σ id = some o) (hρ : G.ρ id = some (b, base)) :
    ∃ G', Ext G σ w G' (σ.del id) w ∧ Sim G' (σ.del id) w ∧ G'.I b ∧ G'.ρ = G.ρ := by
  let G' : Gh := ⟨G.ρ, fun c => G.I c ∨ c = b⟩
  have hdel : ∀ i oi, (σ.del id) i = some oi → σ i = some oi ∧ i ≠ id := fun i oi h => by
    by_cases hi : i = id
    · subst hi; simp at h
    · rw [Store.del_ne _ hi] at h; exact ⟨h, hi⟩
  have hext : Ext G σ w G' (σ.del id) w :=
    { Ext.refl G σ w with
      I := fun _ h => .inl h
      newI := fun c h => h.elim .inl (fun e => .inr (.inl (e ▸ ⟨id, o, base, hσ, hρ⟩)))
      newOwn := fun c ⟨i, oi, bi, h1, h2⟩ => .inl ⟨i, oi, bi, (hdel i oi h1).1, h2⟩
      newId := fun i oi h1 => .inl ⟨oi, (hdel i oi h1).1⟩ }
  refine ⟨G', hext, ?_, .inr rfl, rfl⟩
  exact
    { lt := fun c hc => hc.elim (hs.lt c) (fun e => e ▸ hs.blk id b base hρ)
      fin := hs.fin, blk := hs.blk
      used := fun i oi h1 => by
        obtain ⟨c, bi, h2, h3⟩ := hs.used i oi (hdel i oi h1).1
        exact ⟨c, bi, h2, h3.grow rfl fun a v hv => hext.vrel hs hv⟩
      inj := fun i j oi oj c bi bj h1 h2 => hs.inj i j oi oj c bi bj (hdel i oi h1).1 (hdel j oj h2).1
      apart := fun i oi c bi h1 h2 hc => by
        obtain ⟨h3, h4⟩ := hdel i oi h1
        rcases hc with hc | rfl
        · exact hs.apart i oi c bi h3 h2 hc
        · exact h4 (hs.inj i id oi o _ _ _ h3 hσ h2 hρ) }

theorem freeze_rel {G : Gh} {σ : Store} {w : World} (hs : Sim G σ w) {id esz off len : Nat} {es : List (List AV)} {v : Value} (hσ : σ id = some (.arr esz es)) (hle : off + len ≤ es.length)
    (hv : VRel G w (.os id esz off len) v) : ∃ G', Ext G σ w G' (σ.del id) w ∧ Sim G' (σ.del id) w ∧ VRel G' w (.sl esz ((es.drop off).take len)) v := by
  obtain ⟨b, base, hb, hcase⟩ := hv.of_os
  obtain ⟨G', h1, h2, h3, h4⟩ := hs.freeze hσ hb
  refine ⟨G', h1, h2, ?_⟩
  have hlen : ((es.drop off).take len).length = len := by simp; omega
  by_cases h0 : len = 0
  · subst h0
    have : (es.drop off).take 0 = [] := by simp
    rw [this]
    rcases hcase with ⟨c, rfl, _, _⟩ | ⟨_, x, rfl⟩ <;> exact .sl0
  · rcases hcase with ⟨c, rfl, hlc, _⟩ | ⟨h, _⟩
    · obtain ⟨b', base', hb', ho⟩ := hs.used id _ hσ
      rw [hb] at hb'; cases hb'
      cases ho with
      | arr hh hsz hl hf hr =>
        rename_i cur ty
        have hne : (es.drop off).take len ≠ [] := by intro e; rw [e] at hlen; simp at hlen; omega
        have := VRel.sl (G := G') (w := w) (esz := esz) (es := (es.drop off).take len) (b := b) (off := base + off * esz) (c := c) (fun i j => cur.getD (base + ((off + i) * esz + j)) undef) h3 hne (by rw [hlen]; exact hlc)
          (fun cs hcs => hl cs (List.mem_of_mem_drop (List.mem_of_mem_take hcs))) (fun cs hcs => hf cs (List.mem_of_mem_drop (List.mem_of_mem_take hcs)))
          (fun i j hi hj => by
            rw [hlen] at hi
            rw [cell?_heap hh]
            have h5 := mul_lt (show off + i < es.length by omega) hj
            have h6 : base + off * esz + (i * esz + j) = base + ((off + i) * esz + j) := by rw [Nat.add_mul]; omega
            rw [h6, Array.getD_eq_getD_getElem?, Array.getElem?_eq_getElem (by omega)]; rfl)
          (fun i j hi hj => by
            have hi' := hi
            rw [hlen] at hi'
            have e : ((es.drop off).take len)[i]'hi = es[off + i]'(by omega) := by simp
            have h5 := hr (off + i) j (by omega) (by rw [← e]; exact hj)
            simp only [e]
            exact h1.vrel hs h5)
        rw [hlen] at this
        exact this
    · exact absurd h h0

theorem WeakL.freeze {as : List AV} {σ : Store} {Q : List AV → Store → Prop} (k : Nat) {id esz off len : Nat} {es : List (List AV)} (ha : as[k]? = some (.os id esz off len)) (hσ : σ id = some (.arr esz es)) (hle : off + len ≤ es.length)
    (h : WeakL (as.set k (.sl esz ((es.drop off).take len))) (σ.del id) Q) : WeakL as σ Q := fun G w vs hs hr => by
  obtain ⟨v, hv, hvr⟩ := hr.get k _ ha
  obtain ⟨G', h1, h2, h3⟩ := freeze_rel hs hσ hle hvr
  obtain ⟨G'', as', σ', g1, g2, g3, g4⟩ := h G' w vs h2 (Rels.of_get (by simpa using hr.length) fun i hi hi' => by
    by_cases hik : i = k
    · subst hik
      rw [List.getElem?_eq_getElem hi'] at hv; cases hv
      simp; exact h3
    · rw [List.getElem_set_ne (Ne.symm hik)]
      have hi2 : i < as.length := by simpa using hi
      obtain ⟨u, hu, hur⟩ := hr.get i _ (List.getElem?_eq_getElem hi2)
      rw [List.getElem?_eq_getElem hi'] at hu; cases hu
      exact h1.vrel hs hur)
  exact ⟨G'', as', σ', h1.trans g1, g2, g3, g4⟩

theorem WeakL.nil {as : List AV} {σ : Store} {Q : List AV → Store → Prop} (k : Nat) (esz : Nat) (ha : as[k]? = some .nils) (h : WeakL (as.set k (.sl esz [])) σ Q) : WeakL as σ Q := fun G w vs hs hr => by
  obtain ⟨v, hv, hvr⟩ := hr.get k _ ha
  have e := hvr.of_nils
  subst e
  exact h G w vs hs (Rels.of_get (by simpa using hr.length) fun i hi hi' => by
    by_cases hik : i = k
    · subst hik
      rw [List.getElem?_eq_getElem hi'] at hv
      rw [Option.some.inj hv]
      simp; exact .sl0
    · rw [List.getElem_set_ne (Ne.symm hik)]
      have hi2 : i < as.length := by simpa using hi
      obtain ⟨u, hu, hur⟩ := hr.get i _ (List.getElem?_eq_getElem hi2)
      rw [List.getElem?_eq_getElem hi'] at hu; cases hu
      exact hur)

/-- Arguments may be read otherwise. -/
theorem ACalls.weakArgs {f : Nat} {args : List AV} {σ : Store} {Q : AV → Store → Prop} (he : Ent P f) (h : WeakL args σ (fun args' σ' => ACalls P f args' σ' Q)) : ACalls P f args σ Q :=
  ⟨he, fun G w vs hs hv => by
    obtain ⟨G', args', σ', h1, h2, h3, h4⟩ := h G w vs hs hv
    exact (h4.2 G' w vs h2 h3).mono fun e w' ⟨v, a, G2, σ2, g1, g2, g3, g4, g5⟩ => ⟨v, a, G2, σ2, g1, h1.trans g2, g3, g4, g5⟩⟩

/-- A result may be read otherwise. -/
theorem ACalls.weakRes {f : Nat} {args : List AV} {σ : Store} {Q Q' : AV → Store → Prop} (h : ACalls P f args σ Q) (hw : ∀ a s, Q a s → Weak a s Q') : ACalls P f args σ Q' :=
  ⟨h.1, fun G w vs hs hv => (h.2 G w vs hs hv).mono fun e w' ⟨v, a, G', σ', h1, h2, h3, h4, h5⟩ => by
    obtain ⟨G2, a2, σ2, g1, g2, g3, g4⟩ := hw a σ' h5 G' w' v h3 h4
    exact ⟨v, a2, G2, σ2, h1, h2.trans g1, g2, g3, g4⟩⟩

/-! ## A function -/
inductive RS where
  | t (n : Nat)
  | c (n sz : Nat) (agg : Bool)

def RS.slot : RS → Nat
  | .t n | .c n _ _ => n

def compRS (P : Program) : ResultVar → Option RS
  | .tmp t => some (.t t)
  | .cell a t => match tsz P t, tagg P t with
    | some n, some ag => some (.c a n ag)
    | _, _ => none

def one : Option (List AV) → Option AV
  | some [c] => some c
  | _ => none

def rsF (f : FE) (σ : Store) : RS → Option AV
  | .t n => f n
  | .c n sz true => (f n).bind fun p => (rd σ sz p).map .agg
  | .c n _ false => (f n).bind fun p => one (rd σ 1 p)

def resF (f : FE) (σ : Store) : List RS → Option AV
  | [t] => rsF f σ t
  | ts => (ts.mapM fun t => rsF f σ t).map .tup

def rget (tmps : Array Value) : ResultVar → Sem Value
  | .tmp t => pure (tmps.getD t undef)
  | .cell a t => do loadVar t (← asAddr (tmps.getD a undef))

theorem results_eq (fn : Func) (tmps : Array Value) : results fn tmps = (do let vs ← fn.results.mapM (rget tmps); pure (if h : vs.size = 1 then vs[0] else .tuple vs)) := by
  unfold results
  have : (fun x => match x with | ResultVar.tmp t => pure (tmps.getD t undef) | ResultVar.cell a t => do loadVar t (← asAddr (tmps.getD a undef)) : ResultVar → Sem Value) = rget tmps := by
    funext x; cases x <;> rfl
  rw [← this]
  rfl

theorem rs_run {G : Gh} {f : FE} {σ : Store} {tmps : Array Value} {w : World} (hs : Sim G σ w) (hE : ∀ t v, f t = some v → ∃ x, tmps[t]? = some x ∧ VRel G w v x)
    {r : ResultVar} {t : RS} (hc : compRS P r = some t) {a : AV} (h : rsF f σ t = some a) :
    ∃ v, (rget tmps r).run P w = .ok v w ∧ VRel G w a v := by
  cases r with
  | tmp n =>
    cases hc
    obtain ⟨x, hx, hr⟩ := hE n a h
    exact ⟨x, by simp only [rget, Sem.run_pure, Array.getD_eq_getD_getElem?, hx]; rfl, hr⟩
  | cell n ty =>
    simp only [compRS] at hc
    split at hc
    · rename_i sz ag hn hag
      cases hc
      cases ag
      · simp only [rsF] at h
        obtain ⟨p, hp, h⟩ := opt_bind h
        obtain ⟨x, hx, hr⟩ := hE n p hp
        cases hrd : rd σ 1 p with
        | none => rw [hrd] at h; cases h
        | some cs =>
          rw [hrd] at h
          obtain ⟨b, o, vs, rfl, hl, hvl, hf, hrel, hcell⟩ := rd_rel hs hr hrd
          match cs, vs, hvl, hrel, h with
          | [c], [v0], _, .cons hr0 _, h =>
            cases h
            refine ⟨v0, ?_, hr0⟩
            have h0 := hcell 0 v0 rfl
            simp only [Nat.add_zero] at h0
            have hx' : tmps.getD n undef = .pointer (some ⟨b, o, none⟩) := by rw [Array.getD_eq_getD_getElem?, hx]; rfl
            simp only [rget, hx']; simp [asAddr, loadVar, rIsAgg hag, h0]
      · simp only [rsF] at h
        obtain ⟨p, hp, h⟩ := opt_bind h
        obtain ⟨cs, hrd, rfl⟩ := Option.map_eq_some_iff.1 h
        obtain ⟨x, hx, hr⟩ := hE n p hp
        obtain ⟨b, o, vs, rfl, hl, hvl, hf, hrel, hcell⟩ := rd_rel hs hr hrd
        have hx' : tmps.getD n undef = .pointer (some ⟨b, o, none⟩) := by rw [Array.getD_eq_getD_getElem?, hx]; rfl
        refine ⟨.agg vs.toArray, ?_, ?_⟩
        · have h0 := run_loadCells_list (P := P) w ⟨b, o, none⟩ vs (fun j x hx => by rw [add_mk]; exact hcell j x hx)
          rw [hvl] at h0
          simp only [rget, hx']; simp [asAddr, loadVar, rIsAgg hag, rSizeOf hn, h0]
        · refine .agg hrel.length hf fun k hk hk' => ?_
          obtain ⟨b', hb', hv'⟩ := hrel.get k _ (List.getElem?_eq_getElem hk)
          rw [List.getElem?_eq_getElem hk'] at hb'
          cases hb'; exact hv'
    · cases hc

theorem results_run {G : Gh} {f : FE} {σ : Store} {tmps : Array Value} {w : World} {fn : Func} {slots : List RS} (hs : Sim G σ w) (hE : ∀ t v, f t = some v → ∃ x, tmps[t]? = some x ∧ VRel G w v x)
    (hres : fn.results.toList.mapM (compRS P) = some slots) {a : AV} (h : resF f σ slots = some a) : ∃ v, (results fn tmps).run P w = .ok v w ∧ VRel G w a v := by
  have hm : ∀ (g : ResultVar → Sem Value), (∀ r t a, compRS P r = some t → rsF f σ t = some a → ∃ v, (g r).run P w = .ok v w ∧ VRel G w a v) → ∀ (rs : List ResultVar) (ts : List RS) (as : List AV), rs.mapM (compRS P) = some ts →
      (ts.mapM fun t => rsF f σ t) = some as → ∃ vs, (rs.mapM g).run P w = .ok vs w ∧ Rels (VRel G w) as vs := by
    intro g hg rs
    induction rs with
    | nil => intro ts as h1 h2; simp at h1; subst h1; simp at h2; subst h2; exact ⟨[], by simp, .nil⟩
    | cons r rs ih =>
      intro ts as h1 h2
      simp only [List.mapM_cons, Option.bind_eq_bind, Option.pure_def] at h1
      obtain ⟨t, ht, h1⟩ := opt_bind h1
      obtain ⟨ts', hts', h1⟩ := opt_bind h1
      simp at h1; subst h1
      simp only [List.mapM_cons, Option.bind_eq_bind, Option.pure_def] at h2
      obtain ⟨a, ha, h2⟩ := opt_bind h2
      obtain ⟨as', has', h2⟩ := opt_bind h2
      simp at h2; subst h2
      obtain ⟨v, hv, hvr⟩ := hg r t a ht ha
      obtain ⟨vs, hvs, hr⟩ := ih ts' as' hts' has'
      exact ⟨v :: vs, by simp only [List.mapM_cons, Sem.run_bind, hv, Result.andThen_ok, hvs, Sem.run_pure], .cons hvr hr⟩
  rw [results_eq, Array.mapM_eq_mapM_toList]
  simp only [Sem.run_bind, Sem.run_map]
  have key : ∀ as, (slots.mapM fun t => rsF f σ t) = some as → ∃ vs : List Value, (fn.results.toList.mapM (rget tmps)).run P w = .ok vs w ∧ Rels (VRel G w) as vs :=
    fun as has => hm _ (fun r t a h1 h2 => rs_run hs hE h1 h2) _ _ as hres has
  unfold resF at h
  split at h
  · rename_i t
    obtain ⟨vs, h1, h2⟩ := key [a] (by simp [List.mapM_cons, h])
    match vs, h2 with
    | [v], .cons hr _ => exact ⟨v, by rw [h1]; rfl, hr⟩
  · rename_i hne
    obtain ⟨as, has, rfl⟩ := Option.map_eq_some_iff.1 h
    obtain ⟨vs, h1, h2⟩ := key as has
    have hl : vs.length = slots.length := by rw [← h2.length, ← (mapM_some_get has).1]
    have hne1 : vs.length ≠ 1 := by
      intro e
      rw [hl] at e
      match slots, e with
      | [t], _ => exact hne t rfl
    refine ⟨.tuple vs.toArray, ?_, .tup h2.length fun k hk hk' => ?_⟩
    · rw [h1]
      simp [hne1]
    · obtain ⟨b, hb, hbr⟩ := h2.get k _ (List.getElem?_eq_getElem hk)
      rw [List.getElem?_eq_getElem hk'] at hb; cases hb; exact hbr

theorem acalls_of_fwp {fi : Nat} {fn : Func} {c : Code} {b : BC} {slots : List RS} {args : List AV} {σ : Store} {Q : AV → Store → Prop} (hf : P.funcs[fi]? = some fn) (hname : (fn.name == "runtime.NumGoroutine") = false)
    (hb : fn.body = some c) (hc : CC P fn.ntmps c b) (hres : fn.results.toList.mapM (compRS P) = some slots) (hargs : args.length ≤ fn.ntmps)
    (h : fwp P b (fun t => args[t]?) σ (fun f σ' => ∃ a, resF f σ' slots = some a ∧ Weak a σ' Q) (fun f σ' => ∃ a, resF f σ' slots = some a ∧ Weak a σ' Q) (fun _ _ _ => False)) : ACalls P fi args σ Q := by
  refine ⟨⟨fn, hf, hname, by rw [hb]; rfl⟩, fun G w vs hs hv => ?_⟩
  refine calls_of_wp hf hb (wp_mono (code_sound (R := ⟨G, σ, w⟩) hc (fun t => args[t]?) σ _ w _ _ _ ?_ h) ?_)
  · refine ⟨G, Ext.refl _ _ _, hs, by have := hv.length; simp; omega, rfl, fun t v ht => ?_⟩
    obtain ⟨x, hx, hr⟩ := hv.get t v ht
    refine ⟨x, ?_, hr⟩
    have hlt := (List.getElem?_eq_some_iff.1 hx).1
    rw [Array.getElem?_append_left (by simpa using hlt)]
    simpa using hx
  · have fin : ∀ a w', (∃ f σ', St ⟨G, σ, w⟩ fn.ntmps f σ' a w' ∧ ∃ r, resF f σ' slots = some r ∧ Weak r σ' Q) → a.defers = [] ∧ ∃ v, (results fn a.tmps).run P w' = .ok v w' ∧
        ∃ v' av G' σ', Ending.returned v = .returned v' ∧ Ext G σ w G' σ' w' ∧ Sim G' σ' w' ∧ VRel G' w' av v' ∧ Q av σ' := by
      rintro a w' ⟨f, σ', ⟨G1, h1, h2, h3, h4, h5⟩, r, hr, hw⟩
      obtain ⟨v, hrun, hv⟩ := results_run h2 h5 hres hr
      obtain ⟨G2, a2, σ2, g1, g2, g3, g4⟩ := hw G1 w' _ h2 hv
      exact ⟨h4, v, hrun, _, a2, G2, σ2, rfl, h1.trans g1, g2, g3, g4⟩
    intro e a w' hq
    cases e with
    | normal => exact fin a w' hq
    | ret => exact fin a w' hq
    | exit i => obtain ⟨_, _, _, h⟩ := hq; exact h
    | goto => exact hq
    | panic => exact hq.elim
    | outgrown => exact hq.elim

end
end Go.Am
