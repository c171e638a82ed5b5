/- A part of the proof: a logic for calls over plain values, and a runner that is shown to be right. -/
import Derived.Test.YtmahfnljcfaicaaAm12
namespace Go.Am
set_option linter.unusedVariables false
set_option linter.unusedSimpArgs false
section
variable {P : Program} {w : World} {G : Gh} {σ : Store} {ev : Operand → Value} {oev : Opd → Option AV}

theorem run_i64max : IntKind.i64.max = 9223372036854775807 := by decide

theorem append_grows {sT xT e : TypeId} {size : Nat} {d : TypeDesc} {i : TypeInfo} {base xb : Option Addr} {sLen sCap n xc : Nat} {old new : Array Value} {zv : Value} {ty : TypeId}
    (hs : P.underlying sT = some (.slice e)) (hsz : tsz P e = some size) (hx : P.underlying xT = some d) (hd : ∀ k, d ≠ .int k) (hi : P.info? e = some i) (hb : 1 ≤ i.bytes)
    (hfit : sCap < sLen + n) (hroom : (sLen + n) * i.bytes ≤ 140737488355328)
    (hold : ∀ w', w'.heap = w.heap → (Builtin.firstCells size sLen (.slice base sLen sCap)).run P w' = .ok old w')
    (hnew : ∀ w', w'.heap = w.heap → (Builtin.firstCells size n (.slice xb n xc)).run P w' = .ok new w') (hz : ∀ w', (zeroValue e).run P w' = .ok zv w') :
    ∃ newCap, sLen + n ≤ newCap ∧ (Builtin.append_ #[sT, xT] ty #[.slice base sLen sCap, .slice xb n xc]).run P w =
      .ok (.slice (some ⟨w.heap.size, 0, none⟩) (sLen + n) newCap) (w.drew.alloc (.cells (old ++ new ++ Builtin.zeroCells zv.cells (newCap - (sLen + n))) e (0, 0))) := by
  have hz' : (match d with | .int _ => true | _ => false) = false := by cases d <;> first | rfl | exact absurd rfl (hd _)
  have hle : sLen + n ≤ 140737488355328 := by
    have := Nat.mul_le_mul_left (sLen + n) hb
    omega
  have hcap : Builtin.nextslicecap (sLen + n) sCap * i.bytes ≤ 281474976710656 := by
    have := Nat.mul_le_mul_right i.bytes (nextcap_le hfit)
    rw [Nat.mul_assoc] at this; omega
  refine ⟨(Question.appendCap (sLen + n) sCap e).cut (w.tape w.drawn (.appendCap (sLen + n) sCap e)), by simp only [Question.cut]; omega, ?_⟩
  generalize hq : (Question.appendCap (sLen + n) sCap e).cut (w.tape w.drawn (.appendCap (sLen + n) sCap e)) = newCap
  unfold Builtin.append_
  simp only [List.getElem?_toArray, List.getElem?_cons_zero, List.getElem?_cons_succ, Sem.run_bind, rUnderlying hs, rUnderlying hx, Result.andThen_ok, rSizeOf hsz, Sem.run_pure, hz']
  simp only [Bool.false_eq_true, if_false, Sem.run_bind, run_lenOf, Result.andThen_ok, Bool.not_false, if_true, rTypeInfo hi]
  rw [if_neg (by omega)]
  simp only [Sem.run_bind, rTypeInfo hi, Result.andThen_ok]
  rw [if_neg (by rw [run_i64max]; omega), ]
  simp only [Sem.run_bind, rTypeInfo hi, Result.andThen_ok]
  rw [if_neg (by omega)]
  simp only [Sem.run_bind, run_choose, Question.forced, Bool.false_eq_true, if_false, Result.andThen_ok, hq, rTypeInfo hi, run_askRoom]
  have h1 := hold w.drew rfl
  have h2 := hnew w.drew rfl
  have h3 := hz w.drew
  show ((Builtin.firstCells size sLen (.slice base sLen sCap)).run P w.drew).andThen _ = _
  simp only [h1, Result.andThen_ok, Sem.run_bind, h2, h3, newRow, run_newObj, Sem.run_pure]
  rfl

theorem Ext.drew (G : Gh) (σ : Store) (w : World) : Ext G σ w G σ w.drew :=
  { Ext.refl G σ w with }

/-- What an append comes to. -/
def appwp (esz bytes : Nat) (x y : AV) (σ : Store) (K : AV → Store → Prop) : Prop :=
  match slc σ esz x, slc σ esz y with
  | some xs, some ys => (xs.length + ys.length) * bytes ≤ 140737488355328 ∧
    match x with
    | .nils => (ys = [] → K .nils σ) ∧ (ys ≠ [] → ∀ id, σ id = none → K (.os id esz 0 ys.length) (σ.set id (.arr esz ys)))
    | .os id0 _ _ _ => ∀ id, σ id = none → K (.os id esz 0 (xs.length + ys.length)) ((σ.del id0).set id (.arr esz (xs ++ ys)))
    | _ => False
  | _, _ => False

theorem getD_map_range {n k : Nat} {f : Nat → Value} (h : k < n) : ((List.range n).map f).toArray.getD k undef = f k := by
  rw [Array.getD_eq_getD_getElem?, List.getElem?_toArray, List.getElem?_map, List.getElem?_range h]; rfl

theorem getD_append_left {a b : Array Value} {k : Nat} (h : k < a.size) : (a ++ b).getD k undef = a.getD k undef := by
  simp only [Array.getD_eq_getD_getElem?, Array.getElem?_append_left h]
theorem getD_append_right {a b : Array Value} {k : Nat} (h : a.size ≤ k) : (a ++ b).getD k undef = b.getD (k - a.size) undef := by
  simp only [Array.getD_eq_getD_getElem?, Array.getElem?_append_right h]

theorem ERel.append {esz : Nat} {xs ys : List (List AV)} {fx fy g : Nat → Value} (hx : ERel G w esz xs fx) (hy : ERel G w esz ys fy)
    (g1 : ∀ k, k < xs.length * esz → g k = fx k) (g2 : ∀ k, k < ys.length * esz → g (xs.length * esz + k) = fy k) : ERel G w esz (xs ++ ys) g := by
  obtain ⟨x1, x2, x3⟩ := hx
  obtain ⟨y1, y2, y3⟩ := hy
  refine ⟨fun e he => (List.mem_append.1 he).elim (x1 e) (y1 e), fun e he => (List.mem_append.1 he).elim (x2 e) (y2 e), fun i j hi hj => ?_⟩
  by_cases h : i < xs.length
  · have e : (xs ++ ys)[i] = xs[i] := List.getElem_append_left h
    have hj' : j < esz := by rw [← x1 _ (List.getElem_mem h), ← e]; exact hj
    simp only [e] at hj ⊢
    rw [g1 _ (mul_lt h hj')]; exact x3 i j h hj
  · have h' : i - xs.length < ys.length := by simp at hi; omega
    have e : (xs ++ ys)[i] = ys[i - xs.length] := List.getElem_append_right (by omega)
    have hj' : j < esz := by rw [← y1 _ (List.getElem_mem h'), ← e]; exact hj
    simp only [e] at hj ⊢
    have : i * esz + j = xs.length * esz + ((i - xs.length) * esz + j) := by
      rw [← Nat.add_assoc, ← Nat.add_mul, show xs.length + (i - xs.length) = i by omega]
    rw [this, g2 _ (mul_lt h' hj')]; exact y3 _ j h' hj

theorem ERel.nil (esz : Nat) (f : Nat → Value) : ERel G w esz [] f := ⟨fun e he => (nomatch he), fun e he => (nomatch he), fun i j hi => absurd hi (by simp)⟩

/-- Its cells, as firstCells reads them. -/
theorem slc_first (hs : Sim G σ w) {esz : Nat} {x : AV} {v : Value} {es : List (List AV)} (hx : VRel G w x v) (h : slc σ esz x = some es) :
    ∃ b c, v = .slice b es.length c ∧ es.length ≤ c ∧ ∃ f : Nat → Value, ERel G w esz es f ∧
      ∀ w' : World, w'.heap = w.heap → (Builtin.firstCells esz es.length (.slice b es.length c)).run P w' = .ok ((List.range (es.length * esz)).map f).toArray w' := by
  obtain ⟨b, c, hv, hc, hcase⟩ := slc_rel hs hx h
  refine ⟨b, c, hv, hc, ?_⟩
  rcases hcase with rfl | ⟨blk, o, rfl, f, hf, hcell⟩
  · exact ⟨fun _ => undef, .nil _ _, fun w' _ => by simpa using firstCells_zero⟩
  · refine ⟨f, hf, fun w' hw' => firstCells_run fun k hk => ?_⟩
    have := hcell k hk
    simp only [World.cell?, hw'] at this ⊢; exact this

theorem app_grow (hs : Sim G σ w) {sT xT e : TypeId} {size : Nat} {d : TypeDesc} {i : TypeInfo} {z : List AV} {base xb : Option Addr} {sCap xc : Nat} {ty : TypeId} {xs ys : List (List AV)} {fx fy : Nat → Value}
    (hsT : P.underlying sT = some (.slice e)) (hsz : tsz P e = some size) (hxT : P.underlying xT = some d) (hd : ∀ k, d ≠ .int k) (hi : P.info? e = some i) (hb : 1 ≤ i.bytes)
    (hz : tzero P e = some z) (hzl : z.length = size) (hfit : sCap < xs.length + ys.length) (hroom : (xs.length + ys.length) * i.bytes ≤ 140737488355328)
    (hfx : ERel G w size xs fx) (hfy : ERel G w size ys fy)
    (hx : ∀ w' : World, w'.heap = w.heap → (Builtin.firstCells size xs.length (.slice base xs.length sCap)).run P w' = .ok ((List.range (xs.length * size)).map fx).toArray w')
    (hy : ∀ w' : World, w'.heap = w.heap → (Builtin.firstCells size ys.length (.slice xb ys.length xc)).run P w' = .ok ((List.range (ys.length * size)).map fy).toArray w')
    {σ1 : Store} (hsub : σ1.sub σ) {id : Nat} (hρ : G.ρ id = none) (hid : σ1 id = none) :
    ∃ v w' G', (Builtin.append_ #[sT, xT] ty #[.slice base xs.length sCap, .slice xb ys.length xc]).run P w = .ok v w' ∧
      Ext G σ w G' (σ1.set id (.arr size (xs ++ ys))) w' ∧ Sim G' (σ1.set id (.arr size (xs ++ ys))) w' ∧ VRel G' w' (.os id size 0 (xs.length + ys.length)) v := by
  obtain ⟨zv, hz1, hz2⟩ := rZeroCells (G := G) (w := w) hz
  have hz1' : ∀ w' : World, (zeroValue e).run P w' = .ok zv w' := fun w' => by
    obtain ⟨zv', h1, h2⟩ := rZero (P := P) (w := w') hz
    obtain ⟨zv2, h3, h4⟩ := rZero (P := P) (w := w) hz
    rw [hz1] at h3; cases h3
    unfold zeroValue at hz1 h1
    cases hinf : P.info? e with
    | none => rw [hinf] at hi; cases hi
    | some ii =>
      simp only [Sem.run_bind, rTypeInfo hinf, Result.andThen_ok] at hz1 h1
      cases hzz : ii.zero with
      | none => simp [hzz] at hz1
      | some q =>
        simp [hzz] at hz1 h1
        unfold zeroValue
        simp [rTypeInfo hinf, hzz, hz1]
  obtain ⟨newCap, hcap, hrun⟩ := append_grows (ty := ty) hsT hsz hxT hd hi hb hfit hroom hx hy hz1'
  have hzsz : zv.cells.size = size := by rw [← hz2.1, hzl]
  have hs1 : Sim G σ1 w.drew := (hs.heap (w' := w.drew) rfl).sub hsub
  have h1 : ((List.range (xs.length * size)).map fx).toArray.size = xs.length * size := by simp
  have h2 : ((List.range (ys.length * size)).map fy).toArray.size = ys.length * size := by simp
  have h3 : (Builtin.zeroCells zv.cells (newCap - (xs.length + ys.length))).size = (newCap - (xs.length + ys.length)) * size := by simp [Builtin.zeroCells, hzsz]
  have hadd : (xs.length + ys.length) * size = xs.length * size + ys.length * size := Nat.add_mul _ _ _
  generalize hA : ((List.range (xs.length * size)).map fx).toArray = A at hrun h1
  generalize hB : ((List.range (ys.length * size)).map fy).toArray = B at hrun h2
  generalize hC : Builtin.zeroCells zv.cells (newCap - (xs.length + ys.length)) = C at hrun h3
  have hE : ERel G w size (xs ++ ys) (fun k => (A ++ B ++ C).getD k undef) := hfx.append hfy
    (fun k hk => by
      show (A ++ B ++ C).getD k undef = fx k
      rw [getD_append_left (by simp; omega), getD_append_left (by omega), ← hA, getD_map_range hk])
    (fun k hk => by
      show (A ++ B ++ C).getD (xs.length * size + k) undef = fy k
      rw [getD_append_left (by simp; omega), getD_append_right (by omega), h1, ← hB, Nat.add_sub_cancel_left, getD_map_range hk])
  obtain ⟨e1, e2, e3⟩ := hE
  obtain ⟨G', g1, g2, g3⟩ := new_arr (es := xs ++ ys) (esz := size) (cs := A ++ B ++ C) hs1 hρ hid e e1 e2
    (by simp only [List.length_append, Array.size_append]; omega)
    (fun a j ha hj => by have h := VRel.heap (w' := w.drew) (w := w) rfl (e3 a j ha hj); exact h)
  refine ⟨_, _, G', hrun, ((Ext.drew G σ w).sub hsub).trans g1, g2, ?_⟩
  have hcell : newCap * size ≤ (A ++ B ++ C).size := by
    simp only [Array.size_append, h1, h2, h3]
    have : newCap * size = (xs.length + ys.length) * size + (newCap - (xs.length + ys.length)) * size := by rw [← Nat.add_mul]; congr 1; omega
    omega
  have := VRel.os (w := w.drew.alloc (.cells (A ++ B ++ C) e (0, 0))) (esz := size) (off := 0) (len := xs.length + ys.length) (c := newCap) g3 hcap ⟨e, _, alloc_shape _ _, by simpa using hcell⟩
  simpa using this

theorem slc_os {esz id esz' off len : Nat} {xs : List (List AV)} (h : slc σ esz (.os id esz' off len) = some xs) :
    esz' = esz ∧ ∃ es, σ id = some (.arr esz es) ∧ off + len ≤ es.length ∧ xs = (es.drop off).take len ∧ xs.length = len := by
  simp only [slc] at h
  split at h
  · rename_i e2 es hσ
    split at h
    · rename_i hc
      obtain ⟨rfl, rfl, hle⟩ := hc
      cases h
      exact ⟨rfl, es, hσ, hle, rfl, by simp; omega⟩
    · cases h
  · cases h

theorem app_ok (hs : Sim G σ w) {sT xT e : TypeId} {size : Nat} {d : TypeDesc} {i : TypeInfo} {z : List AV} {ty : TypeId} {x y : AV} {vx vy : Value} {K : AV → Store → Prop}
    (hsT : P.underlying sT = some (.slice e)) (hsz : tsz P e = some size) (hxT : P.underlying xT = some d) (hd : ∀ k, d ≠ .int k) (hi : P.info? e = some i) (hb : 1 ≤ i.bytes)
    (hz : tzero P e = some z) (hzl : z.length = size) (hx : VRel G w x vx) (hy : VRel G w y vy) (hK : appwp size i.bytes x y σ K) :
    ∃ v w' G' σ' av, (Builtin.append_ #[sT, xT] ty #[vx, vy]).run P w = .ok v w' ∧ Ext G σ w G' σ' w' ∧ Sim G' σ' w' ∧ VRel G' w' av v ∧ K av σ' := by
  unfold appwp at hK
  split at hK
  · rename_i xs ys hxs hys
    obtain ⟨hroom, hK⟩ := hK
    obtain ⟨yb, yc, rfl, hyc, fy, hfy, hyrun⟩ := slc_first (P := P) hs hy hys
    obtain ⟨id, hidρ, hidσ⟩ := hs.fresh
    split at hK
    · -- onto nil
      have e1 := hx.of_nils
      subst e1
      simp only [slc, Option.some.injEq] at hxs
      subst hxs
      obtain ⟨hK1, hK2⟩ := hK
      by_cases hne : ys = []
      · subst hne
        refine ⟨_, w, G, σ, .nils, append_fits (w' := w) (new := #[]) hsT hsz hxT hd (by simp) firstCells_zero (by simp), Ext.refl _ _ _, hs, .nils, hK1 rfl⟩
      · have hpos : 0 < ys.length := List.length_pos_iff.2 hne
        obtain ⟨v, w', G', h1, h2, h3, h4⟩ := app_grow (ty := ty) (xs := []) (base := none) (sCap := 0) (fx := fun _ => undef) hs hsT hsz hxT hd hi hb hz hzl (by simpa using hpos) (by simpa using hroom) (ERel.nil _ _) hfy
          (fun w' _ => by simpa using firstCells_zero) hyrun (Store.sub_refl σ) hidρ hidσ
        simp only [List.length_nil, List.nil_append, Nat.zero_add] at h1 h2 h3 h4
        exact ⟨v, w', G', _, _, h1, h2, h3, h4, hK2 hne id hidσ⟩
    · -- onto what is owned
      rename_i id0 esz' off len
      obtain ⟨hesz, es, hσ, hle, hxe, hxl⟩ := slc_os hxs
      obtain rfl := hesz.symm
      obtain ⟨xb, xc, hv, hxc, fx, hfx, hxrun⟩ := slc_first (P := P) hs hx hxs
      subst hv
      have hdel : ((σ.del id0) id) = none := by
        simp only [Store.del]; split
        · rfl
        · exact hidσ
      by_cases hfit : xs.length + ys.length ≤ xc
      · have hnew := hyrun w rfl
        obtain ⟨b, base, hbρ, ⟨c, hv, hlen, ty', n, hsh, hcap⟩ | ⟨h0, x0, hv⟩⟩ := hx.of_os
        · cases hv
          obtain ⟨b', base', hb', ho⟩ := hs.used id0 _ hσ
          rw [hbρ] at hb'; cases hb'
          cases ho with
          | arr hh hsz' hln hf hr =>
            rename_i cur tyc
            have hsh' : n = cur.size := by
              simp only [World.shape?, hh, Option.some.injEq, Prod.mk.injEq] at hsh; exact hsh.2.symm
            subst hsh'
            have hm1 : (off + xc) * size = off * size + xc * size := Nat.add_mul _ _ _
            have hm2 : (xs.length + ys.length) * size ≤ xc * size := Nat.mul_le_mul_right _ hfit
            have hm3 : (xs.length + ys.length) * size = xs.length * size + ys.length * size := Nat.add_mul _ _ _
            generalize hN : (List.range (ys.length * size)).map fy = N at hnew
            have hNl : N.length = ys.length * size := by rw [← hN]; simp
            have hone : ∀ v ∈ N, v.oneCell' = true := by
              intro v hv
              rw [← hN] at hv
              obtain ⟨k, hk, rfl⟩ := List.mem_map.1 hv
              have hk' : k < ys.length * size := by simpa using hk
              have hpos : 0 < size := by
                rcases Nat.eq_zero_or_pos size with h | h
                · subst h; simp at hk'
                · exact h
              obtain ⟨f1, f2, f3⟩ := hfy
              have hi' : k / size < ys.length := by rw [Nat.div_lt_iff_lt_mul hpos]; exact hk'
              have hj' : k % size < (ys[k / size]).length := by rw [f1 _ (List.getElem_mem hi')]; exact Nat.mod_lt _ hpos
              have := f3 (k / size) (k % size) hi' hj'
              rw [Nat.div_add_mod'] at this
              exact this.oneCell (f2 _ (List.getElem_mem hi') _ (List.getElem_mem hj'))
            have hle2 : base + off * size + xs.length * size + 0 + N.length ≤ cur.size := by omega
            have hrun := run_storeCells_at (P := P) b (base + off * size + xs.length * size) tyc N 0 cur w hh hle2 hone
            simp only [Nat.add_zero] at hrun hle2
            obtain ⟨G', g1, g2, g3⟩ := hs.move (id' := id) (o' := .arr size (xs ++ ys)) (base' := base + off * size) (w' := w.setRow b (cur.toList.take (base + off * size + xs.length * size) ++ N ++ cur.toList.drop (base + off * size + xs.length * size + N.length)).toArray)
              hσ hbρ hidρ rfl rfl rfl (Nat.le_refl _) (setRow_size _ _) (fun c hc => setRow_ne _ hc)
              (by simp only [World.shape?, setRow_get hh, hh, lay_size hle2])
              (fun G' hvr => by
                have hE : ERel G w size (xs ++ ys) (fun k => (cur.toList.take (base + off * size + xs.length * size) ++ N ++ cur.toList.drop (base + off * size + xs.length * size + N.length)).toArray.getD (base + off * size + k) undef) := by
                  refine ERel.append (fx := fun k => cur.getD (base + (off * size + k)) undef) ⟨fun e he => hln e (by rw [hxe] at he; exact List.mem_of_mem_drop (List.mem_of_mem_take he)), fun e he => hf e (by rw [hxe] at he; exact List.mem_of_mem_drop (List.mem_of_mem_take he)), fun i j hi hj => ?_⟩ hfy (fun k hk => ?_) (fun k hk => ?_)
                  · have e : xs[i] = es[off + i]'(by omega) := by
                      have h0 := congrArg (fun l : List (List AV) => l[i]?) hxe
                      simp only [List.getElem?_take_of_lt hi, List.getElem?_drop] at h0
                      rw [List.getElem?_eq_getElem hi, List.getElem?_eq_getElem (by omega)] at h0
                      exact Option.some.inj h0
                    have h1 := hr (off + i) j (by omega) (by rw [← e]; exact hj)
                    simp only [e]
                    rw [Nat.add_mul, Nat.add_assoc] at h1
                    exact h1
                  · show (List.toArray _).getD _ _ = _
                    rw [lay_get hle2, if_neg (by omega), Nat.add_assoc]
                  · show (List.toArray _).getD _ _ = _
                    rw [lay_get hle2, if_pos (by omega)]
                    have : base + off * size + (xs.length * size + k) - (base + off * size + xs.length * size) = k := by omega
                    rw [this, ← hN]
                    simp [List.getD, hk]
                obtain ⟨q1, q2, q3⟩ := hE
                exact .arr (setRow_get hh) (by rw [lay_size hle2, List.length_append]; omega) q1 q2 fun i j hi hj => hvr _ _ (q3 i j hi hj))
            refine ⟨_, _, G', _, _, append_fits (ty := ty) hsT hsz hxT hd hfit hnew (by
              show (storeCells ((⟨b, base + off * size, none⟩ : Addr).add (xs.length * size)) N.toArray.toList).run P w = _
              rw [add_mk]; exact hrun), g1, g2, ?_, hK id hidσ⟩
            have hs2 : (w.setRow b (cur.toList.take (base + off * size + xs.length * size) ++ N ++ cur.toList.drop (base + off * size + xs.length * size + N.length)).toArray).shape? b = some (tyc, cur.size) := by
              simp only [World.shape?, setRow_get hh, lay_size hle2]
            have := VRel.os (esz := size) (off := 0) (len := xs.length + ys.length) (c := xc) g3 hfit ⟨tyc, _, hs2, by rw [Nat.zero_add]; omega⟩
            simpa using this
        · simp only [Value.slice.injEq] at hv
          obtain ⟨rfl, hxl0, rfl⟩ := hv
          have hy0 : ys = [] := by apply List.eq_nil_of_length_eq_zero; omega
          have hx0 : xs = [] := by apply List.eq_nil_of_length_eq_zero; omega
          subst hy0; subst hx0
          obtain ⟨b', base', hb', ho⟩ := hs.used id0 _ hσ
          rw [hbρ] at hb'; cases hb'
          cases ho with
          | arr hh hsz' hln hf hr =>
            obtain ⟨G', g1, g2, g3⟩ := hs.move (id' := id) (o' := .arr size []) (base' := base) (w' := w) hσ hbρ hidρ rfl rfl rfl (Nat.le_refl _) rfl (fun c hc => rfl) rfl
              (fun G' hvr => .arr hh (by simp; omega) (fun e he => (nomatch he)) (fun e he => (nomatch he)) (fun i j hi => absurd hi (by simp)))
            exact ⟨_, _, G', _, _, append_fits (ty := ty) (w' := w) (new := #[]) hsT hsz hxT hd hfit firstCells_zero (by simp [storeCells]), g1, g2, .os0 g3, hK id hidσ⟩
      · obtain ⟨v, w', G', h1, h2, h3, h4⟩ := app_grow (ty := ty) hs hsT hsz hxT hd hi hb hz hzl (by omega) hroom hfx hfy hxrun hyrun (Store.sub_del σ id0) hidρ hdel
        exact ⟨v, w', G', _, _, h1, h2, h3, h4, hK id hidσ⟩
    · exact hK.elim
  · exact hK.elim

/-- An append of so many zeros, onto nil. -/
def appzwp (esz bytes : Nat) (z : List AV) (x n : AV) (σ : Store) (K : AV → Store → Prop) : Prop :=
  match x, n with
  | .nils, .int .i64 n => 0 ≤ n ∧ n * bytes ≤ 140737488355328 ∧ (n = 0 → K .nils σ) ∧
    (n ≠ 0 → ∀ id, σ id = none → K (.os id esz 0 n.toNat) (σ.set id (.arr esz (List.replicate n.toNat z))))
  | _, _ => False

theorem appz_ok (hs : Sim G σ w) {sT xT e : TypeId} {size : Nat} {k : IntKind} {i : TypeInfo} {z : List AV} {ty : TypeId} {x y : AV} {vx vy : Value} {K : AV → Store → Prop}
    (hsT : P.underlying sT = some (.slice e)) (hsz : tsz P e = some size) (hxT : P.underlying xT = some (.int k)) (hi : P.info? e = some i) (hb : 1 ≤ i.bytes)
    (hz : tzero P e = some z) (hzl : z.length = size) (hx : VRel G w x vx) (hy : VRel G w y vy) (hK : appzwp size i.bytes z x y σ K) :
    ∃ v w' G' σ' av, (Builtin.append_ #[sT, xT] ty #[vx, vy]).run P w = .ok v w' ∧ Ext G σ w G' σ' w' ∧ Sim G' σ' w' ∧ VRel G' w' av v ∧ K av σ' := by
  unfold appzwp at hK
  split at hK
  · rename_i n
    obtain ⟨h0, hroom, hK1, hK2⟩ := hK
    obtain rfl := hx.of_nils
    obtain rfl := hy.of_int
    have hle : n ≤ 140737488355328 := by
      have h1 : (1 : Int) ≤ (i.bytes : Int) := by omega
      have := Int.mul_le_mul_of_nonneg_left h1 h0
      rw [Int.mul_one] at this
      omega
    have hw : IntKind.i64.wrap n = n := IntWalk.i64_in n (by omega)
    obtain ⟨zv, hz1, hz2⟩ := rZeroCells (G := G) (w := w) hz
    have hz1' : ∀ w' : World, (zeroValue e).run P w' = .ok zv w' := fun w' => by
      obtain ⟨zv', h1, h2⟩ := rZero (P := P) (w := w') hz
      unfold zeroValue at hz1 h1
      cases hinf : P.info? e with
      | none => rw [hinf] at hi; cases hi
      | some ii =>
        simp only [Sem.run_bind, rTypeInfo hinf, Result.andThen_ok] at hz1 h1
        cases hzz : ii.zero with
        | none => simp [hzz] at hz1
        | some q =>
          simp [hzz] at hz1 h1
          unfold zeroValue
          simp [rTypeInfo hinf, hzz, hz1]
    have hzsz : zv.cells.size = size := by rw [← hz2.1, hzl]
    obtain ⟨z1, z2, z3⟩ := hz2
    have hbig : ¬ (n * (i.bytes : Int) > 2 ^ 48) := by
      have : (2 : Int) ^ 48 = 281474976710656 := by decide
      omega
    by_cases hn : n = 0
    · subst hn
      refine ⟨.slice none 0 0, w, G, σ, .nils, ?_, Ext.refl _ _ _, hs, .nils, hK1 rfl⟩
      unfold Builtin.append_
      simp only [List.getElem?_toArray, List.getElem?_cons_zero, List.getElem?_cons_succ, Sem.run_bind, rUnderlying hsT, rUnderlying hxT, Result.andThen_ok, rSizeOf hsz, Sem.run_pure]
      simp [asInt, asIntOf_run, rTypeInfo hi, hw, Sem.run_bind]
    · obtain ⟨id, hidρ, hidσ⟩ := hs.fresh
      have hpos : 0 < n.toNat := by omega
      have hcap : Builtin.nextslicecap (0 + n.toNat) 0 * i.bytes ≤ 281474976710656 := by
        have h1 : Builtin.nextslicecap (0 + n.toNat) 0 = n.toNat := by
          unfold Builtin.nextslicecap
          rw [if_pos (by omega)]; omega
        rw [h1]
        have : ((n.toNat * i.bytes : Nat) : Int) ≤ 140737488355328 := by
          rw [Int.natCast_mul, Int.toNat_of_nonneg h0]; exact hroom
        omega
      have hrun : ∃ newCap, n.toNat ≤ newCap ∧ (Builtin.append_ #[sT, xT] ty #[.slice none 0 0, .int .i64 n]).run P w =
          .ok (.slice (some ⟨w.heap.size, 0, none⟩) n.toNat newCap) (w.drew.alloc (.cells (Builtin.zeroCells zv.cells n.toNat ++ Builtin.zeroCells zv.cells (newCap - n.toNat)) e (0, 0))) := by
        refine ⟨(Question.appendCap (0 + n.toNat) 0 e).cut (w.tape w.drawn (.appendCap (0 + n.toNat) 0 e)), by simp only [Question.cut]; omega, ?_⟩
        generalize hq : (Question.appendCap (0 + n.toNat) 0 e).cut (w.tape w.drawn (.appendCap (0 + n.toNat) 0 e)) = newCap
        unfold Builtin.append_
        simp only [List.getElem?_toArray, List.getElem?_cons_zero, List.getElem?_cons_succ, Sem.run_bind, rUnderlying hsT, rUnderlying hxT, Result.andThen_ok, rSizeOf hsz, Sem.run_pure,
          asInt, asIntOf_run, hw, if_true]
        rw [if_neg (by omega)]
        simp only [Sem.run_bind, rTypeInfo hi, Result.andThen_ok, Sem.run_pure]
        rw [if_neg hbig]
        simp only [Sem.run_bind, rTypeInfo hi, Result.andThen_ok, Sem.run_pure]
        rw [if_neg (by omega)]
        simp only [Sem.run_bind, rTypeInfo hi, Result.andThen_ok]
        rw [if_neg (by rw [run_i64max]; omega)]
        simp only [Sem.run_bind, rTypeInfo hi, Result.andThen_ok]
        rw [if_neg (by omega)]
        simp only [Sem.run_bind, run_choose, Question.forced, Bool.false_eq_true, if_false, Result.andThen_ok, hq, rTypeInfo hi, run_askRoom]
        have h3 := hz1' w.drew
        by_cases h00 : n.toNat * size = 0
        · have hs0 : size = 0 := by
            rcases Nat.mul_eq_zero.1 h00 with h | h <;> omega
          show ((Builtin.firstCells size 0 (.slice none 0 0)).run P w.drew).andThen _ = _
          simp only [Builtin.firstCells, Sem.run_pure, Result.andThen_ok, Bool.not_true, Bool.false_eq_true, if_false, h00, if_true, Sem.run_bind, h3, newRow, run_newObj]
          have : Builtin.zeroCells zv.cells n.toNat = #[] := by
            unfold Builtin.zeroCells; rw [hzsz, hs0]; simp
          rw [this]
          simp
          rfl
        · show ((Builtin.firstCells size 0 (.slice none 0 0)).run P w.drew).andThen _ = _
          simp only [Builtin.firstCells, Sem.run_pure, Result.andThen_ok, Bool.not_true, Bool.false_eq_true, if_false, if_neg h00, Sem.run_bind, h3, newRow, run_newObj]
          simp
          rfl
      obtain ⟨newCap, hcap', hrun⟩ := hrun
      have hs1 : Sim G σ w.drew := hs.heap (w' := w.drew) rfl
      have hC1 : (Builtin.zeroCells zv.cells n.toNat).size = n.toNat * size := by simp [Builtin.zeroCells, hzsz]
      have hC2 : (Builtin.zeroCells zv.cells (newCap - n.toNat)).size = (newCap - n.toNat) * size := by simp [Builtin.zeroCells, hzsz]
      generalize hcells : Builtin.zeroCells zv.cells n.toNat ++ Builtin.zeroCells zv.cells (newCap - n.toNat) = cells at hrun
      have hcs : cells.size = newCap * size := by
        rw [← hcells, Array.size_append, hC1, hC2, ← Nat.add_mul]; congr 1; omega
      obtain ⟨G', g1, g2, g3⟩ := new_arr (es := List.replicate n.toNat z) (esz := size) (cs := cells) hs1 hidρ hidσ e
        (fun x hx => by rw [List.eq_of_mem_replicate hx]; exact hzl)
        (fun x hx c hc => by rw [List.eq_of_mem_replicate hx] at hc; exact z2 c hc)
        (by rw [hcs, List.length_replicate]; exact Nat.mul_le_mul_right _ hcap')
        (fun a j ha hj => by
          simp only [List.getElem_replicate] at hj ⊢
          simp only [List.length_replicate] at ha
          obtain ⟨x, hx, hr⟩ := z3 j _ (List.getElem?_eq_getElem hj)
          have hjs : j < size := by omega
          have hlt : a * size + j < n.toNat * size := by
            have := Nat.mul_le_mul_right size (Nat.succ_le_of_lt ha)
            rw [Nat.succ_mul] at this; omega
          have hmod : (a * size + j) % size = j := by rw [Nat.mul_comm, Nat.mul_add_mod]; exact Nat.mod_eq_of_lt hjs
          have : cells.getD (a * size + j) undef = x := by
            rw [← hcells, getD_append_left (by rw [hC1]; exact hlt), Array.getD_eq_getD_getElem?]
            simp only [Builtin.zeroCells, Array.getElem?_map, hzsz, Array.getElem?_range, if_pos hlt, Option.map_some, hmod, Option.getD_some]
            rw [Array.getElem!_eq_getD, Array.getD_eq_getD_getElem?, hx]; rfl
          rw [this]; exact VRel.heap (w' := w.drew) (w := w) rfl hr)
      refine ⟨_, _, G', _, _, hrun, (Ext.drew G σ w).trans g1, g2, ?_, hK2 hn id hidσ⟩
      have := VRel.os (w := w.drew.alloc (.cells cells e (0, 0))) (esz := size) (off := 0) (len := n.toNat) (c := newCap) g3 hcap' ⟨e, cells.size, alloc_shape _ _, by rw [hcs]; simp⟩
      simpa using this
  · exact hK.elim

/-- The elements of a slice are made zeros. -/
def clrwp (esz : Nat) (z : List AV) (x : AV) (σ : Store) (K : Store → Prop) : Prop := match x with
  | .nils => K σ
  | .os id esz' off len => match σ id with
    | some (.arr esz'' es) => esz' = esz ∧ esz'' = esz ∧ off + len ≤ es.length ∧ K (σ.set id (.arr esz (es.take off ++ (List.replicate len z ++ es.drop (off + len)))))
    | _ => False
  | _ => False

theorem Store.set_id {σ : Store} {id : Nat} {o : Obj} (h : σ id = some o) : σ.set id o = σ := by
  funext j
  simp only [Store.set]
  split
  · rename_i e; subst e; exact h.symm
  · rfl

theorem clr_ok (hs : Sim G σ w) {t e ty : TypeId} {size : Nat} {z : List AV} {x : AV} {vx : Value} {K : Store → Prop}
    (hT : P.underlying t = some (.slice e)) (hsz : tsz P e = some size) (hz : tzero P e = some z) (hzl : z.length = size) (hx : VRel G w x vx) (hK : clrwp size z x σ K) :
    ∃ w' σ', (Builtin.clear_ #[t] ty #[vx]).run P w = .ok (.tuple #[]) w' ∧ Ext G σ w G σ' w' ∧ Sim G σ' w' ∧ K σ' := by
  unfold clrwp at hK
  split at hK
  · obtain rfl := hx.of_nils
    refine ⟨w, σ, ?_, Ext.refl _ _ _, hs, hK⟩
    unfold Builtin.clear_
    simp [Sem.run_bind, rUnderlying hT]
  · rename_i id esz' off len
    split at hK
    · rename_i esz'' es hσ
      obtain ⟨rfl, rfl, hle, hK⟩ := hK
      rcases Nat.eq_zero_or_pos len with h0 | hpos
      · subst h0
        have e1 : es.take off ++ (List.replicate 0 z ++ es.drop (off + 0)) = es := by simp
        rw [e1, Store.set_id hσ] at hK
        have : ∃ a c, vx = .slice a 0 c := by
          obtain ⟨b, base, hb, ⟨c, hv, _⟩ | ⟨_, y, hv⟩⟩ := hx.of_os
          · exact ⟨_, _, hv⟩
          · exact ⟨_, _, hv⟩
        obtain ⟨a, c, rfl⟩ := this
        refine ⟨w, σ, ?_, Ext.refl _ _ _, hs, hK⟩
        unfold Builtin.clear_
        cases a <;> simp [Sem.run_bind, rUnderlying hT]
      · obtain ⟨b, base, hbρ, ⟨c, rfl, hlen, _⟩ | ⟨hl0, _⟩⟩ := hx.of_os
        · obtain ⟨b', base', hb', ho⟩ := hs.used id _ hσ
          rw [hbρ] at hb'; cases hb'
          obtain ⟨zv, hz1, z1, z2, z3⟩ := rZeroCells (G := G) (w := w) hz
          cases ho with
          | arr hh hsz' hln hf hr =>
            rename_i cur tyc
            have hzsz : zv.cells.size = esz'' := by omega
            generalize hN : (Builtin.zeroCells zv.cells len).toList = N
            have hNl : N.length = len * esz'' := by rw [← hN]; simp [Builtin.zeroCells, hzsz]
            have hm : (off + len) * esz'' = off * esz'' + len * esz'' := Nat.add_mul _ _ _
            have hm2 : (off + len) * esz'' ≤ es.length * esz'' := Nat.mul_le_mul_right _ hle
            have hget : ∀ k, k < len * esz'' → ∃ q, z[k % esz'']? = some q ∧ VRel G w q (N.getD k undef) ∧ q.flat = true := fun k hk => by
              have hp : 0 < esz'' := by
                rcases Nat.eq_zero_or_pos esz'' with h | h
                · rw [h] at hk; simp at hk
                · exact h
              have hlt : k % esz'' < z.length := by rw [hzl]; exact Nat.mod_lt _ hp
              obtain ⟨v, hv, hvr⟩ := z3 (k % esz'') _ (List.getElem?_eq_getElem hlt)
              refine ⟨_, List.getElem?_eq_getElem hlt, ?_, z2 _ (List.getElem_mem hlt)⟩
              have : N.getD k undef = v := by
                rw [← hN]
                simp only [Builtin.zeroCells, Array.toList_map, Array.toList_range, hzsz, List.getD, List.getElem?_map, List.getElem?_range hk, Option.map_some, Option.getD_some]
                rw [Array.getElem!_eq_getD, Array.getD_eq_getD_getElem?, hv]; rfl
              rw [this]; exact hvr
            have hone : ∀ v ∈ N, v.oneCell' = true := by
              intro v hv
              obtain ⟨k, hk, rfl⟩ := List.getElem_of_mem hv
              obtain ⟨q, _, hq2, hq3⟩ := hget k (by omega)
              rw [List.getD_eq_getElem?_getD, List.getElem?_eq_getElem hk] at hq2
              exact hq2.oneCell hq3
            have hle2 : base + off * esz'' + 0 + N.length ≤ cur.size := by omega
            have hrun := run_storeCells_at (P := P) b (base + off * esz'') tyc N 0 cur w hh hle2 hone
            simp only [Nat.add_zero] at hrun hle2
            generalize hw' : w.setRow b (cur.toList.take (base + off * esz'') ++ N ++ cur.toList.drop (base + off * esz'' + N.length)).toArray = w' at hrun
            have hput := hs.put (o' := .arr esz'' (es.take off ++ (List.replicate len z ++ es.drop (off + len)))) (w' := w') hσ hbρ (by rw [← hw']; rfl) (by rw [← hw']; rfl) (by rw [← hw']; rfl) (by rw [← hw']; exact Nat.le_refl _)
              (by rw [← hw']; exact setRow_size _ _) (fun c hc => by rw [← hw']; exact setRow_ne _ hc) (by rw [← hw']; simp only [World.shape?, setRow_get hh, hh, lay_size hle2])
              (fun hvr => by
                have hlen' : (es.take off ++ (List.replicate len z ++ es.drop (off + len))).length = es.length := by simp; omega
                have hmem : ∀ x ∈ (es.take off ++ (List.replicate len z ++ es.drop (off + len))), x ∈ es ∨ x = z := fun x hx => by
                  rcases List.mem_append.1 hx with h | h
                  · exact .inl (List.mem_of_mem_take h)
                  · rcases List.mem_append.1 h with h | h
                    · exact .inr (List.eq_of_mem_replicate h)
                    · exact .inl (List.mem_of_mem_drop h)
                refine .arr (cs := (cur.toList.take (base + off * esz'') ++ N ++ cur.toList.drop (base + off * esz'' + N.length)).toArray) (by rw [← hw']; exact setRow_get hh) (by rw [lay_size hle2, hlen']; exact hsz')
                  (fun x hx => by rcases hmem x hx with h | rfl
                                  · exact hln x h
                                  · exact hzl)
                  (fun x hx => by rcases hmem x hx with h | rfl
                                  · exact hf x h
                                  · exact fun c hc => z2 c hc) (fun i j hi hj => ?_)
                apply hvr
                have hi0 : i < es.length := by rw [← hlen']; exact hi
                have hjs : j < esz'' := by
                  have : ((es.take off ++ (List.replicate len z ++ es.drop (off + len)))[i]).length = esz'' := by
                    rcases hmem _ (List.getElem_mem hi) with h | h
                    · exact hln _ h
                    · rw [h]; exact hzl
                  omega
                have hij : (i + 1) * esz'' ≤ es.length * esz'' := Nat.mul_le_mul_right _ hi0
                rw [Nat.succ_mul] at hij
                rw [lay_get hle2]
                by_cases hlo : i < off
                · have h1 : (i + 1) * esz'' ≤ off * esz'' := Nat.mul_le_mul_right _ hlo
                  rw [Nat.succ_mul] at h1
                  rw [if_neg (by omega)]
                  have e : (es.take off ++ (List.replicate len z ++ es.drop (off + len)))[i] = es[i] := by
                    rw [List.getElem_append_left (by simp; omega)]; simp
                  simp only [e] at hj ⊢
                  exact hr i j hi0 hj
                · by_cases hhi : i < off + len
                  · have h1 : (i - off + 1) * esz'' ≤ len * esz'' := Nat.mul_le_mul_right _ (by omega)
                    rw [Nat.succ_mul] at h1
                    have h2 : i * esz'' = off * esz'' + (i - off) * esz'' := by rw [← Nat.add_mul]; congr 1; omega
                    rw [if_pos (by omega)]
                    have e : (es.take off ++ (List.replicate len z ++ es.drop (off + len)))[i] = z := by
                      rw [List.getElem_append_right (by simp; omega), List.getElem_append_left (by simp; omega)]; simp
                    simp only [e] at hj ⊢
                    obtain ⟨q, hq1, hq2, _⟩ := hget ((i - off) * esz'' + j) (by omega)
                    have hmod : ((i - off) * esz'' + j) % esz'' = j := by rw [Nat.mul_comm, Nat.mul_add_mod]; exact Nat.mod_eq_of_lt hjs
                    rw [hmod, List.getElem?_eq_getElem hj] at hq1
                    cases hq1
                    have : base + (i * esz'' + j) - (base + off * esz'') = (i - off) * esz'' + j := by omega
                    rw [this]; exact hq2
                  · have h1 : (off + len) * esz'' ≤ i * esz'' := Nat.mul_le_mul_right _ (by omega)
                    rw [if_neg (by omega)]
                    have e : (es.take off ++ (List.replicate len z ++ es.drop (off + len)))[i] = es[i] := by
                      rw [List.getElem_append_right (by simp; omega), List.getElem_append_right (by simp; omega), List.getElem_drop]
                      congr 1; simp; omega
                    simp only [e] at hj ⊢
                    exact hr i j hi0 hj)
            refine ⟨w', _, ?_, hput.1, hput.2, hK⟩
            unfold Builtin.clear_
            obtain ⟨n, rfl⟩ : ∃ n, len = n + 1 := ⟨len - 1, by omega⟩
            simp [Sem.run_bind, rUnderlying hT, hz1, hN, hrun]
        · omega
    · exact hK.elim
  · exact hK.elim

end
end Go.Am
