/- A part of the proof: a logic for calls over plain values, and the functions that the law reaches, each walked once. -/
import Derived.Test.YtjmkofmkkpenmaaPE12
set_option linter.unusedVariables false
set_option linter.unusedSimpArgs false
set_option linter.unusedSectionVars false

/- Ex5 -/
namespace Go.Am

/-! ## What is owed behind a run -/
def GoesR (m : Nat → Nat) (s : CS) (K : AV → Store → Prop) : Rt → Prop
  | .ok a s' => ∀ m' σ', Agr s m m' s' → R m' s' σ' → ScA m' (U s') a → K (a.ren m') σ'
  | .bad _ => False

def GoesN (m : Nat → Nat) (s : CS) (K : Env → Store → Prop) : Ou → Prop
  | .n e s' => ∀ m' σ', Agr s m m' s' → R m' s' σ' → ScE m' (U s') e → K (e.ren m') σ'
  | _ => False

def CallOk (P : Program) (call : Nat → List AV → CS → Rt) : Prop :=
  ∀ f args s m σ a s', R m s σ → ScL m (U s) args → call f args s = .ok a s' →
    ACalls P f (args.map (AV.ren m)) σ (fun b τ => ∃ m', Agr s m m' s' ∧ R m' s' τ ∧ ScA m' (U s') a ∧ b = a.ren m')

section
variable {P : Program} {m : Nat → Nat} {s : CS} {σ : Store}

theorem sc_nils {n : Nat → Prop} : ScA m n .nils := fun _ _ => by simp
theorem sc_bool {n : Nat → Prop} (b : Bool) : ScA m n (.bool b) := fun _ _ => by simp
theorem sc_tup0 {n : Nat → Prop} : ScA m n (.tup []) := fun _ _ => by simp

theorem sc_os {n : Nat → Prop} {i esz off len : Nat} (h : n i) : ScA m n (.os i esz off len) := fun m' hm => by simp [hm i h]

/-- An append. -/
theorem appT_ok (hR : R m s σ) {d : Option Nat} {esz bytes : Nat} {x y : AV} {K : AV → Store → Prop} (hx : ScA m (U s) x) (hy : ScA m (U s) y)
    (h : GoesR m s K (appT d esz bytes x y s)) : appwp esz bytes (x.ren m) (y.ren m) σ K := by
  unfold appT at h
  split at h
  · rename_i xs ys hxs hys
    have h1 := slc_ren hR.live hxs
    have h2 := slc_ren hR.live hys
    have g1 := sc_slc hR hxs hx
    have g2 := sc_slc hR hys hy
    cases hb : Nat.ble ((xs.length + ys.length) * bytes) 140737488355328 with
    | false => rw [hb] at h; exact h.elim
    | true =>
      rw [hb] at h
      simp only [cond_true] at h
      unfold appwp
      rw [h1, h2]
      refine ⟨by simpa using Nat.le_of_ble_eq_true hb, ?_⟩
      split at h
      · simp only [ren_nils]
        simp only [slc, Option.some.injEq] at hxs
        subst hxs
        cases ys with
        | nil =>
          simp only at h
          refine ⟨fun _ => by simpa using h m σ (Agr.refl s m) hR sc_nils, fun hne => (hne rfl).elim⟩
        | cons y0 yr =>
          simp only at h
          split at h
          · rename_i s' hp
            refine ⟨fun he => by simp at he, fun _ id hid => ?_⟩
            have hsc : ScO m (U s) (.arr esz (y0 :: yr)) := fun m' hm => by simp only [Obj.ren]; rw [g2 m' hm]
            obtain ⟨k1, k2, k3, k4⟩ := hR.push hp hsc hid (lim_id _ _)
            have := h _ _ k2 k1 (sc_os k3)
            simp only [ren_os, k4, Obj.ren] at this
            simpa using this
          · exact h.elim
      · rename_i id0 e0 off len
        simp only [ren_os]
        split at h
        · rename_i s1 hp1
          split at h
          · rename_i s' hp
            intro id hid
            obtain ⟨hesz, es, hσ, hle, hxe, hxl⟩ := slc_os hxs
            obtain ⟨k1, k2⟩ := hR.del hσ hp1
            have hsc : ScO m (U s1) (.arr esz (xs ++ ys)) := fun m' hm => by
              have hm0 : Agree (U s) m m' := fun i hi => hm i (k2.used i hi)
              simp only [Obj.ren, List.map_append]; rw [g1 m' hm0, g2 m' hm0]
            have hid' : (σ.del (m id0)) id = none := by
              simp only [Store.del]; split
              · rfl
              · exact hid
            obtain ⟨l1, l2, l3, l4⟩ := k1.push hp hsc hid' (lim_id _ _)
            have := h _ _ (k2.trans l2) l1 (sc_os l3)
            simp only [ren_os, l4, Obj.ren, List.map_append] at this
            simpa using this
          · exact h.elim
        · exact h.elim
      · exact h.elim
  · exact h.elim

theorem appzT_ok (hR : R m s σ) {d : Option Nat} {esz bytes : Nat} {z : List AV} {x y : AV} {K : AV → Store → Prop}
    (h : GoesR m s K (appzT d esz bytes z x y s)) : appzwp esz bytes z (x.ren m) (y.ren m) σ K := by
  unfold appzT at h
  split at h
  · rename_i n
    cases hb : (Nat.ble (Nat.mul n bytes) 140737488355328 && AV.undL noId z) with
    | false => rw [hb] at h; exact h.elim
    | true =>
      rw [hb] at h
      simp only [cond_true] at h
      rw [Bool.and_eq_true] at hb
      have hle : n * bytes ≤ 140737488355328 := Nat.le_of_ble_eq_true hb.1
      have hz := closedL_ren hb.2
      simp only [ren_nils, ren_int, appzwp]
      refine ⟨Int.natCast_nonneg n, by
        have : ((n : Int) * (bytes : Int)) = ((n * bytes : Nat) : Int) := by simp
        show (n : Int) * (bytes : Int) ≤ _
        rw [this]; omega, fun he => ?_, fun hne id hid => ?_⟩
      · cases n with
        | zero => simpa using h m σ (Agr.refl s m) hR sc_nils
        | succ k => simp at he; omega
      · cases n with
        | zero => exact (hne rfl).elim
        | succ k =>
          simp only at h
          split at h
          · rename_i s' hp
            have hsc : ScO m (U s) (.arr esz (List.replicate (k + 1) z)) := fun m' hm => by simp only [Obj.ren, List.map_replicate, hz]
            obtain ⟨k1, k2, k3, k4⟩ := hR.push hp hsc hid (lim_id _ _)
            have := h _ _ k2 k1 (sc_os k3)
            simp only [ren_os, k4, Obj.ren, List.map_replicate, hz] at this
            exact this
          · exact h.elim
  · exact h.elim

theorem sc_map {es : List (AV × AV)} {i : Nat} (hR : R m s σ) (hst : s.st i = some (.map es)) : ∀ m', Agree (U s) m m' → (es.map fun p => (p.1.ren m', p.2.ren m')) = es.map fun p => (p.1.ren m, p.2.ren m) := fun m' hm => by
  have := hR.sc _ _ hst m' hm
  simpa only [Obj.ren, Obj.map.injEq] using this

theorem mupdT_ok (hR : R m s σ) {mk : MKey} {x k v : AV} {K : AV → Store → Prop} (hk : ScA m (U s) k) (hv : ScA m (U s) v)
    (h : GoesR m s K (mupdT mk x k v s)) : mupdwp mk (x.ren m) (k.ren m) (v.ren m) σ (K (.tup [])) := by
  unfold mupdT at h
  unfold mupdwp
  cases hf : keyFits mk k with
  | false => rw [hf] at h; exact h.elim
  | true =>
    rw [hf] at h
    simp only [cond_true] at h
    refine ⟨by rw [keyFits_ren]; exact hf, ?_⟩
    split at h
    · rename_i id
      split at h
      · rename_i es hes
        have hst := st_some.2 hes
        have hm0 := sc_map hR hst
        simp only [ren_mp, hR.live _ _ hst, Obj.ren, mfind_ren]
        split at h
        · rename_i i v0 hfi
          split at h
          · rename_i s' hp
            have hsc : ScO m (U s) (.map (es.set i (k, v))) := fun m' hm => by
              simp only [Obj.ren, Obj.map.injEq, List.map_set]; rw [hm0 m' hm, hk m' hm, hv m' hm]
            obtain ⟨k1, k2⟩ := hR.put hst hp hsc
            have := h _ _ k2 k1 sc_tup0
            simp only [Obj.ren, List.map_set, ren_tup, List.map] at this
            simpa [hfi] using this
          · exact h.elim
        · rename_i hfi
          split at h
          · rename_i s' hp
            have hsc : ScO m (U s) (.map (es ++ [(k, v)])) := fun m' hm => by
              simp only [Obj.ren, Obj.map.injEq, List.map_append, List.map]; rw [hm0 m' hm, hk m' hm, hv m' hm]
            obtain ⟨k1, k2⟩ := hR.put hst hp hsc
            have := h _ _ k2 k1 sc_tup0
            simp only [Obj.ren, List.map_append, ren_tup, List.map] at this
            simpa [hfi] using this
          · exact h.elim
        · exact h.elim
      · exact h.elim
    · exact h.elim

theorem map_eraseIdx {α β : Type} (f : α → β) : ∀ (l : List α) (i : Nat), (l.eraseIdx i).map f = (l.map f).eraseIdx i
  | [], i => by simp
  | a :: r, 0 => by simp
  | a :: r, i + 1 => by simp [map_eraseIdx f r i]

theorem mdelT_ok (hR : R m s σ) {mk : MKey} {x k : AV} {K : AV → Store → Prop}
    (h : GoesR m s K (mdelT mk x k s)) : mdelwp mk (x.ren m) (k.ren m) σ (K (.tup [])) := by
  unfold mdelT at h
  unfold mdelwp
  cases hf : keyFits mk k with
  | false => rw [hf] at h; exact h.elim
  | true =>
    rw [hf] at h
    simp only [cond_true] at h
    refine ⟨by rw [keyFits_ren]; exact hf, ?_⟩
    split at h
    · rename_i id
      split at h
      · rename_i es hes
        have hst := st_some.2 hes
        have hm0 := sc_map hR hst
        simp only [ren_mp, hR.live _ _ hst, Obj.ren, mfind_ren]
        split at h
        · rename_i i v0 hfi
          split at h
          · rename_i s' hp
            have hsc : ScO m (U s) (.map (es.eraseIdx i)) := fun m' hm => by
              simp only [Obj.ren, Obj.map.injEq, map_eraseIdx]; rw [hm0 m' hm]
            obtain ⟨k1, k2⟩ := hR.put hst hp hsc
            have := h _ _ k2 k1 sc_tup0
            simp only [Obj.ren, map_eraseIdx, ren_tup, List.map] at this
            simpa [hfi] using this
          · exact h.elim
        · rename_i hfi
          have := h _ _ (Agr.refl s m) hR sc_tup0
          simpa [hfi] using this
        · exact h.elim
      · exact h.elim
    · have := h _ _ (Agr.refl s m) hR sc_tup0
      simpa using this
    · exact h.elim

theorem nilqT_ok (hR : R m s σ) {neg : Bool} {a : AV} {K : AV → Store → Prop} (h : GoesR m s K (nilqT neg a s)) : nilqwp neg (a.ren m) (fun b => K b σ) := by
  unfold nilqT at h
  split at h
  · have := h _ _ (Agr.refl s m) hR (sc_bool _)
    simpa [nilqwp] using this
  · have := h _ _ (Agr.refl s m) hR (sc_bool _)
    simpa [nilqwp] using this
  · have := h _ _ (Agr.refl s m) hR (sc_bool _)
    simpa [nilqwp] using this
  · exact h.elim

theorem clrT_ok (hR : R m s σ) {esz : Nat} {z : List AV} {x : AV} {K : AV → Store → Prop} (h : GoesR m s K (clrT esz z x s)) : clrwp esz z (x.ren m) σ (K (.tup [])) := by
  unfold clrT at h
  unfold clrwp
  split at h
  · have := h _ _ (Agr.refl s m) hR sc_tup0
    simpa using this
  · rename_i id esz' off len
    split at h
    · rename_i esz'' es hes
      have hst := st_some.2 hes
      cases hb : (Nat.beq esz' esz && (Nat.beq esz'' esz && (Nat.ble (off + len) es.length && AV.undL noId z))) with
      | false => rw [hb] at h; exact h.elim
      | true =>
        rw [hb] at h
        simp only [cond_true] at h
        simp only [Bool.and_eq_true] at hb
        obtain ⟨b1, b2, b3, b4⟩ := hb
        have b1 := Nat.eq_of_beq_eq_true b1
        have b2 := Nat.eq_of_beq_eq_true b2
        have b3 := Nat.le_of_ble_eq_true b3
        have hz := closedL_ren b4
        split at h
        · rename_i s' hp
          have hsc : ScO m (U s) (.arr esz (es.take off ++ (List.replicate len z ++ es.drop (off + len)))) := fun m' hm => by
            have := hR.sc _ _ hst m' hm
            simp only [Obj.ren, Obj.arr.injEq, b2, true_and] at this
            simp only [Obj.ren, List.map_append, List.map_take, List.map_drop, List.map_replicate, hz, this]
          obtain ⟨k1, k2⟩ := hR.put hst hp hsc
          have := h _ _ k2 k1 sc_tup0
          simp only [ren_os, hR.live _ _ hst, Obj.ren, List.length_map]
          refine ⟨b1, b2, b3, ?_⟩
          simpa only [Obj.ren, List.map_append, List.map_take, List.map_drop, List.map_replicate, hz, ren_tup, List.map] using this
        · exact h.elim
    · exact h.elim
  · exact h.elim

theorem loudT_ok (hR : R m s σ) {call : Nat → List AV → CS → Rt} (hcall : CallOk P call) {d : Option Nat} {lo : LO} {as : List AV} {K : AV → Store → Prop} (has : ScL m (U s) as)
    (h : GoesR m s K (loudT call d lo as s)) : lwp P lo (as.map (AV.ren m)) σ K := by
  unfold loudT at h
  split at h
  · rename_i sz p a
    obtain ⟨h1, h2⟩ := has.cons
    obtain ⟨h2, _⟩ := h2.cons
    cases hb : (!a.isTup && Nat.beq a.cells.length sz) with
    | false => rw [hb] at h; exact h.elim
    | true =>
      rw [hb] at h
      simp only [cond_true] at h
      simp only [Bool.and_eq_true, Bool.not_eq_true'] at hb
      split at h
      · rename_i s' hw
        obtain ⟨σ', k1, k2, k3⟩ := wrT_ok hR hw (ScL_cells h2)
        simp only [List.map, lwp, isTup_ren, cells_ren, List.length_map, k1]
        refine ⟨hb.1, Nat.eq_of_beq_eq_true hb.2, ?_⟩
        have := h _ _ k3 k2 sc_tup0
        simpa using this
      · exact h.elim
  · obtain ⟨h1, h2⟩ := has.cons
    obtain ⟨h2, _⟩ := h2.cons
    exact appT_ok hR h1 h2 h
  · exact appzT_ok hR h
  · rename_i f
    cases hc : call f as s with
    | bad l => rw [hc] at h; exact h.elim
    | ok a s' =>
      rw [hc] at h
      refine (hcall f as s m σ a s' hR has hc).mono ?_
      rintro b τ ⟨m', k1, k2, k3, rfl⟩
      exact h m' τ k1 k2 k3
  · rename_i f caps args
    obtain ⟨h1, h2⟩ := has.cons
    have hcaps : ScL m (U s) caps := fun m' hm => by
      have := h1 m' hm
      simpa using this
    cases hc : call f (args ++ caps) s with
    | bad l => rw [hc] at h; exact h.elim
    | ok a s' =>
      rw [hc] at h
      have := hcall f (args ++ caps) s m σ a s' hR (h2.append hcaps) hc
      rw [List.map_append] at this
      simp only [List.map, ren_fn, lwp]
      refine this.mono ?_
      rintro b τ ⟨m', k1, k2, k3, rfl⟩
      exact h m' τ k1 k2 k3
  · rename_i mk x k v
    obtain ⟨h1, h2⟩ := has.cons
    obtain ⟨h2, h3⟩ := h2.cons
    obtain ⟨h3, _⟩ := h3.cons
    exact mupdT_ok hR h2 h3 h
  · exact mdelT_ok hR h
  · exact nilqT_ok hR h
  · exact clrT_ok hR h
  · exact h.elim

theorem xop_ok (hR : R m s σ) {call : Nat → List AV → CS → Rt} (hcall : CallOk P call) {d : Option Nat} {k : BK} {xs : List Opd} {e : Env} {K : Env → Store → Prop} (he : ScE m (U s) e)
    (h : GoesN m s K (xop call d k xs e s)) : bop P d k xs (e.ren m) σ K := by
  cases k with
  | pick =>
    simp only [xop] at h
    split at h
    · rename_i c x y
      split at h
      · rename_i hc
        split at h
        · rename_i a ha
          have key : ∃ a', ev (e.ren m) x = some a' ∧ K (Env.putO d a' (e.ren m)) σ := ⟨_, xev_ren ha, by
            have := h m σ (Agr.refl s m) hR (he.putO (he.xev ha) d)
            rwa [putO_ren] at this⟩
          unfold bop
          dsimp only
          rw [xev_ren hc, ren_bool]
          exact ⟨fun _ => key, fun hf => by cases hf⟩
        · exact h.elim
      · rename_i hc
        split at h
        · rename_i a ha
          have key : ∃ a', ev (e.ren m) y = some a' ∧ K (Env.putO d a' (e.ren m)) σ := ⟨_, xev_ren ha, by
            have := h m σ (Agr.refl s m) hR (he.putO (he.xev ha) d)
            rwa [putO_ren] at this⟩
          unfold bop
          dsimp only
          rw [xev_ren hc, ren_bool]
          exact ⟨fun hf => (by cases hf), fun _ => key⟩
        · exact h.elim
      · exact h.elim
    · exact h.elim
  | bad => exact h.elim
  | pure pk =>
    simp only [xop] at h
    split at h
    · exact h.elim
    · rename_i as has
      simp only [bop, xevs_ren has]
      cases hok : okPK pk with
      | false => rw [hok] at h; exact h.elim
      | true =>
        rw [hok] at h
        simp only [cond_true] at h
        split at h
        · rename_i a ha
          refine ⟨_, pv_ren m hok ha, ?_⟩
          have := h m σ (Agr.refl s m) hR (he.putO (sc_pv hok ha (he.xevs has)) d)
          rwa [putO_ren] at this
        · exact h.elim
  | load lk =>
    simp only [xop] at h
    split at h
    · exact h.elim
    · rename_i as has
      simp only [bop, xevs_ren has]
      cases hok : okLK lk with
      | false => rw [hok] at h; exact h.elim
      | true =>
        rw [hok] at h
        simp only [cond_true] at h
        split at h
        · rename_i a ha
          refine ⟨_, ldv_ren hR.live hok ha, ?_⟩
          have := h m σ (Agr.refl s m) hR (he.putO (sc_ldv hR hok ha (he.xevs has)) d)
          rwa [putO_ren] at this
        · exact h.elim
  | alloc ak =>
    simp only [xop] at h
    split at h
    · exact h.elim
    · rename_i as has
      simp only [bop, xevs_ren has]
      cases hok : okAK ak with
      | false => rw [hok] at h; exact h.elim
      | true =>
        rw [hok] at h
        simp only [cond_true] at h
        split at h
        · rename_i p hp
          split at h
          · rename_i s' hpush
            obtain ⟨p', g1, g2, g3⟩ := alv_ren m hok hp
            refine ⟨p', g1, fun id hid => ?_⟩
            have hsc : ScO m (U s) p.1 := fun m' hm => by
              obtain ⟨p2, q1, q2, q3⟩ := alv_ren m' hok hp
              rw [he.xevs has m' hm, g1] at q1
              cases q1
              rw [← q2, ← g2]
            obtain ⟨k1, k2, k3, k4⟩ := hR.push hpush hsc hid (lim_id _ _)
            have hsa : ScA (ext m (s.id d) id) (U s') (p.2 (s.id d)) := fun m' hm => by
              rw [← g3 m' (s.id d), ← g3 (ext m (s.id d) id) (s.id d), hm _ k3]
            have := h _ _ k2 k1 ((he.mono k2.ag k2.used).putO hsa d)
            rw [putO_ren, he _ k2.ag, ← g3, k4, ← g2] at this
            exact this
          · exact h.elim
        · exact h.elim
  | loud lo =>
    simp only [xop] at h
    split at h
    · exact h.elim
    · rename_i as has
      simp only [bop, xevs_ren has]
      refine loudT_ok hR hcall (d := d) (he.xevs has) ?_
      split at h
      · rename_i a s' hl
        rw [hl]
        intro m' σ' g1 g2 g3
        have := h m' σ' g1 g2 ((he.mono g1.ag g1.used).putO g3 d)
        rwa [putO_ren, he _ g1.ag] at this
      · exact h.elim
  | qcall f =>
    simp only [xop] at h
    split at h
    · exact h.elim
    · rename_i as has
      simp only [bop, xevs_ren has]
      split at h
      · rename_i a s' hl
        cases hb : Nat.ble s.next s'.low with
        | false => rw [hb] at h; exact h.elim
        | true =>
          rw [hb] at h
          simp only [cond_true] at h
          have hle := Nat.le_of_ble_eq_true hb
          have hR1 : R m ⟨s.t, s.next, s.next, 0⟩ σ := hR.same (fun _ => rfl) rfl
          refine (hcall f as _ m σ a s' hR1 (he.xevs has) hl).mono ?_
          rintro b τ ⟨m', k1, k2, k3, rfl⟩
          have hsame : ∀ i, U s i → s'.t.get i = s.t.get i := fun i hi => k1.same i (Nat.lt_of_lt_of_le (hR.lt i hi) hle) hi
          refine ⟨fun id o hid => ?_, ?_⟩
          · obtain ⟨i, o', g1, g2⟩ := hR.onto id o hid
            have hu := U_of_st g1
            have g3 : s'.st i = some o' := st_some.2 (by rw [hsame i hu]; exact st_some.1 g1)
            have g4 := k2.live i o' g3
            rw [k1.ag i hu, g2] at g4
            rw [g4]
            have g5 := hR.live i o' g1
            rw [g2, hid] at g5
            rw [g5]
            congr 1
            exact hR.sc i o' g1 m' k1.ag
          · have hk : Agr s m m' ⟨s'.t, s'.next, s.low, s.reg⟩ := ⟨k1.ag, k1.used, Nat.le_refl _, k1.next, rfl, fun i _ hi => hsame i hi, fun i hi => (k1.fresh i hi).imp (fun h => h) (fun h => Nat.le_trans (lim_le s) h)⟩
            have := h m' τ hk (k2.same (fun _ => rfl) rfl) ((he.mono k1.ag k1.used).putO k3 d)
            rwa [putO_ren, he _ k1.ag] at this
      · exact h.elim

theorem xops_ok {call : Nat → List AV → CS → Rt} (hcall : CallOk P call) : ∀ (l : List BOp) (e : Env) (s : CS) (m : Nat → Nat) (σ : Store) (K : Env → Store → Prop), R m s σ → ScE m (U s) e →
    GoesN m s K (xops call l e s) → bops P l (e.ren m) σ K
  | [], e, s, m, σ, K, hR, he, h => h m σ (Agr.refl s m) hR he
  | ⟨d, none, k, xs⟩ :: r, e, s, m, σ, K, hR, he, h => by
    simp only [xops] at h
    simp only [bops]
    refine xop_ok hR hcall he ?_
    split at h
    · rename_i e1 s1 h1
      rw [h1]
      intro m' σ' g1 g2 g3
      refine xops_ok hcall r e1 s1 m' σ' K g2 g3 ?_
      revert h
      cases xops call r e1 s1 with
      | n e2 s2 => intro h m2 σ2 j1 j2 j3; exact h m2 σ2 (g1.trans j1) j2 j3
      | _ => exact fun h => h
    · rename_i o hne
      cases hx : xop call d k xs e s with
      | n e1 s1 => exact (hne e1 s1 hx).elim
      | _ => rw [hx] at h; exact h.elim
  | ⟨d, some (t, b), k, xs⟩ :: r, e, s, m, σ, K, hR, he, h => by
    simp only [xops] at h
    simp only [bops, get_ren]
    split at h
    · rename_i v hv
      simp only [hv, Option.map_some, ren_bool]
      have hput : ∀ c : Bool, ScE m (U s) ((t, AV.bool c) :: e) := fun c m' hm => by
        show (t, AV.ren m' (.bool c)) :: Env.ren m' e = (t, AV.ren m (.bool c)) :: Env.ren m e
        rw [he m' hm]; simp
      have hcons : ∀ c : Bool, Env.ren m ((t, AV.bool c) :: e) = (t, AV.bool c) :: e.ren m := fun c => by
        show (t, AV.ren m (.bool c)) :: Env.ren m e = _; simp
      cases hvb : (v == b) with
      | true =>
        have hvb' : v = b := by simpa using hvb
        subst hvb'
        rw [hvb] at h
        simp only [cond_true] at h
        refine ⟨fun _ => ?_, fun hf => by cases v <;> simp at hf⟩
        rw [← hcons]
        refine xop_ok hR hcall (hput v) ?_
        split at h
        · rename_i e1 s1 h1
          rw [h1]
          intro m' σ' g1 g2 g3
          refine xops_ok hcall r e1 s1 m' σ' K g2 g3 ?_
          revert h
          cases xops call r e1 s1 with
          | n e2 s2 => intro h m2 σ2 j1 j2 j3; exact h m2 σ2 (g1.trans j1) j2 j3
          | _ => exact fun h => h
        · rename_i o hne
          cases hx : xop call d k xs ((t, .bool v) :: e) s with
          | n e1 s1 => exact (hne e1 s1 hx).elim
          | _ => rw [hx] at h; exact h.elim
      | false =>
        rw [hvb] at h
        simp only [cond_false] at h
        have hvb' : v = !b := by cases v <;> cases b <;> simp at hvb ⊢
        subst hvb'
        refine ⟨fun hf => by cases b <;> simp at hf, fun _ => ?_⟩
        have := xops_ok hcall r _ s m σ K hR ((hput (!b)).putO sc_tup0 d) h
        rwa [putO_ren, ren_tup, List.map, hcons] at this
    · rename_i hv
      simp only [hv, Option.map_some, ren_tup, List.map]
      have := xops_ok hcall r (Env.putO d (.tup []) e) s m σ K hR (he.putO sc_tup0 d) h
      rwa [putO_ren, ren_tup, List.map] at this
    · exact h.elim

end
end Go.Am
