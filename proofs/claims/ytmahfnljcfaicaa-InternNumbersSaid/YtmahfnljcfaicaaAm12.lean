/- A part of the proof: a logic for calls over plain values, and a runner that is shown to be right. -/
import Derived.Test.YtmahfnljcfaicaaAm11
namespace Go.Am
set_option linter.unusedVariables false
set_option linter.unusedSimpArgs false

/-- The elements of a slice. -/
def slc (σ : Store) (esz : Nat) : AV → Option (List (List AV))
  | .nils => some []
  | .sl esz' es => if esz' = esz then some es else none
  | .os id esz' off len => match σ id with
    | some (.arr esz'' es) => if esz' = esz ∧ esz'' = esz ∧ off + len ≤ es.length then some ((es.drop off).take len) else none
    | _ => none
  | _ => none

section
variable {P : Program} {w : World} {G : Gh} {σ : Store} {ev : Operand → Value} {oev : Opd → Option AV}

/-- One object gives its block to another one, of a fresh id. -/
theorem Sim.move (hs : Sim G σ w) {id id' : Nat} {o o' : Obj} {b base base' : Nat} (hσ : σ id = some o) (hρ : G.ρ id = some (b, base)) (hρ' : G.ρ id' = none) {w' : World}
    (htape : w'.tape = w.tape) (hos : w'.os = w.os) (hout : w'.output = w.output) (hdr : w.drawn ≤ w'.drawn)
    (hsize : w'.heap.size = w.heap.size) (hother : ∀ c, c ≠ b → w'.heap[c]? = w.heap[c]?) (hshape : w'.shape? b = w.shape? b)
    (hnew : ∀ G' : Gh, (∀ a v, VRel G w a v → VRel G' w' a v) → ORel G' w' b base' o') :
    ∃ G', Ext G σ w G' ((σ.del id).set id' o') w' ∧ Sim G' ((σ.del id).set id' o') w' ∧ G'.ρ id' = some (b, base') := by
  let G' : Gh := ⟨fun i => if i = id' then some (b, base') else G.ρ i, G.I⟩
  have hid' : G'.ρ id' = some (b, base') := by simp [G']
  have hG : ∀ i, i ≠ id' → G'.ρ i = G.ρ i := fun i hi => by simp [G', hi]
  have hρρ : ∀ i x, G.ρ i = some x → G'.ρ i = some x := fun i x hx => by
    have : i ≠ id' := fun e => by subst e; rw [hρ'] at hx; cases hx
    rw [hG i this]; exact hx
  have hsh : ∀ c, w'.shape? c = w.shape? c := fun c => by
    by_cases hc : c = b
    · rw [hc]; exact hshape
    · simp only [World.shape?, hother c hc]
  have hown : own G σ b := ⟨id, o, base, hσ, hρ⟩
  have hold : ∀ i oi, i ≠ id' → ((σ.del id).set id' o') i = some oi → σ i = some oi ∧ i ≠ id := fun i oi hi h => by
    rw [Store.set_ne _ _ hi] at h
    by_cases hii : i = id
    · subst hii; simp at h
    · rw [Store.del_ne _ hii] at h; exact ⟨h, hii⟩
  have hext : Ext G σ w G' ((σ.del id).set id' o') w' :=
    { tape := htape, os := hos, output := hout, size := by omega
      keep := fun c _ hn => hother c (fun e => hn (e ▸ hown))
      shape := fun c _ => hsh c
      ρ := hρρ, I := fun _ h => h, newI := fun _ h => .inl h
      newOwn := fun c ⟨i, oi, bi, h1, h2⟩ => by
        by_cases hi : i = id'
        · subst hi; rw [hid'] at h2; cases h2; exact .inl hown
        · rw [hG i hi] at h2; exact .inl ⟨i, oi, bi, (hold i oi hi h1).1, h2⟩
      newId := fun i oi h1 => by
        by_cases hi : i = id'
        · subst hi; exact .inr hρ'
        · exact .inl ⟨oi, (hold i oi hi h1).1⟩ }
  have hv : ∀ a v, VRel G w a v → VRel G' w' a v := fun a v h => hext.vrel hs h
  refine ⟨G', hext, ?_, hid'⟩
  exact
    { lt := fun c hc => by rw [hsize]; exact hs.lt c hc
      fin := by
        obtain ⟨N, hN⟩ := hs.fin
        exact ⟨max N (id' + 1), fun i hi => by rw [hG i (by omega)]; exact hN i (by omega)⟩
      blk := fun i c bi h => by
        by_cases hi : i = id'
        · subst hi; rw [hid'] at h; cases h; rw [hsize]; exact hs.blk id _ _ hρ
        · rw [hG i hi] at h; rw [hsize]; exact hs.blk i c bi h
      used := fun i oi h1 => by
        by_cases hi : i = id'
        · subst hi; simp at h1; subst h1; exact ⟨b, base', hid', hnew G' hv⟩
        · obtain ⟨h2, h3⟩ := hold i oi hi h1
          obtain ⟨c, bi, h4, h5⟩ := hs.used i oi h2
          refine ⟨c, bi, by rw [hG i hi]; exact h4, h5.grow (hother c ?_) hv⟩
          intro e; subst e
          exact h3 (hs.inj i id oi o _ _ _ h2 hσ h4 hρ)
      inj := fun i j oi oj c bi bj h1 h2 h3 h4 => by
        by_cases hi : i = id' <;> by_cases hj : j = id'
        · rw [hi, hj]
        · subst hi; rw [hid'] at h3; cases h3
          obtain ⟨h5, h6⟩ := hold j oj hj h2
          rw [hG j hj] at h4
          exact absurd (hs.inj j id oj o _ _ _ h5 hσ h4 hρ) h6
        · subst hj; rw [hid'] at h4; cases h4
          obtain ⟨h5, h6⟩ := hold i oi hi h1
          rw [hG i hi] at h3
          exact absurd (hs.inj i id oi o _ _ _ h5 hσ h3 hρ) h6
        · rw [hG i hi] at h3; rw [hG j hj] at h4
          exact hs.inj i j oi oj c bi bj (hold i oi hi h1).1 (hold j oj hj h2).1 h3 h4
      apart := fun i oi c bi h1 h2 => by
        by_cases hi : i = id'
        · subst hi; rw [hid'] at h2; cases h2; exact hs.apart id o _ _ hσ hρ
        · rw [hG i hi] at h2; exact hs.apart i oi c bi (hold i oi hi h1).1 h2 }

/-- The cells of so many elements that lie one behind the other. -/
def ERel (G : Gh) (w : World) (esz : Nat) (es : List (List AV)) (f : Nat → Value) : Prop :=
  (∀ e ∈ es, e.length = esz) ∧ (∀ e ∈ es, ∀ c ∈ e, c.flat = true) ∧
  ∀ i j (hi : i < es.length) (hj : j < (es[i]'hi : List AV).length), VRel G w ((es[i]'hi : List AV)[j]'hj) (f (i * esz + j))

theorem mul_lt {i j n s : Nat} (hi : i < n) (hj : j < s) : i * s + j < n * s := by
  have := Nat.mul_le_mul_right s (Nat.succ_le_of_lt hi)
  rw [Nat.succ_mul] at this; omega

/-- What a slice's cells hold. -/
theorem slc_rel (hs : Sim G σ w) {esz : Nat} {x : AV} {v : Value} {es : List (List AV)} (hx : VRel G w x v) (h : slc σ esz x = some es) :
    ∃ b c, v = .slice b es.length c ∧ es.length ≤ c ∧ (es = [] ∨ ∃ blk o, b = some ⟨blk, o, none⟩ ∧ ∃ f : Nat → Value, ERel G w esz es f ∧
      (∀ k, k < es.length * esz → w.cell? ⟨blk, o + k, none⟩ = some (f k))) := by
  unfold slc at h
  split at h
  · cases h
    exact ⟨_, _, hx.of_nils, Nat.le_refl _, .inl rfl⟩
  · rename_i esz' es'
    split at h
    · rename_i he
      subst he; cases h
      by_cases hne : es = []
      · subst hne
        obtain ⟨a, c, hv, hc⟩ := hx.of_sl_len
        exact ⟨_, _, hv, hc, .inl rfl⟩
      · obtain ⟨b, off, c, vs, hv, hI, hcap, hl, hf, hc, hr⟩ := hx.of_sl hne
        refine ⟨_, _, hv, hcap, .inr ⟨b, off, rfl, fun k => vs (k / esz') (k % esz'), ⟨hl, hf, fun i j hi hj => ?_⟩, fun k hk => ?_⟩⟩
        · have hj' : j < esz' := by rw [← hl _ (List.getElem_mem hi)]; exact hj
          have e1 : (i * esz' + j) / esz' = i := by
            rw [Nat.mul_comm, Nat.mul_add_div (by omega), Nat.div_eq_of_lt hj']; rfl
          have e2 : (i * esz' + j) % esz' = j := by rw [Nat.mul_comm, Nat.mul_add_mod, Nat.mod_eq_of_lt hj']
          show VRel G w _ (vs ((i * esz' + j) / esz') ((i * esz' + j) % esz'))
          rw [e1, e2]; exact hr i j hi hj
        · have hpos : 0 < esz' := by
            rcases Nat.eq_zero_or_pos esz' with h | h
            · subst h; simp at hk
            · exact h
          have := hc (k / esz') (k % esz') (by rw [Nat.div_lt_iff_lt_mul hpos]; exact hk) (Nat.mod_lt _ hpos)
          rw [Nat.div_add_mod'] at this
          exact this
    · cases h
  · rename_i id esz' off len
    split at h
    · rename_i esz'' es0 hσ
      split at h
      · rename_i hc
        obtain ⟨rfl, rfl, hle⟩ := hc
        cases h
        have hlen : ((es0.drop off).take len).length = len := by simp; omega
        obtain ⟨b, base, hb, ⟨c, hv, hcap, hroom⟩ | ⟨rfl, z, hv⟩⟩ := hx.of_os
        · rw [hlen]
          refine ⟨_, _, hv, hcap, ?_⟩
          by_cases hne : len = 0
          · subst hne; exact .inl (by simp)
          · refine .inr ⟨b, base + off * esz'', rfl, ?_⟩
            obtain ⟨b', base', hb', ho⟩ := hs.used id _ hσ
            rw [hb] at hb'; cases hb'
            cases ho with
            | arr hh hsz hln hf hr =>
              rename_i cur ty
              refine ⟨fun k => cur.getD (base + (off * esz'' + k)) undef, ⟨fun e he => hln e (List.mem_of_mem_drop (List.mem_of_mem_take he)), fun e he => hf e (List.mem_of_mem_drop (List.mem_of_mem_take he)), fun i j hi hj => ?_⟩, fun k hk => ?_⟩
              · have hi' := hi
                rw [hlen] at hi'
                have e : ((es0.drop off).take len)[i]'hi = es0[off + i]'(by omega) := by simp
                have h1 := hr (off + i) j (by omega) (by rw [← e]; exact hj)
                simp only [e]
                rw [Nat.add_mul, Nat.add_assoc] at h1
                exact h1
              · rw [cell?_heap hh]
                have h1 : off * esz'' + len * esz'' ≤ es0.length * esz'' := by rw [← Nat.add_mul]; exact Nat.mul_le_mul_right _ hle
                have : base + (off * esz'' + k) < cur.size := by omega
                show _ = some (cur.getD (base + (off * esz'' + k)) undef)
                rw [Nat.add_assoc, Array.getD_eq_getD_getElem?, Array.getElem?_eq_getElem this]; rfl
        · rw [hlen]
          exact ⟨_, _, hv, Nat.le_refl _, .inl (by simp)⟩
      · cases h
    · cases h
  · cases h

theorem firstCells_run {size n : Nat} {blk o : Nat} {f : Nat → Value} {len c : Nat} (h : ∀ k, k < n * size → w.cell? ⟨blk, o + k, none⟩ = some (f k)) :
    (Builtin.firstCells size n (.slice (some ⟨blk, o, none⟩) len c)).run P w = .ok ((List.range (n * size)).map f).toArray w := by
  unfold Builtin.firstCells
  exact run_loadCells w ⟨blk, o, none⟩ (n * size) f (fun j hj => by rw [add_mk]; exact h j hj)

theorem firstCells_zero {size : Nat} {b : Option Addr} {len c : Nat} : (Builtin.firstCells size 0 (.slice b len c)).run P w = .ok #[] w := by
  unfold Builtin.firstCells
  cases b
  · simp
  · simp [loadCells, loadCellsFrom]

theorem growBy_le (newLen : Nat) (h256 : 256 ≤ newLen) : ∀ (r c : Nat), c ≤ 2 * newLen → (c < newLen → 256 ≤ c) → Builtin.growBy newLen r c ≤ 2 * newLen
  | 0, c, h, _ => h
  | r + 1, c, h, h' => by
    unfold Builtin.growBy
    split
    · exact h
    · rename_i hlt
      have := h' (by omega)
      exact growBy_le newLen h256 r _ (by omega) (fun _ => by omega)

theorem nextcap_le {need cap : Nat} (h : cap < need) : Builtin.nextslicecap need cap ≤ 2 * need := by
  unfold Builtin.nextslicecap
  split
  · omega
  · split
    · omega
    · exact growBy_le need (by omega) 4 cap (by omega) (fun _ => by omega)

theorem run_lenOf (b : Option Addr) (n c : Nat) : (Builtin.lenOf (.slice b n c)).run P w = .ok n w := rfl

/-- append within the capacity. -/
theorem append_fits {sT xT e : TypeId} {size : Nat} {d : TypeDesc} {base xb : Option Addr} {sLen sCap n xc : Nat} {new : Array Value} {w' : World} {ty : TypeId}
    (hs : P.underlying sT = some (.slice e)) (hsz : tsz P e = some size) (hx : P.underlying xT = some d) (hd : ∀ k, d ≠ .int k)
    (hfit : sLen + n ≤ sCap) (hnew : (Builtin.firstCells size n (.slice xb n xc)).run P w = .ok new w)
    (hst : (match base with | some a => storeCells (a.add (sLen * size)) new.toList | none => pure ()).run P w = .ok () w') :
    (Builtin.append_ #[sT, xT] ty #[.slice base sLen sCap, .slice xb n xc]).run P w = .ok (.slice base (sLen + n) sCap) w' := by
  have hz : (match d with | .int _ => true | _ => false) = false := by cases d <;> first | rfl | exact absurd rfl (hd _)
  unfold Builtin.append_
  simp only [List.getElem?_toArray, List.getElem?_cons_zero, List.getElem?_cons_succ, Sem.run_bind, rUnderlying hs, rUnderlying hx, Result.andThen_ok, rSizeOf hsz, Sem.run_pure, hz]
  simp only [Bool.false_eq_true, if_false, Sem.run_bind, run_lenOf, Result.andThen_ok, Bool.not_false, if_true]
  rw [if_pos hfit]
  simp only [Sem.run_bind, hnew, Result.andThen_ok]
  cases base with
  | none =>
    simp only [Sem.run_pure] at hst
    cases hst; rfl
  | some a => simp only [Sem.run_bind, hst, Result.andThen_ok, Sem.run_pure]

end
end Go.Am
