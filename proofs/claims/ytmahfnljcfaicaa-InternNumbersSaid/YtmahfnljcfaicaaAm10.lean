/- A part of the proof: a logic for calls over plain values, and a runner that is shown to be right. -/
import Derived.Test.YtmahfnljcfaicaaAm9
namespace Go.Am
set_option linter.unusedVariables false
set_option linter.unusedSimpArgs false
section
variable {P : Program} {w : World} {G : Gh} {σ : Store} {ev : Operand → Value} {oev : Opd → Option AV}

theorem setRow_get {g : Nat} {cs cur : Array Value} {ty : TypeId} {fr : Nat × Nat} (hg : w.heap[g]? = some (.cells cur ty fr)) : (w.setRow g cs).heap[g]? = some (.cells cs ty fr) := by
  exact setRow_heap w g cur cs ty fr hg

theorem setRow_ne {g b : Nat} (cs : Array Value) (h : b ≠ g) : (w.setRow g cs).heap[b]? = w.heap[b]? := by
  unfold World.setRow
  simp [Array.getElem?_modify, Ne.symm h]

theorem setRow_size (g : Nat) (cs : Array Value) : (w.setRow g cs).heap.size = w.heap.size := by
  unfold World.setRow; simp

/-- The block of one object is written: all else stands. -/
theorem Sim.put (hs : Sim G σ w) {id : Nat} {o o' : Obj} {b base : Nat} (hσ : σ id = some o) (hρ : G.ρ id = some (b, base)) {w' : World}
    (htape : w'.tape = w.tape) (hos : w'.os = w.os) (hout : w'.output = w.output) (hdr : w.drawn ≤ w'.drawn)
    (hsize : w'.heap.size = w.heap.size) (hother : ∀ c, c ≠ b → w'.heap[c]? = w.heap[c]?) (hshape : w'.shape? b = w.shape? b)
    (hnew : (∀ a v, VRel G w a v → VRel G w' a v) → ORel G w' b base o') :
    Ext G σ w G (σ.set id o') w' ∧ Sim G (σ.set id o') w' := by
  have hsh : ∀ c, w'.shape? c = w.shape? c := fun c => by
    by_cases hc : c = b
    · rw [hc]; exact hshape
    · simp only [World.shape?, hother c hc]
  have hown : own G σ b := ⟨id, o, base, hσ, hρ⟩
  have hext : Ext G σ w G (σ.set id o') w' :=
    { tape := htape, os := hos, output := hout, size := by omega
      keep := fun c _ hn => hother c (fun e => hn (e ▸ hown))
      shape := fun c _ => hsh c
      ρ := fun _ _ h => h, I := fun _ h => h, newI := fun _ h => .inl h
      newOwn := fun c ⟨i, oi, bi, h1, h2⟩ => by
        by_cases hi : i = id
        · subst hi; exact .inl ⟨i, o, bi, hσ, h2⟩
        · rw [Store.set_ne _ _ hi] at h1; exact .inl ⟨i, oi, bi, h1, h2⟩
      newId := fun i oi h1 => by
        by_cases hi : i = id
        · subst hi; exact .inl ⟨o, hσ⟩
        · rw [Store.set_ne _ _ hi] at h1; exact .inl ⟨oi, h1⟩ }
  have hv : ∀ a v, VRel G w a v → VRel G w' a v := fun a v h => hext.vrel hs h
  refine ⟨hext, ?_⟩
  exact
    { lt := fun c hc => by rw [hsize]; exact hs.lt c hc
      fin := hs.fin
      blk := fun i c bi h => by rw [hsize]; exact hs.blk i c bi h
      used := fun i oi h1 => by
        by_cases hi : i = id
        · subst hi; simp at h1; subst h1; exact ⟨b, base, hρ, hnew hv⟩
        · rw [Store.set_ne _ _ hi] at h1
          obtain ⟨c, bi, h2, h3⟩ := hs.used i oi h1
          refine ⟨c, bi, h2, h3.grow (hother c ?_) hv⟩
          intro e; subst e
          exact hi (hs.inj i id oi o _ _ _ h1 hσ h2 hρ)
      inj := fun i j oi oj c bi bj h1 h2 h3 h4 => by
        have f : ∀ i oi, (σ.set id o') i = some oi → ∃ o, σ i = some o := fun i oi h => by
          by_cases hi : i = id
          · subst hi; exact ⟨o, hσ⟩
          · rw [Store.set_ne _ _ hi] at h; exact ⟨oi, h⟩
        obtain ⟨o1, h5⟩ := f i oi h1
        obtain ⟨o2, h6⟩ := f j oj h2
        exact hs.inj i j o1 o2 c bi bj h5 h6 h3 h4
      apart := fun i oi c bi h1 h2 => by
        by_cases hi : i = id
        · subst hi; exact hs.apart i o c bi hσ h2
        · rw [Store.set_ne _ _ hi] at h1; exact hs.apart i oi c bi h1 h2 }

/-- Cells are laid over some of a block's. -/
theorem lay_get {cur : Array Value} {vs : List Value} {o : Nat} (h : o + vs.length ≤ cur.size) (k : Nat) :
    (cur.toList.take o ++ vs ++ cur.toList.drop (o + vs.length)).toArray.getD k undef = if o ≤ k ∧ k < o + vs.length then vs.getD (k - o) undef else cur.getD k undef := by
  have hlt : (cur.toList.take o).length = o := by simp; omega
  rw [Array.getD_eq_getD_getElem?, List.getElem?_toArray, List.append_assoc]
  by_cases h1 : k < o
  · rw [List.getElem?_append_left (by omega), if_neg (by omega), List.getElem?_take_of_lt h1]
    simp
  · rw [List.getElem?_append_right (by omega), hlt]
    by_cases h2 : k < o + vs.length
    · rw [List.getElem?_append_left (by omega), if_pos (by omega)]; simp
    · rw [List.getElem?_append_right (by omega), if_neg (by omega), List.getElem?_drop]
      rw [show o + vs.length + (k - o - vs.length) = k by omega]; simp

theorem lay_size {cur : Array Value} {vs : List Value} {o : Nat} (h : o + vs.length ≤ cur.size) :
    (cur.toList.take o ++ vs ++ cur.toList.drop (o + vs.length)).toArray.size = cur.size := by
  simp; omega

theorem oneCells {as : List AV} {vs : List Value} (h : Rels (VRel G w) as vs) (hf : ∀ a ∈ as, a.flat = true) : ∀ v ∈ vs, v.oneCell' = true := by
  induction h with
  | nil => intro v hv; cases hv
  | cons h1 _ ih =>
    intro v hv
    rcases List.mem_cons.1 hv with rfl | hv
    · exact h1.oneCell (hf _ (by simp))
    · exact ih (fun a ha => hf a (by simp [ha])) v hv

theorem cells_rels {a : AV} {v : Value} (h : VRel G w a v) (ht : a.isTup = false) : Rels (VRel G w) a.cells v.cells.toList ∧ ∀ c ∈ a.cells, c.flat = true := by
  obtain ⟨h1, h2, h3⟩ := h.cells_rel (fun vs e => by subst e; cases ht)
  refine ⟨Rels.of_get (by simpa using h1) fun k hk hk' => ?_, h2⟩
  obtain ⟨x, hx, hr⟩ := h3 k _ (List.getElem?_eq_getElem hk)
  have e : v.cells.toList[k]? = some x := by simpa using hx
  rw [List.getElem?_eq_getElem hk'] at e
  cases e; exact hr

/-- A store at a pointer. -/
theorem wr_rel (hs : Sim G σ w) {p : AV} {v : Value} {new : List AV} {vs : List Value} {σ' : Store} (hp : VRel G w p v) (hnew : Rels (VRel G w) new vs) (hfl : ∀ c ∈ new, c.flat = true)
    (h : wr σ new p = some σ') : ∃ b o, v = .pointer (some ⟨b, o, none⟩) ∧ ∃ w', (storeCells ⟨b, o, none⟩ vs 0).run P w = .ok () w' ∧ Ext G σ w G σ' w' ∧ Sim G σ' w' := by
  unfold wr at h
  split at h
  · rename_i id off
    split at h
    · rename_i cells hσ
      obtain ⟨cs, hsp, rfl⟩ := Option.map_eq_some_iff.1 h
      obtain ⟨b, base, hb, hv⟩ := hp.of_ptr
      obtain ⟨b', base', hb', ho⟩ := hs.used id _ hσ
      rw [hb] at hb'; cases hb'
      obtain ⟨e1, e2, e3⟩ := splice_get _ _ _ _ hsp
      cases ho with
      | box hh hsz hf hr =>
        rename_i cur ty
        have hlen := hnew.length
        have hle : base + off + 0 + vs.length ≤ cur.size := by omega
        have hrun := run_storeCells_at (P := P) b (base + off) ty vs 0 cur w hh hle (oneCells hnew hfl)
        simp only [Nat.add_zero] at hrun hle
        refine ⟨b, base + off, hv, _, hrun, ?_⟩
        refine hs.put hσ hb rfl rfl rfl (Nat.le_refl _) (setRow_size _ _) (fun c hc => setRow_ne _ hc) ?_ (fun hvr => ?_)
        · simp only [World.shape?, setRow_get hh, hh, lay_size hle]
        · refine .box (setRow_get hh) (by rw [lay_size hle, e1]; exact hsz) (fun c hc => ?_) (fun k hk => ?_)
          · obtain ⟨k, hk⟩ := List.getElem?_of_mem hc
            rw [e3 k] at hk
            split at hk
            · exact hfl c (List.mem_of_getElem? hk)
            · exact hf c (List.mem_of_getElem? hk)
          · have hk' := List.getElem?_eq_getElem hk
            rw [e3 k] at hk'
            rw [lay_get hle]
            split at hk'
            · rename_i hc
              rw [if_pos (by omega)]
              obtain ⟨x, hx, hxr⟩ := hnew.get _ _ hk'
              have : vs.getD (base + k - (base + off)) undef = x := by
                rw [show base + k - (base + off) = k - off by omega]; simp [List.getD, hx]
              rw [this]; exact hvr _ _ hxr
            · rename_i hc
              rw [if_neg (by omega)]
              obtain ⟨hk2, he⟩ := List.getElem?_eq_some_iff.1 hk'
              rw [← he]; exact hvr _ _ (hr k hk2)
    · cases h
  · rename_i id esz i off
    split at h
    · rename_i esz' es hσ
      split at h
      · rename_i he
        subst he
        obtain ⟨c0, hc0, h⟩ := opt_bind h
        obtain ⟨cs, hsp, rfl⟩ := Option.map_eq_some_iff.1 h
        obtain ⟨b, base, hb, hv⟩ := hp.of_aptr
        obtain ⟨b', base', hb', ho⟩ := hs.used id _ hσ
        rw [hb] at hb'; cases hb'
        obtain ⟨e1, e2, e3⟩ := splice_get _ _ _ _ hsp
        obtain ⟨hi, rfl⟩ := List.getElem?_eq_some_iff.1 hc0
        cases ho with
        | arr hh hsz hln hf hr =>
          rename_i cur ty
          have hlen := hnew.length
          have hli : es[i].length = esz' := hln _ (List.getElem_mem hi)
          have hmul : i * esz' + esz' ≤ es.length * esz' := by
            have := Nat.mul_le_mul_right esz' (Nat.succ_le_of_lt hi)
            rwa [Nat.succ_mul] at this
          have hle : base + (i * esz' + off) + 0 + vs.length ≤ cur.size := by omega
          have hrun := run_storeCells_at (P := P) b (base + (i * esz' + off)) ty vs 0 cur w hh hle (oneCells hnew hfl)
          simp only [Nat.add_zero] at hrun hle
          refine ⟨b, _, hv, _, hrun, ?_⟩
          refine hs.put hσ hb rfl rfl rfl (Nat.le_refl _) (setRow_size _ _) (fun c hc => setRow_ne _ hc) ?_ (fun hvr => ?_)
          · simp only [World.shape?, setRow_get hh, hh, lay_size hle]
          · have hmem : ∀ e ∈ es.set i cs, e = cs ∨ e ∈ es := fun e he => by
              rcases List.mem_or_eq_of_mem_set he with h | h
              · exact .inr h
              · exact .inl h
            refine .arr (setRow_get hh) (by rw [lay_size hle, List.length_set]; exact hsz) (fun e he => ?_) (fun e he c hc => ?_) (fun i' j hi' hj => ?_)
            · rcases hmem e he with rfl | h
              · rw [e1, hli]
              · exact hln e h
            · rcases hmem e he with rfl | h
              · obtain ⟨k, hk⟩ := List.getElem?_of_mem hc
                rw [e3 k] at hk
                split at hk
                · exact hfl c (List.mem_of_getElem? hk)
                · exact hf _ (List.getElem_mem hi) c (List.mem_of_getElem? hk)
              · exact hf e h c hc
            · rw [List.length_set] at hi'
              rw [lay_get hle]
              by_cases hii : i' = i
              · subst hii
                have e4 : (es.set i' cs)[i']'(by simpa using hi') = cs := by simp
                simp only [e4] at hj ⊢
                have hk' := List.getElem?_eq_getElem hj
                rw [e3 j] at hk'
                split at hk'
                · rename_i hc
                  rw [if_pos (by omega)]
                  obtain ⟨x, hx, hxr⟩ := hnew.get _ _ hk'
                  have : vs.getD (base + (i' * esz' + j) - (base + (i' * esz' + off))) undef = x := by
                    rw [show base + (i' * esz' + j) - (base + (i' * esz' + off)) = j - off by omega]; simp [List.getD, hx]
                  rw [this]; exact hvr _ _ hxr
                · rename_i hc
                  rw [if_neg (by omega)]
                  obtain ⟨hk2, he⟩ := List.getElem?_eq_some_iff.1 hk'
                  rw [← he]; exact hvr _ _ (hr i' j hi hk2)
              · have e4 : (es.set i cs)[i']'(by simpa using hi') = es[i'] := by rw [List.getElem_set_ne (Ne.symm hii)]
                simp only [e4] at hj ⊢
                have hj' : j < esz' := by rw [hln _ (List.getElem_mem hi')] at hj; exact hj
                rw [if_neg]
                · exact hvr _ _ (hr i' j hi' hj)
                · rintro ⟨h1, h2⟩
                  rcases Nat.lt_or_ge i' i with h3 | h3
                  · have := Nat.mul_le_mul_right esz' (Nat.succ_le_of_lt h3)
                    rw [Nat.succ_mul] at this; omega
                  · have := Nat.mul_le_mul_right esz' (show i + 1 ≤ i' by omega)
                    rw [Nat.succ_mul] at this; omega
      · cases h
    · cases h
  · cases h

end
end Go.Am
