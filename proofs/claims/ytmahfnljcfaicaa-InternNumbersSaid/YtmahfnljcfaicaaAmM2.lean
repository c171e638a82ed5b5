/- A part of the proof: a logic for calls over plain values, and a runner that is shown to be right. -/
import Derived.Test.YtmahfnljcfaicaaAm13
namespace Go.Am
set_option linter.unusedVariables false
set_option linter.unusedSimpArgs false

/-- What a map's write comes to. -/
def mupdwp (mk : MKey) (m k v : AV) (σ : Store) (K : Store → Prop) : Prop :=
  keyFits mk k = true ∧ match m with
  | .mp id => match σ id with
    | some (.map es) => match mfind k es 0 with
      | some (some (i, _)) => K (σ.set id (.map (es.set i (k, v))))
      | some none => K (σ.set id (.map (es ++ [(k, v)])))
      | none => False
    | _ => False
  | _ => False

def mdelwp (mk : MKey) (m k : AV) (σ : Store) (K : Store → Prop) : Prop :=
  keyFits mk k = true ∧ match m with
  | .mp id => match σ id with
    | some (.map es) => match mfind k es 0 with
      | some (some (i, _)) => K (σ.set id (.map (es.eraseIdx i)))
      | some none => K σ
      | none => False
    | _ => False
  | .nilmap => K σ
  | _ => False

theorem mfind_get {k : AV} : ∀ (es : List (AV × AV)) (s i : Nat) (v : AV), mfind k es s = some (some (i, v)) → s ≤ i ∧ ∃ k', es[i - s]? = some (k', v) ∧ kEq k k' = some true
  | [], s, i, v, h => by cases h
  | (k', v') :: r, s, i, v, h => by
    simp only [mfind] at h
    split at h
    · rename_i hk
      cases h
      exact ⟨Nat.le_refl _, k', by simp, hk⟩
    · obtain ⟨h1, k2, h2, h3⟩ := mfind_get r (s + 1) i v h
      refine ⟨by omega, k2, ?_, h3⟩
      rw [show i - s = (i - (s + 1)) + 1 by omega]; simpa using h2
    · cases h

section
variable {P : Program} {w : World} {G : Gh} {σ : Store}

theorem kEq_same {a b : AV} {x y : Value} (ha : VRel G w a x) (hb : VRel G w b y) (h : kEq a b = some true) : x = y := by
  unfold kEq at h
  split at h
  · rename_i j m k n h1 h2
    rw [asOne_some h1] at ha; rw [asOne_some h2] at hb
    rw [ha.of_int, hb.of_int]
    split at h
    · rename_i hj; subst hj; simp at h; rw [h]
    · cases h
  · split at h
    · rename_i h1 h2
      rw [asTwo_some h1] at ha; rw [asTwo_some h2] at hb
      obtain ⟨x1, y1, rfl, r1, r2⟩ := agg2 ha rfl
      obtain ⟨x2, y2, rfl, r3, r4⟩ := agg2 hb rfl
      rw [r1.of_int, r2.of_int, r3.of_int, r4.of_int]
      split at h
      · rename_i hj; obtain ⟨rfl, rfl⟩ := hj; simp at h; rw [h.1, h.2]
      · cases h
    · cases h

theorem sameBits_plain {a : AV} {x : Value} (ha : VRel G w a x) {mk : MKey} (hf : keyFits mk a = true) (d : Nat) : Instr.sameBits (d + 1 + 1) x x = true := by
  cases mk with
  | int k => obtain ⟨n, rfl⟩ := keyFits_int hf; rw [ha.of_int]; simp [Instr.sameBits]
  | two k1 k2 =>
    obtain ⟨m, n, rfl⟩ := keyFits_two hf
    obtain ⟨u, v, rfl, r1, r2⟩ := agg2 ha rfl
    rw [r1.of_int, r2.of_int]
    simp [Instr.sameBits]

theorem keyThatStays_run {a b : AV} {x y : Value} (ha : VRel G w a x) (hb : VRel G w b y) {mk : MKey} (hf : keyFits mk a = true) (h : kEq a b = some true) : (Instr.keyThatStays y x).run P w = .ok x w := by
  have e := kEq_same ha hb h
  subst e
  unfold Instr.keyThatStays
  have : Instr.sameBits 10000 x x = true := sameBits_plain ha hf 9998
  rw [if_pos this]; rfl

theorem setObj_run {b : Nat} {ents : Array MapEntry} {clock : Nat} (h : w.heap[b]? = some (.map ents clock)) (o : Go.Obj) : (setObj b o).run P w = .ok () { w with heap := w.heap.setIfInBounds b o } := by
  simp [setObj, Sem.run, h]

/-- A map object is written. -/
theorem put_map (hs : Sim G σ w) {id : Nat} {es es' : List (AV × AV)} {b base : Nat} {ents ents' : Array MapEntry} {clock clock' : Nat} (hσ : σ id = some (.map es)) (hρ : G.ρ id = some (b, base)) (hh : w.heap[b]? = some (.map ents clock))
    (hl : es'.length = ents'.size) (hv : ∀ k (h : k < es'.length) (h' : k < ents'.size), VRel G w es'[k].1 ents'[k].key ∧ VRel G w es'[k].2 ents'[k].val)
    (hborn : ∀ k (h : k < ents'.size), ents'[k].born < clock') (hinj : ∀ i j (hi : i < ents'.size) (hj : j < ents'.size), ents'[i].born = ents'[j].born → i = j) :
    Ext G σ w G (σ.set id (.map es')) { w with heap := w.heap.setIfInBounds b (.map ents' clock') } ∧ Sim G (σ.set id (.map es')) { w with heap := w.heap.setIfInBounds b (.map ents' clock') } := by
  have hlt : b < w.heap.size := (Array.getElem?_eq_some_iff.1 hh).1
  obtain ⟨b', base', hb', ho⟩ := hs.used id _ hσ
  rw [hρ] at hb'; cases hb'
  have h0 : base = 0 := by cases ho with | map _ h0 => exact h0
  have e : ({ w with heap := w.heap.setIfInBounds b (.map ents' clock') } : World).heap[b]? = some (.map ents' clock') := by simp [hlt]
  refine hs.put hσ hρ rfl rfl rfl (Nat.le_refl _) (by simp) (fun c hc => by simp [Array.getElem?_setIfInBounds_ne (Ne.symm hc)]) (by simp only [World.shape?, e, hh]) (fun hvr => ?_)
  exact .map (by simp [hlt]) h0 hl (fun k h h' => ⟨hvr _ _ (hv k h h').1, hvr _ _ (hv k h h').2⟩) hborn hinj

theorem mupd_ok (hs : Sim G σ w) {t kt et : TypeId} {mk : MKey} {m k v : AV} {vm vk vv : Value} {K : Store → Prop} (ht : P.underlying t = some (.map kt et)) (hk : keyKind P kt = some mk)
    (hm : VRel G w m vm) (hkv : VRel G w k vk) (hvv : VRel G w v vv) (h : mupdwp mk m k v σ K) :
    ∃ w' σ', (Instr.mapUpdate t vm vk vv).run P w = .ok () w' ∧ Ext G σ w G σ' w' ∧ Sim G σ' w' ∧ K σ' := by
  obtain ⟨hf, h⟩ := h
  split at h
  case h_2 => exact h.elim
  rename_i id
  split at h
  case h_2 => exact h.elim
  rename_i es hσ
  obtain ⟨b, base, hb, rfl⟩ := hm.of_mp
  obtain ⟨b', base', hb', ho⟩ := hs.used id _ hσ
  rw [hb] at hb'; cases hb'
  cases ho with
  | map hh h0 hl hr hborn hinj =>
    rename_i ents clock
    have hrel : Rels (fun e x => VRel G w e.1 x.key ∧ VRel G w e.2 x.val) es ents.toList := Rels.of_get (by simpa using hl) fun k hk hk' => by
      have := hr k hk (by simpa using hk')
      simpa using this
    have hck := checkKey_run (P := P) hk hf hkv false 9998
    have e10 : (9998 + 1 + 1 : Nat) = 10000 := rfl
    rw [e10] at hck
    have hlt : b < w.heap.size := (Array.getElem?_eq_some_iff.1 hh).1
    unfold Instr.mapUpdate
    simp only [Sem.run_bind, rUnderlying ht, Result.andThen_ok, getObj_run hh, hck]
    split at h
    · rename_i i u hfd
      obtain ⟨r', h1, h2⟩ := findKey_run (P := P) hk hf hkv hrel hfd
      obtain ⟨j, a, y, hj, rfl, hy⟩ := h2.resolve_left (fun e => by cases e.1)
      cases hj
      obtain ⟨_, k', hget, heq⟩ := mfind_get es 0 i u hfd
      simp only [Nat.sub_zero] at hget
      obtain ⟨hi, hge⟩ := List.getElem?_eq_some_iff.1 hget
      have hi' : i < ents.size := by omega
      have hkk : VRel G w k' ents[i].key := by have := (hr i hi hi').1; rw [hge] at this; exact this
      have hst := keyThatStays_run (P := P) hkv hkk hf heq
      have hold : ((ents[i]?).map (·.key)).getD vk = ents[i].key := by simp [hi']
      obtain ⟨g1, g2⟩ := put_map hs (es' := es.set i (k, v)) (ents' := ents.modify i fun e => { e with key := vk, val := vv }) (clock' := clock) hσ hb hh (by simpa using hl)
        (fun q hq hq' => by
          rw [Array.getElem_modify]
          by_cases hqi : i = q
          · subst hqi; simp; exact ⟨hkv, hvv⟩
          · rw [if_neg hqi, List.getElem_set_ne hqi]
            have hq2 : q < es.length := by simpa using hq
            exact hr q hq2 (by omega))
        (fun q hq => by
          have hq2 : q < ents.size := by simpa using hq
          rw [Array.getElem_modify]; split <;> exact hborn q hq2)
        (fun p q hp hq he => by
          have hp2 : p < ents.size := by simpa using hp
          have hq2 : q < ents.size := by simpa using hq
          refine hinj p q hp2 hq2 ?_
          rw [Array.getElem_modify, Array.getElem_modify] at he
          split at he <;> split at he <;> exact he)
      refine ⟨_, _, ?_, g1, g2, h⟩
      simp only [h1, Result.andThen_ok, Sem.run_bind, hold, hst, setObj_run hh]
    · rename_i hfd
      obtain ⟨r', h1, h2⟩ := findKey_run (P := P) hk hf hkv hrel hfd
      have hr' : r' = none := by rcases h2 with h2 | ⟨_, _, _, h2, _⟩; exact h2.2; cases h2
      subst hr'
      obtain ⟨g1, g2⟩ := put_map hs (es' := es ++ [(k, v)]) (ents' := ents.push { key := vk, val := vv, born := clock }) (clock' := clock + 1) hσ hb hh (by simp [hl])
        (fun q hq hq' => by
          rw [Array.getElem_push]
          by_cases hqs : q < ents.size
          · have e : (es ++ [(k, v)])[q] = es[q] := List.getElem_append_left (by omega)
            simp only [dif_pos hqs, e]
            exact hr q (by omega) hqs
          · have hqe : q = es.length := by simp at hq; omega
            subst hqe
            simp [hqs]; exact ⟨hkv, hvv⟩)
        (fun q hq => by
          rw [Array.getElem_push]
          by_cases hqs : q < ents.size
          · simp only [dif_pos hqs]; have := hborn q hqs; omega
          · simp only [dif_neg hqs]; omega)
        (fun p q hp hq he => by
          rw [Array.getElem_push, Array.getElem_push] at he
          simp only [Array.size_push] at hp hq
          by_cases hps : p < ents.size <;> by_cases hqs : q < ents.size
          · simp only [dif_pos hps, dif_pos hqs] at he; exact hinj p q hps hqs he
          · simp only [dif_pos hps, dif_neg hqs] at he; have := hborn p hps; omega
          · simp only [dif_neg hps, dif_pos hqs] at he; have := hborn q hqs; omega
          · omega)
      refine ⟨_, _, ?_, g1, g2, h⟩
      simp only [h1, Result.andThen_ok, setObj_run hh]
    · exact h.elim

theorem mdel_ok (hs : Sim G σ w) {t kt et : TypeId} {mk : MKey} {m k : AV} {vm vk : Value} {K : Store → Prop} {ty : TypeId} {kT : TypeId} (ht : P.underlying t = some (.map kt et)) (hk : keyKind P kt = some mk)
    (hm : VRel G w m vm) (hkv : VRel G w k vk) (h : mdelwp mk m k σ K) :
    ∃ w' σ', (Builtin.delete_ #[t, kT] ty #[vm, vk]).run P w = .ok (.tuple #[]) w' ∧ Ext G σ w G σ' w' ∧ Sim G σ' w' ∧ K σ' := by
  obtain ⟨hf, h⟩ := h
  have e10 : (9998 + 1 + 1 : Nat) = 10000 := rfl
  unfold Builtin.delete_
  simp only [List.getElem?_toArray, List.getElem?_cons_zero, List.getElem?_cons_succ, Sem.run_bind, rUnderlying ht, Result.andThen_ok]
  split at h
  · rename_i id
    split at h
    case h_2 => exact h.elim
    rename_i es hσ
    obtain ⟨b, base, hb, rfl⟩ := hm.of_mp
    obtain ⟨b', base', hb', ho⟩ := hs.used id _ hσ
    rw [hb] at hb'; cases hb'
    cases ho with
    | map hh h0 hl hr hborn hinj =>
      rename_i ents clock
      have hrel : Rels (fun e x => VRel G w e.1 x.key ∧ VRel G w e.2 x.val) es ents.toList := Rels.of_get (by simpa using hl) fun k hk hk' => by
        have := hr k hk (by simpa using hk')
        simpa using this
      have hck := checkKey_run (P := P) hk hf hkv ents.isEmpty 9998
      rw [e10] at hck
      have hlt : b < w.heap.size := (Array.getElem?_eq_some_iff.1 hh).1
      simp only [Sem.run_bind, Result.andThen_ok, getObj_run hh, hck]
      split at h
      · rename_i i u hfd
        obtain ⟨r', h1, h2⟩ := findKey_run (P := P) hk hf hkv hrel hfd
        obtain ⟨j, a, y, hj, rfl, hy⟩ := h2.resolve_left (fun e => by cases e.1)
        cases hj
        obtain ⟨_, k', hget, heq⟩ := mfind_get es 0 i u hfd
        simp only [Nat.sub_zero] at hget
        obtain ⟨hi, hge⟩ := List.getElem?_eq_some_iff.1 hget
        have hi' : i < ents.size := by omega
        have hel : ∀ q (hq : q < (ents.eraseIdxIfInBounds i).size), ∃ (p : Nat) (hp : p < ents.size), (ents.eraseIdxIfInBounds i)[q] = ents[p] ∧ p = (if q < i then q else q + 1) := fun q hq => by
          have hsz : (ents.eraseIdxIfInBounds i).size = ents.size - 1 := by simp [Array.eraseIdxIfInBounds, hi']
          by_cases hqi : q < i
          · exact ⟨q, by omega, by simp [Array.eraseIdxIfInBounds, hi', Array.getElem_eraseIdx, hqi], by rw [if_pos hqi]⟩
          · exact ⟨q + 1, by omega, by simp [Array.eraseIdxIfInBounds, hi', Array.getElem_eraseIdx, hqi], by rw [if_neg hqi]⟩
        obtain ⟨g1, g2⟩ := put_map hs (es' := es.eraseIdx i) (ents' := ents.eraseIdxIfInBounds i) (clock' := clock) hσ hb hh (by simp [Array.eraseIdxIfInBounds, hi', List.length_eraseIdx, hi, hl])
          (fun q hq hq' => by
            obtain ⟨p, hp, he, hpq⟩ := hel q hq'
            rw [he]
            have hp2 : p < es.length := by omega
            have e2 : (es.eraseIdx i)[q] = es[p] := by
              rw [List.getElem_eraseIdx]
              split
              · rename_i hqi; rw [if_pos hqi] at hpq; subst hpq; rfl
              · rename_i hqi; rw [if_neg hqi] at hpq; subst hpq; rfl
            rw [e2]
            exact hr p hp2 hp)
          (fun q hq => by obtain ⟨p, hp, he, _⟩ := hel q hq; rw [he]; exact hborn p hp)
          (fun p q hp hq he => by
            obtain ⟨p', hp', e1, f1⟩ := hel p hp
            obtain ⟨q', hq', e2, f2⟩ := hel q hq
            rw [e1, e2] at he
            have := hinj p' q' hp' hq' he
            subst this
            rw [f1] at f2
            split at f2 <;> split at f2 <;> omega)
        refine ⟨_, _, ?_, g1, g2, h⟩
        simp only [h1, Result.andThen_ok, Sem.run_bind, setObj_run hh, Sem.run_pure]
      · rename_i hfd
        obtain ⟨r', h1, h2⟩ := findKey_run (P := P) hk hf hkv hrel hfd
        have hr' : r' = none := by rcases h2 with h2 | ⟨_, _, _, h2, _⟩; exact h2.2; cases h2
        subst hr'
        have hself : ({ w with heap := w.heap.setIfInBounds b (.map ents clock) } : World) = w := by
          have : w.heap.setIfInBounds b (.map ents clock) = w.heap := by
            apply Array.ext
            · simp
            · intro q h1 h2
              by_cases hq : b = q
              · subst hq
                simp
                have := (Array.getElem?_eq_some_iff.1 hh).2
                exact this.symm
              · rw [Array.getElem_setIfInBounds_ne _ hq]
          rw [this]
        refine ⟨w, σ, ?_, Ext.refl _ _ _, hs, h⟩
        simp only [h1, Result.andThen_ok, Sem.run_bind, setObj_run hh, hself, Sem.run_pure]
      · exact h.elim
  · have hck := checkKey_run (P := P) hk hf hkv true 9998
    rw [e10] at hck
    have : vm = .map none := by cases hm; rfl
    subst this
    refine ⟨w, σ, ?_, Ext.refl _ _ _, hs, h⟩
    simp only [Sem.run_bind, hck, Result.andThen_ok, Sem.run_pure]
  · exact h.elim

end
end Go.Am
