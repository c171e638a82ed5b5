/- A part of the proof: a logic for calls over plain values, and a runner that is shown to be right. -/
import Derived.Test.YtmahfnljcfaicaaAm7
namespace Go.Am
set_option linter.unusedVariables false
set_option linter.unusedSimpArgs false
section
variable {P : Program} {w : World} {G : Gh} {ev : Operand → Value} {oev : Opd → Option AV}

theorem bin_ok {op : BinOp} {t yt : TypeId} {x y : Operand} {pk : PK} {xs : List Opd} {as : List AV} {a : AV} (H : OpdOk G w ev oev) (hcst : ∀ v, ev (.const v) = v)
    (hc : compBin P op t x y = some (pk, xs)) (has : xs.mapM oev = some as) (hp : pv pk as = some a) : Has P G ev (.binOp op t x y yt) w a := by
  unfold compBin at hc
  simp only [Option.bind_eq_bind, Option.pure_def] at hc
  obtain ⟨d, hd, hc⟩ := opt_bind hc
  split at hc
  · obtain ⟨X, hX, hc⟩ := opt_bind hc
    obtain ⟨Y, hY, hc⟩ := opt_bind hc
    cases hc
    exact has_eqb H rfl hd hX hY has hp
  · obtain ⟨X, hX, hc⟩ := opt_bind hc
    obtain ⟨Y, hY, hc⟩ := opt_bind hc
    cases hc
    exact has_eqb H rfl hd hX hY has hp
  · split at hc
    · obtain ⟨X, hX, hc⟩ := opt_bind hc
      cases hc
      exact has_eqnil H rfl hX has hp (.inl ⟨rfl, _, hd, hcst _⟩)
    · cases hc
  · split at hc
    · obtain ⟨X, hX, hc⟩ := opt_bind hc
      cases hc
      exact has_eqnil H rfl hX has hp (.inl ⟨rfl, _, hd, hcst _⟩)
    · cases hc
  · split at hc
    · obtain ⟨X, hX, hc⟩ := opt_bind hc
      cases hc
      exact has_eqnil H rfl hX has hp (.inr ⟨rfl, _, hd, hcst _⟩)
    · cases hc
  · split at hc
    · obtain ⟨X, hX, hc⟩ := opt_bind hc
      cases hc
      exact has_eqnil H rfl hX has hp (.inr ⟨rfl, _, hd, hcst _⟩)
    · cases hc
  · obtain ⟨⟨k1, k2⟩, h2, hc⟩ := opt_bind hc
    obtain ⟨X, hX, hc⟩ := opt_bind hc
    obtain ⟨Y, hY, hc⟩ := opt_bind hc
    cases hc
    exact has_eq2 H rfl hd h2 hX hY has hp
  · obtain ⟨⟨k1, k2⟩, h2, hc⟩ := opt_bind hc
    obtain ⟨X, hX, hc⟩ := opt_bind hc
    obtain ⟨Y, hY, hc⟩ := opt_bind hc
    cases hc
    exact has_eq2 H rfl hd h2 hX hY has hp
  · obtain ⟨X, hX, hc⟩ := opt_bind hc
    obtain ⟨Y, hY, hc⟩ := opt_bind hc
    cases hc
    exact has_bin H hX hY has hp
  · cases hc

theorem toList_one {α : Type} {a : Array α} {x : α} (h : a.toList = [x]) : a = #[x] := by
  rw [← Array.toArray_toList (xs := a), h]

theorem callPure_ok {c : Call} {pk : PK} {xs : List Opd} {as : List AV} {a : AV} (H : OpdOk G w ev oev)
    (hc : compCallPure P c = some (pk, xs)) (has : xs.mapM oev = some as) (hp : pv pk as = some a) : Has P G ev (.call c) w a := by
  obtain ⟨callee, args, ats⟩ := c
  unfold compCallPure at hc
  simp only [Option.bind_eq_bind, Option.pure_def] at hc
  split at hc
  · split at hc
    · rename_i x hx
      split at hc
      · rename_i t ht
        obtain ⟨d, hd, hc⟩ := opt_bind hc
        split at hc
        · obtain ⟨X, hX, hc⟩ := opt_bind hc; cases hc
          rw [toList_one hx, toList_one ht]
          exact has_len H hd hX has hp
        · cases hc
      · cases hc
    · cases hc
  · split at hc
    · rename_i x hx
      split at hc
      · rename_i t ht
        obtain ⟨d, hd, hc⟩ := opt_bind hc
        split at hc
        · obtain ⟨X, hX, hc⟩ := opt_bind hc; cases hc
          rw [toList_one hx, toList_one ht]
          exact has_cap H hd hX has hp
        · cases hc
      · cases hc
    · cases hc
  · obtain ⟨ys, hys, hc⟩ := opt_bind hc
    cases hc
    exact has_minmax (mx := false) H hys has hp
  · obtain ⟨ys, hys, hc⟩ := opt_bind hc
    cases hc
    exact has_minmax (mx := true) H hys has hp
  · cases hc

theorem pure_ok {op : Op} {pk : PK} {xs : List Opd} {as : List AV} {a : AV} (H : OpdOk G w ev oev) (hcst : ∀ v, ev (.const v) = v)
    (hc : compPure P op = some (pk, xs)) (has : xs.mapM oev = some as) (hp : pv pk as = some a) : Has P G ev op w a := by
  unfold compPure at hc
  simp only [Option.bind_eq_bind, Option.pure_def] at hc
  split at hc
  · obtain ⟨X, hX, hc⟩ := opt_bind hc; cases hc; exact has_mov H (.inl rfl) hX has hp
  · obtain ⟨X, hX, hc⟩ := opt_bind hc; cases hc; exact has_mov H (.inr rfl) hX has hp
  · obtain ⟨X, hX, hc⟩ := opt_bind hc; cases hc; exact has_nilchk H hX has hp
  · exact bin_ok H hcst hc has hp
  · obtain ⟨X, hX, hc⟩ := opt_bind hc; cases hc; exact has_not H hX has hp
  · obtain ⟨X, hX, hc⟩ := opt_bind hc; cases hc; exact has_neg H hX has hp
  · obtain ⟨X, hX, hc⟩ := opt_bind hc; cases hc; exact has_cpl H hX has hp
  · obtain ⟨d, hd, hc⟩ := opt_bind hc
    split at hc
    · obtain ⟨d', hd', hc⟩ := opt_bind hc
      split at hc
      · obtain ⟨X, hX, hc⟩ := opt_bind hc; cases hc; exact has_conv H hd hd' hX has hp
      · cases hc
    · cases hc
  · obtain ⟨d, hd, hc⟩ := opt_bind hc
    split at hc
    · obtain ⟨fd, hfd, hc⟩ := opt_bind hc
      obtain ⟨n, hn, hc⟩ := opt_bind hc
      split at hc
      · cases hc
      · rename_i h0
        obtain ⟨X, hX, hc⟩ := opt_bind hc; cases hc; exact has_fld H hd hfd hn h0 hX has hp
    · cases hc
  · obtain ⟨d, hd, hc⟩ := opt_bind hc
    split at hc
    · obtain ⟨fd, hfd, hc⟩ := opt_bind hc
      obtain ⟨n, hn, hc⟩ := opt_bind hc
      obtain ⟨ag, hag, hc⟩ := opt_bind hc
      obtain ⟨X, hX, hc⟩ := opt_bind hc; cases hc; exact has_fldv H hd hfd hn hag hX has hp
    · cases hc
  · obtain ⟨d, hd, hc⟩ := opt_bind hc
    split at hc
    · obtain ⟨n, hn, hc⟩ := opt_bind hc
      obtain ⟨X, hX, hc⟩ := opt_bind hc
      obtain ⟨I, hI, hc⟩ := opt_bind hc
      cases hc; exact has_idx H hd hn hX hI has hp
    · obtain ⟨n, hn, hc⟩ := opt_bind hc
      obtain ⟨X, hX, hc⟩ := opt_bind hc
      obtain ⟨I, hI, hc⟩ := opt_bind hc
      cases hc; exact has_idxa H hd hn hX hI has hp
    · cases hc
  · obtain ⟨d, hd, hc⟩ := opt_bind hc
    split at hc
    · obtain ⟨n, hn, hc⟩ := opt_bind hc
      obtain ⟨ag, hag, hc⟩ := opt_bind hc
      obtain ⟨X, hX, hc⟩ := opt_bind hc
      obtain ⟨I, hI, hc⟩ := opt_bind hc
      cases hc; exact has_idxv H hd hn hag hX hI has hp
    · obtain ⟨X, hX, hc⟩ := opt_bind hc
      obtain ⟨I, hI, hc⟩ := opt_bind hc
      cases hc; exact has_idxs H hd hX hI has hp
    · cases hc
  · obtain ⟨d, hd, hc⟩ := opt_bind hc
    split at hc
    · obtain ⟨n, hn, hc⟩ := opt_bind hc
      split at hc
      · obtain ⟨X, hX, hc⟩ := opt_bind hc; cases hc
        exact has_slice H hd hn hX (.inl ⟨rfl, rfl, rfl, rfl⟩) has hp
      · obtain ⟨X, hX, hc⟩ := opt_bind hc
        obtain ⟨L, hL, hc⟩ := opt_bind hc; cases hc
        exact has_slice H hd hn hX (.inr (.inl ⟨_, _, rfl, rfl, hL, rfl, rfl⟩)) has hp
      · obtain ⟨X, hX, hc⟩ := opt_bind hc
        obtain ⟨L, hL, hc⟩ := opt_bind hc; cases hc
        exact has_slice H hd hn hX (.inr (.inr (.inl ⟨_, _, rfl, rfl, hL, rfl, rfl⟩))) has hp
      · obtain ⟨X, hX, hc⟩ := opt_bind hc
        obtain ⟨L, hL, hc⟩ := opt_bind hc
        obtain ⟨U, hU, hc⟩ := opt_bind hc; cases hc
        exact has_slice H hd hn hX (.inr (.inr (.inr ⟨_, _, _, _, rfl, rfl, hL, hU, rfl, rfl⟩))) has hp
    · cases hc
  · obtain ⟨z, hz, hc⟩ := opt_bind hc
    obtain ⟨pl, hpl, hc⟩ := opt_bind hc
    obtain ⟨ps, hps, hc⟩ := opt_bind hc
    obtain ⟨ys, hys, hc⟩ := opt_bind hc
    cases hc
    exact has_build H hz hpl hps hys has hp
  · obtain ⟨X, hX, hc⟩ := opt_bind hc; cases hc; exact has_ext H hX has hp
  · split at hc
    · rename_i hsz
      obtain ⟨ys, hys, hc⟩ := opt_bind hc
      cases hc
      rw [Array.eq_empty_of_size_eq_zero hsz]
      exact has_mkfn H hys has hp
    · cases hc
  · obtain ⟨d, hd, hc⟩ := opt_bind hc
    split at hc
    · cases hc
    · rename_i hne
      obtain ⟨X, hX, hc⟩ := opt_bind hc; cases hc
      exact has_mkif H hd (fun ms e => hne ms e) hX has hp
  · exact callPure_ok H hc has hp
  · cases hc

end
end Go.Am
