/- Where a place stands; what a path finds. -/
import Derived.Test.YtpfaccpmgldkeaaGreatDoorPlace
set_option linter.unusedVariables false
set_option linter.unusedSimpArgs false
namespace Go.Proofs.YtpfaccpmgldkeaaGreatDoor
open Go.RowKit Go.MapKept Go.ChangeMaps

theorem place_dir {s : M.St} {p : M.Bs} (hcl : Cl s) (h : (s.place p).2 = 0) : s.has (s.place p).1.dir = true ∧ (s.nd (s.place p).1.dir).kind = 2 ∧ (s.place p).1.name.length ≤ 24 ∧ ((s.place p).1.node ≠ 0 → M.get (s.nd (s.place p).1.dir).names (s.place p).1.name = some (s.place p).1.node) := by
  by_cases h1 : (M.lastP p).2.2 = 0
  · by_cases h2 : (s.find (M.lastP p).1 true).2 = 0
    · by_cases h3 : (s.nd (s.find (M.lastP p).1 true).1.node).kind = 2
      · cases h4 : M.long (s.way s.deepest (s.find (M.lastP p).1 true).1.node ++ [(M.lastP p).2.1])
        · rw [place_ok h1 h2 h3 h4]
          refine ⟨find_has hcl h2, h3, (lastP_name h1).1, fun hn => ?_⟩
          simp only at hn ⊢
          cases hg : M.get (s.nd (s.find (M.lastP p).1 true).1.node).names (M.lastP p).2.1 with
          | none => rw [hg] at hn; exact absurd rfl hn
          | some c => rfl
        · rw [place_long h1 h2 h3 h4] at h; cases h
      · rw [place_notdir h1 h2 h3] at h; cases h
    · rw [place_lost h1 h2] at h; exact absurd h h2
  · rw [place_bad h1] at h; exact absurd h h1

theorem above_kind {k : Int} {s : M.St} (hwf : Wf k s) {n : Int} (hn : s.has n = true) (hk : (s.nd n).kind ≠ 3) : (s.nd (s.above n)).kind ≠ 3 := by
  unfold M.St.above
  split
  · rename_i h
    rw [(hwf.up n hn h).2.1]; decide
  · exact hk
theorem walk_kind {k : Int} {s : M.St} (hwf : Wf k s) : ∀ (f : Nat) (sp : M.Spot) (hops : Nat) (ps : List M.Bs), s.has sp.node = true → (s.nd sp.node).kind ≠ 3 → (s.walk true f sp hops ps).2 = 0 → (s.nd (s.walk true f sp hops ps).1.node).kind ≠ 3
  | 0, sp, _, _, _, hk, _ => hk
  | f + 1, sp, hops, [], _, hk, _ => hk
  | f + 1, sp, hops, p :: ps, hn, hk, h0 => by
    unfold M.St.walk at h0 ⊢
    split at h0
    · cases h0
    · rename_i h1
      rw [if_neg h1]
      split at h0
      · rename_i h2
        rw [if_pos h2]
        exact walk_kind hwf f _ _ _ (hwf.above hn) (above_kind hwf hn hk) h0
      · rename_i h2
        rw [if_neg h2]
        cases hg : M.get (s.nd sp.node).names p with
        | none => simp [hg] at h0
        | some c =>
          simp only [hg] at h0 ⊢
          split at h0
          · rename_i h3
            rw [if_pos h3]
            split at h0
            · cases h0
            · rename_i h4
              rw [if_neg h4]
              refine walk_kind hwf f _ _ _ ?_ ?_ h0
              · split
                · exact hwf.root
                · exact hn
              · split
                · rw [show (s.nd 1).kind = 2 from hwf.rootK]; decide
                · exact hk
          · rename_i h3
            rw [if_neg h3]
            refine walk_kind hwf f _ _ _ (hwf.child _ hn _ _ hg).1 (fun h5 => h3 ⟨h5, Or.inr (by simp)⟩) h0
theorem find_kind {k : Int} {s : M.St} (hwf : Wf k s) {p : M.Bs} (h0 : (s.find p true).2 = 0) : (s.nd (s.find p true).1.node).kind ≠ 3 := by
  unfold M.St.find at h0 ⊢
  split at h0
  · rename_i h; exact absurd h0 h
  · rename_i h
    rw [if_neg h]
    exact walk_kind hwf _ _ _ _ hwf.root (by rw [show (s.nd 1).kind = 2 from hwf.rootK]; decide) h0
end Go.Proofs.YtpfaccpmgldkeaaGreatDoor
