/- The invariant of a tree behind so many operations, and what contracts need of it. -/
import Derived.Test.YtpfaccpmgldkeaaGreatDoorWalk
namespace Go.Proofs.YtpfaccpmgldkeaaGreatDoor
open Go.RowKit Go.MapKept Go.ChangeMaps

/-- How far a directory is from the root: each step up comes nearer, and none is farther than 20. -/
def Tall (s : M.St) (d : Int → Nat) : Prop := ∀ n, s.has n = true → (s.nd n).above ≠ 0 → d n = d (s.nd n).above + 1 ∧ d n ≤ 20

/-- A tree behind at most k operations. -/
structure Wf (k : Int) (s : M.St) : Prop where
  srt : Srt M.ltI s.nodes
  root : s.has 1 = true
  rootK : (s.nd 1).kind = 2
  rootA : (s.nd 1).above = 0
  last : 1 ≤ s.last ∧ s.last ≤ k + 1
  num : ∀ n, s.has n = true → 1 ≤ n ∧ n ≤ s.last
  kind : ∀ n, s.has n = true → (s.nd n).kind = 1 ∨ (s.nd n).kind = 2 ∨ (s.nd n).kind = 3
  leaf : ∀ n, s.has n = true → (s.nd n).kind ≠ 2 → (s.nd n).names = [] ∧ (s.nd n).above = 0
  nsrt : ∀ n, s.has n = true → Srt M.ltB (s.nd n).names
  child : ∀ n, s.has n = true → ∀ m c, M.get (s.nd n).names m = some c → s.has c = true ∧ c ≠ 1 ∧ m.length ≤ 24 ∧ M.slash ∉ m ∧ m ≠ [] ∧ ((s.nd c).kind = 2 → (s.nd c).above = n)
  one : ∀ n, s.has n = true → ∀ m m' c, M.get (s.nd n).names m = some c → M.get (s.nd n).names m' = some c → (s.nd c).kind = 2 → m = m'
  up : ∀ n, s.has n = true → (s.nd n).above ≠ 0 → s.has (s.nd n).above = true ∧ (s.nd (s.nd n).above).kind = 2 ∧ ∃ m, M.get (s.nd (s.nd n).above).names m = some n
  tall : ∃ d, Tall s d
  most : ∀ n, s.has n = true → ((s.nd n).names.length : Int) ≤ (s.nd n).most ∧ (s.nd n).most ≤ k
  links : ∀ n, s.has n = true → 0 ≤ (s.nd n).links ∧ (s.nd n).links ≤ k + 1
  high : ∀ n, s.has n = true → 0 ≤ (s.nd n).high ∧ (s.nd n).high ≤ 5000
  data : ∀ n, s.has n = true → (s.nd n).data.length ≤ 20736 ∧ (s.nd n).written.length ≤ 162
  target : ∀ n, s.has n = true → (s.nd n).kind = 3 → (s.nd n).data.length ≤ 100
  dir : ∀ n, s.has n = true → (s.nd n).kind = 2 → (s.nd n).data = [] ∧ (s.nd n).written = []
  fds : ∀ i, (s.fds i).opn = true → s.has (s.fds i).node = true ∧ (0 ≤ (s.fds i).off ∧ (s.fds i).off ≤ 1099511627776) ∧ (0 ≤ (s.fds i).flags ∧ (s.fds i).flags < 64)
  fdk : ∀ i, (s.fds i).opn = true → (s.nd (s.fds i).node).kind ≠ 3
  past : 0 ≤ s.past ∧ s.past ≤ 5000 * k
  went : 0 ≤ s.went ∧ s.went ≤ k

section
variable {k : Int} {s : M.St}
theorem Wf.small (h : Wf k s) (hk : k ≤ 10000) {n : Int} (hn : s.has n = true) : Small (s.nd n) := by
  have h1 := h.most n hn
  have h2 := h.links n hn
  have h3 := h.high n hn
  have h4 := h.data n hn
  exact ⟨by omega, by omega, by omega, h4.1, h4.2, by omega⟩
theorem Wf.smallT (h : Wf k s) (hk : k ≤ 10000) : SmallT s := by
  have h1 := h.past
  have h2 := h.went
  have h3 := h.last
  exact ⟨by omega, by omega, by omega⟩
theorem Wf.above (h : Wf k s) {n : Int} (hn : s.has n = true) : s.has (s.above n) = true := by
  unfold M.St.above
  split
  · exact (h.up n hn (by assumption)).1
  · exact hn
theorem Wf.cl (h : Wf k s) : Cl s := ⟨h.root, fun n hn m c hc => (h.child n hn m c hc).1, fun n hn => h.above hn, fun n hn hk => by have := h.target n hn hk; omega⟩
theorem Wf.free (h : Wf k s) : s.has (s.last + 1) = false := by
  cases hh : s.has (s.last + 1) with
  | false => rfl
  | true => have := h.num _ hh; omega
theorem Wf.child_dir (h : Wf k s) {n : Int} (hn : s.has n = true) {m : M.Bs} {c : Int} (hc : M.get (s.nd n).names m = some c) : (s.nd n).kind = 2 := by
  cases hk : decide ((s.nd n).kind = 2) with
  | true => simpa using hk
  | false =>
    have := (h.leaf n hn (by simpa using hk)).1
    rw [this] at hc
    simp [M.get] at hc
end
end Go.Proofs.YtpfaccpmgldkeaaGreatDoor
