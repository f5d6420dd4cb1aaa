/- TreeLong: the states of the tree, reckoned by the kernel: as deep as may be, one more is told to be too long. -/
import Derived.Test.YtpfaccpmgldkeaaGreatDoorMod
import Derived.KernelRfl
set_option linter.unusedVariables false
set_option linter.unusedSimpArgs false
namespace Go.Proofs.YtpfaccpmgldkeaaGreatDoor
set_option maxRecDepth 100000

def seg (g : Nat) : M.Bs := 47 :: List.replicate g 120
def ppL (g : Nat) : Nat → M.Bs
  | 0 => []
  | i + 1 => ppL g i ++ seg g
def opM (g i : Nat) : M.Op := { kind := 9, path := ppL g i ++ seg g }
def stG (g : Nat) : Nat → M.St
  | 0 => M.new
  | i + 1 => ((stG g i).doS (opM g i)).2
def dG (g : Nat) : Nat := min 20 (200 / (g + 1))
def opL (g : Nat) : M.Op := { kind := 13, path := ppL g (dG g), «to» := [47, 108] }
def pathN (g : Nat) : M.Bs := 47 :: 108 :: seg g
def opN (g : Nat) : M.Op := { kind := 9, path := pathN g }
def stH (g : Nat) : M.St := ((stG g (dG g + 1)).doS (opL g)).2

theorem okM0 : ((List.range 24).all fun q => (List.range 21).all fun k => decide (dG (q + 1) < k) || ((stG (q + 1) k).doS (opM (q + 1) k)).1.code == (if k < dG (q + 1) then 0 else 11)) = true := by kernel_rfl
theorem okM {q k : Nat} (h : q < 24) (h2 : k ≤ dG (q + 1)) : ((stG (q + 1) k).doS (opM (q + 1) k)).1.code = if k < dG (q + 1) then 0 else 11 := by
  have hd : dG (q + 1) ≤ 20 := Nat.min_le_left _ _
  have := List.all_eq_true.1 (List.all_eq_true.1 okM0 q (List.mem_range.2 h)) k (List.mem_range.2 (by omega))
  rw [show decide (dG (q + 1) < k) = false from decide_eq_false (by omega), Bool.false_or] at this
  simpa using this
theorem okL0 : ((List.range 24).all fun q => decide (100 < (ppL (q + 1) (dG (q + 1))).length) || ((((stG (q + 1) (dG (q + 1) + 1)).doS (opL (q + 1))).1.code != 0 || ((stH (q + 1)).doS (opN (q + 1))).1.code == 11) && decide (dG (q + 1) ≤ ((stH (q + 1)).see 22 1 []).length))) = true := by kernel_rfl
theorem okL {q : Nat} (h : q < 24) (h2 : (ppL (q + 1) (dG (q + 1))).length ≤ 100) : (((stG (q + 1) (dG (q + 1) + 1)).doS (opL (q + 1))).1.code = 0 → ((stH (q + 1)).doS (opN (q + 1))).1.code = 11) ∧ dG (q + 1) ≤ ((stH (q + 1)).see 22 1 []).length := by
  have := List.all_eq_true.1 okL0 q (List.mem_range.2 h)
  rw [show decide (100 < (ppL (q + 1) (dG (q + 1))).length) = false from decide_eq_false (by omega), Bool.false_or, Bool.and_eq_true] at this
  obtain ⟨a, b⟩ := this
  refine ⟨fun e => ?_, by simpa using b⟩
  rw [e] at a
  simpa using a
theorem okS0 : ((List.range 24).all fun q => decide (dG (q + 1) ≤ ((stG (q + 1) (dG (q + 1) + 1)).see 22 1 []).length)) = true := by kernel_rfl
theorem okS {q : Nat} (h : q < 24) : dG (q + 1) ≤ ((stG (q + 1) (dG (q + 1) + 1)).see 22 1 []).length := by
  simpa using List.all_eq_true.1 okS0 q (List.mem_range.2 h)
theorem lenP (g : Nat) : ∀ k, (ppL g k).length = k * (g + 1)
  | 0 => by simp [ppL]
  | k + 1 => by
    have := lenP g k
    simp only [ppL, List.length_append, this, seg, List.length_cons, List.length_replicate, Nat.add_mul, Nat.one_mul]
theorem dG_fits {g k : Nat} (h : k ≤ dG g) : (k < dG g) ↔ (k < 20 ∧ k * (g + 1) + (g + 1) ≤ 200) := by
  unfold dG at *
  have e : (k + 1) * (g + 1) = k * (g + 1) + (g + 1) := by rw [Nat.add_mul, Nat.one_mul]
  constructor
  · intro h1
    have h2 : k + 1 ≤ 200 / (g + 1) := by omega
    have h3 := (Nat.le_div_iff_mul_le (show 0 < g + 1 by omega)).1 h2
    exact ⟨by omega, by omega⟩
  · rintro ⟨h1, h2⟩
    have h3 : k + 1 ≤ 200 / (g + 1) := (Nat.le_div_iff_mul_le (show 0 < g + 1 by omega)).2 (by omega)
    omega
theorem dG_pos {q : Nat} (h : q < 24) : 1 ≤ dG (q + 1) := by
  have h3 : 1 ≤ 200 / (q + 1 + 1) := (Nat.le_div_iff_mul_le (show 0 < q + 1 + 1 by omega)).2 (by omega)
  unfold dG
  omega
theorem seg_succ (k : Nat) : seg k ++ [120] = seg (k + 1) := by
  simp [seg, List.replicate_succ']
theorem size_bs (l : M.Bs) : (⟨l.toArray⟩ : ByteArray).size = l.length := by simp [ByteArray.size]
end Go.Proofs.YtpfaccpmgldkeaaGreatDoor
