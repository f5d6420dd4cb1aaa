/- Contracts of the small helpers: SameBytes, Low; slices of bytes. -/
import Derived.Test.YtpfaccpmgldkeaaGreatDoorClone
set_option linter.unusedVariables false
set_option linter.unusedSimpArgs false
namespace Go.Proofs.YtpfaccpmgldkeaaGreatDoor
open Go.RowKit
set_option maxRecDepth 100000

set_option maxHeartbeats 1000000 in
theorem same_ne (p q : Option Addr) (n m c d : Nat) (w : World) (h : n ≠ m) (hn : n ≤ 9223372036854775807) (hm : m ≤ 9223372036854775807) :
    Calls Tryz.prog 19 #[.slice p n c, .slice q m d] w fun e w' => e = .returned (.bool false) ∧ w' = w := by
  have h' : ((n : Int) == (m : Int)) = false := by simpa using (by omega : (n : Int) ≠ m)
  have h'' : ((n : Int) != (m : Int)) = true := by simpa using (by omega : (n : Int) ≠ m)
  clear h
  go_enter Tryz.func19, Tryz.ntmps19
  go_wp2
  go_ret
  exact ⟨rfl, rfl⟩

set_option maxHeartbeats 1000000 in
theorem same_nil (p q : Option Addr) (c d : Nat) (w : World) :
    Calls Tryz.prog 19 #[.slice p 0 c, .slice q 0 d] w fun e w' => e = .returned (.bool true) ∧ ∃ m, w' = w.drewN m := by
  go_enter Tryz.func19, Tryz.ntmps19
  go_wp2
  go_loop [5] (fun i => i = .int .i64 0) (fun _ => 0)
  case atStart => rfl
  case round =>
    subst hrel
    go_wp2
    go_ret
    exact ⟨rfl, 0, rfl⟩

set_option maxHeartbeats 1000000 in
theorem same_cells (g1 g2 o1 o2 n c d : Nat) (xs ys : List UInt8) (w : World) (hn : n ≤ 9223372036854775807)
    (h1 : ∀ j, j < n → w.cell? ⟨g1, o1 + j, none⟩ = some (U8 (xs.getD j 0))) (h2 : ∀ j, j < n → w.cell? ⟨g2, o2 + j, none⟩ = some (U8 (ys.getD j 0))) :
    Calls Tryz.prog 19 #[.slice (some ⟨g1, o1, none⟩) n c, .slice (some ⟨g2, o2, none⟩) n d] w fun e w' => e = .returned (.bool (decide (∀ j, j < n → xs.getD j 0 = ys.getD j 0))) ∧ ∃ m, w' = w.drewN m := by
  have H1 := Lib.hid h1; clear h1
  have H2 := Lib.hid h2; clear h2
  go_enter Tryz.func19, Tryz.ntmps19
  go_wp2
  go_loopw [5] (fun i wr => ∃ k : Nat, k ≤ n ∧ i = .int .i64 k ∧ (∀ j, j < k → xs.getD j 0 = ys.getD j 0) ∧ ∃ m, wr = w.drewN m) (fun i _ => n - (intOf i).toNat)
  case atStart => exact ⟨0, by omega, rfl, fun j hj => by omega, 0, rfl⟩
  case round =>
    obtain ⟨k, hk, rfl, hall, m, rfl⟩ := hrel
    have Ha := Lib.hid hall; clear hall
    by_cases hlt : k < n
    · have a1 := H1.out k hlt
      have a2 := H2.out k hlt
      have b0 : (0 : Int) ≤ (k : Int) := by omega
      have b1 : (k : Int) < (n : Int) := by omega
      by_cases he : xs.getD k 0 = ys.getD k 0
      · have Hs : Hid (∀ j, j < k + 1 → xs.getD j 0 = ys.getD j 0) := Lib.hid (fun j hj => by
          by_cases e : j = k
          · rw [e]; exact he
          · exact Ha.out j (by omega))
        rw [← he] at a2
        clear he
        generalize xs.getD k 0 = x at a1 a2
        unfold U8 at a1 a2
        go_wp2_with fail
        go_quiet (fail)
        go_wp2
        go_roundw
        case rel => exact ⟨k + 1, by omega, by go_num, Hs.out, _, rfl⟩
        case measure => simp [intOf]; omega
      · have hF : Hid (decide (∀ j, j < n → xs.getD j 0 = ys.getD j 0) = false) := Lib.hid (by simp only [decide_eq_false_iff_not]; exact fun h => he (h k hlt))
        generalize hx : xs.getD k 0 = x at a1 he
        generalize hy : ys.getD k 0 = y at a2 he
        clear hx hy
        have hne : x.toNat ≠ y.toNat := fun e => he (UInt8.toNat_inj.1 e)
        have he' : ((x.toNat : Int) != (y.toNat : Int)) = true := by simpa using (by omega : (x.toNat : Int) ≠ (y.toNat : Int))
        clear he hne
        unfold U8 at a1 a2
        go_wp2_with fail
        go_quiet (fail)
        go_wp2
        go_ret
        exact ⟨by rw [hF.out]; rfl, m + nq, World.drewN_drewN _ _ _⟩
    · have hT : Hid (decide (∀ j, j < n → xs.getD j 0 = ys.getD j 0) = true) := Lib.hid (by simp only [decide_eq_true_eq]; exact fun j hj => Ha.out j (by omega))
      go_wp2
      go_ret
      exact ⟨by rw [hT.out]; rfl, _, rfl⟩

theorem eq_of_getD {l m : List UInt8} (h : l.length = m.length) (hh : ∀ j, j < l.length → l.getD j 0 = m.getD j 0) : l = m := by
  apply List.ext_getElem h
  intro i h1 h2
  have := hh i h1
  simpa [h1, h2] using this

theorem same_any (w : World) (v u : Value) (l m : M.Bs) (h1 : ListAt U8 w v l) (h2 : ListAt U8 w u m) (hl : l.length ≤ 9223372036854775807) (hm : m.length ≤ 9223372036854775807) :
    Calls Tryz.prog 19 #[v, u] w fun e w' => e = .returned (.bool (decide (l = m))) ∧ ∃ q, w' = w.drewN q := by
  by_cases hlen : l.length = m.length
  · rcases h1 with ⟨c, rfl, rfl⟩ | ⟨g, o, c, rfl, _, _, hc⟩
    · have hm0 : m = [] := List.eq_nil_of_length_eq_zero hlen.symm
      subst hm0
      rcases h2 with ⟨d, rfl, _⟩ | ⟨g', o', d, rfl, _, _, hd⟩
      · exact (same_nil _ _ c d w).mono fun e w' h => ⟨by rw [h.1]; simp, h.2⟩
      · exact (same_nil _ _ c d w).mono fun e w' h => ⟨by rw [h.1]; simp, h.2⟩
    · rcases h2 with ⟨d, rfl, rfl⟩ | ⟨g', o', d, rfl, _, _, hd⟩
      · have hl0 : l = [] := List.eq_nil_of_length_eq_zero hlen
        subst hl0
        exact (same_nil _ _ c d w).mono fun e w' h => ⟨by rw [h.1]; simp, h.2⟩
      · have e1 : ∀ j, j < l.length → w.cell? ⟨g, o + j, none⟩ = some (U8 (l.getD j 0)) := fun j hj => hc j _ (by simp [hj])
        have e2 : ∀ j, j < l.length → w.cell? ⟨g', o' + j, none⟩ = some (U8 (m.getD j 0)) := fun j hj => hd j _ (by rw [hlen] at hj; simp [hj])
        rw [← hlen]
        refine (same_cells g g' o o' l.length c d l m w hl e1 e2).mono fun e w' h => ⟨?_, h.2⟩
        rw [h.1]
        congr 2
        rw [decide_eq_decide]
        exact ⟨eq_of_getD hlen, fun h j _ => by rw [h]⟩
  · have hF : decide (l = m) = false := by simp only [decide_eq_false_iff_not]; exact fun h => hlen (by rw [h])
    rw [hF]
    obtain ⟨p, c, rfl⟩ := h1.form
    obtain ⟨q, d, rfl⟩ := h2.form
    exact (same_ne p q _ _ c d w hlen hl hm).mono fun e w' h => ⟨h.1, 0, h.2⟩

def lowOf (x n : Int) : Int := IntKind.u64.wrap x % n

theorem lowOf_in (x n : Int) (h : 1 ≤ n) : 0 ≤ lowOf x n ∧ lowOf x n < n := by
  unfold lowOf
  exact ⟨Int.emod_nonneg _ (by omega), Int.emod_lt_of_pos _ (by omega)⟩

set_option maxHeartbeats 1000000 in
theorem low_any (x n : Int) (w : World) (h1 : 1 ≤ n) (h2 : n ≤ 9223372036854775807) :
    Calls Tryz.prog 20 #[.int .i64 x, .int .i64 n] w fun e w' => e = .returned (.int .i64 (lowOf x n)) ∧ w = w' := by
  have hw : 0 ≤ IntKind.u64.wrap x := by unfold IntKind.wrap; simp [IntKind.signed, IntKind.bits]; omega
  have hl := Lib.hid (lowOf_in x n h1)
  go_enter Tryz.func20, Tryz.ntmps20
  go_wp2
  go_ret
  have := hl.out
  unfold lowOf at this ⊢
  exact ⟨congrArg (fun z => Ending.returned (Value.int IntKind.i64 z)) (IntWalk.wrap64_in _ (by omega)), rfl⟩
end Go.Proofs.YtpfaccpmgldkeaaGreatDoor
