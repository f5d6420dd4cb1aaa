/- The walk of the statement TableFull: it returns true, and leaves all that was there as it was. -/
import Derived.Test.YtdngpndkhbjedaaD
namespace Go.Proofs.Ytdngpndkhbjedaa
open Go.RowKit

def fullT (k : Nat) : Tab := fun j => if j < k then ⟨(j : Int) + 1, 0, j, true⟩ else zeroSlot

theorem fullT_zero : fullT 0 = fun _ => zeroSlot := by funext j; simp [fullT]
theorem fullT_succ (k : Nat) : tset (fullT k) k ⟨(k : Int) + 1, 0, k, true⟩ = fullT (k + 1) := by
  funext j
  simp only [tset, fullT]
  by_cases h : j = k
  · subst h; simp
  · rw [if_neg h]
    by_cases h2 : j < k
    · rw [if_pos h2, if_pos (by omega)]
    · rw [if_neg h2, if_neg (by omega)]
theorem fullT_open {k j : Nat} (h : j < k) : (fullT k j).opn = true := by simp [fullT, h]
theorem fullT_shut {k j : Nat} (h : ¬ j < k) : (fullT k j).opn = false := by simp [fullT, h, zeroSlot]

theorem one_below {W w w' : World} {b : Nat} (hb : Below W.heap.size W w) (h : Tch (One b) w w') (hlt : W.heap.size ≤ b) : Below W.heap.size W w' :=
  hb.trans (h.below hb.size (fun k hk hs => by unfold One at hs; omega))

/-- The open of a table whose first free slot is k. -/
theorem open_at {w : World} {b : Nat} {t : Tab} {node flags : Int} (k : Nat) (h : TabAt w b t) (hk : k < 16) (hf : (t k).opn = false) (hm : ∀ j, j < k → (t j).opn = true) :
    Calls Try.prog 8 #[.pointer (some ⟨b, 0, none⟩), .int .i64 node, .int .i64 flags] w fun e w' => e = .returned (.tuple #[.int .i64 k, .int .i64 0]) ∧ Tch (One b) w w' ∧ TabAt w' b (tset t k ⟨node, 0, flags, true⟩) := by
  refine (open_any w b t node flags h).mono ?_
  rintro e w' ⟨ht, ⟨k', hk', rfl, hf', hm', htab⟩ | ⟨_, hfull, _⟩⟩
  · have : k' = k := by
      rcases Nat.lt_trichotomy k' k with h | h | h
      · have := hm k' h; rw [hf'] at this; cases this
      · exact h
      · have := hm' k h; rw [hf] at this; cases this
    subst this
    exact ⟨rfl, ht, htab⟩
  · have := hfull k hk; rw [hf] at this; cases this

theorem open_full {w : World} {b : Nat} {t : Tab} {node flags : Int} (h : TabAt w b t) (hm : ∀ j, j < 16 → (t j).opn = true) :
    Calls Try.prog 8 #[.pointer (some ⟨b, 0, none⟩), .int .i64 node, .int .i64 flags] w fun e w' => e = .returned (.tuple #[.int .i64 0, .int .i64 14]) ∧ Tch (One b) w w' ∧ TabAt w' b t := by
  refine (open_any w b t node flags h).mono ?_
  rintro e w' ⟨ht, ⟨k', hk', rfl, hf', hm', htab⟩ | ⟨he, hfull, htab⟩⟩
  · have := hm k' hk'; rw [hf'] at this; cases this
  · exact ⟨he, ht, htab⟩

theorem close_at {w : World} {b : Nat} {t : Tab} (k : Nat) (h : TabAt w b t) (hk : k < 16) (hf : (t k).opn = true) :
    Calls Try.prog 10 #[.pointer (some ⟨b, 0, none⟩), .int .i64 k] w fun e w' => e = .returned (.tuple #[.int .i64 (t k).node, .int .i64 0]) ∧ Tch (One b) w w' ∧ TabAt w' b (tset t k zeroSlot) := by
  refine (close_any w b t k h).mono ?_
  rintro e w' ⟨ht, ⟨k', hk', hkk, ho, rfl, htab⟩ | ⟨hno, _⟩⟩
  · have : k' = k := by omega
    subst this
    exact ⟨rfl, ht, htab⟩
  · exact (hno ⟨by omega, by omega, by rw [Int.toNat_natCast]; exact hf⟩).elim

theorem low_nat (x : Int) (n : Nat) (w : World) (h1 : 1 ≤ n) (h2 : n ≤ 9223372036854775807) :
    ∃ m : Nat, m < n ∧ lowOf x n = m := by
  have := lowOf_in x n (by omega)
  exact ⟨(lowOf x n).toNat, by omega, by omega⟩

set_option maxHeartbeats 4000000 in
theorem full_walk (which : Int) (w : World) :
    Calls Try.prog 4 #[.int .i64 which] w fun e w' => e = .returned (.bool true) ∧ Below w.heap.size w w' := by
  obtain ⟨m, hm, hlow⟩ := low_nat which 16 w (by omega) (by omega)
  have hl : ∀ wx, Calls Try.prog 22 #[.int .i64 which, .int .i64 16] wx fun e w' => e = .returned (.int .i64 (m : Int)) ∧ w' = wx := fun wx => by
    have := low_any which 16 wx (by omega) (by omega)
    rw [show lowOf which 16 = (m : Int) from hlow] at this
    exact this
  have HL := Lib.hid hl; clear hl hlow
  go_enter Try.func4, Try.ntmps4
  go_wp2_with fail
  refine (new_any _).mono ?_
  rintro e w1 ⟨rfl, ht, hb⟩
  rw [← fullT_zero] at ht
  have H := Lib.hid ht; clear ht
  have B1 := Lib.hid hb; clear hb
  go_wp2_with fail
  go_loopw [4] (fun i wr => ∃ k : Nat, k ≤ 16 ∧ i = .int .i64 k ∧ TabAt wr w.heap.size (fullT k) ∧ Below w.heap.size w wr) (fun i _ => 16 - (intOf i).toNat)
  case atStart => exact ⟨0, by omega, rfl, H.out, B1.out⟩
  case round =>
    clear H B1
    obtain ⟨k, hk, rfl, htab, hbel⟩ := hrel
    have H := Lib.hid htab; clear htab
    have B1 := Lib.hid hbel; clear hbel
    by_cases hlt : k < 16
    · go_wp2_with fail
      refine (open_at k H.out hlt (fullT_shut (by omega)) (fun j hj => fullT_open hj)).mono ?_
      rintro e w2 ⟨rfl, ht, htab⟩
      rw [fullT_succ] at htab
      have H2 := Lib.hid htab; clear htab
      have B2 := Lib.hid (one_below B1.out ht (Nat.le_refl _)); clear ht
      go_wp2
      go_roundw
      case rel => exact ⟨k + 1, by omega, by go_num, H2.out, B2.out⟩
      case measure => simp [intOf]; omega
    · have : k = 16 := by omega
      subst this
      clear hlt hk
      go_wp2_with fail
      refine (open_full H.out (fun j hj => fullT_open hj)).mono ?_
      rintro e w2 ⟨rfl, ht, htab⟩
      have H2 := Lib.hid htab; clear htab
      have B2 := Lib.hid (one_below B1.out ht (Nat.le_refl _)); clear ht
      go_wp2_with fail
      refine (HL.out _).mono ?_
      rintro e w2x ⟨rfl, rfl⟩
      go_wp2_with fail
      refine (close_at m H2.out hm (fullT_open hm)).mono ?_
      rintro e w3 ⟨rfl, ht, htab⟩
      have H3 := Lib.hid htab; clear htab
      have B3 := Lib.hid (one_below B2.out ht (Nat.le_refl _)); clear ht
      have hn : (fullT 16 m).node = (m : Int) + 1 := by simp [fullT, hm]
      rw [hn]
      clear hn
      go_wp2_with fail
      refine (open_at m H3.out hm (by simp [tset, zeroSlot]) (fun j hj => by simp [tset, Nat.ne_of_lt hj, fullT, show j < 16 by omega])).mono ?_
      rintro e w4 ⟨rfl, ht, htab⟩
      rw [tset_tset] at htab
      have H4 := Lib.hid htab; clear htab
      have B4 := Lib.hid (one_below B3.out ht (Nat.le_refl _)); clear ht
      go_wp2_with fail
      refine (open_nil _ _ _).mono ?_
      rintro e w4x ⟨rfl, rfl⟩
      go_wp2_with fail
      refine (get_nil _ _).mono ?_
      rintro e w5 ⟨rfl, hb⟩
      have H5 := Lib.hid (H4.out.below hb H4.out.lt)
      have B5 := Lib.hid (B4.out.trans (hb.mono B4.out.size)); clear hb
      have h99 : holdsB (tset (fullT 16) m ⟨99, 0, 0, true⟩) 99 = true := holdsB_yes hm (by simp [HoldsB, tset])
      have hno : holdsB (tset (fullT 16) m ⟨99, 0, 0, true⟩) ((m : Int) + 1) = false := holdsB_no fun j hj => by
        by_cases e : j = m
        · simp [HoldsB, tset, e]; omega
        · simp [HoldsB, tset, e, fullT, hj]; omega
      have Hno := Lib.hid hno; clear hno
      have H99 := Lib.hid h99; clear h99
      go_wp2_with fail
      refine (holds_any _ _ _ ((m : Int) + 1) (H5.out.below ((Below.refl w5.heap.size _).alloc (Nat.le_refl _) _) H5.out.lt)).mono ?_
      rintro e w6 ⟨rfl, hb⟩
      have H6 := Lib.hid ((H5.out.below ((Below.refl w5.heap.size _).alloc (Nat.le_refl _) (.cells #[.int .i64 0, .int .i64 0, .int .i64 0] 40)) H5.out.lt).below hb (by have := H5.out.lt; simp; omega))
      have B6 := Lib.hid ((B5.out.alloc B5.out.size _).trans (hb.mono (by have := B5.out.size; simp; omega)))
      clear hb
      rw [Hno.out]
      go_wp2_with fail
      refine (holds_any _ _ _ 99 H6.out).mono ?_
      rintro e w7 ⟨rfl, hb⟩
      have B7 := Lib.hid (B6.out.trans (hb.mono B6.out.size)); clear hb
      rw [H99.out]
      go_wp2_with fail
      refine (nil3 _ _ _).mono ?_
      rintro e w7x ⟨rfl, rfl⟩
      go_wp2_with fail
      refine (holds_nil _ _).mono ?_
      rintro e w8 ⟨rfl, hb⟩
      have B8 := Lib.hid (B7.out.trans (hb.mono B7.out.size)); clear hb
      go_wp2_with fail
      refine (list_nil _).mono ?_
      rintro e w8x ⟨rfl, rfl⟩
      go_wp2_with fail
      refine (awake_any _).mono ?_
      rintro e w9 ⟨rfl, hb⟩
      have B9 := Lib.hid (B8.out.trans (hb.mono B8.out.size)); clear hb
      go_wp2
      go_ret
      exact ⟨rfl, B9.out⟩

end Go.Proofs.Ytdngpndkhbjedaa
