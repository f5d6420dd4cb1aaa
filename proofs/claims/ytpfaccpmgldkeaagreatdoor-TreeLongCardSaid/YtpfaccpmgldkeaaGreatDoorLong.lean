/- TreeLong: its walk. -/
import Derived.Test.YtpfaccpmgldkeaaGreatDoorAwk
import Derived.Test.YtpfaccpmgldkeaaGreatDoorHelp
import Derived.Test.YtpfaccpmgldkeaaGreatDoorLongp
import Derived.BigQuiet
import Derived.Deep.RegionHeld3
set_option linter.unusedVariables false
set_option linter.unusedSimpArgs false
namespace Go.Proofs.YtpfaccpmgldkeaaGreatDoor
open Go.RowKit Go.MapKept Go.ChangeMaps
set_option maxRecDepth 100000

theorem pathN_eq (g : Nat) : (⟨#[47, 108]⟩ : ByteArray) ++ ⟨(seg g).toArray⟩ = ⟨(pathN g).toArray⟩ := bytes_append [47, 108] (seg g)

set_option maxHeartbeats 16000000 in
theorem long_walk (a0 : Int) (a1 : Bool) (w : World) (hm : GMax w) : Calls Tryz.prog 8 #[.int .i64 a0, .bool a1] w fun e w' => e = .returned (.bool true) ∧ Below w.heap.size w w' := by
  have l0 := lowOf_in a0 24 (by decide)
  have h0 := fun w => low_any a0 24 w (by decide) (by decide)
  obtain ⟨q, hq0⟩ : ∃ q : Nat, lowOf a0 24 = q := ⟨(lowOf a0 24).toNat, by omega⟩
  rw [hq0] at h0 l0
  have q24 : q < 24 := by omega
  have HM := Lib.hid hm; clear hm
  have HLO0 := Lib.hid h0; clear h0
  clear l0 hq0
  have HNEW := Lib.hid (liv_new (Below.refl w.heap.size w) HM.out)
  go_enter Tryz.func8, Tryz.ntmps8
  go_wp2_with fail
  (with_reducible refine (HLO0.out _).mono ?_)
  rintro e w' ⟨rfl, rfl⟩
  go_wp2_with fail
  (with_reducible refine HNEW.out.mono ?_)
  rintro e w1 ⟨tb, L, rfl, hl, -, -⟩
  have HL0 := Lib.hid hl; clear hl
  go_wp2_with fail
  go_loopw [6, 7] (fun tv i wr => ∃ (k : Nat), k ≤ q + 1 ∧ i = .int .i64 k ∧ tv = S (seg k) ∧ Liv w wr tb L 0 M.new) (fun _ i _ => q + 1 - (intOf i).toNat)
  case atStart => exact ⟨0, by omega, rfl, rfl, HL0.out⟩
  case round =>
    clear HL0
    obtain ⟨k, hk, rfl, rfl, hl⟩ := hrel
    have HL0 := Lib.hid hl; clear hl
    by_cases hlt : k < q + 1
    · have hlt' : (k : Int) < 1 + (q : Int) := by omega
      have hsz : (⟨(seg k).toArray⟩ : ByteArray).size = k + 1 := by rw [size_bs]; simp [seg]
      have hadd := fun w => run_string_add_sum (P := Tryz.prog) w ⟨(seg k).toArray⟩ ⟨#[120]⟩ (by rw [hsz]; show k + 1 + 1 ≤ _; omega)
      go_wp2_with fail
      go_roundw
      case rel => exact ⟨k + 1, by omega, by go_num, by rw [← seg_succ]; exact congrArg Value.string (bytes_append (seg k) [120]), by first | exact HL0.out | exact HL0.out.keep (Below.refl _ _).drew⟩
      case measure => simp [intOf]; omega
    · obtain rfl : k = q + 1 := by omega
      clear hk hlt
      have hge : ¬ ((q : Int) + 1 < 1 + (q : Int)) := by omega
      go_wp2_with fail
      have HD0 := Lib.hid (show Liv w wr tb L (2 * ((0 : Nat) : Int)) (stG (q + 1) 0) from HL0.out); clear HL0
      go_loopw [8, 9, 10] (fun pv dv iv wr => ∃ (k : Nat) (L : Lay), k ≤ dG (q + 1) ∧ pv = S (ppL (q + 1) k) ∧ dv = .int .i64 k ∧ iv = .int .i64 k ∧ Liv w wr tb L (2 * (k : Int)) (stG (q + 1) k)) (fun _ _ i _ => 22 - (intOf i).toNat)
      case atStart => exact ⟨0, L, by omega, rfl, rfl, rfl, HD0.out⟩
      case round =>
        clear HD0
        obtain ⟨k, L2, hk, rfl, rfl, rfl, hl⟩ := hrel
        have HL := Lib.hid hl; clear hl
        rename_i wo _
        have hd20 : dG (q + 1) ≤ 20 := Nat.min_le_left _ _
        have hplen := lenP (q + 1) k
        obtain ⟨pl, hpl⟩ : ∃ pl, pl = k * (q + 1 + 1) := ⟨_, rfl⟩
        have hfit := dG_fits hk
        rw [← hpl] at hplen hfit
        clear hpl
        have HFIT := Lib.hid hfit; clear hfit
        have hpl2 : pl ≤ 600 := by
          by_cases h0 : k < dG (q + 1)
          · have := (HFIT.out.1 h0).2; omega
          · rw [← hplen, lenP]
            have h1 : k ≤ 20 := by omega
            have h2 : q + 1 + 1 ≤ 25 := by omega
            exact Nat.le_trans (Nat.mul_le_mul h1 h2) (by decide)
        have hsz1 : (⟨(ppL (q + 1) k).toArray⟩ : ByteArray).size = pl := by rw [size_bs, hplen]
        have hsz2 : (⟨(seg (q + 1)).toArray⟩ : ByteArray).size = q + 1 + 1 := by rw [size_bs]; simp [seg]
        have hadd := fun w => run_string_add_sum (P := Tryz.prog) w ⟨(ppL (q + 1) k).toArray⟩ ⟨(seg (q + 1)).toArray⟩ (by rw [hsz1, hsz2]; show pl + (q + 1 + 1) ≤ _; omega)
        have k22 : (k : Int) < 22 := by omega
        go_wp2_with fail
        rw [bytes_append]
        have hx := HL.out.call (by omega) (opM (q + 1) k) none 0 0 (fun h => by rcases h with h | h <;> exact absurd (show (9 : Int) = _ from h) (by decide)) (fun h => absurd (show (9 : Int) = 15 from h) (by decide)) (by show (ppL (q + 1) k ++ seg (q + 1)).length ≤ _; rw [List.length_append, hplen]; simp [seg]; omega) (by show (0 : Nat) ≤ _; omega) (by show (0 : Nat) ≤ _; omega) (listAt_nil _ _) (fun b h => by cases h)
        have hcode := okM q24 hk
        obtain ⟨A1, hA⟩ : ∃ A1, A1 = ((stG (q + 1) k).doS (opM (q + 1) k)).1 := ⟨_, rfl⟩
        have hR : (stG (q + 1) k).doS (opM (q + 1) k) = (A1, stG (q + 1) (k + 1)) := by rw [hA]; rfl
        rw [← hA] at hcode
        rw [hR] at hx
        clear hA hR
        have HT := Lib.hid hcode; clear hcode
        have HC := Lib.hid (show Calls Tryz.prog 17 #[Pt tb, .agg #[.int .i64 9, .int .i64 0, .int .i64 0, .int .i64 0, .int .i64 0, .string ⟨(ppL (q + 1) k ++ seg (q + 1)).toArray⟩, .string ⟨#[]⟩, .slice none 0 0]] _ _ from hx); clear hx
        (with_reducible refine HC.out.mono ?_)
        rintro e v1 ⟨p1, n1, c1, q1, m1, d1, L1, rfl, hd⟩
        have HD1 := Lib.hid hd; clear hd HC HL
        unfold M.Ans.val
        have hc1 := (ans_new v1 A1 (.slice p1 n1 c1) (.slice q1 m1 d1)).cells
        have HL1 := Lib.hid (HD1.out.liv.keep ((Below.refl _ _).alloc (Nat.le_refl _) (.cells #[I A1.code, I A1.n, I A1.kind, I A1.links, .slice p1 n1 c1, .slice q1 m1 d1] 29)))
        clear HD1
        obtain ⟨x1, -, -, -, -, -, f1, l1⟩ := hc1
        by_cases hf : k < dG (q + 1)
        · obtain ⟨k20, kf⟩ := HFIT.out.1 hf
          have k20' : (k : Int) < 20 := by omega
          have kf' : (pl : Int) + ((q : Int) + 1 + 1) ≤ 200 := by omega
          replace x1 := x1.trans (by rw [HT.out, if_pos hf] : some (I A1.code) = some (I 0))
          clear HT
          go_wp2_with fail
          go_roundw
          case rel => exact ⟨k + 1, L1, by omega, rfl, by go_num, by go_num, by rw [show (2 * ((k + 1 : Nat) : Int)) = 2 * (k : Int) + 2 by omega]; exact HL1.out⟩
          case measure => simp [intOf]; omega
        · obtain rfl : k = dG (q + 1) := by omega
          have hno : ¬ (dG (q + 1) < 20 ∧ pl + (q + 1 + 1) ≤ 200) := fun h => hf (HFIT.out.2 h)
          replace x1 := x1.trans (by rw [HT.out, if_neg hf] : some (I A1.code) = some (I 11))
          clear HT
          have hd1 := dG_pos q24
          have hS := okS q24
          have hL := okL q24
          by_cases k20 : dG (q + 1) < 20
          · have k20' : (dG (q + 1) : Int) < 20 := by omega
            have kf0 : ¬ (pl + (q + 1 + 1) ≤ 200) := fun h => hno ⟨k20, h⟩
            have kf : decide ((pl : Int) + ((q : Int) + 1 + 1) ≤ 200) = false := decide_eq_false (by omega)
            have hc' : decide ((pl : Int) ≤ 100) = false := decide_eq_false (by omega)
            cases a1 with
            | false =>
              have HNODES := Lib.hid (Nodes_any _ tb L1 _ _ HL1.out.tree HL1.out.inv (by omega))
              have hge1 : (1 : Int) ≤ (dG (q + 1) : Int) := by omega
              go_wp2_with fail
              (with_reducible refine HNODES.out.mono ?_)
              rintro e W7 ⟨vv, ll, rfl, hr, -, hp, -, hb7⟩
              have hl3 : dG (q + 1) ≤ ll.length := by have := hp.length_eq; rw [List.length_map] at this; have := hS; omega
              obtain ⟨pp, cc, rfl, -⟩ := row_form hr
              have HL7 := Lib.hid (HL1.out.keep hb7)
              have HAWK := Lib.hid (awake_any _ HL7.out.gmax)
              have hge2 : ((dG (q + 1) : Nat) : Int) ≤ (ll.length : Int) := by omega
              clear hr hp hb7 HNODES
              go_wp2_with fail
              (with_reducible refine HAWK.out.mono ?_)
              rintro e w9 ⟨rfl, hb9⟩
              have HB9 := Lib.hid (HL7.out.below.trans (hb9.mono HL7.out.below.size)); clear hb9
              go_wp2_with fail
              go_ret
              exact ⟨rfl, HB9.out⟩
            | true =>
              have HNODES := Lib.hid (Nodes_any _ tb L1 _ _ HL1.out.tree HL1.out.inv (by omega))
              have hge1 : (1 : Int) ≤ (dG (q + 1) : Int) := by omega
              go_wp2_with fail
              (with_reducible refine HNODES.out.mono ?_)
              rintro e W7 ⟨vv, ll, rfl, hr, -, hp, -, hb7⟩
              have hl3 : dG (q + 1) ≤ ll.length := by have := hp.length_eq; rw [List.length_map] at this; have := hS; omega
              obtain ⟨pp, cc, rfl, -⟩ := row_form hr
              have HL7 := Lib.hid (HL1.out.keep hb7)
              have HAWK := Lib.hid (awake_any _ HL7.out.gmax)
              have hge2 : ((dG (q + 1) : Nat) : Int) ≤ (ll.length : Int) := by omega
              clear hr hp hb7 HNODES
              go_wp2_with fail
              (with_reducible refine HAWK.out.mono ?_)
              rintro e w9 ⟨rfl, hb9⟩
              have HB9 := Lib.hid (HL7.out.below.trans (hb9.mono HL7.out.below.size)); clear hb9
              go_wp2_with fail
              go_ret
              exact ⟨rfl, HB9.out⟩
          · have k20' : decide ((dG (q + 1) : Int) < 20) = false := decide_eq_false (by omega)
            clear hno
            by_cases ha1 : a1 = false
            · subst ha1
              have HNODES := Lib.hid (Nodes_any _ tb L1 _ _ HL1.out.tree HL1.out.inv (by omega))
              have hge1 : (1 : Int) ≤ (dG (q + 1) : Int) := by omega
              go_wp2_with fail
              (with_reducible refine HNODES.out.mono ?_)
              rintro e W7 ⟨vv, ll, rfl, hr, -, hp, -, hb7⟩
              have hl3 : dG (q + 1) ≤ ll.length := by have := hp.length_eq; rw [List.length_map] at this; have := hS; omega
              obtain ⟨pp, cc, rfl, -⟩ := row_form hr
              have HL7 := Lib.hid (HL1.out.keep hb7)
              have HAWK := Lib.hid (awake_any _ HL7.out.gmax)
              have hge2 : ((dG (q + 1) : Nat) : Int) ≤ (ll.length : Int) := by omega
              clear hr hp hb7 HNODES
              go_wp2_with fail
              (with_reducible refine HAWK.out.mono ?_)
              rintro e w9 ⟨rfl, hb9⟩
              have HB9 := Lib.hid (HL7.out.below.trans (hb9.mono HL7.out.below.size)); clear hb9
              go_wp2_with fail
              go_ret
              exact ⟨rfl, HB9.out⟩
            · obtain rfl : a1 = true := by simpa using ha1
              clear ha1
              by_cases hc : pl ≤ 100
              · have hc' : (pl : Int) ≤ 100 := by omega
                obtain ⟨hl1, hl2⟩ := hL (by rw [hplen]; exact hc)
                clear hL hS
                have HL2B := Lib.hid hl2; clear hl2
                have HL1B := Lib.hid hl1; clear hl1
                go_wp2_with fail
                have hl1 := HL1B.out; clear HL1B
                have hx := HL1.out.call (by omega) (opL (q + 1)) none 0 0 (fun h => by rcases h with h | h <;> exact absurd (show (13 : Int) = _ from h) (by decide)) (fun h => absurd (show (13 : Int) = 15 from h) (by decide)) (by show (ppL (q + 1) (dG (q + 1))).length ≤ _; rw [hplen]; omega) (by show (2 : Nat) ≤ _; omega) (by show (0 : Nat) ≤ _; omega) (listAt_nil _ _) (fun b h => by cases h)
                obtain ⟨A2, hA⟩ : ∃ A2, A2 = ((stG (q + 1) (dG (q + 1) + 1)).doS (opL (q + 1))).1 := ⟨_, rfl⟩
                have hR : (stG (q + 1) (dG (q + 1) + 1)).doS (opL (q + 1)) = (A2, stH (q + 1)) := Prod.ext hA.symm (by unfold stH; exact Eq.refl _)
                rw [← hA] at hl1
                rw [hR] at hx
                clear hA hR
                have HX1 := Lib.hid hl1; clear hl1
                have HC := Lib.hid (show Calls Tryz.prog 17 #[Pt tb, .agg #[.int .i64 13, .int .i64 0, .int .i64 0, .int .i64 0, .int .i64 0, .string ⟨(ppL (q + 1) (dG (q + 1))).toArray⟩, .string ⟨#[47, 108]⟩, .slice none 0 0]] _ _ from hx); clear hx
                (with_reducible refine HC.out.mono ?_)
                rintro e v2 ⟨p2, n2, c2, q2, m2, d2, L3, rfl, hd⟩
                have HL3 := Lib.hid (show Liv w v2 tb L3 _ (stH (q + 1)) from hd.liv); clear hd HC HL1 x1
                unfold M.Ans.val
                have hf0 := fun (a b c d e f : Value) (w : World) => ans_f0 a b c d e f w
                by_cases hz : A2.code = 0
                · have hcode := HX1.out hz
                  have hadd2 := fun w => run_string_add_sum (P := Tryz.prog) w ⟨#[47, 108]⟩ ⟨(seg (q + 1)).toArray⟩ (by rw [hsz2]; show 2 + (q + 1 + 1) ≤ _; omega)
                  go_wp2_with fail
                  rw [pathN_eq]
                  have hx := HL3.out.call (by omega) (opN (q + 1)) none 0 0 (fun h => by rcases h with h | h <;> exact absurd (show (9 : Int) = _ from h) (by decide)) (fun h => absurd (show (9 : Int) = 15 from h) (by decide)) (by show (pathN (q + 1)).length ≤ _; simp [pathN, seg]; omega) (by show (0 : Nat) ≤ _; omega) (by show (0 : Nat) ≤ _; omega) (listAt_nil _ _) (fun b h => by cases h)
                  obtain ⟨A3, hA⟩ : ∃ A3, A3 = ((stH (q + 1)).doS (opN (q + 1))).1 := ⟨_, rfl⟩
                  have hR : (stH (q + 1)).doS (opN (q + 1)) = (A3, ((stH (q + 1)).doS (opN (q + 1))).2) := Prod.ext hA.symm (Eq.refl _)
                  rw [← hA] at hcode
                  rw [hR] at hx
                  clear hA hR
                  have HC := Lib.hid (show Calls Tryz.prog 17 #[Pt tb, .agg #[.int .i64 9, .int .i64 0, .int .i64 0, .int .i64 0, .int .i64 0, .string ⟨(pathN (q + 1)).toArray⟩, .string ⟨#[]⟩, .slice none 0 0]] _ _ from hx); clear hx
                  (with_reducible refine HC.out.mono ?_)
                  rintro e v3 ⟨p3, n3, c3, q3, m3, d3, L4, rfl, hd⟩
                  have HD3 := Lib.hid hd; clear hd HC
                  unfold M.Ans.val
                  have hc3 := (ans_new v3 A3 (.slice p3 n3 c3) (.slice q3 m3 d3)).cells
                  have HL4 := Lib.hid (HD3.out.liv.keep ((Below.refl _ _).alloc (Nat.le_refl _) (.cells #[I A3.code, I A3.n, I A3.kind, I A3.links, .slice p3 n3 c3, .slice q3 m3 d3] 29)))
                  clear HD3 HL3
                  obtain ⟨x3, -, -, -, -, -, f3, l3⟩ := hc3
                  replace x3 := x3.trans (by rw [hcode] : some (I A3.code) = some (I 11))
                  clear hcode hz
                  have HAWK := Lib.hid (awake_any _ HL4.out.gmax)
                  go_wp2_with fail
                  (with_reducible refine HAWK.out.mono ?_)
                  rintro e w9 ⟨rfl, hb9⟩
                  have HB9 := Lib.hid (HL4.out.below.trans (hb9.mono HL4.out.below.size)); clear hb9
                  go_wp2_with fail
                  go_ret
                  exact ⟨rfl, HB9.out⟩
                · clear HX1
                  have HNODES := Lib.hid (Nodes_any _ tb L3 _ _ HL3.out.tree HL3.out.inv (by omega))
                  have hge1 : (1 : Int) ≤ (dG (q + 1) : Int) := by omega
                  go_wp2_with fail
                  (with_reducible refine HNODES.out.mono ?_)
                  rintro e W7 ⟨vv, ll, rfl, hr, -, hp, -, hb7⟩
                  have hl3 : dG (q + 1) ≤ ll.length := by have := hp.length_eq; rw [List.length_map] at this; have := HL2B.out; omega
                  obtain ⟨pp, cc, rfl, -⟩ := row_form hr
                  have HL7 := Lib.hid (HL3.out.keep hb7)
                  have HAWK := Lib.hid (awake_any _ HL7.out.gmax)
                  have hge2 : ((dG (q + 1) : Nat) : Int) ≤ (ll.length : Int) := by omega
                  clear hr hp hb7 HNODES
                  go_wp2_with fail
                  (with_reducible refine HAWK.out.mono ?_)
                  rintro e w9 ⟨rfl, hb9⟩
                  have HB9 := Lib.hid (HL7.out.below.trans (hb9.mono HL7.out.below.size)); clear hb9
                  go_wp2_with fail
                  go_ret
                  exact ⟨rfl, HB9.out⟩
              · have hc' : decide ((pl : Int) ≤ 100) = false := decide_eq_false (by omega)
                have HNODES := Lib.hid (Nodes_any _ tb L1 _ _ HL1.out.tree HL1.out.inv (by omega))
                have hge1 : (1 : Int) ≤ (dG (q + 1) : Int) := by omega
                go_wp2_with fail
                (with_reducible refine HNODES.out.mono ?_)
                rintro e W7 ⟨vv, ll, rfl, hr, -, hp, -, hb7⟩
                have hl3 : dG (q + 1) ≤ ll.length := by have := hp.length_eq; rw [List.length_map] at this; have := hS; omega
                obtain ⟨pp, cc, rfl, -⟩ := row_form hr
                have HL7 := Lib.hid (HL1.out.keep hb7)
                have HAWK := Lib.hid (awake_any _ HL7.out.gmax)
                have hge2 : ((dG (q + 1) : Nat) : Int) ≤ (ll.length : Int) := by omega
                clear hr hp hb7 HNODES
                go_wp2_with fail
                (with_reducible refine HAWK.out.mono ?_)
                rintro e w9 ⟨rfl, hb9⟩
                have HB9 := Lib.hid (HL7.out.below.trans (hb9.mono HL7.out.below.size)); clear hb9
                go_wp2_with fail
                go_ret
                exact ⟨rfl, HB9.out⟩
end Go.Proofs.YtpfaccpmgldkeaaGreatDoor
