/- TreeLoops: its walk. -/
import Derived.Test.YtpfaccpmgldkeaaGreatDoorAwk
import Derived.Test.YtpfaccpmgldkeaaGreatDoorHelp
import Derived.BigQuiet
import Derived.Deep.RegionHeld3
set_option linter.unusedVariables false
set_option linter.unusedSimpArgs false
namespace Go.Proofs.YtpfaccpmgldkeaaGreatDoor
open Go.RowKit Go.MapKept Go.ChangeMaps
set_option maxRecDepth 100000

def nm (i : Nat) : M.Bs := [UInt8.ofNat (97 + i)]
def toA : Nat → M.Bs
  | 0 => [47, 101, 110, 100]
  | i + 1 => 47 :: nm i
def opE : M.Op := { kind := 9, path := [47, 101, 110, 100] }
def opA (i : Nat) : M.Op := { kind := 13, path := toA i, «to» := 47 :: nm i }
def opT (p : M.Bs) : M.Op := { kind := 16, path := p }
def opB (r j : Nat) : M.Op := { kind := 13, path := 114 :: nm ((j + 1) % r), «to» := 47 :: 114 :: nm j }
def opC : M.Op := { kind := 16, path := [47, 114, 97] }
def opD : M.Op := { kind := 17, path := [47, 114, 97] }
def stA : Nat → M.St
  | 0 => (M.new.doS opE).2
  | i + 1 => ((stA i).doS (opA i)).2
def stS (m : Nat) : M.St := ((stA m).doS (opT (toA m))).2
def stB (m r : Nat) : Nat → M.St
  | 0 => stS m
  | j + 1 => ((stB m r j).doS (opB r j)).2
def stC (m r : Nat) : M.St := ((stB m r r).doS opC).2

theorem okE : (M.new.doS opE).1.code = 0 := by rfl
theorem okA0 : ((List.range 12).all fun i => ((stA i).doS (opA i)).1.code == 0) = true := by kernel_rfl
theorem okA {i : Nat} (h : i < 12) : ((stA i).doS (opA i)).1.code = 0 := by
  have := List.all_eq_true.1 okA0 i (List.mem_range.2 h)
  simpa using this
theorem okT0 : ((List.range 13).all fun m => ((stA m).doS (opT (toA m))).1.code == (if m ≤ 8 then 0 else 12)) = true := by kernel_rfl
theorem okT {m : Nat} (h : m < 13) : ((stA m).doS (opT (toA m))).1.code = if m ≤ 8 then 0 else 12 := by
  have := List.all_eq_true.1 okT0 m (List.mem_range.2 h)
  simpa using this
theorem okB0 : ((List.range 13).all fun m => (List.range 5).all fun r => (List.range r).all fun j => ((stB m r j).doS (opB r j)).1.code == 0) = true := by kernel_rfl
theorem okB {m r j : Nat} (h : m < 13) (h2 : r < 5) (h3 : j < r) : ((stB m r j).doS (opB r j)).1.code = 0 := by
  have := List.all_eq_true.1 (List.all_eq_true.1 (List.all_eq_true.1 okB0 m (List.mem_range.2 h)) r (List.mem_range.2 h2)) j (List.mem_range.2 h3)
  simpa using this
theorem okC0 : ((List.range 13).all fun m => (List.range 5).all fun r => r == 0 || (((stB m r r).doS opC).1.code == 12 && ((stC m r).doS opD).1.kind == 3)) = true := by kernel_rfl
theorem okC {m r : Nat} (h : m < 13) (h2 : r < 5) (h3 : 0 < r) : ((stB m r r).doS opC).1.code = 12 ∧ ((stC m r).doS opD).1.kind = 3 := by
  have := List.all_eq_true.1 (List.all_eq_true.1 okC0 m (List.mem_range.2 h)) r (List.mem_range.2 h2)
  have h4 : (r == 0) = false := by simpa using (by omega : r ≠ 0)
  rw [h4] at this
  simpa using this

theorem nameA : ∀ i, i < 16 → (({ data := #[47] } : ByteArray) ++ (({ data := #[97, 98, 99, 100, 101, 102, 103, 104, 105, 106, 107, 108, 109, 110, 111, 112] } : ByteArray).extract i (i + 1))) = { data := (47 :: nm i).toArray } := by decide
theorem nameB : ∀ i, i < 16 → (({ data := #[47, 114] } : ByteArray) ++ (({ data := #[97, 98, 99, 100, 101, 102, 103, 104, 105, 106, 107, 108, 109, 110, 111, 112] } : ByteArray).extract i (i + 1))) = { data := (47 :: 114 :: nm i).toArray } := by decide
theorem nameC : ∀ i, i < 16 → (({ data := #[114] } : ByteArray) ++ (({ data := #[97, 98, 99, 100, 101, 102, 103, 104, 105, 106, 107, 108, 109, 110, 111, 112] } : ByteArray).extract i (i + 1))) = { data := (114 :: nm i).toArray } := by decide

theorem szN : ∀ i, i < 16 → (({ data := #[97, 98, 99, 100, 101, 102, 103, 104, 105, 106, 107, 108, 109, 110, 111, 112] } : ByteArray).extract i (i + 1)).size = 1 := by decide
theorem addC (i : Nat) (h : i < 16) (w : World) : (Go.Op.stringOp .add { data := #[114] } (({ data := #[97, 98, 99, 100, 101, 102, 103, 104, 105, 106, 107, 108, 109, 110, 111, 112] } : ByteArray).extract i (i + 1))).run Tryz.prog w = .ok (.string ({ data := #[114] } ++ ({ data := #[97, 98, 99, 100, 101, 102, 103, 104, 105, 106, 107, 108, 109, 110, 111, 112] } : ByteArray).extract i (i + 1))) w :=
  run_string_add_sum w _ _ (by rw [szN i h]; decide)
theorem addB (i : Nat) (h : i < 16) (w : World) : (Go.Op.stringOp .add { data := #[47, 114] } (({ data := #[97, 98, 99, 100, 101, 102, 103, 104, 105, 106, 107, 108, 109, 110, 111, 112] } : ByteArray).extract i (i + 1))).run Tryz.prog w = .ok (.string ({ data := #[47, 114] } ++ ({ data := #[97, 98, 99, 100, 101, 102, 103, 104, 105, 106, 107, 108, 109, 110, 111, 112] } : ByteArray).extract i (i + 1))) w :=
  run_string_add_sum w _ _ (by rw [szN i h]; decide)
theorem lenA (k : Nat) : (toA k).length ≤ 1000000 := by cases k <;> simp [toA, nm]
set_option maxHeartbeats 4000000 in
theorem loops_walk (a0 a1 : Int) (w : World) (hm : GMax w) : Calls Tryz.prog 4 #[.int .i64 a0, .int .i64 a1] w fun e w' => e = .returned (.bool true) ∧ Below w.heap.size w w' := by
  have l0 := lowOf_in a0 13 (by decide)
  have l1 := lowOf_in a1 4 (by decide)
  have h0 := fun w => low_any a0 13 w (by decide) (by decide)
  have h1 := fun w => low_any a1 4 w (by decide) (by decide)
  obtain ⟨m, hm0⟩ : ∃ m : Nat, lowOf a0 13 = m := ⟨(lowOf a0 13).toNat, by omega⟩
  obtain ⟨q, hq0⟩ : ∃ q : Nat, lowOf a1 4 = q := ⟨(lowOf a1 4).toNat, by omega⟩
  rw [hm0] at h0 l0
  rw [hq0] at h1 l1
  have m13 : m < 13 := by omega
  have q4 : q < 4 := by omega
  have HM := Lib.hid hm; clear hm
  have HLO0 := Lib.hid h0; clear h0
  have HLO1 := Lib.hid h1; clear h1
  clear l0 l1 hm0 hq0
  have HNEW := Lib.hid (liv_new (Below.refl w.heap.size w) HM.out)
  go_enter Tryz.func4, Tryz.ntmps4
  go_wp2_with fail
  (with_reducible refine (HLO0.out _).mono ?_)
  rintro e w' ⟨rfl, rfl⟩
  go_wp2_with fail
  (with_reducible refine (HLO1.out _).mono ?_)
  rintro e w' ⟨rfl, rfl⟩
  go_wp2_with fail
  (with_reducible refine HNEW.out.mono ?_)
  rintro e w1 ⟨tb, L, rfl, hl, -, -⟩
  have HL0 := Lib.hid hl; clear hl
  go_wp2_with fail
  have hx := HL0.out.call (by omega) opE none 0 0 (fun h => by rcases h with h | h <;> exact absurd h (by decide)) (fun h => absurd h (by decide)) (by decide) (by decide) (by decide) (listAt_nil _ _) (fun b h => by cases h)
  have HC := Lib.hid (show Calls Tryz.prog 17 #[Pt tb, .agg #[.int .i64 9, .int .i64 0, .int .i64 0, .int .i64 0, .int .i64 0, .string ⟨#[47, 101, 110, 100]⟩, .string ⟨#[]⟩, .slice none 0 0]] w1 _ from hx); clear hx
  (with_reducible refine HC.out.mono ?_)
  rintro e w2 ⟨p2, n2, c2, q2, m2, d2, L2, rfl, hd⟩
  have HL1 := Lib.hid (show Liv w w2 tb L2 (0 + 2) (stA 0) from hd.liv); clear hd HC HL0
  unfold M.Ans.val
  have hcode := okE
  have hf0 := fun (a b c d e f : Value) (w : World) => ans_f0 a b c d e f w
  go_wp2_with fail
  clear hcode
  go_loopw [7, 8] (fun tv i wr => ∃ (k : Nat) (L : Lay), k ≤ m ∧ i = .int .i64 k ∧ tv = S (toA k) ∧ Liv w wr tb L (2 * k + 2) (stA k)) (fun _ i _ => m - (intOf i).toNat)
  case atStart => exact ⟨0, L2, by omega, rfl, rfl, HL1.out⟩
  case round =>
    obtain ⟨k, L3, hk, rfl, rfl, hl⟩ := hrel
    have HL := Lib.hid hl; clear hl
    obtain ⟨wo, rfl⟩ : ∃ wo : World, wo = wr := ⟨_, rfl⟩
    by_cases hlt : k < m
    · have b0 : (0 : Int) ≤ (k : Int) := by omega
      have b1 : (k : Int) + 1 ≤ 16 := by omega
      go_wp2_with fail
      rw [nameA k (by omega)]
      have hx := HL.out.call (by omega) (opA k) none 0 0 (fun h => by rcases h with h | h <;> exact absurd (show (13 : Int) = _ from h) (by decide)) (fun h => absurd (show (13 : Int) = 15 from h) (by decide)) (lenA k) (by show (1 + 1 : Nat) ≤ _; omega) (by show (0 : Nat) ≤ _; omega) (listAt_nil _ _) (fun b h => by cases h)
      have HC := Lib.hid (show Calls Tryz.prog 17 #[Pt tb, .agg #[.int .i64 13, .int .i64 0, .int .i64 0, .int .i64 0, .int .i64 0, S (toA k), .string ⟨(47 :: nm k).toArray⟩, .slice none 0 0]] wo _ from hx); clear hx
      (with_reducible refine HC.out.mono ?_)
      rintro e w3 ⟨p3, n3, c3, q3, m3, d3, L4, rfl, hd⟩
      have HL4 := Lib.hid (show Liv w w3 tb L4 (2 * (k : Int) + 2 + 2) (stA (k + 1)) from hd.liv); clear hd HC HL
      unfold M.Ans.val
      have hcode := okA (i := k) (by omega)
      go_wp2_with fail
      clear hcode
      go_roundw
      case rel => exact ⟨k + 1, L4, by omega, by go_num, rfl, by rw [show (2 * ((k + 1 : Nat) : Int) + 2) = 2 * (k : Int) + 2 + 2 by omega]; exact HL4.out⟩
      case measure => simp [intOf]; omega
    · obtain rfl : k = m := by omega
      clear hk hlt
      go_wp2_with fail
      have hx := HL.out.call (by omega) (opT (toA k)) none 0 0 (fun h => by rcases h with h | h <;> exact absurd (show (16 : Int) = _ from h) (by decide)) (fun h => absurd (show (16 : Int) = 15 from h) (by decide)) (lenA k) (by show (0 : Nat) ≤ _; omega) (by show (0 : Nat) ≤ _; omega) (listAt_nil _ _) (fun b h => by cases h)
      obtain ⟨A1, hA⟩ : ∃ A1, A1 = ((stA k).doS (opT (toA k))).1 := ⟨_, rfl⟩
      have hR : (stA k).doS (opT (toA k)) = (A1, stB k (q + 1) 0) := by rw [hA]; rfl
      have HT := Lib.hid (show A1.code = if k ≤ 8 then 0 else 12 from by rw [hA]; exact okT m13)
      rw [hR] at hx
      clear hA hR
      have HC := Lib.hid (show Calls Tryz.prog 17 #[Pt tb, .agg #[.int .i64 16, .int .i64 0, .int .i64 0, .int .i64 0, .int .i64 0, S (toA k), .string ⟨#[]⟩, .slice none 0 0]] wo _ from hx); clear hx
      (with_reducible refine HC.out.mono ?_)
      rintro e v1 ⟨p1, n1, c1, q1, m1, d1, L1, rfl, hd⟩
      have HD1 := Lib.hid hd; clear hd HC HL
      unfold M.Ans.val
      go_wp2_with fail
      have HA1 := Lib.hid (ans_new v1 A1 (.slice p1 n1 c1) (.slice q1 m1 d1))
      have HO1 := Lib.hid (HD1.out.liv.tree.none (Nat.le_refl v1.heap.size))
      have HL1' := Lib.hid (HD1.out.liv.keep ((Below.refl _ _).alloc (Nat.le_refl _) (.cells #[I A1.code, I A1.n, I A1.kind, I A1.links, .slice p1 n1 c1, .slice q1 m1 d1] 29)))
      clear HD1
      change Code.wp _ _ _ _ (v1.alloc (.cells #[I A1.code, I A1.n, I A1.kind, I A1.links, .slice p1 n1 c1, .slice q1 m1 d1] 29))
      generalize v1.alloc (.cells #[I A1.code, I A1.n, I A1.kind, I A1.links, .slice p1 n1 c1, .slice q1 m1 d1] 29) = W1 at *
      generalize v1.heap.size = b1 at *
      go_loopw [11] (fun jv wr => ∃ (j : Nat) (L : Lay), j ≤ q + 1 ∧ jv = .int .i64 j ∧ Liv w wr tb L (2 * (k : Int) + 4 + 2 * j) (stB k (q + 1) j) ∧ AnsAt wr b1 A1 (.slice p1 n1 c1) (.slice q1 m1 d1) ∧ L.ow b1 = none) (fun jv _ => q + 1 - (intOf jv).toNat)
      case atStart => exact ⟨0, L1, by omega, rfl, by have := HL1'.out; rw [show (2 * (k : Int) + 4 + 2 * ((0 : Nat) : Int)) = 2 * (k : Int) + 2 + 2 by omega]; exact this, HA1.out, HO1.out⟩
      case round =>
        clear HA1 HO1 HL1'
        obtain ⟨j, L5, hj, rfl, hl, ha, ho⟩ := hrel
        have HL := Lib.hid hl; clear hl
        have HA := Lib.hid ha; clear ha
        have HO := Lib.hid ho; clear ho
        obtain ⟨wo, rfl⟩ : ∃ wo : World, wo = wr := ⟨_, rfl⟩
        by_cases hlt : j < q + 1
        · obtain ⟨t, ht, ht4⟩ : ∃ t : Nat, ((j : Int) + 1) % (1 + (q : Int)) = (t : Int) ∧ t < 4 ∧ t = (j + 1) % (q + 1) := by
            refine ⟨(j + 1) % (q + 1), ?_, ?_, rfl⟩
            · rw [show (1 + (q : Int)) = ((q + 1 : Nat) : Int) by omega, show ((j : Int) + 1) = ((j + 1 : Nat) : Int) by omega]; first | exact (Int.natCast_emod _ _).symm | rfl
            · have := Nat.mod_lt (j + 1) (show 0 < q + 1 by omega); omega
          obtain ⟨ht4, ht5⟩ := ht4
          have HT5 := Lib.hid ht5; clear ht5
          have b0 : (0 : Int) ≤ (j : Int) := by omega
          have b1' : (j : Int) + 1 ≤ 16 := by omega
          have b2 : (0 : Int) ≤ (t : Int) := by omega
          have b3 : (t : Int) + 1 ≤ 16 := by omega
          have b4 : (t : Int) ≤ (t : Int) + 1 := by omega
          have b5 : (j : Int) ≤ (j : Int) + 1 := by omega
          have w1' : IntKind.i64.wrap ((j : Int) + 1) = (j : Int) + 1 := IntWalk.i64_in _ (by omega)
          have w2' : ((j : Int) + 1).tmod (1 + (q : Int)) = (t : Int) := by rw [Int.tmod_eq_emod_of_nonneg (by omega)]; exact ht
          have w3' : IntKind.i64.wrap ((t : Int) + 1) = (t : Int) + 1 := IntWalk.i64_in _ (by omega)
          have w4' : IntKind.i64.wrap (t : Int) = (t : Int) := IntWalk.i64_in _ (by omega)
          have w5' : ((1 : Int) + (q : Int) == 0) = false := by simpa using (by omega : (1 : Int) + (q : Int) ≠ 0)
          have w6' : ¬ (1 : Int) + (q : Int) = 0 := by omega
          have w7' : ((t : Int) + 1).toNat = t + 1 := by omega
          have w8' : ((j : Int) + 1).toNat = j + 1 := by omega
          have hadd1 := addC t (by omega)
          have hadd2 := addB j (by omega)
          have HLd := Lib.hid (HL.out.keep (Below.refl _ _).drew)
          have hx := HLd.out.call (by omega) (opB (q + 1) j) none 0 0 (fun h => by rcases h with h | h <;> exact absurd (show (13 : Int) = _ from h) (by decide)) (fun h => absurd (show (13 : Int) = 15 from h) (by decide)) (by show (1 + 1 : Nat) ≤ _; omega) (by show (1 + 1 + 1 : Nat) ≤ _; omega) (by show (0 : Nat) ≤ _; omega) (listAt_nil _ _) (fun b h => by cases h)
          have hcode := okB (m := k) (r := q + 1) (j := j) m13 (by omega) (by omega)
          obtain ⟨A2, hA⟩ : ∃ A2, A2 = ((stB k (q + 1) j).doS (opB (q + 1) j)).1 := ⟨_, rfl⟩
          have hR : (stB k (q + 1) j).doS (opB (q + 1) j) = (A2, stB k (q + 1) (j + 1)) := by rw [hA]; rfl
          rw [hR] at hx hcode
          clear hA hR
          have hx2 : Calls Tryz.prog 17 #[Pt tb, .agg #[.int .i64 13, .int .i64 0, .int .i64 0, .int .i64 0, .int .i64 0, .string ⟨(114 :: nm t).toArray⟩, .string ⟨(47 :: 114 :: nm j).toArray⟩, .slice none 0 0]] wo.drew (DoPost w tb L5 (2 * (k : Int) + 4 + 2 * j) (A2, stB k (q + 1) (j + 1)) wo.drew) := by rw [HT5.out]; exact hx
          rw [← nameC t (by omega), ← nameB j (by omega)] at hx2
          have HC := Lib.hid hx2; clear hx hx2
          go_wp2_with fail
          go_region_held3 (fun _ => True) (trivial) (first | (go_at_call 17; (with_reducible refine HC.out.mono ?_); rintro e w3 ⟨p3, n3, c3, q3, m3, d3, L4, rfl, hd⟩; unfold M.Ans.val))
          have hLv := hd.liv
          obtain ⟨hA6, hO6⟩ := hd.ans (HA.out.below (Below.refl _ _).drew) HO.out
          have HL6 := Lib.hid hLv; have HA6 := Lib.hid hA6; have HO6 := Lib.hid hO6
          clear hd hLv hA6 hO6 HC HL HA HO HLd
          go_wp2_with fail
          clear hcode
          go_roundw
          case rel => exact ⟨j + 1, L4, by omega, by go_num, by rw [show (2 * (k : Int) + 4 + 2 * ((j + 1 : Nat) : Int)) = 2 * (k : Int) + 4 + 2 * j + 2 by omega]; exact HL6.out, HA6.out, HO6.out⟩
          case measure => simp [intOf]; omega
        · obtain rfl : j = q + 1 := by omega
          clear hj hlt
          have hge : ¬ ((q : Int) + 1 < 1 + (q : Int)) := by omega
          go_wp2_with fail
          obtain ⟨hok7, hok8⟩ := okC (m := k) (r := q + 1) m13 (by omega) (by omega)
          have hx7 := HL.out.call (by omega) opC none 0 0 (fun h => by rcases h with h | h <;> exact absurd h (by decide)) (fun h => absurd h (by decide)) (by decide) (by decide) (by decide) (listAt_nil _ _) (fun b h => by cases h)
          obtain ⟨A7, hA⟩ : ∃ A7, A7 = ((stB k (q + 1) (q + 1)).doS opC).1 := ⟨_, rfl⟩
          have hR : (stB k (q + 1) (q + 1)).doS opC = (A7, stC k (q + 1)) := by rw [hA]; rfl
          rw [← hA] at hok7
          rw [hR] at hx7
          clear hA hR
          have HOK7 := Lib.hid hok7; clear hok7
          have HC := Lib.hid (show Calls Tryz.prog 17 #[Pt tb, .agg #[.int .i64 16, .int .i64 0, .int .i64 0, .int .i64 0, .int .i64 0, .string ⟨#[47, 114, 97]⟩, .string ⟨#[]⟩, .slice none 0 0]] wo _ from hx7); clear hx7
          (with_reducible refine HC.out.mono ?_)
          rintro e v7 ⟨p7, n7, c7, q7, m7, d7, L7, rfl, hd⟩
          have HD7 := Lib.hid hd; clear hd HC
          unfold M.Ans.val
          obtain ⟨ha, ho⟩ := HD7.out.ans HA.out HO.out
          have HA1 := Lib.hid (ha.below ((Below.refl _ _).alloc (Nat.le_refl _) (.cells #[I A7.code, I A7.n, I A7.kind, I A7.links, .slice p7 n7 c7, .slice q7 m7 d7] 29)))
          have HO1 := Lib.hid ho
          have HA7 := Lib.hid (ans_new v7 A7 (.slice p7 n7 c7) (.slice q7 m7 d7))
          have HO7 := Lib.hid (HD7.out.liv.tree.none (Nat.le_refl v7.heap.size))
          have HL7 := Lib.hid (HD7.out.liv.keep ((Below.refl _ _).alloc (Nat.le_refl _) (.cells #[I A7.code, I A7.n, I A7.kind, I A7.links, .slice p7 n7 c7, .slice q7 m7 d7] 29)))
          clear ha ho HD7 HA HO HL
          go_wp2_with fail
          generalize v7.alloc (.cells #[I A7.code, I A7.n, I A7.kind, I A7.links, .slice p7 n7 c7, .slice q7 m7 d7] 29) = W7 at *
          generalize v7.heap.size = b7 at *
          have hx8 := HL7.out.call (by omega) opD none 0 0 (fun h => by rcases h with h | h <;> exact absurd h (by decide)) (fun h => absurd h (by decide)) (by decide) (by decide) (by decide) (listAt_nil _ _) (fun b h => by cases h)
          obtain ⟨A8, hA⟩ : ∃ A8, A8 = ((stC k (q + 1)).doS opD).1 := ⟨_, rfl⟩
          have hR : (stC k (q + 1)).doS opD = (A8, ((stC k (q + 1)).doS opD).2) := by rw [hA]
          rw [← hA] at hok8
          rw [hR] at hx8
          clear hA hR
          have HOK8 := Lib.hid hok8; clear hok8
          have HC := Lib.hid (show Calls Tryz.prog 17 #[Pt tb, .agg #[.int .i64 17, .int .i64 0, .int .i64 0, .int .i64 0, .int .i64 0, .string ⟨#[47, 114, 97]⟩, .string ⟨#[]⟩, .slice none 0 0]] W7 _ from hx8); clear hx8
          (with_reducible refine HC.out.mono ?_)
          rintro e v8 ⟨p8, n8, c8, q8, m8, d8, L8, rfl, hd⟩
          have HD8 := Lib.hid hd; clear hd HC
          unfold M.Ans.val
          obtain ⟨ha, ho⟩ := HD8.out.ans HA1.out HO1.out
          obtain ⟨ha7, ho7⟩ := HD8.out.ans HA7.out HO7.out
          have hc1 := (ha.below ((Below.refl _ _).alloc (Nat.le_refl _) (.cells #[I A8.code, I A8.n, I A8.kind, I A8.links, .slice p8 n8 c8, .slice q8 m8 d8] 29))).cells
          have hc7 := (ha7.below ((Below.refl _ _).alloc (Nat.le_refl _) (.cells #[I A8.code, I A8.n, I A8.kind, I A8.links, .slice p8 n8 c8, .slice q8 m8 d8] 29))).cells
          have hc8 := (ans_new v8 A8 (.slice p8 n8 c8) (.slice q8 m8 d8)).cells
          have HL8 := Lib.hid (HD8.out.liv.keep ((Below.refl _ _).alloc (Nat.le_refl _) (.cells #[I A8.code, I A8.n, I A8.kind, I A8.links, .slice p8 n8 c8, .slice q8 m8 d8] 29)))
          clear ha ho ha7 ho7 HD8 HA1 HO1 HA7 HO7 HL7
          obtain ⟨x1, -, -, -, -, -, f1, l1⟩ := hc1
          obtain ⟨x7, -, -, -, -, -, f7, l7⟩ := hc7
          obtain ⟨-, -, x8, -, -, -, f8, l8⟩ := hc8
          replace x7 := x7.trans (by rw [HOK7.out] : some (I A7.code) = some (I 12))
          replace x8 := x8.trans (by rw [HOK8.out] : some (I A8.kind) = some (I 3))
          have HAWK := Lib.hid (awake_any _ HL8.out.gmax)
          by_cases hk8 : k ≤ 8
          · replace x1 := x1.trans (by rw [HT.out, if_pos hk8] : some (I A1.code) = some (I 0))
            have hk8' : (k : Int) ≤ 8 := by omega
            go_wp2_with fail
            (with_reducible refine HAWK.out.mono ?_)
            rintro e w9 ⟨rfl, hb9⟩
            have HB9 := Lib.hid (HL8.out.below.trans (hb9.mono HL8.out.below.size)); clear hb9
            go_wp2_with fail
            go_ret
            exact ⟨rfl, HB9.out⟩
          · replace x1 := x1.trans (by rw [HT.out, if_neg hk8] : some (I A1.code) = some (I 12))
            have hk8' : decide ((k : Int) ≤ 8) = false := decide_eq_false (by omega)
            go_wp2_with fail
            (with_reducible refine HAWK.out.mono ?_)
            rintro e w9 ⟨rfl, hb9⟩
            have HB9 := Lib.hid (HL8.out.below.trans (hb9.mono HL8.out.below.size)); clear hb9
            go_wp2_with fail
            go_ret
            exact ⟨rfl, HB9.out⟩
end Go.Proofs.YtpfaccpmgldkeaaGreatDoor
