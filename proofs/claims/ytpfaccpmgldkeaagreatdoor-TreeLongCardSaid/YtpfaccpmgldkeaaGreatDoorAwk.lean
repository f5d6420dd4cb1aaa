/- awake: what every program answers that is one. -/
import Derived.Test.YtpfaccpmgldkeaaGreatDoorLiv
import Derived.Lib.SmallJoins
set_option linter.unusedVariables false
set_option linter.unusedSimpArgs false
namespace Go.Proofs.YtpfaccpmgldkeaaGreatDoor
open Go.RowKit Go.MapKept Go.ChangeMaps
set_option maxRecDepth 100000

def awO1 : M.Op := { kind := 9, path := [47, 97] }
def awO2 : M.Op := { kind := 1, path := [47, 97, 47, 102], flags := 33 }
def awO3 : M.Op := { kind := 4, data := [120, 121, 122] }
def awO4 : M.Op := { kind := 16, path := [47, 97, 47, 102] }
def awO5 : M.Op := { kind := 16, path := [47, 98] }
def awS1 : M.St := (M.new.doS awO1).2
def awS2 : M.St := (awS1.doS awO2).2
def awS3 : M.St := (awS2.doS awO3).2
def awS4 : M.St := (awS3.doS awO4).2
def awS5 : M.St := (awS4.doS awO5).2
theorem aw1 : (M.new.doS awO1).1 = {} := by rfl
theorem aw2 : (awS1.doS awO2).1 = {} := by rfl
theorem aw3 : (awS2.doS awO3).1 = { n := 3 } := by rfl
theorem aw4 : (awS3.doS awO4).1 = { n := 3, kind := 1, links := 1 } := by rfl
theorem aw5 : (awS4.doS awO5).1 = { code := 5 } := by rfl
theorem aw6 : awS5.needS = (3, 3) := by rfl
theorem aw7 : (awS5.see 22 1 []).length = 3 := by rfl
theorem aw8 : awS5.number [47, 97] = 2 := by rfl
-- WALK
set_option maxHeartbeats 4000000 in
theorem awake_any (w : World) (hm : GMax w) : Calls Tryz.prog 15 #[] w fun e w' => e = .returned (.bool true) ∧ Below w.heap.size w w' := by
  have HNEW := Lib.hid (liv_new (Below.refl w.heap.size w) hm); clear hm
  go_enter Tryz.func15, Tryz.ntmps15
  go_wp2_with fail
  (with_reducible refine HNEW.out.mono ?_)
  rintro e w1 ⟨tb, L, rfl, hl, -, -⟩
  have HL0 := Lib.hid hl; clear hl
  go_wp2_with fail
  have hx := HL0.out.call (by omega) awO1 none 0 0 (fun h => by rcases h with h | h <;> exact absurd h (by decide)) (fun h => absurd h (by decide)) (by decide) (by decide) (by decide) (listAt_nil _ _) (fun b h => by cases h)
  rw [(show M.new.doS awO1 = (({} : M.Ans), awS1) from Prod.ext aw1 rfl)] at hx
  have HC := Lib.hid (show Calls Tryz.prog 17 #[Pt tb, .agg #[.int .i64 9, .int .i64 0, .int .i64 0, .int .i64 0, .int .i64 0, .string ⟨#[47, 97]⟩, .string ⟨#[]⟩, .slice none 0 0]] w1 _ from hx); clear hx
  (with_reducible refine HC.out.mono ?_)
  rintro e v1 ⟨p1, n1, c1, q1, m1, d1, L1, rfl, hd⟩
  clear HC
  have HD1 := Lib.hid hd; clear hd HL0
  unfold M.Ans.val
  go_wp2_with fail
  have HA1 := Lib.hid (show AnsAt (v1.alloc (.cells #[.int .i64 0, .int .i64 0, .int .i64 0, .int .i64 0, .slice p1 n1 c1, .slice q1 m1 d1] 29)) v1.heap.size ({} : M.Ans) (.slice p1 n1 c1) (.slice q1 m1 d1) from ans_new v1 ({} : M.Ans) (.slice p1 n1 c1) (.slice q1 m1 d1))
  have HO1 := Lib.hid (HD1.out.liv.tree.none (Nat.le_refl v1.heap.size))
  have HL1 := Lib.hid (HD1.out.liv.keep ((Below.refl _ _).alloc (Nat.le_refl _) (.cells #[.int .i64 0, .int .i64 0, .int .i64 0, .int .i64 0, .slice p1 n1 c1, .slice q1 m1 d1] 29)))
  generalize v1.alloc (.cells #[.int .i64 0, .int .i64 0, .int .i64 0, .int .i64 0, .slice p1 n1 c1, .slice q1 m1 d1] 29) = W1 at *
  generalize v1.heap.size = b1 at *
  have hx := HL1.out.call (by omega) awO2 none 0 0 (fun h => by rcases h with h | h <;> exact absurd h (by decide)) (fun h => absurd h (by decide)) (by decide) (by decide) (by decide) (listAt_nil _ _) (fun b h => by cases h)
  rw [(show M.St.doS awS1 awO2 = (({} : M.Ans), awS2) from Prod.ext aw2 rfl)] at hx
  have HC := Lib.hid (show Calls Tryz.prog 17 #[Pt tb, .agg #[.int .i64 1, .int .i64 0, .int .i64 0, .int .i64 0, .int .i64 33, .string ⟨#[47, 97, 47, 102]⟩, .string ⟨#[]⟩, .slice none 0 0]] W1 _ from hx); clear hx
  (with_reducible refine HC.out.mono ?_)
  rintro e v2 ⟨p2, n2, c2, q2, m2, d2, L2, rfl, hd⟩
  clear HC
  obtain ⟨ha1, ho1⟩ := hd.ans HA1.out HO1.out; clear HA1 HO1; have HA1 := Lib.hid ha1; have HO1 := Lib.hid ho1; clear ha1 ho1
  have HD2 := Lib.hid hd; clear hd HL1
  have hcv := fun (C : Array Value) (n c : Nat) => Go.Joins.run_convert_bytes_const_at (P := Tryz.prog) (v2.alloc (.cells #[.int .i64 0, .int .i64 0, .int .i64 0, .int .i64 0, .slice p2 n2 c2, .slice q2 m2 d2] 29)) 22 5 C n c (v2.heap.size + 1) (by simp) Tryz.underlying22 Tryz.underlying5
  unfold M.Ans.val
  go_wp2_with fail
  clear hcv
  change Calls _ _ _ ((v2.alloc (.cells #[.int .i64 0, .int .i64 0, .int .i64 0, .int .i64 0, .slice p2 n2 c2, .slice q2 m2 d2] 29)).alloc (.cells #[.int .u8 120, .int .u8 121, .int .u8 122] 5 (3, 4))) _
  have hz2 : (v2.alloc (.cells #[.int .i64 0, .int .i64 0, .int .i64 0, .int .i64 0, .slice p2 n2 c2, .slice q2 m2 d2] 29)).heap.size = v2.heap.size + 1 := by simp
  have HZ2 := Lib.hid hz2; clear hz2
  have HA2 := Lib.hid (show AnsAt (v2.alloc (.cells #[.int .i64 0, .int .i64 0, .int .i64 0, .int .i64 0, .slice p2 n2 c2, .slice q2 m2 d2] 29)) v2.heap.size ({} : M.Ans) (.slice p2 n2 c2) (.slice q2 m2 d2) from ans_new v2 ({} : M.Ans) (.slice p2 n2 c2) (.slice q2 m2 d2))
  have HO2 := Lib.hid (HD2.out.liv.tree.none (Nat.le_refl v2.heap.size))
  have HL2 := Lib.hid (HD2.out.liv.keep ((Below.refl _ _).alloc (Nat.le_refl _) (.cells #[.int .i64 0, .int .i64 0, .int .i64 0, .int .i64 0, .slice p2 n2 c2, .slice q2 m2 d2] 29)))
  have HA1' := Lib.hid (HA1.out.below ((Below.refl _ _).alloc (Nat.le_refl _) (.cells #[.int .i64 0, .int .i64 0, .int .i64 0, .int .i64 0, .slice p2 n2 c2, .slice q2 m2 d2] 29))); clear HA1; have HA1 := HA1'; clear HA1'
  generalize v2.alloc (.cells #[.int .i64 0, .int .i64 0, .int .i64 0, .int .i64 0, .slice p2 n2 c2, .slice q2 m2 d2] 29) = W2 at *
  generalize v2.heap.size = b2 at *
  have hlo : ListAt U8 (W2.alloc (.cells #[.int .u8 120, .int .u8 121, .int .u8 122] 5 (3, 4))) (.slice (some ⟨W2.heap.size, 0, none⟩) 3 3) [120, 121, 122] := by
    refine Or.inr ⟨W2.heap.size, 0, 3, rfl, by decide, by simp, fun j x hx => ?_⟩
    rw [Nat.zero_add, cell_of_row _ _ _ _ _ _ (heap_alloc_new W2 _)]
    match j, hx with
    | 0, hx => simp at hx; subst hx; rfl
    | 1, hx => simp at hx; subst hx; rfl
    | 2, hx => simp at hx; subst hx; rfl
    | j + 3, hx => simp at hx
  have HLO := Lib.hid hlo; clear hlo
  have hfr : L2.ow W2.heap.size = none := HL2.out.tree.none (Nat.le_refl _)
  have HFR := Lib.hid hfr; clear hfr
  have HL2b := Lib.hid (HL2.out.keep ((Below.refl W2.heap.size W2).alloc (Nat.le_refl _) (.cells #[.int .u8 120, .int .u8 121, .int .u8 122] 5 (3, 4)))); clear HL2; have HL2 := HL2b; clear HL2b
  have HA1' := Lib.hid (HA1.out.below ((Below.refl W2.heap.size W2).alloc (Nat.le_refl _) (.cells #[.int .u8 120, .int .u8 121, .int .u8 122] 5 (3, 4)))); clear HA1; have HA1 := HA1'; clear HA1'
  have HA2' := Lib.hid (HA2.out.below ((Below.refl W2.heap.size W2).alloc (Nat.le_refl _) (.cells #[.int .u8 120, .int .u8 121, .int .u8 122] 5 (3, 4)))); clear HA2; have HA2 := HA2'; clear HA2'
  rw [← HZ2.out] at *
  generalize hW2b : W2.alloc (.cells #[.int .u8 120, .int .u8 121, .int .u8 122] 5 (3, 4)) = W2b at *
  clear hW2b
  have hu3 : ∀ b, (Value.slice (some ⟨W2.heap.size, 0, none⟩) 3 3).ownBlock = some b → L2.ow b = none := fun b hb => by cases hb; exact HFR.out
  have HU3 := Lib.hid hu3; clear hu3
  have hx := HL2.out.call (by omega) awO3 (some ⟨W2.heap.size, 0, none⟩) 3 3 (fun h => by rcases h with h | h <;> exact absurd h (by decide)) (fun h => absurd h (by decide)) (by decide) (by decide) (by decide) HLO.out HU3.out
  rw [(show M.St.doS awS2 awO3 = (({ n := 3 } : M.Ans), awS3) from Prod.ext aw3 rfl)] at hx
  have HC := Lib.hid (show Calls Tryz.prog 17 #[Pt tb, .agg #[.int .i64 4, .int .i64 0, .int .i64 0, .int .i64 0, .int .i64 0, .string ⟨#[]⟩, .string ⟨#[]⟩, .slice (some ⟨W2.heap.size, 0, none⟩) 3 3]] W2b _ from hx); clear hx
  (with_reducible refine HC.out.mono ?_)
  rintro e v3 ⟨p3, n3, c3, q3, m3, d3, L3, rfl, hd⟩
  clear HC
  obtain ⟨ha1, ho1⟩ := hd.ans HA1.out HO1.out; clear HA1 HO1; have HA1 := Lib.hid ha1; have HO1 := Lib.hid ho1; clear ha1 ho1
  obtain ⟨ha2, ho2⟩ := hd.ans HA2.out HO2.out; clear HA2 HO2; have HA2 := Lib.hid ha2; have HO2 := Lib.hid ho2; clear ha2 ho2
  have HD3 := Lib.hid hd; clear hd HL2
  clear HLO HU3 HFR HZ2
  unfold M.Ans.val
  go_wp2_with fail
  have HA3 := Lib.hid (show AnsAt (v3.alloc (.cells #[.int .i64 0, .int .i64 3, .int .i64 0, .int .i64 0, .slice p3 n3 c3, .slice q3 m3 d3] 29)) v3.heap.size ({ n := 3 } : M.Ans) (.slice p3 n3 c3) (.slice q3 m3 d3) from ans_new v3 ({ n := 3 } : M.Ans) (.slice p3 n3 c3) (.slice q3 m3 d3))
  have HO3 := Lib.hid (HD3.out.liv.tree.none (Nat.le_refl v3.heap.size))
  have HL3 := Lib.hid (HD3.out.liv.keep ((Below.refl _ _).alloc (Nat.le_refl _) (.cells #[.int .i64 0, .int .i64 3, .int .i64 0, .int .i64 0, .slice p3 n3 c3, .slice q3 m3 d3] 29)))
  have HA1' := Lib.hid (HA1.out.below ((Below.refl _ _).alloc (Nat.le_refl _) (.cells #[.int .i64 0, .int .i64 3, .int .i64 0, .int .i64 0, .slice p3 n3 c3, .slice q3 m3 d3] 29))); clear HA1; have HA1 := HA1'; clear HA1'
  have HA2' := Lib.hid (HA2.out.below ((Below.refl _ _).alloc (Nat.le_refl _) (.cells #[.int .i64 0, .int .i64 3, .int .i64 0, .int .i64 0, .slice p3 n3 c3, .slice q3 m3 d3] 29))); clear HA2; have HA2 := HA2'; clear HA2'
  generalize v3.alloc (.cells #[.int .i64 0, .int .i64 3, .int .i64 0, .int .i64 0, .slice p3 n3 c3, .slice q3 m3 d3] 29) = W3 at *
  generalize v3.heap.size = b3 at *
  have hx := HL3.out.call (by omega) awO4 none 0 0 (fun h => by rcases h with h | h <;> exact absurd h (by decide)) (fun h => absurd h (by decide)) (by decide) (by decide) (by decide) (listAt_nil _ _) (fun b h => by cases h)
  rw [(show M.St.doS awS3 awO4 = (({ n := 3, kind := 1, links := 1 } : M.Ans), awS4) from Prod.ext aw4 rfl)] at hx
  have HC := Lib.hid (show Calls Tryz.prog 17 #[Pt tb, .agg #[.int .i64 16, .int .i64 0, .int .i64 0, .int .i64 0, .int .i64 0, .string ⟨#[47, 97, 47, 102]⟩, .string ⟨#[]⟩, .slice none 0 0]] W3 _ from hx); clear hx
  (with_reducible refine HC.out.mono ?_)
  rintro e v4 ⟨p4, n4, c4, q4, m4, d4, L4, rfl, hd⟩
  clear HC
  obtain ⟨ha1, ho1⟩ := hd.ans HA1.out HO1.out; clear HA1 HO1; have HA1 := Lib.hid ha1; have HO1 := Lib.hid ho1; clear ha1 ho1
  obtain ⟨ha2, ho2⟩ := hd.ans HA2.out HO2.out; clear HA2 HO2; have HA2 := Lib.hid ha2; have HO2 := Lib.hid ho2; clear ha2 ho2
  obtain ⟨ha3, ho3⟩ := hd.ans HA3.out HO3.out; clear HA3 HO3; have HA3 := Lib.hid ha3; have HO3 := Lib.hid ho3; clear ha3 ho3
  have HD4 := Lib.hid hd; clear hd HL3
  unfold M.Ans.val
  go_wp2_with fail
  have HA4 := Lib.hid (show AnsAt (v4.alloc (.cells #[.int .i64 0, .int .i64 3, .int .i64 1, .int .i64 1, .slice p4 n4 c4, .slice q4 m4 d4] 29)) v4.heap.size ({ n := 3, kind := 1, links := 1 } : M.Ans) (.slice p4 n4 c4) (.slice q4 m4 d4) from ans_new v4 ({ n := 3, kind := 1, links := 1 } : M.Ans) (.slice p4 n4 c4) (.slice q4 m4 d4))
  have HO4 := Lib.hid (HD4.out.liv.tree.none (Nat.le_refl v4.heap.size))
  have HL4 := Lib.hid (HD4.out.liv.keep ((Below.refl _ _).alloc (Nat.le_refl _) (.cells #[.int .i64 0, .int .i64 3, .int .i64 1, .int .i64 1, .slice p4 n4 c4, .slice q4 m4 d4] 29)))
  have HA1' := Lib.hid (HA1.out.below ((Below.refl _ _).alloc (Nat.le_refl _) (.cells #[.int .i64 0, .int .i64 3, .int .i64 1, .int .i64 1, .slice p4 n4 c4, .slice q4 m4 d4] 29))); clear HA1; have HA1 := HA1'; clear HA1'
  have HA2' := Lib.hid (HA2.out.below ((Below.refl _ _).alloc (Nat.le_refl _) (.cells #[.int .i64 0, .int .i64 3, .int .i64 1, .int .i64 1, .slice p4 n4 c4, .slice q4 m4 d4] 29))); clear HA2; have HA2 := HA2'; clear HA2'
  have HA3' := Lib.hid (HA3.out.below ((Below.refl _ _).alloc (Nat.le_refl _) (.cells #[.int .i64 0, .int .i64 3, .int .i64 1, .int .i64 1, .slice p4 n4 c4, .slice q4 m4 d4] 29))); clear HA3; have HA3 := HA3'; clear HA3'
  generalize v4.alloc (.cells #[.int .i64 0, .int .i64 3, .int .i64 1, .int .i64 1, .slice p4 n4 c4, .slice q4 m4 d4] 29) = W4 at *
  generalize v4.heap.size = b4 at *
  have hx := HL4.out.call (by omega) awO5 none 0 0 (fun h => by rcases h with h | h <;> exact absurd h (by decide)) (fun h => absurd h (by decide)) (by decide) (by decide) (by decide) (listAt_nil _ _) (fun b h => by cases h)
  rw [(show M.St.doS awS4 awO5 = (({ code := 5 } : M.Ans), awS5) from Prod.ext aw5 rfl)] at hx
  have HC := Lib.hid (show Calls Tryz.prog 17 #[Pt tb, .agg #[.int .i64 16, .int .i64 0, .int .i64 0, .int .i64 0, .int .i64 0, .string ⟨#[47, 98]⟩, .string ⟨#[]⟩, .slice none 0 0]] W4 _ from hx); clear hx
  (with_reducible refine HC.out.mono ?_)
  rintro e v5 ⟨p5, n5, c5, q5, m5, d5, L5, rfl, hd⟩
  clear HC
  obtain ⟨ha1, ho1⟩ := hd.ans HA1.out HO1.out; clear HA1 HO1; have HA1 := Lib.hid ha1; have HO1 := Lib.hid ho1; clear ha1 ho1
  obtain ⟨ha2, ho2⟩ := hd.ans HA2.out HO2.out; clear HA2 HO2; have HA2 := Lib.hid ha2; have HO2 := Lib.hid ho2; clear ha2 ho2
  obtain ⟨ha3, ho3⟩ := hd.ans HA3.out HO3.out; clear HA3 HO3; have HA3 := Lib.hid ha3; have HO3 := Lib.hid ho3; clear ha3 ho3
  obtain ⟨ha4, ho4⟩ := hd.ans HA4.out HO4.out; clear HA4 HO4; have HA4 := Lib.hid ha4; have HO4 := Lib.hid ho4; clear ha4 ho4
  have HD5 := Lib.hid hd; clear hd HL4
  unfold M.Ans.val
  go_wp2_with fail
  have HA5 := Lib.hid (show AnsAt (v5.alloc (.cells #[.int .i64 5, .int .i64 0, .int .i64 0, .int .i64 0, .slice p5 n5 c5, .slice q5 m5 d5] 29)) v5.heap.size ({ code := 5 } : M.Ans) (.slice p5 n5 c5) (.slice q5 m5 d5) from ans_new v5 ({ code := 5 } : M.Ans) (.slice p5 n5 c5) (.slice q5 m5 d5))
  have HO5 := Lib.hid (HD5.out.liv.tree.none (Nat.le_refl v5.heap.size))
  have HL5 := Lib.hid (HD5.out.liv.keep ((Below.refl _ _).alloc (Nat.le_refl _) (.cells #[.int .i64 5, .int .i64 0, .int .i64 0, .int .i64 0, .slice p5 n5 c5, .slice q5 m5 d5] 29)))
  have HA1' := Lib.hid (HA1.out.below ((Below.refl _ _).alloc (Nat.le_refl _) (.cells #[.int .i64 5, .int .i64 0, .int .i64 0, .int .i64 0, .slice p5 n5 c5, .slice q5 m5 d5] 29))); clear HA1; have HA1 := HA1'; clear HA1'
  have HA2' := Lib.hid (HA2.out.below ((Below.refl _ _).alloc (Nat.le_refl _) (.cells #[.int .i64 5, .int .i64 0, .int .i64 0, .int .i64 0, .slice p5 n5 c5, .slice q5 m5 d5] 29))); clear HA2; have HA2 := HA2'; clear HA2'
  have HA3' := Lib.hid (HA3.out.below ((Below.refl _ _).alloc (Nat.le_refl _) (.cells #[.int .i64 5, .int .i64 0, .int .i64 0, .int .i64 0, .slice p5 n5 c5, .slice q5 m5 d5] 29))); clear HA3; have HA3 := HA3'; clear HA3'
  have HA4' := Lib.hid (HA4.out.below ((Below.refl _ _).alloc (Nat.le_refl _) (.cells #[.int .i64 5, .int .i64 0, .int .i64 0, .int .i64 0, .slice p5 n5 c5, .slice q5 m5 d5] 29))); clear HA4; have HA4 := HA4'; clear HA4'
  generalize v5.alloc (.cells #[.int .i64 5, .int .i64 0, .int .i64 0, .int .i64 0, .slice p5 n5 c5, .slice q5 m5 d5] 29) = W5 at *
  generalize v5.heap.size = b5 at *
  obtain ⟨dd, hwz⟩ := HL5.out.inv
  have hneed := Need_any tb L5 awS5 W5 HL5.out.tree (fun n hn => hwz.wf.small (by omega) hn) (by have := hwz.len; simp only at this; omega)
  clear hwz
  unfold NeedPost at hneed
  rw [aw6] at hneed
  have HNEED := Lib.hid hneed; clear hneed
  (with_reducible refine HNEED.out.mono ?_)
  rintro e W6 ⟨rfl, hb6⟩
  have HL6 := Lib.hid (HL5.out.keep hb6)
  have HA1' := Lib.hid (HA1.out.below hb6); clear HA1; have HA1 := HA1'; clear HA1'
  have HA2' := Lib.hid (HA2.out.below hb6); clear HA2; have HA2 := HA2'; clear HA2'
  have HA3' := Lib.hid (HA3.out.below hb6); clear HA3; have HA3 := HA3'; clear HA3'
  have HA4' := Lib.hid (HA4.out.below hb6); clear HA4; have HA4 := HA4'; clear HA4'
  have HA5' := Lib.hid (HA5.out.below hb6); clear HA5; have HA5 := HA5'; clear HA5'
  clear HL5 hb6 HNEED
  obtain ⟨x10, -, -, -, -, -, xf1, xl1⟩ := HA1.out.cells
  obtain ⟨x20, -, -, -, -, -, xf2, xl2⟩ := HA2.out.cells
  obtain ⟨-, x31, -, -, -, -, xf3, xl3⟩ := HA3.out.cells
  obtain ⟨-, x41, x42, x43, -, -, xf4, xl4⟩ := HA4.out.cells
  obtain ⟨x50, -, -, -, -, -, xf5, xl5⟩ := HA5.out.cells
  have HNODES := Lib.hid (Nodes_any _ tb L5 awS5 W6 HL6.out.tree HL6.out.inv (by omega))
  go_wp2_with fail
  (with_reducible refine HNODES.out.mono ?_)
  rintro e W7 ⟨vv, ll, rfl, hr, -, hp, -, hb7⟩
  have hl3 : ll.length = 3 := by have := hp.length_eq; rw [List.length_map, aw7] at this; exact this
  rw [hl3] at hr
  obtain ⟨pp, cc, rfl, -⟩ := row_form hr
  have HL7 := Lib.hid (HL6.out.keep hb7)
  clear hr hp hl3 hb7 HNODES
  obtain ⟨dd2, hwz2⟩ := HL7.out.inv
  have hnum := number_any tb L5 _ awS5 [47, 97] W7 HL7.out.tree hwz2.wf (by decide) HL7.out.gmax
  rw [aw8] at hnum
  have HNUM := Lib.hid (show Calls Tryz.prog 22 #[Pt tb, .string ⟨#[47, 97]⟩] W7 _ from hnum); clear hnum hwz2
  go_wp2_with fail
  (with_reducible refine HNUM.out.mono ?_)
  rintro e W8 ⟨rfl, hb8⟩
  have HL8 := Lib.hid (HL7.out.keep hb8); clear hb8
  go_wp2_with fail
  go_ret
  exact ⟨rfl, HL8.out.below⟩
end Go.Proofs.YtpfaccpmgldkeaaGreatDoor
