/- Contract of close. -/
import Derived.Test.YtpfaccpmgldkeaaGreatDoorOp
import Derived.Test.YtpfaccpmgldkeaaGreatDoorFor
set_option linter.unusedVariables false
set_option linter.unusedSimpArgs false
namespace Go.Proofs.YtpfaccpmgldkeaaGreatDoor
open Go.RowKit Go.MapKept Go.ChangeMaps
set_option maxRecDepth 100000

theorem close_bad {s : M.St} {fd : Int} (h : ¬ IsOpen s.fds fd) : s.closeS fd = (M.code 10, s) := by
  unfold M.St.closeS
  rw [if_pos (by cases hh : s.isOpen fd; rfl; exact absurd (isOpen_iff.1 hh) h)]
theorem close_ok {s : M.St} {q : Nat} (hq : q < 16) (h : (s.fds q).opn = true) : s.closeS (q : Int) = ({}, ({ s with fds := tset s.fds q zeroSlot } : M.St).forget (s.fds q).node) := by
  unfold M.St.closeS
  rw [if_neg (by rw [isOpen_iff.2 ⟨by omega, by omega, h⟩]; decide), Int.toNat_natCast]
  rfl

set_option maxHeartbeats 2000000 in
theorem close_tree (tb : Nat) (L : Lay) (k : Int) (s : M.St) (fd : Int) (w : World) (h : TreeAt w tb L s) (hwf : Wf k s) (hk : k ≤ 10000) :
    Calls Tryz.prog 71 #[Pt tb, I fd] w (OpPost tb L (s.closeS fd) w) := by
  obtain ⟨t0, -, t2, -, -, tf, htb⟩ := h.cells5
  have H := Lib.hid h; clear h
  have HS0 := Lib.hid (ans_zero w)
  have HB0 := Lib.hid ((Below.refl w.heap.size w).alloc (Nat.le_refl _) (.cells #[I 0, I 0, I 0, I 0, .slice none 0 0, .slice none 0 0] 29))
  have HC := Lib.hid (close_any _ L.fb s.fds fd (H.out.below HB0.out).fds)
  go_enter Tryz.func71, Tryz.ntmps71
  go_wp2_with fail
  (with_reducible refine HC.out.mono ?_)
  rintro e w1 ⟨ht, ⟨q, hq, rfl, ho, rfl, hf⟩ | ⟨hno, rfl, hf⟩⟩
  all_goals
    have HF1 := Lib.hid ((H.out.below HB0.out).newFds ht hf)
    have HT1 := Lib.hid ((Tch.ofBelow (S := Owned L) HB0.out).trans (Tch.ownF (H.out.below HB0.out) ht))
    have HA1 := Lib.hid (HS0.out.tch ht (fun e => by have e' : w.heap.size = L.fb := e; have := H.out.low _ _ H.out.ownf; omega))
    clear t0 t2 tf htb ht hf
  · have HR := Lib.hid (close_ok hq ho)
    have hwn := (hwf.fds q ho).1
    clear ho
    obtain ⟨t0, -, -, -, -, tf, htb⟩ := HF1.out.cells5
    go_wp2_with fail
    (with_reducible refine (forget_any tb L _ _ w1 HF1.out ?_ ?_).mono ?_)
    · exact fun _ => hwf.small (n := (s.fds q).node) hk hwn
    · exact ⟨(hwf.smallT hk).past, (hwf.smallT hk).went, (hwf.smallT hk).last⟩
    rintro e w2 ⟨rfl, ht2, hc2⟩
    have HT2 := Lib.hid ht2; clear ht2
    have HTC := Lib.hid (HT1.out.andNew hc2 (fun i _ hT => by rcases hT with e | e <;> (unfold Owned; rw [e]; simp)))
    have HA2 := Lib.hid (HA1.out.tch hc2 (fun e => by rcases e with e | e <;> (rw [H.out.none (Nat.le_refl _)] at e; cases e)))
    clear hc2 t0 tf htb
    obtain ⟨z0, z1, z2, z3, z4, z5, zf, zlt⟩ := HA2.out.cells
    unfold NilS at z4 z5
    go_wp2_with fail
    have hb6 := Tch.put6 HTC.out w.heap.size (Nat.le_refl _) (I 0) (I 0) (I 0) (I 0) NilS NilS
    have ht6 := HT2.out.put6 w.heap.size (H.out.none (Nat.le_refl _)) (I 0) (I 0) (I 0) (I 0) NilS NilS
    obtain ⟨r0, r1, r2, r3, r4, r5, -, -⟩ := (HA2.out.store {} NilS NilS).cells
    unfold put6 NilS at r0 r1 r2 r3 r4 r5
    refine bodyPost_ret (v := M.Ans.val {} NilS NilS) (by simp [results, Tryz.results71, go_sem, M.Ans.val, NilS, r0, r1, r2, r3, r4, r5]) rfl ?_
    exact ⟨_, _, rfl, by rw [HR.out]; exact AnsIn.plain rfl rfl, by rw [HR.out]; exact ht6, Ext.same _ _ L, hb6⟩
  · have HR := Lib.hid (close_bad hno)
    clear hno
    go_wp2_with fail
    (with_reducible refine (code_any 10 _).mono ?_)
    rintro e wc ⟨rfl, hbc⟩
    have HAC := Lib.hid (HA1.out.below hbc)
    have HTC := Lib.hid (HT1.out.andNew (Tch.ofBelow (S := fun _ => False) hbc) (fun _ _ h => h.elim))
    have HFC := Lib.hid (HF1.out.below hbc); clear hbc
    obtain ⟨z0, z1, z2, z3, z4, z5, zf, zlt⟩ := HAC.out.cells
    unfold NilS at z4 z5
    unfold M.Ans.val
    go_wp2_with fail
    have hb6 := Tch.put6 HTC.out w.heap.size (Nat.le_refl _) (I (M.code 10).code) (I (M.code 10).n) (I (M.code 10).kind) (I (M.code 10).links) NilS NilS
    have ht6 := HFC.out.put6 w.heap.size (H.out.none (Nat.le_refl _)) (I (M.code 10).code) (I (M.code 10).n) (I (M.code 10).kind) (I (M.code 10).links) NilS NilS
    obtain ⟨r0, r1, r2, r3, r4, r5, -, -⟩ := (HAC.out.store (M.code 10) NilS NilS).cells
    unfold put6 NilS at r0 r1 r2 r3 r4 r5
    refine bodyPost_ret (v := M.Ans.val (M.code 10) NilS NilS) (by simp [results, Tryz.results71, go_sem, M.Ans.val, NilS, r0, r1, r2, r3, r4, r5]) rfl ?_
    exact ⟨_, _, rfl, by rw [HR.out]; exact AnsIn.plain rfl rfl, by rw [HR.out]; exact ht6, Ext.same _ _ L, hb6⟩
end Go.Proofs.YtpfaccpmgldkeaaGreatDoor
