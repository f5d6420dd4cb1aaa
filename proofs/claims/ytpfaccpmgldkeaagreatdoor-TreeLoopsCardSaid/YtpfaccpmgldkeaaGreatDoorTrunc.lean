/- Contracts of trunc and close. -/
import Derived.Test.YtpfaccpmgldkeaaGreatDoorStat
namespace Go.Proofs.YtpfaccpmgldkeaaGreatDoor
open Go.RowKit Go.MapKept Go.ChangeMaps
set_option maxRecDepth 100000

theorem trunc_bad {s : M.St} {o : M.Op} (h : s.fileCode o.fd true ≠ 0) : s.truncS o = (M.code (s.fileCode o.fd true), s) := by unfold M.St.truncS; rw [if_pos h]
theorem trunc_arg {s : M.St} {o : M.Op} (h : s.fileCode o.fd true = 0) (h2 : o.off < 0) : s.truncS o = (M.code 2, s) := by unfold M.St.truncS; rw [if_neg (by simp [h]), if_pos h2]
theorem trunc_big {s : M.St} {o : M.Op} (h : s.fileCode o.fd true = 0) (h2 : ¬ o.off < 0) (h3 : 20736 < o.off) : s.truncS o = (M.code 15, s) := by unfold M.St.truncS; rw [if_neg (by simp [h]), if_neg h2, if_pos h3]
theorem trunc_ok {s : M.St} {o : M.Op} (h : s.fileCode o.fd true = 0) (h2 : ¬ o.off < 0) (h3 : ¬ 20736 < o.off) : s.truncS o = ({}, s.set (s.fds o.fd.toNat).node ((s.nd (s.fds o.fd.toNat).node).resize o.off.toNat)) := by
  unfold M.St.truncS; rw [if_neg (by simp [h]), if_neg h2, if_neg h3]

set_option maxHeartbeats 2000000 in
theorem trunc_any (tb : Nat) (L : Lay) (k : Int) (s : M.St) (o : M.Op) (dp : Option Addr) (dn dc : Nat) (w : World) (h : TreeAt w tb L s) (hwf : Wf k s) (hk : k ≤ 10000) :
    Calls Tryz.prog 75 #[Pt tb, o.val (.slice dp dn dc)] w (OpPost tb L (s.truncS o) w) := by
  have H := Lib.hid h; clear h
  unfold M.Op.val
  have HBS := Lib.hid (Base.start w o (.slice dp dn dc))
  obtain ⟨t0, -, t2, -, -, tf, htb⟩ := (H.out.below HBS.out.below).cells5
  go_enter Tryz.func75, Tryz.ntmps75
  go_wp2_with fail
  change Calls _ _ _ (base2 w o (.slice dp dn dc)) _
  generalize base2 w o (.slice dp dn dc) = W0 at *
  obtain ⟨o0, o1, o2, o3, o4, o5, o6, o7, of, olt⟩ := HBS.out.op.cells
  (with_reducible refine (file_any tb L k s o.fd true W0 (H.out.below HBS.out.below) hwf).mono ?_)
  rintro e w1 ⟨hb, ⟨hc, rfl⟩ | ⟨hc, rfl⟩⟩
  · have hop := fileCode_open hc
    obtain ⟨hfd0, hfd1, hopn⟩ := isOpen_iff.1 hop
    obtain ⟨hn, -, -⟩ := hwf.fds o.fd.toNat hopn
    have hk3 := hwf.fdk o.fd.toNat hopn
    have hsm := hwf.small hk hn
    have HRA := Lib.hid (fun h2 => trunc_arg hc h2)
    have HRB := Lib.hid (fun h2 h3 => trunc_big hc h2 h3)
    have HRC := Lib.hid (fun h2 h3 => trunc_ok hc h2 h3)
    have HBS1 := Lib.hid (HBS.out.below' hb)
    have HBS := Lib.hid (HBS.out.below' (hb.alloc hb.size (.cells #[I (s.fds o.fd.toNat).node, I (s.fds o.fd.toNat).off, I (s.fds o.fd.toNat).flags] 90)))
    clear o0 o1 o2 o3 o4 o5 o6 o7 of olt t0 t2 tf htb hb hop hc
    obtain ⟨o0, o1, o2, o3, o4, o5, o6, o7, of, olt⟩ := HBS1.out.op.cells
    unfold M.Sl.fval
    by_cases h2 : o.off < 0
    · have HR := Lib.hid (HRA.out h2)
      go_wp2_with fail
      (with_reducible refine (code_any (2) _).mono ?_)
      rintro e wc ⟨rfl, hbc⟩
      have HBC := Lib.hid (HBS.out.below' hbc); clear hbc
      obtain ⟨z0, z1, z2, z3, z4, z5, zf, zlt⟩ := HBC.out.ans.cells
      unfold NilS at z4 z5
      unfold M.Ans.val
      go_wp2_with fail
      have hb6 := Below.put6 HBC.out.below (w.heap.size + 1) (Nat.le_succ _) (I (M.code (2)).code) (I (M.code (2)).n) (I (M.code (2)).kind) (I (M.code (2)).links) NilS NilS
      obtain ⟨r0, r1, r2, r3, r4, r5, -, -⟩ := (HBC.out.ans.store (M.code (2)) NilS NilS).cells
      unfold put6 NilS at r0 r1 r2 r3 r4 r5
      refine bodyPost_ret (v := M.Ans.val (M.code (2)) NilS NilS) (by simp [results, Tryz.results75, go_sem, M.Ans.val, NilS, r0, r1, r2, r3, r4, r5]) rfl ?_
      exact ⟨_, L, rfl, by rw [HR.out]; exact AnsIn.plain rfl rfl, by rw [HR.out]; exact H.out.below hb6, Ext.same _ _ L, Tch.ofBelow hb6⟩
    · by_cases h3 : 20736 < o.off
      · have HR := Lib.hid (HRB.out h2 h3)
        go_wp2_with fail
        (with_reducible refine (code_any (15) _).mono ?_)
        rintro e wc ⟨rfl, hbc⟩
        have HBC := Lib.hid (HBS.out.below' hbc); clear hbc
        obtain ⟨z0, z1, z2, z3, z4, z5, zf, zlt⟩ := HBC.out.ans.cells
        unfold NilS at z4 z5
        unfold M.Ans.val
        go_wp2_with fail
        have hb6 := Below.put6 HBC.out.below (w.heap.size + 1) (Nat.le_succ _) (I (M.code (15)).code) (I (M.code (15)).n) (I (M.code (15)).kind) (I (M.code (15)).links) NilS NilS
        obtain ⟨r0, r1, r2, r3, r4, r5, -, -⟩ := (HBC.out.ans.store (M.code (15)) NilS NilS).cells
        unfold put6 NilS at r0 r1 r2 r3 r4 r5
        refine bodyPost_ret (v := M.Ans.val (M.code (15)) NilS NilS) (by simp [results, Tryz.results75, go_sem, M.Ans.val, NilS, r0, r1, r2, r3, r4, r5]) rfl ?_
        exact ⟨_, L, rfl, by rw [HR.out]; exact AnsIn.plain rfl rfl, by rw [HR.out]; exact H.out.below hb6, Ext.same _ _ L, Tch.ofBelow hb6⟩
      · have HR := Lib.hid (HRC.out h2 h3)
        have hrz := fun w' (hb : Below w.heap.size w w') => resize_any tb L s (s.fds o.fd.toNat).node o.off.toNat w' (H.out.below hb) hn hk3 hsm (by omega)
        rw [show ((o.off.toNat : Nat) : Int) = o.off by omega] at hrz
        have HRZ := Lib.hid hrz; clear hrz
        go_wp2_with fail
        (with_reducible refine (HRZ.out _ HBS.out.below).mono ?_)
        rintro e w3 ⟨rfl, hp3⟩
        obtain ⟨ow3, ht3, hc3, ho3⟩ := hp3
        have HT3 := Lib.hid ht3; clear ht3
        have HO3 := Lib.hid ho3; clear ho3
        have hno : ¬ OfN L (s.fds o.fd.toNat).node (w.heap.size + 1) := fun ⟨j, e⟩ => by rw [H.out.none (Nat.le_succ _)] at e; cases e
        have HA3 := Lib.hid (HBS.out.ans.tch hc3 hno)
        have HTC := Lib.hid ((Tch.ofBelow (S := Owned L) HBS.out.below).andNew hc3 (fun i _ hT => by obtain ⟨j, e⟩ := hT; unfold Owned; rw [e]; simp))
        have HNN := Lib.hid (show ow3 (w.heap.size + 1) = none from (HO3.out _ HBS.out.ans.cells.lt).trans (H.out.none (Nat.le_succ _)))
        clear hc3 hno
        clear o0 o1 o2 o3 o4 o5 o6 o7 of olt
        obtain ⟨z0, z1, z2, z3, z4, z5, zf, zlt⟩ := HA3.out.cells
        unfold NilS at z4 z5
        go_wp2_with fail
        have hb6 := Tch.put6 HTC.out (w.heap.size + 1) (Nat.le_succ _) (I 0) (I 0) (I 0) (I 0) NilS NilS
        have ht6 := HT3.out.put6 (w.heap.size + 1) HNN.out (I 0) (I 0) (I 0) (I 0) NilS NilS
        obtain ⟨r0, r1, r2, r3, r4, r5, -, -⟩ := (HA3.out.store {} NilS NilS).cells
        unfold put6 NilS at r0 r1 r2 r3 r4 r5
        refine bodyPost_ret (v := M.Ans.val {} NilS NilS) (by simp [results, Tryz.results75, go_sem, M.Ans.val, NilS, r0, r1, r2, r3, r4, r5]) rfl ?_
        exact ⟨_, { L with ow := ow3 }, rfl, by rw [HR.out]; exact AnsIn.plain rfl rfl, by rw [HR.out]; exact ht6, ⟨rfl, rfl, fun k hk => HO3.out k (Nat.lt_of_lt_of_le hk HBS.out.below.size)⟩, hb6⟩
  · have hb1 : (s.fileCode o.fd true != 0) = true := by simpa using hc
    have HR := Lib.hid (trunc_bad hc)
    clear hc
    generalize s.fileCode o.fd true = C at *
    have HBS := Lib.hid (HBS.out.below' (hb.alloc hb.size (.cells #[I 0, I 0, I 0] 90)))
    unfold M.Sl.fval
    go_wp2_with fail
    (with_reducible refine (code_any (C) _).mono ?_)
    rintro e wc ⟨rfl, hbc⟩
    have HBC := Lib.hid (HBS.out.below' hbc); clear hbc
    obtain ⟨z0, z1, z2, z3, z4, z5, zf, zlt⟩ := HBC.out.ans.cells
    unfold NilS at z4 z5
    unfold M.Ans.val
    go_wp2_with fail
    have hb6 := Below.put6 HBC.out.below (w.heap.size + 1) (Nat.le_succ _) (I (M.code (C)).code) (I (M.code (C)).n) (I (M.code (C)).kind) (I (M.code (C)).links) NilS NilS
    obtain ⟨r0, r1, r2, r3, r4, r5, -, -⟩ := (HBC.out.ans.store (M.code (C)) NilS NilS).cells
    unfold put6 NilS at r0 r1 r2 r3 r4 r5
    refine bodyPost_ret (v := M.Ans.val (M.code (C)) NilS NilS) (by simp [results, Tryz.results75, go_sem, M.Ans.val, NilS, r0, r1, r2, r3, r4, r5]) rfl ?_
    exact ⟨_, L, rfl, by rw [HR.out]; exact AnsIn.plain rfl rfl, by rw [HR.out]; exact H.out.below hb6, Ext.same _ _ L, Tch.ofBelow hb6⟩
end Go.Proofs.YtpfaccpmgldkeaaGreatDoor
