/- Contracts of symlink and link. -/
import Derived.Test.YtpfaccpmgldkeaaGreatDoorOp
import Derived.Test.YtpfaccpmgldkeaaGreatDoorMake
import Derived.Test.YtpfaccpmgldkeaaGreatDoorPlace
import Derived.Test.YtpfaccpmgldkeaaGreatDoorDirs
set_option linter.unusedVariables false
set_option linter.unusedSimpArgs false
namespace Go.Proofs.YtpfaccpmgldkeaaGreatDoor
open Go.RowKit Go.MapKept Go.ChangeMaps
set_option maxRecDepth 100000

theorem targetP_short {t : M.Bs} (h : (M.targetP t).2.2 = 0) : t.length ≤ 100 := by
  unfold M.targetP at h
  split at h
  · cases h
  · split at h
    · cases h
    · rename_i h2
      have := not_or.1 h2
      omega

theorem fresh_dir {s : M.St} {p : M.Bs} (hcl : Cl s) (h : (s.fresh p).2 = 0) : s.has (s.fresh p).1.dir = true ∧ (s.nd (s.fresh p).1.dir).kind = 2 ∧ (s.fresh p).1.name.length ≤ 24 := by
  unfold M.St.fresh at h ⊢
  simp only at h ⊢
  split at h
  · rename_i h1; exact absurd h h1
  · rename_i h1
    rw [if_neg h1]
    split at h
    · cases h
    · rename_i h2
      rw [if_neg h2]
      obtain ⟨a, b, c, _⟩ := place_dir hcl (by simpa using h1)
      exact ⟨a, b, c⟩

theorem symlink_bad {s : M.St} {o : M.Op} (h : (M.targetP o.path).2.2 ≠ 0) : s.symlinkS o = (M.code (M.targetP o.path).2.2, s) := by unfold M.St.symlinkS; rw [if_pos h]
theorem symlink_place {s : M.St} {o : M.Op} (h : (M.targetP o.path).2.2 = 0) (h2 : (s.fresh o.to).2 ≠ 0) : s.symlinkS o = (M.code (s.fresh o.to).2, s) := by unfold M.St.symlinkS; rw [if_neg (by simp [h])]; simp only; rw [if_pos h2]
theorem symlink_ok {s : M.St} {o : M.Op} (h : (M.targetP o.path).2.2 = 0) (h2 : (s.fresh o.to).2 = 0) : s.symlinkS o = ({}, s.make (s.fresh o.to).1 3 o.path) := by unfold M.St.symlinkS; rw [if_neg (by simp [h])]; simp only; rw [if_neg (by simp [h2])]

set_option maxHeartbeats 4000000 in
theorem symlink_any (tb : Nat) (L : Lay) (k : Int) (s : M.St) (o : M.Op) (dp : Option Addr) (dn dc : Nat) (w : World) (h : TreeAt w tb L s) (hwf : Wf k s) (hk : k ≤ 9999) (hl : o.path.length ≤ 1000000) (hl2 : o.to.length ≤ 1000000) (hm : GMax w) :
    Calls Tryz.prog 80 #[Pt tb, o.val (.slice dp dn dc)] w (OpPost tb L (s.symlinkS o) w) := by
  have H := Lib.hid h; clear h
  unfold M.Op.val
  have HM := Lib.hid hm; clear hm
  have HBS := Lib.hid (Base.start w o (.slice dp dn dc))
  obtain ⟨t0, -, t2, -, -, tf, htb⟩ := (H.out.below HBS.out.below).cells5
  go_enter Tryz.func80, Tryz.ntmps80
  go_wp2_with fail
  change Calls _ _ _ (base2 w o (.slice dp dn dc)) _
  generalize base2 w o (.slice dp dn dc) = W0 at *
  obtain ⟨o0, o1, o2, o3, o4, o5, o6, o7, of, olt⟩ := HBS.out.op.cells
  (with_reducible refine (target_path o.path W0 hl (HM.out.below HBS.out.below)).mono ?_)
  rintro e w1 ⟨vt, rfl, hst, hb⟩
  obtain ⟨pt, ct, rfl⟩ := strsAt_form hst.at
  clear hst t0 t2 tf htb o0 o1 o2 o3 o4 o5 o6 o7 of olt
  have HBS1 := Lib.hid (HBS.out.below' hb); clear hb HBS
  have HBS := HBS1; clear HBS1
  obtain ⟨o0, o1, o2, o3, o4, o5, o6, o7, of, olt⟩ := HBS.out.op.cells
  by_cases hc : (M.targetP o.path).2.2 = 0
  · have hsh := targetP_short hc
    have HP := Lib.hid (symlink_place (s := s) hc)
    have HO := Lib.hid (symlink_ok (s := s) hc)
    have b1 : ((M.targetP o.path).2.2 != 0) = false := by simpa using hc
    clear hc
    generalize (M.targetP o.path).2.2 = C at *
    go_wp2_with fail
    (with_reducible refine (fresh_any tb L k s o.to w1 (H.out.below HBS.out.below) hwf hl2 (HM.out.below HBS.out.below)).mono ?_)
    rintro e w2 ⟨rfl, hb2⟩
    have hfd := fun h => fresh_dir (p := o.to) hwf.cl h
    generalize s.fresh o.to = Q at *
    have HFD := Lib.hid hfd; clear hfd
    clear o0 o1 o2 o3 o4 o5 o6 o7 of olt
    have HBS2 := Lib.hid (HBS.out.below' hb2); clear HBS
    have HBS := Lib.hid (HBS2.out.below' ((Below.refl _ _).alloc (Nat.le_refl _) (.cells #[I Q.1.node, I Q.1.dir, S Q.1.name] 86)))
    clear hb2
    obtain ⟨o0, o1, o2, o3, o4, o5, o6, o7, of, olt⟩ := HBS2.out.op.cells
    unfold M.Spot.val
    by_cases hc2 : Q.2 = 0
    · obtain ⟨hd1, hd2, hd3⟩ := HFD.out hc2
      have HR := Lib.hid (HO.out hc2)
      have b2 : (Q.2 != 0) = false := by simpa using hc2
      clear hc2
      have hmk := make_any tb L s Q.1 3 o.path _ (H.out.below HBS.out.below) hd1 hwf.free hd2 (hwf.small (by omega) hd1) (hwf.smallT (by omega)) (Or.inr (Or.inr rfl)) (by omega)
      unfold M.Spot.val at hmk
      have HMK := Lib.hid hmk; clear hmk
      go_wp2_with fail
      refine HMK.out.mono ?_
      rintro e w9 ⟨rfl, L1, ht9, hx9, hc9⟩
      have hnn : ∀ k, w.heap.size ≤ k → ¬ Owned L k := fun k hk' h => h (H.out.none hk')
      have HAL := Lib.hid (HBS.out.ans.tch hc9 (hnn _ (Nat.le_succ _)))
      have HTL := Lib.hid ((Tch.ofBelow (S := Owned L) HBS.out.below).trans hc9)
      have HNL := Lib.hid ((hx9.old _ HBS.out.ans.cells.lt).trans (H.out.none (Nat.le_succ _)))
      have HXL := Lib.hid (show Ext w w9 L L1 from ⟨hx9.mb, hx9.fb, fun k hk' => hx9.old k (Nat.lt_of_lt_of_le hk' HBS.out.below.size)⟩)
      have HT9 := Lib.hid ht9
      clear hnn ht9 hx9 hc9
      obtain ⟨z0, z1, z2, z3, z4, z5, zf, zlt⟩ := HAL.out.cells
      unfold NilS at z4 z5
      go_wp2_with fail
      have hb6 := Tch.put6 HTL.out (w.heap.size + 1) (Nat.le_succ _) (I 0) (I 0) (I 0) (I 0) NilS NilS
      have ht6 := HT9.out.put6 (w.heap.size + 1) HNL.out (I 0) (I 0) (I 0) (I 0) NilS NilS
      obtain ⟨r0, r1, r2, r3, r4, r5, -, -⟩ := (HAL.out.store {} NilS NilS).cells
      unfold put6 NilS at r0 r1 r2 r3 r4 r5
      refine bodyPost_ret (v := M.Ans.val {} NilS NilS) (by simp [results, Tryz.results80, go_sem, M.Ans.val, NilS, r0, r1, r2, r3, r4, r5]) rfl ?_
      exact ⟨_, L1, rfl, by rw [HR.out]; exact AnsIn.plain rfl rfl, by rw [HR.out]; exact ht6, ⟨HXL.out.mb, HXL.out.fb, HXL.out.old⟩, hb6⟩
    · have HR := Lib.hid (HP.out hc2)
      have b2 : (Q.2 != 0) = true := by simpa using hc2
      clear hc2
      go_wp2_with fail
      (with_reducible refine (code_any (Q.2) _).mono ?_)
      rintro e wc ⟨rfl, hbc⟩
      have HBC := Lib.hid (HBS.out.below' hbc); clear hbc
      obtain ⟨z0, z1, z2, z3, z4, z5, zf, zlt⟩ := HBC.out.ans.cells
      unfold NilS at z4 z5
      unfold M.Ans.val
      go_wp2_with fail
      have hb6 := Below.put6 HBC.out.below (w.heap.size + 1) (Nat.le_succ _) (I (M.code (Q.2)).code) (I (M.code (Q.2)).n) (I (M.code (Q.2)).kind) (I (M.code (Q.2)).links) NilS NilS
      obtain ⟨r0, r1, r2, r3, r4, r5, -, -⟩ := (HBC.out.ans.store (M.code (Q.2)) NilS NilS).cells
      unfold put6 NilS at r0 r1 r2 r3 r4 r5
      refine bodyPost_ret (v := M.Ans.val (M.code (Q.2)) NilS NilS) (by simp [results, Tryz.results80, go_sem, M.Ans.val, NilS, r0, r1, r2, r3, r4, r5]) rfl ?_
      exact ⟨_, L, rfl, by rw [HR.out]; exact AnsIn.plain rfl rfl, by rw [HR.out]; exact H.out.below hb6, Ext.same _ _ L, Tch.ofBelow hb6⟩
  · have HR := Lib.hid (symlink_bad (s := s) hc)
    have b1 : ((M.targetP o.path).2.2 != 0) = true := by simpa using hc
    clear hc
    generalize (M.targetP o.path).2.2 = C at *
    go_wp2_with fail
    (with_reducible refine (code_any (C) _).mono ?_)
    rintro e wc ⟨rfl, hbc⟩
    have HBC := Lib.hid (HBS.out.below' hbc); clear hbc
    obtain ⟨z0, z1, z2, z3, z4, z5, zf, zlt⟩ := HBC.out.ans.cells
    unfold NilS at z4 z5
    unfold M.Ans.val
    go_wp2_with fail
    have hb6 := Below.put6 HBC.out.below (w.heap.size + 1) (Nat.le_succ _) (I (M.code (C)).code) (I (M.code (C)).n) (I (M.code (C)).kind) (I (M.code (C)).links) NilS NilS
    obtain ⟨r0, r1, r2, r3, r4, r5, -, -⟩ := (HBC.out.ans.store (M.code (C)) NilS NilS).cells
    unfold put6 NilS at r0 r1 r2 r3 r4 r5
    refine bodyPost_ret (v := M.Ans.val (M.code (C)) NilS NilS) (by simp [results, Tryz.results80, go_sem, M.Ans.val, NilS, r0, r1, r2, r3, r4, r5]) rfl ?_
    exact ⟨_, L, rfl, by rw [HR.out]; exact AnsIn.plain rfl rfl, by rw [HR.out]; exact H.out.below hb6, Ext.same _ _ L, Tch.ofBelow hb6⟩

theorem link_bad {s : M.St} {o : M.Op} (h : (s.find o.path false).2 ≠ 0) : s.linkS o = (M.code (s.find o.path false).2, s) := by unfold M.St.linkS; simp only; rw [if_pos h]
theorem link_dir {s : M.St} {o : M.Op} (h : (s.find o.path false).2 = 0) (h2 : (s.nd (s.find o.path false).1.node).kind = 2) : s.linkS o = (M.code 16, s) := by unfold M.St.linkS; simp only; rw [if_neg (by simp [h]), if_pos h2]
theorem link_place {s : M.St} {o : M.Op} (h : (s.find o.path false).2 = 0) (h2 : (s.nd (s.find o.path false).1.node).kind ≠ 2) (h3 : (s.fresh o.to).2 ≠ 0) : s.linkS o = (M.code (s.fresh o.to).2, s) := by
  unfold M.St.linkS; simp only; rw [if_neg (by simp [h]), if_neg h2, if_pos h3]
theorem link_ok {s : M.St} {o : M.Op} (h : (s.find o.path false).2 = 0) (h2 : (s.nd (s.find o.path false).1.node).kind ≠ 2) (h3 : (s.fresh o.to).2 = 0) : s.linkS o = ({}, s.add (s.fresh o.to).1.dir (s.fresh o.to).1.name (s.find o.path false).1.node) := by
  unfold M.St.linkS; simp only; rw [if_neg (by simp [h]), if_neg h2, if_neg (by simp [h3])]

set_option maxHeartbeats 4000000 in
theorem link_any (tb : Nat) (L : Lay) (k : Int) (s : M.St) (o : M.Op) (dp : Option Addr) (dn dc : Nat) (w : World) (h : TreeAt w tb L s) (hwf : Wf k s) (hk : k ≤ 9999) (hl : o.path.length ≤ 1000000) (hl2 : o.to.length ≤ 1000000) (hm : GMax w) :
    Calls Tryz.prog 79 #[Pt tb, o.val (.slice dp dn dc)] w (OpPost tb L (s.linkS o) w) := by
  have H := Lib.hid h; clear h
  unfold M.Op.val
  have HM := Lib.hid hm; clear hm
  have HBS := Lib.hid (Base.start w o (.slice dp dn dc))
  obtain ⟨t0, -, t2, -, -, tf, htb⟩ := (H.out.below HBS.out.below).cells5
  go_enter Tryz.func79, Tryz.ntmps79
  go_wp2_with fail
  change Calls _ _ _ (base2 w o (.slice dp dn dc)) _
  generalize base2 w o (.slice dp dn dc) = W0 at *
  obtain ⟨o0, o1, o2, o3, o4, o5, o6, o7, of, olt⟩ := HBS.out.op.cells
  (with_reducible refine (find_any tb L s o.path false W0 (H.out.below HBS.out.below) hwf.cl hl (HM.out.below HBS.out.below)).mono ?_)
  rintro e w1 ⟨rfl, hb⟩
  clear t0 t2 tf htb o0 o1 o2 o3 o4 o5 o6 o7 of olt
  by_cases hc : (s.find o.path false).2 = 0
  · have hn := find_has hwf.cl hc
    have HD := Lib.hid (link_dir (s := s) hc)
    have HP := Lib.hid (link_place (s := s) hc)
    have HO := Lib.hid (link_ok (s := s) hc)
    rw [hc]
    clear hc
    generalize (s.find o.path false).1 = R at *
    have HBS1 := Lib.hid (HBS.out.below' (hb.alloc hb.size (.cells #[I R.node, I R.dir, S R.name] 86))); clear HBS
    have HBS := HBS1; clear HBS1
    have HSP := Lib.hid (spot_new w1 R)
    unfold M.Spot.val
    go_wp2_with fail
    clear hb
    generalize hw2 : w1.alloc (.cells #[I R.node, I R.dir, S R.name] 86) = w2 at *
    clear hw2
    generalize w1.heap.size = b5 at *
    have HT2 := Lib.hid (H.out.below HBS.out.below)
    have hlk := fun m : Nat => (HT2.out.keep ((Tch.refl _ w2).drewN m)).look hn
    obtain ⟨t0, -, -, -, -, tf, htb⟩ := HT2.out.cells5
    obtain ⟨s0, s1, s2, sf, slt⟩ := HSP.out.cells
    obtain ⟨dv, wv, mv, hnode⟩ := HT2.out.nodeOf hn
    obtain ⟨n0, -, -, -, -, -, -, -, nf, hnb⟩ := hnode.cells8
    clear hnode
    go_quiet (fail)
    have HBE := Lib.hid (HBS.out.below' (below_drewN (Below.refl _ _) nq)); clear HBS
    have HBS := HBE; clear HBE
    have HSQ := Lib.hid (show SpotAt (w2.drewN nq) _ _ from HSP.out); clear HSP
    have HSP := HSQ; clear HSQ
    clear hlk t0 tf htb s0 s1 s2 sf slt HT2 n0 nf hnb
    generalize hw3 : w2.drewN nq = w3 at *
    clear hw3
    obtain ⟨o0, o1, o2, o3, o4, o5, o6, o7, of, olt⟩ := HBS.out.op.cells
    by_cases hkd : (s.nd R.node).kind = 2
    · have HR := Lib.hid (HD.out hkd)
      have b2 : ((s.nd R.node).kind == 2) = true := by simpa using hkd
      clear hkd
      go_wp2_with fail
      (with_reducible refine (code_any (16) _).mono ?_)
      rintro e wc ⟨rfl, hbc⟩
      have HBC := Lib.hid (HBS.out.below' hbc); clear hbc
      obtain ⟨z0, z1, z2, z3, z4, z5, zf, zlt⟩ := HBC.out.ans.cells
      unfold NilS at z4 z5
      unfold M.Ans.val
      go_wp2_with fail
      have hb6 := Below.put6 HBC.out.below (w.heap.size + 1) (Nat.le_succ _) (I (M.code (16)).code) (I (M.code (16)).n) (I (M.code (16)).kind) (I (M.code (16)).links) NilS NilS
      obtain ⟨r0, r1, r2, r3, r4, r5, -, -⟩ := (HBC.out.ans.store (M.code (16)) NilS NilS).cells
      unfold put6 NilS at r0 r1 r2 r3 r4 r5
      refine bodyPost_ret (v := M.Ans.val (M.code (16)) NilS NilS) (by simp [results, Tryz.results79, go_sem, M.Ans.val, NilS, r0, r1, r2, r3, r4, r5]) rfl ?_
      exact ⟨_, L, rfl, by rw [HR.out]; exact AnsIn.plain rfl rfl, by rw [HR.out]; exact H.out.below hb6, Ext.same _ _ L, Tch.ofBelow hb6⟩
    · have b2 : ((s.nd R.node).kind == 2) = false := by simpa using hkd
      have HP2 := Lib.hid (HP.out hkd)
      have HO2 := Lib.hid (HO.out hkd)
      have HKD := Lib.hid hkd; clear hkd
      go_wp2_with fail
      (with_reducible refine (fresh_any tb L k s o.to w3 (H.out.below HBS.out.below) hwf hl2 (HM.out.below HBS.out.below)).mono ?_)
      rintro e w4 ⟨rfl, hb4⟩
      have hfd := fun h => fresh_dir (p := o.to) hwf.cl h
      generalize s.fresh o.to = Q at *
      have HFD := Lib.hid hfd; clear hfd
      clear o0 o1 o2 o3 o4 o5 o6 o7 of olt
      have HBS2 := Lib.hid (HBS.out.below' hb4); clear HBS
      have HBS := Lib.hid (HBS2.out.below' ((Below.refl _ _).alloc (Nat.le_refl _) (.cells #[I Q.1.node, I Q.1.dir, S Q.1.name] 86)))
      have HS4 := Lib.hid (HSP.out.below hb4)
      clear hb4
      unfold M.Spot.val
      by_cases hc2 : Q.2 = 0
      · obtain ⟨hd1, hd2, hd3⟩ := HFD.out hc2
        have HR := Lib.hid (HO2.out hc2)
        have b3 : (Q.2 != 0) = false := by simpa using hc2
        clear hc2
        have HAD := Lib.hid (add_any tb L s Q.1.dir Q.1.name R.node _ (H.out.below HBS.out.below) hd1 hn hd2 (hwf.small (by omega) hd1) (hwf.small (by omega) hn) (fun e => HKD.out (by rw [e]; exact hd2)))
        obtain ⟨a0, a1, a2, af, alt⟩ := HS4.out.cells
        go_wp2_with fail
        refine HAD.out.mono ?_
        rintro e w9 ⟨rfl, ht9, hc9'⟩
        have hx9 : Ext _ w9 L L := Ext.same (w4.alloc (.cells #[I Q.1.node, I Q.1.dir, S Q.1.name] 86)) w9 L
        have hc9 := hc9'.mono (S' := Owned L) (fun i _ hT => by obtain ⟨j, hT⟩ := hT; unfold Owned; rcases hT with e | e <;> (rw [e]; simp))
        clear hc9' a0 a1 a2 af alt
        obtain ⟨L1, hL1⟩ : ∃ L1, L1 = L := ⟨_, rfl⟩
        rw [← hL1] at ht9
        have hx9 : Ext (w4.alloc (.cells #[I Q.1.node, I Q.1.dir, S Q.1.name] 86)) w9 L L1 := by rw [hL1]; exact hx9
        have HL1 := Lib.hid hL1; clear hL1
        have hnn : ∀ k, w.heap.size ≤ k → ¬ Owned L k := fun k hk' h => h (H.out.none hk')
        have HAL := Lib.hid (HBS.out.ans.tch hc9 (hnn _ (Nat.le_succ _)))
        have HTL := Lib.hid ((Tch.ofBelow (S := Owned L) HBS.out.below).trans hc9)
        have HNL := Lib.hid ((hx9.old _ HBS.out.ans.cells.lt).trans (H.out.none (Nat.le_succ _)))
        have HXL := Lib.hid (show Ext w w9 L L1 from ⟨hx9.mb, hx9.fb, fun k hk' => hx9.old k (Nat.lt_of_lt_of_le hk' HBS.out.below.size)⟩)
        have HT9 := Lib.hid ht9
        clear hnn ht9 hx9 hc9
        obtain ⟨z0, z1, z2, z3, z4, z5, zf, zlt⟩ := HAL.out.cells
        unfold NilS at z4 z5
        go_wp2_with fail
        have hb6 := Tch.put6 HTL.out (w.heap.size + 1) (Nat.le_succ _) (I 0) (I 0) (I 0) (I 0) NilS NilS
        have ht6 := HT9.out.put6 (w.heap.size + 1) HNL.out (I 0) (I 0) (I 0) (I 0) NilS NilS
        obtain ⟨r0, r1, r2, r3, r4, r5, -, -⟩ := (HAL.out.store {} NilS NilS).cells
        unfold put6 NilS at r0 r1 r2 r3 r4 r5
        refine bodyPost_ret (v := M.Ans.val {} NilS NilS) (by simp [results, Tryz.results79, go_sem, M.Ans.val, NilS, r0, r1, r2, r3, r4, r5]) rfl ?_
        exact ⟨_, L1, rfl, by rw [HR.out]; exact AnsIn.plain rfl rfl, by rw [HR.out]; exact ht6, ⟨HXL.out.mb, HXL.out.fb, HXL.out.old⟩, hb6⟩
      · have HR := Lib.hid (HP2.out hc2)
        have b3 : (Q.2 != 0) = true := by simpa using hc2
        clear hc2
        go_wp2_with fail
        (with_reducible refine (code_any (Q.2) _).mono ?_)
        rintro e wc ⟨rfl, hbc⟩
        have HBC := Lib.hid (HBS.out.below' hbc); clear hbc
        obtain ⟨z0, z1, z2, z3, z4, z5, zf, zlt⟩ := HBC.out.ans.cells
        unfold NilS at z4 z5
        unfold M.Ans.val
        go_wp2_with fail
        have hb6 := Below.put6 HBC.out.below (w.heap.size + 1) (Nat.le_succ _) (I (M.code (Q.2)).code) (I (M.code (Q.2)).n) (I (M.code (Q.2)).kind) (I (M.code (Q.2)).links) NilS NilS
        obtain ⟨r0, r1, r2, r3, r4, r5, -, -⟩ := (HBC.out.ans.store (M.code (Q.2)) NilS NilS).cells
        unfold put6 NilS at r0 r1 r2 r3 r4 r5
        refine bodyPost_ret (v := M.Ans.val (M.code (Q.2)) NilS NilS) (by simp [results, Tryz.results79, go_sem, M.Ans.val, NilS, r0, r1, r2, r3, r4, r5]) rfl ?_
        exact ⟨_, L, rfl, by rw [HR.out]; exact AnsIn.plain rfl rfl, by rw [HR.out]; exact H.out.below hb6, Ext.same _ _ L, Tch.ofBelow hb6⟩
  · have HR := Lib.hid (link_bad (s := s) hc)
    have b1 : ((s.find o.path false).2 != 0) = true := by simpa using hc
    clear hc
    generalize (s.find o.path false).2 = C at *
    generalize (s.find o.path false).1 = R at *
    have HBS1 := Lib.hid (HBS.out.below' (hb.alloc hb.size (.cells #[I R.node, I R.dir, S R.name] 86))); clear HBS
    have HBS := HBS1; clear HBS1
    unfold M.Spot.val
    go_wp2_with fail
    (with_reducible refine (code_any (C) _).mono ?_)
    rintro e wc ⟨rfl, hbc⟩
    have HBC := Lib.hid (HBS.out.below' hbc); clear hbc
    obtain ⟨z0, z1, z2, z3, z4, z5, zf, zlt⟩ := HBC.out.ans.cells
    unfold NilS at z4 z5
    unfold M.Ans.val
    go_wp2_with fail
    have hb6 := Below.put6 HBC.out.below (w.heap.size + 1) (Nat.le_succ _) (I (M.code (C)).code) (I (M.code (C)).n) (I (M.code (C)).kind) (I (M.code (C)).links) NilS NilS
    obtain ⟨r0, r1, r2, r3, r4, r5, -, -⟩ := (HBC.out.ans.store (M.code (C)) NilS NilS).cells
    unfold put6 NilS at r0 r1 r2 r3 r4 r5
    refine bodyPost_ret (v := M.Ans.val (M.code (C)) NilS NilS) (by simp [results, Tryz.results79, go_sem, M.Ans.val, NilS, r0, r1, r2, r3, r4, r5]) rfl ?_
    exact ⟨_, L, rfl, by rw [HR.out]; exact AnsIn.plain rfl rfl, by rw [HR.out]; exact H.out.below hb6, Ext.same _ _ L, Tch.ofBelow hb6⟩
end Go.Proofs.YtpfaccpmgldkeaaGreatDoor
