/- Contract of remove. -/
import Derived.Test.YtpfaccpmgldkeaaGreatDoorLink
import Derived.Test.YtpfaccpmgldkeaaGreatDoorStat
set_option linter.unusedVariables false
set_option linter.unusedSimpArgs false
namespace Go.Proofs.YtpfaccpmgldkeaaGreatDoor
open Go.RowKit Go.MapKept Go.ChangeMaps
set_option maxRecDepth 100000

theorem child_ne {k : Int} {s : M.St} (hwf : Wf k s) {a c : Int} {m : M.Bs} (ha : s.has a = true) (hg : M.get (s.nd a).names m = some c) : c ≠ a := by
  intro e
  subst e
  have hk := hwf.child_dir ha hg
  have h1 := (hwf.child _ ha m c hg).2.2.2.2.2 hk
  obtain ⟨d, hd⟩ := hwf.tall
  have hn := hwf.num _ ha
  have h2 := hd c ha (by rw [h1]; omega)
  rw [h1] at h2
  omega

theorem remove_bad {s : M.St} {o : M.Op} (h : (s.place o.path).2 ≠ 0) : s.removeS o = (M.code (s.place o.path).2, s) := by unfold M.St.removeS; simp only; rw [if_pos h]
theorem remove_none {s : M.St} {o : M.Op} (h : (s.place o.path).2 = 0) (h2 : (s.place o.path).1.node = 0) : s.removeS o = (M.code 5, s) := by unfold M.St.removeS; simp only; rw [if_neg (by simp [h]), if_pos h2]
theorem remove_notdir {s : M.St} {o : M.Op} (h : (s.place o.path).2 = 0) (h2 : (s.place o.path).1.node ≠ 0) (h3 : o.kind = 10 ∧ (s.nd (s.place o.path).1.node).kind ≠ 2) : s.removeS o = (M.code 7, s) := by
  unfold M.St.removeS; simp only; rw [if_neg (by simp [h]), if_neg h2, if_pos h3]
theorem remove_full {s : M.St} {o : M.Op} (h : (s.place o.path).2 = 0) (h2 : (s.place o.path).1.node ≠ 0) (h3 : ¬ (o.kind = 10 ∧ (s.nd (s.place o.path).1.node).kind ≠ 2)) (h4 : o.kind = 10 ∧ (s.nd (s.place o.path).1.node).names ≠ []) : s.removeS o = (M.code 9, s) := by
  unfold M.St.removeS; simp only; rw [if_neg (by simp [h]), if_neg h2, if_neg h3, if_pos h4]
theorem remove_dir {s : M.St} {o : M.Op} (h : (s.place o.path).2 = 0) (h2 : (s.place o.path).1.node ≠ 0) (h3 : ¬ (o.kind = 10 ∧ (s.nd (s.place o.path).1.node).kind ≠ 2)) (h4 : ¬ (o.kind = 10 ∧ (s.nd (s.place o.path).1.node).names ≠ [])) (h5 : o.kind = 11 ∧ (s.nd (s.place o.path).1.node).kind = 2) : s.removeS o = (M.code 8, s) := by
  unfold M.St.removeS; simp only; rw [if_neg (by simp [h]), if_neg h2, if_neg h3, if_neg h4, if_pos h5]
theorem remove_ok {s : M.St} {o : M.Op} (h : (s.place o.path).2 = 0) (h2 : (s.place o.path).1.node ≠ 0) (h3 : ¬ (o.kind = 10 ∧ (s.nd (s.place o.path).1.node).kind ≠ 2)) (h4 : ¬ (o.kind = 10 ∧ (s.nd (s.place o.path).1.node).names ≠ [])) (h5 : ¬ (o.kind = 11 ∧ (s.nd (s.place o.path).1.node).kind = 2)) :
    s.removeS o = ({}, s.take (s.place o.path).1.dir (s.place o.path).1.name) := by
  unfold M.St.removeS; simp only; rw [if_neg (by simp [h]), if_neg h2, if_neg h3, if_neg h4, if_neg h5]

set_option maxHeartbeats 8000000 in
theorem remove_any (tb : Nat) (L : Lay) (k : Int) (s : M.St) (o : M.Op) (dp : Option Addr) (dn dc : Nat) (w : World) (h : TreeAt w tb L s) (hwf : Wf k s) (hlk : ∀ n, s.has n = true → ∀ m c, M.get (s.nd n).names m = some c → 1 ≤ (s.nd c).links) (hk : k ≤ 9999) (hkind : o.kind = 10 ∨ o.kind = 11) (hl : o.path.length ≤ 1000000) (hm : GMax w) :
    Calls Tryz.prog 78 #[Pt tb, o.val (.slice dp dn dc)] w (OpPost tb L (s.removeS o) w) := by
  have H := Lib.hid h; clear h
  unfold M.Op.val
  have HM := Lib.hid hm; clear hm
  have HLK := Lib.hid hlk; clear hlk
  have HBS := Lib.hid (Base.start w o (.slice dp dn dc))
  obtain ⟨t0, -, t2, -, -, tf, htb⟩ := (H.out.below HBS.out.below).cells5
  go_enter Tryz.func78, Tryz.ntmps78
  go_wp2_with fail
  change Calls _ _ _ (base2 w o (.slice dp dn dc)) _
  generalize base2 w o (.slice dp dn dc) = W0 at *
  obtain ⟨o0, o1, o2, o3, o4, o5, o6, o7, of, olt⟩ := HBS.out.op.cells
  (with_reducible refine (spot_any tb L k s o.path W0 (H.out.below HBS.out.below) hwf hl (HM.out.below HBS.out.below)).mono ?_)
  rintro e w1 ⟨rfl, hb⟩
  clear t0 t2 tf htb o0 o1 o2 o3 o4 o5 o6 o7 of olt
  by_cases hc : (s.place o.path).2 = 0
  · obtain ⟨hd1, hd2, hd3, hd4⟩ := place_dir hwf.cl hc
    have X1 := Lib.hid (remove_none (s := s) hc)
    have X2 := Lib.hid (remove_notdir (s := s) hc)
    have X3 := Lib.hid (remove_full (s := s) hc)
    have X4 := Lib.hid (remove_dir (s := s) hc)
    have X5 := Lib.hid (remove_ok (s := s) hc)
    rw [hc]
    clear hc
    generalize (s.place o.path).1 = R at *
    have HD4 := Lib.hid hd4; clear hd4
    have HBS1 := Lib.hid (HBS.out.below' (hb.alloc hb.size (.cells #[I R.node, I R.dir, S R.name] 86))); clear HBS
    have HBS := HBS1; clear HBS1
    have HSP := Lib.hid (spot_new w1 R)
    obtain ⟨o0, o1, o2, o3, o4, o5, o6, o7, of, olt⟩ := HBS.out.op.cells
    unfold M.Spot.val
    by_cases h2 : R.node = 0
    · have HR := Lib.hid (X1.out h2)
      have b2 : (R.node == 0) = true := by simpa using h2
      clear h2
      go_wp2_with fail
      (with_reducible refine (code_any (5) _).mono ?_)
      rintro e wc ⟨rfl, hbc⟩
      have HBC := Lib.hid (HBS.out.below' hbc); clear hbc
      obtain ⟨z0, z1, z2, z3, z4, z5, zf, zlt⟩ := HBC.out.ans.cells
      unfold NilS at z4 z5
      unfold M.Ans.val
      go_wp2_with fail
      have hb6 := Below.put6 HBC.out.below (w.heap.size + 1) (Nat.le_succ _) (I (M.code (5)).code) (I (M.code (5)).n) (I (M.code (5)).kind) (I (M.code (5)).links) NilS NilS
      obtain ⟨r0, r1, r2, r3, r4, r5, -, -⟩ := (HBC.out.ans.store (M.code (5)) NilS NilS).cells
      unfold put6 NilS at r0 r1 r2 r3 r4 r5
      refine bodyPost_ret (v := M.Ans.val (M.code (5)) NilS NilS) (by simp [results, Tryz.results78, go_sem, M.Ans.val, NilS, r0, r1, r2, r3, r4, r5]) rfl ?_
      exact ⟨_, L, rfl, by rw [HR.out]; exact AnsIn.plain rfl rfl, by rw [HR.out]; exact H.out.below hb6, Ext.same _ _ L, Tch.ofBelow hb6⟩
    · have b2 : (R.node == 0) = false := by simpa using h2
      have hg := HD4.out h2
      have hn := (hwf.child _ hd1 _ _ hg).1
      have hl1 := HLK.out _ hd1 _ _ hg
      have hne := child_ne hwf hd1 hg
      have HG := Lib.hid hg; clear hg
      have HNE := Lib.hid hne; clear hne
      have Y2 := Lib.hid (X2.out h2)
      have Y3 := Lib.hid (X3.out h2)
      have Y4 := Lib.hid (X4.out h2)
      have Y5 := Lib.hid (X5.out h2)
      clear h2 X1 X2 X3 X4 X5
      go_wp2_with fail
      clear hb o0 o1 o2 o3 o4 o5 o6 o7 of olt
      generalize hw2 : w1.alloc (.cells #[I R.node, I R.dir, S R.name] 86) = w2 at *
      clear hw2
      generalize w1.heap.size = b5 at *
      have HT2 := Lib.hid (H.out.below HBS.out.below)
      have hlk := fun m : Nat => (HT2.out.keep ((Tch.refl _ w2).drewN m)).look hn
      obtain ⟨t0, -, -, -, -, tf, htb⟩ := HT2.out.cells5
      obtain ⟨s0, s1, s2, sf, slt⟩ := HSP.out.cells
      go_quiet (fail)
      have HBE := Lib.hid (HBS.out.below' (below_drewN (Below.refl _ _) nq)); clear HBS
      have HBS := HBE; clear HBE
      have HSQ := Lib.hid (show SpotAt (w2.drewN nq) _ _ from HSP.out); clear HSP
      have HSP := HSQ; clear HSQ
      clear hlk t0 tf htb s0 s1 s2 sf slt HT2
      generalize hw3 : w2.drewN nq = w3 at *
      clear hw3
      have HT3 := Lib.hid (H.out.below HBS.out.below)
      obtain ⟨o0, o1, o2, o3, o4, o5, o6, o7, of, olt⟩ := HBS.out.op.cells
      obtain ⟨s0, s1, s2, sf, slt⟩ := HSP.out.cells
      obtain ⟨dv, wv, mv, hnode⟩ := HT3.out.nodeOf hn
      have hlen := hnode.nams.len
      obtain ⟨n0, -, -, n3, -, -, -, -, nf, hnb⟩ := hnode.cells8
      have HN := Lib.hid hnode; clear hnode
      rcases hkind with hkd | hkd
      · have b10 : (o.kind == 10) = true := by rw [hkd]; rfl
        have b11 : (o.kind == 11) = false := by rw [hkd]; rfl
        have HK := Lib.hid hkd; clear hkd
        by_cases h3 : (s.nd R.node).kind = 2
        · have b3 : ((s.nd R.node).kind != 2) = false := by simpa using h3
          have H3 := Lib.hid h3; clear h3
          by_cases h4 : (s.nd R.node).names = []
          · have b4 : ¬ ((0 : Int) < (s.nd R.node).names.length) := by rw [h4]; simp
            have HR := Lib.hid (Y5.out (fun h => h.2 H3.out) (fun h => h.2 h4) (fun h => by have := HK.out; rw [h.1] at this; exact absurd this (by decide)))
            clear h4
            have HTK := Lib.hid (take_any tb L s R.dir R.name R.node w3 HT3.out hd1 hn hd2 HG.out (hwf.small (by omega) hn) HNE.out (hwf.smallT (by omega)) hl1)
            go_wp2_with fail
            refine HTK.out.mono ?_
            rintro e w9 ⟨rfl, ht9, hc9'⟩
            have hc9 := hc9'.mono (S' := Owned L) (fun i _ hT => by
              unfold Owned
              rcases hT with (e | e) | ⟨j, e | e⟩ <;> (rw [e]; simp))
            have hx9' : Ext w3 w9 L L := Ext.same w3 w9 L
            clear hc9' hlen n0 n3 nf hnb s0 s1 s2 sf slt o0 o1 o2 o3 o4 o5 o6 o7 of olt
            obtain ⟨L1, hL1⟩ : ∃ L1, L1 = L := ⟨_, rfl⟩
            rw [← hL1] at ht9
            have hx9 : Ext w3 w9 L L1 := by rw [hL1]; exact hx9'
            have HL1 := Lib.hid hL1; clear hL1 hx9'
            have hnn : ∀ k, w.heap.size ≤ k → ¬ Owned L k := fun k hk' h => h (H.out.none hk')
            have HAL := Lib.hid (HBS.out.ans.tch hc9 (hnn _ (Nat.le_succ _)))
            have HTL := Lib.hid ((Tch.ofBelow (S := Owned L) HBS.out.below).trans hc9)
            have HNL := Lib.hid ((hx9.old _ HBS.out.ans.cells.lt).trans (H.out.none (Nat.le_succ _)))
            have HXL := Lib.hid (show Ext w w9 L L1 from ⟨hx9.mb, hx9.fb, fun k hk' => hx9.old k (Nat.lt_of_lt_of_le hk' HBS.out.below.size)⟩)
            have HT9 := Lib.hid ht9
            clear hnn ht9 hx9 hc9
            obtain ⟨z0, z1, z2, z3, z4, z5, zf, zlt⟩ := HAL.out.cells
            unfold NilS at z4 z5
            go_wp2_with fail
            have hb6 := Tch.put6 HTL.out (w.heap.size + 1) (Nat.le_succ _) (I 0) (I 0) (I 0) (I 0) NilS NilS
            have ht6 := HT9.out.put6 (w.heap.size + 1) HNL.out (I 0) (I 0) (I 0) (I 0) NilS NilS
            obtain ⟨r0, r1, r2, r3, r4, r5, -, -⟩ := (HAL.out.store {} NilS NilS).cells
            unfold put6 NilS at r0 r1 r2 r3 r4 r5
            refine bodyPost_ret (v := M.Ans.val {} NilS NilS) (by simp [results, Tryz.results78, go_sem, M.Ans.val, NilS, r0, r1, r2, r3, r4, r5]) rfl ?_
            exact ⟨_, L1, rfl, by rw [HR.out]; exact AnsIn.plain rfl rfl, by rw [HR.out]; exact ht6, ⟨HXL.out.mb, HXL.out.fb, HXL.out.old⟩, hb6⟩
          · have b4 : (0 : Int) < (s.nd R.node).names.length := by have := List.length_pos_iff.2 h4; omega
            have HR := Lib.hid (Y3.out (fun h => h.2 H3.out) ⟨HK.out, h4⟩)
            clear h4
            go_wp2_with fail
            (with_reducible refine (code_any (9) _).mono ?_)
            rintro e wc ⟨rfl, hbc⟩
            have HBC := Lib.hid (HBS.out.below' hbc); clear hbc
            obtain ⟨z0, z1, z2, z3, z4, z5, zf, zlt⟩ := HBC.out.ans.cells
            unfold NilS at z4 z5
            unfold M.Ans.val
            go_wp2_with fail
            have hb6 := Below.put6 HBC.out.below (w.heap.size + 1) (Nat.le_succ _) (I (M.code (9)).code) (I (M.code (9)).n) (I (M.code (9)).kind) (I (M.code (9)).links) NilS NilS
            obtain ⟨r0, r1, r2, r3, r4, r5, -, -⟩ := (HBC.out.ans.store (M.code (9)) NilS NilS).cells
            unfold put6 NilS at r0 r1 r2 r3 r4 r5
            refine bodyPost_ret (v := M.Ans.val (M.code (9)) NilS NilS) (by simp [results, Tryz.results78, go_sem, M.Ans.val, NilS, r0, r1, r2, r3, r4, r5]) rfl ?_
            exact ⟨_, L, rfl, by rw [HR.out]; exact AnsIn.plain rfl rfl, by rw [HR.out]; exact H.out.below hb6, Ext.same _ _ L, Tch.ofBelow hb6⟩
        · have b3 : ((s.nd R.node).kind != 2) = true := by simpa using h3
          have HR := Lib.hid (Y2.out ⟨HK.out, h3⟩)
          clear h3
          go_wp2_with fail
          (with_reducible refine (code_any (7) _).mono ?_)
          rintro e wc ⟨rfl, hbc⟩
          have HBC := Lib.hid (HBS.out.below' hbc); clear hbc
          obtain ⟨z0, z1, z2, z3, z4, z5, zf, zlt⟩ := HBC.out.ans.cells
          unfold NilS at z4 z5
          unfold M.Ans.val
          go_wp2_with fail
          have hb6 := Below.put6 HBC.out.below (w.heap.size + 1) (Nat.le_succ _) (I (M.code (7)).code) (I (M.code (7)).n) (I (M.code (7)).kind) (I (M.code (7)).links) NilS NilS
          obtain ⟨r0, r1, r2, r3, r4, r5, -, -⟩ := (HBC.out.ans.store (M.code (7)) NilS NilS).cells
          unfold put6 NilS at r0 r1 r2 r3 r4 r5
          refine bodyPost_ret (v := M.Ans.val (M.code (7)) NilS NilS) (by simp [results, Tryz.results78, go_sem, M.Ans.val, NilS, r0, r1, r2, r3, r4, r5]) rfl ?_
          exact ⟨_, L, rfl, by rw [HR.out]; exact AnsIn.plain rfl rfl, by rw [HR.out]; exact H.out.below hb6, Ext.same _ _ L, Tch.ofBelow hb6⟩
      · have b10 : (o.kind == 10) = false := by rw [hkd]; rfl
        have b11 : (o.kind == 11) = true := by rw [hkd]; rfl
        have HK := Lib.hid hkd; clear hkd
        have hk10 : ¬ o.kind = 10 := by rw [HK.out]; decide
        have HK10 := Lib.hid hk10; clear hk10
        by_cases h3 : (s.nd R.node).kind = 2
        · have b3 : ((s.nd R.node).kind == 2) = true := by simpa using h3
          have HR := Lib.hid (Y4.out (fun h => HK10.out h.1) (fun h => HK10.out h.1) ⟨HK.out, h3⟩)
          clear h3
          go_wp2_with fail
          (with_reducible refine (code_any (8) _).mono ?_)
          rintro e wc ⟨rfl, hbc⟩
          have HBC := Lib.hid (HBS.out.below' hbc); clear hbc
          obtain ⟨z0, z1, z2, z3, z4, z5, zf, zlt⟩ := HBC.out.ans.cells
          unfold NilS at z4 z5
          unfold M.Ans.val
          go_wp2_with fail
          have hb6 := Below.put6 HBC.out.below (w.heap.size + 1) (Nat.le_succ _) (I (M.code (8)).code) (I (M.code (8)).n) (I (M.code (8)).kind) (I (M.code (8)).links) NilS NilS
          obtain ⟨r0, r1, r2, r3, r4, r5, -, -⟩ := (HBC.out.ans.store (M.code (8)) NilS NilS).cells
          unfold put6 NilS at r0 r1 r2 r3 r4 r5
          refine bodyPost_ret (v := M.Ans.val (M.code (8)) NilS NilS) (by simp [results, Tryz.results78, go_sem, M.Ans.val, NilS, r0, r1, r2, r3, r4, r5]) rfl ?_
          exact ⟨_, L, rfl, by rw [HR.out]; exact AnsIn.plain rfl rfl, by rw [HR.out]; exact H.out.below hb6, Ext.same _ _ L, Tch.ofBelow hb6⟩
        · have b3 : ((s.nd R.node).kind == 2) = false := by simpa using h3
          have HR := Lib.hid (Y5.out (fun h => HK10.out h.1) (fun h => HK10.out h.1) (fun h => h3 h.2))
          clear h3
          have HTK := Lib.hid (take_any tb L s R.dir R.name R.node w3 HT3.out hd1 hn hd2 HG.out (hwf.small (by omega) hn) HNE.out (hwf.smallT (by omega)) hl1)
          go_wp2_with fail
          refine HTK.out.mono ?_
          rintro e w9 ⟨rfl, ht9, hc9'⟩
          have hc9 := hc9'.mono (S' := Owned L) (fun i _ hT => by
            unfold Owned
            rcases hT with (e | e) | ⟨j, e | e⟩ <;> (rw [e]; simp))
          have hx9' : Ext w3 w9 L L := Ext.same w3 w9 L
          clear hc9' hlen n0 n3 nf hnb s0 s1 s2 sf slt o0 o1 o2 o3 o4 o5 o6 o7 of olt
          obtain ⟨L1, hL1⟩ : ∃ L1, L1 = L := ⟨_, rfl⟩
          rw [← hL1] at ht9
          have hx9 : Ext w3 w9 L L1 := by rw [hL1]; exact hx9'
          have HL1 := Lib.hid hL1; clear hL1 hx9'
          have hnn : ∀ k, w.heap.size ≤ k → ¬ Owned L k := fun k hk' h => h (H.out.none hk')
          have HAL := Lib.hid (HBS.out.ans.tch hc9 (hnn _ (Nat.le_succ _)))
          have HTL := Lib.hid ((Tch.ofBelow (S := Owned L) HBS.out.below).trans hc9)
          have HNL := Lib.hid ((hx9.old _ HBS.out.ans.cells.lt).trans (H.out.none (Nat.le_succ _)))
          have HXL := Lib.hid (show Ext w w9 L L1 from ⟨hx9.mb, hx9.fb, fun k hk' => hx9.old k (Nat.lt_of_lt_of_le hk' HBS.out.below.size)⟩)
          have HT9 := Lib.hid ht9
          clear hnn ht9 hx9 hc9
          obtain ⟨z0, z1, z2, z3, z4, z5, zf, zlt⟩ := HAL.out.cells
          unfold NilS at z4 z5
          go_wp2_with fail
          have hb6 := Tch.put6 HTL.out (w.heap.size + 1) (Nat.le_succ _) (I 0) (I 0) (I 0) (I 0) NilS NilS
          have ht6 := HT9.out.put6 (w.heap.size + 1) HNL.out (I 0) (I 0) (I 0) (I 0) NilS NilS
          obtain ⟨r0, r1, r2, r3, r4, r5, -, -⟩ := (HAL.out.store {} NilS NilS).cells
          unfold put6 NilS at r0 r1 r2 r3 r4 r5
          refine bodyPost_ret (v := M.Ans.val {} NilS NilS) (by simp [results, Tryz.results78, go_sem, M.Ans.val, NilS, r0, r1, r2, r3, r4, r5]) rfl ?_
          exact ⟨_, L1, rfl, by rw [HR.out]; exact AnsIn.plain rfl rfl, by rw [HR.out]; exact ht6, ⟨HXL.out.mb, HXL.out.fb, HXL.out.old⟩, hb6⟩
  · have HR := Lib.hid (remove_bad (s := s) hc)
    have b1 : ((s.place o.path).2 != 0) = true := by simpa using hc
    clear hc
    generalize (s.place o.path).2 = C at *
    generalize (s.place o.path).1 = R at *
    have HBS1 := Lib.hid (HBS.out.below' (hb.alloc hb.size (.cells #[I R.node, I R.dir, S R.name] 86))); clear HBS
    have HBS := HBS1; clear HBS1
    unfold M.Spot.val
    go_wp2_with fail
    (with_reducible refine (code_any (C) _).mono ?_)
    rintro e wc ⟨rfl, hbc⟩
    have HBC := Lib.hid (HBS.out.below' hbc); clear hbc
    obtain ⟨z0, z1, z2, z3, z4, z5, zf, zlt⟩ := HBC.out.ans.cells
    unfold NilS at z4 z5
    unfold M.Ans.val
    go_wp2_with fail
    have hb6 := Below.put6 HBC.out.below (w.heap.size + 1) (Nat.le_succ _) (I (M.code (C)).code) (I (M.code (C)).n) (I (M.code (C)).kind) (I (M.code (C)).links) NilS NilS
    obtain ⟨r0, r1, r2, r3, r4, r5, -, -⟩ := (HBC.out.ans.store (M.code (C)) NilS NilS).cells
    unfold put6 NilS at r0 r1 r2 r3 r4 r5
    refine bodyPost_ret (v := M.Ans.val (M.code (C)) NilS NilS) (by simp [results, Tryz.results78, go_sem, M.Ans.val, NilS, r0, r1, r2, r3, r4, r5]) rfl ?_
    exact ⟨_, L, rfl, by rw [HR.out]; exact AnsIn.plain rfl rfl, by rw [HR.out]; exact H.out.below hb6, Ext.same _ _ L, Tch.ofBelow hb6⟩
end Go.Proofs.YtpfaccpmgldkeaaGreatDoor
