/- Contract of seek. Contract of stat. Contracts of trunc and close. -/
import Derived.Test.YtpfaccpmgldkeaaGreatDoorOp
set_option linter.unusedVariables false
set_option linter.unusedSimpArgs false
namespace Go.Proofs.YtpfaccpmgldkeaaGreatDoor
open Go.RowKit Go.MapKept Go.ChangeMaps
set_option maxRecDepth 100000

theorem seek_bad {s : M.St} {o : M.Op} (h : s.fileCode o.fd false ≠ 0) : s.seekS o = (M.code (s.fileCode o.fd false), s) := by unfold M.St.seekS; rw [if_pos h]
theorem seek_arg {s : M.St} {o : M.Op} (h : s.fileCode o.fd false = 0) (h2 : o.n < 0 ∨ 2 < o.n) : s.seekS o = (M.code 2, s) := by unfold M.St.seekS; rw [if_neg (by simp [h]), if_pos h2]
def seekFrom (s : M.St) (o : M.Op) : Int := if o.n = 1 then (s.fds o.fd.toNat).off else if o.n = 2 then ((s.nd (s.fds o.fd.toNat).node).data.length : Int) else 0
theorem seek_out {s : M.St} {o : M.Op} (h : s.fileCode o.fd false = 0) (h2 : ¬ (o.n < 0 ∨ 2 < o.n)) (h3 : o.off < -seekFrom s o ∨ 1099511627776 - seekFrom s o < o.off) : s.seekS o = (M.code 2, s) := by
  unfold M.St.seekS; rw [if_neg (by simp [h])]; simp only; rw [if_neg h2]; unfold seekFrom at h3; rw [if_pos h3]
theorem seek_ok {s : M.St} {o : M.Op} (h : s.fileCode o.fd false = 0) (h2 : ¬ (o.n < 0 ∨ 2 < o.n)) (h3 : ¬ (o.off < -seekFrom s o ∨ 1099511627776 - seekFrom s o < o.off)) :
    s.seekS o = ({ n := seekFrom s o + o.off }, s.moveTo o.fd (seekFrom s o + o.off)) := by
  unfold M.St.seekS; rw [if_neg (by simp [h])]; simp only; rw [if_neg h2]; unfold seekFrom at *; rw [if_neg h3]

theorem fileCode_open {s : M.St} {fd : Int} {wr : Bool} (h : s.fileCode fd wr = 0) : s.isOpen fd = true := by
  cases hh : s.isOpen fd
  · rw [fileCode_shut hh] at h; cases h
  · rfl

set_option maxHeartbeats 4000000 in
theorem seek_any (tb : Nat) (L : Lay) (k : Int) (s : M.St) (o : M.Op) (dp : Option Addr) (dn dc : Nat) (w : World) (h : TreeAt w tb L s) (hwf : Wf k s) :
    Calls Tryz.prog 74 #[Pt tb, o.val (.slice dp dn dc)] w (OpPost tb L (s.seekS o) w) := by
  have H := Lib.hid h; clear h
  unfold M.Op.val
  have HBS := Lib.hid (Base.start w o (.slice dp dn dc))
  obtain ⟨t0, -, t2, -, -, tf, htb⟩ := (H.out.below HBS.out.below).cells5
  go_enter Tryz.func74, Tryz.ntmps74
  go_wp2_with fail
  change Calls _ _ _ (base2 w o (.slice dp dn dc)) _
  generalize base2 w o (.slice dp dn dc) = W0 at *
  obtain ⟨o0, o1, o2, o3, o4, o5, o6, o7, of, olt⟩ := HBS.out.op.cells
  (with_reducible refine (file_any tb L k s o.fd false W0 (H.out.below HBS.out.below) hwf).mono ?_)
  rintro e w1 ⟨hb, ⟨hc, rfl⟩ | ⟨hc, rfl⟩⟩
  · have hop := fileCode_open hc
    obtain ⟨hfd0, hfd1, hopn⟩ := isOpen_iff.1 hop
    obtain ⟨hn, ⟨ho1, ho2⟩, hf1, hf2⟩ := hwf.fds o.fd.toNat hopn
    have hsm := (hwf.data _ hn).1
    have HRA := Lib.hid (fun h2 => seek_arg hc h2)
    have HRB := Lib.hid (fun h2 h3 => seek_out hc h2 h3)
    have HRC := Lib.hid (fun h2 h3 => seek_ok hc h2 h3)
    have HBS1 := Lib.hid (HBS.out.below' hb)
    have HBS := Lib.hid (HBS.out.below' (hb.alloc hb.size (.cells #[I (s.fds o.fd.toNat).node, I (s.fds o.fd.toNat).off, I (s.fds o.fd.toNat).flags] 90)))
    have HIO := Lib.hid (isOpen_iff.1 hop); clear hopn
    clear o0 o1 o2 o3 o4 o5 o6 o7 of olt t0 t2 tf htb hb hop hc
    obtain ⟨o0, o1, o2, o3, o4, o5, o6, o7, of, olt⟩ := HBS1.out.op.cells
    have HT1 := Lib.hid (H.out.below HBS1.out.below)
    obtain ⟨t0, -, t2, -, -, tf, htb⟩ := HT1.out.cells5
    obtain ⟨dv, wv, mv, hnode⟩ := HT1.out.nodeOf hn
    obtain ⟨pd, cd, hdv⟩ := hnode.data.list.form
    subst hdv
    obtain ⟨-, n1, -, -, -, -, -, -, nf, hnb⟩ := hnode.cells8
    have HN := Lib.hid hnode; clear hnode
    have hfrom : seekFrom s o = if o.n = 1 then (s.fds o.fd.toNat).off else if o.n = 2 then ((s.nd (s.fds o.fd.toNat).node).data.length : Int) else 0 := rfl
    unfold M.Sl.fval
    generalize hsl : s.fds o.fd.toNat = sl at *
    have HSL := Lib.hid hsl; clear hsl
    by_cases h2 : o.n < 0 ∨ 2 < o.n
    · have HR := Lib.hid (HRA.out h2)
      have b0 : (o.n == 0) = false := by simp; omega
      have b1 : (o.n == 1) = false := by simp; omega
      have b2 : (o.n == 2) = false := by simp; omega
      clear h2 hfrom
      go_wp2_with fail
      (with_reducible refine (code_any (2) _).mono ?_)
      rintro e wc ⟨rfl, hbc⟩
      have HBC := Lib.hid (HBS.out.below' hbc); clear hbc
      obtain ⟨z0, z1, z2, z3, z4, z5, zf, zlt⟩ := HBC.out.ans.cells
      unfold NilS at z4 z5
      unfold M.Ans.val
      go_wp2_with fail
      have hb6 := Below.put6 HBC.out.below (w.heap.size + 1) (Nat.le_succ _) (I (M.code (2)).code) (I (M.code (2)).n) (I (M.code (2)).kind) (I (M.code (2)).links) NilS NilS
      obtain ⟨r0, r1, r2, r3, r4, r5, -, -⟩ := (HBC.out.ans.store (M.code (2)) NilS NilS).cells
      unfold put6 NilS at r0 r1 r2 r3 r4 r5
      refine bodyPost_ret (v := M.Ans.val (M.code (2)) NilS NilS) (by simp [results, Tryz.results74, go_sem, M.Ans.val, NilS, r0, r1, r2, r3, r4, r5]) rfl ?_
      exact ⟨_, L, rfl, by rw [HR.out]; exact AnsIn.plain rfl rfl, by rw [HR.out]; exact H.out.below hb6, Ext.same _ _ L, Tch.ofBelow hb6⟩
    · have HN2 := Lib.hid h2
      have hcase : (o.n = 0 ∧ (o.n == 0) = true ∧ seekFrom s o = 0) ∨ (o.n = 1 ∧ ((o.n == 0) = false ∧ (o.n == 1) = true) ∧ seekFrom s o = sl.off) ∨ (o.n = 2 ∧ ((o.n == 0) = false ∧ (o.n == 1) = false ∧ (o.n == 2) = true) ∧ seekFrom s o = ((s.nd sl.node).data.length : Int)) := by
        have : o.n = 0 ∨ o.n = 1 ∨ o.n = 2 := by omega
        rcases this with e | e | e
        · exact Or.inl ⟨e, by simp [e], by rw [hfrom, e]; rfl⟩
        · exact Or.inr (Or.inl ⟨e, by simp [e], by rw [hfrom, e]; rfl⟩)
        · exact Or.inr (Or.inr ⟨e, by simp [e], by rw [hfrom, e]; rfl⟩)
      clear h2 hfrom
      rcases hcase with ⟨hon, hb3, hst⟩ | ⟨hon, hb3, hst⟩ | ⟨hon, hb3, hst⟩
      all_goals
        have HST := Lib.hid hst
        by_cases h3 : o.off < -seekFrom s o ∨ 1099511627776 - seekFrom s o < o.off
        · have HR := Lib.hid (HRB.out HN2.out h3)
          rw [hst] at h3
          clear hon hst
          rcases h3 with h3 | h3
          all_goals
            go_wp2_with fail
            (with_reducible refine (code_any (2) _).mono ?_)
            rintro e wc ⟨rfl, hbc⟩
            have HBC := Lib.hid (HBS.out.below' hbc); clear hbc
            obtain ⟨z0, z1, z2, z3, z4, z5, zf, zlt⟩ := HBC.out.ans.cells
            unfold NilS at z4 z5
            unfold M.Ans.val
            go_wp2_with fail
            have hb6 := Below.put6 HBC.out.below (w.heap.size + 1) (Nat.le_succ _) (I (M.code (2)).code) (I (M.code (2)).n) (I (M.code (2)).kind) (I (M.code (2)).links) NilS NilS
            obtain ⟨r0, r1, r2, r3, r4, r5, -, -⟩ := (HBC.out.ans.store (M.code (2)) NilS NilS).cells
            unfold put6 NilS at r0 r1 r2 r3 r4 r5
            refine bodyPost_ret (v := M.Ans.val (M.code (2)) NilS NilS) (by simp [results, Tryz.results74, go_sem, M.Ans.val, NilS, r0, r1, r2, r3, r4, r5]) rfl ?_
            exact ⟨_, L, rfl, by rw [HR.out]; exact AnsIn.plain rfl rfl, by rw [HR.out]; exact H.out.below hb6, Ext.same _ _ L, Tch.ofBelow hb6⟩
        · have HR := Lib.hid (HRC.out HN2.out h3)
          rw [hst] at h3
          obtain ⟨h3, h4⟩ := not_or.1 h3
          clear hon hst
          have hw1 : IntKind.i64.wrap (0 + o.off) = o.off := by rw [IntKind.wrap_i64]; omega
          go_wp2_with fail
          clear o0 o1 o2 o3 o4 o5 o6 o7 of olt t0 t2 tf htb n1 nf hnb
          generalize hw2 : w1.alloc (.cells #[I sl.node, I sl.off, I sl.flags] 90) = w2 at *
          clear hw2
          refine wp_region_still_tail 10 (by kernel_rfl) (by kernel_rfl) ?_
          change wpStill _ _ (World.drew w2) _ _ _
          simp only [List.take_succ_cons, List.take_zero, List.drop_succ_cons, List.drop_zero]
          have HT2 := Lib.hid (H.out.below HBS.out.below.drew)
          obtain ⟨o0, o1, o2, o3, o4, o5, o6, o7, of, olt⟩ := (HBS.out.op.below (Below.refl _ _).drew).cells
          obtain ⟨t0, -, t2, -, -, tf, htb⟩ := HT2.out.cells5
          repeat still_step
          refine wpStill_nil ?_
          change wpList _ _ _ _ _ (World.drew w2)
          have hmv := move_any w2.drew L.fb s.fds o.fd (seekFrom s o + o.off) HT2.out.fds
          rw [HST.out] at hmv
          try simp only [Int.zero_add] at hmv
          have HMV := Lib.hid hmv; clear hmv
          go_wp2_with fail
          (with_reducible refine HMV.out.mono ?_)
          rintro e w3 ⟨ht, ⟨q, hq, hfd, ho, ⟨hneg, rfl, hf⟩ | ⟨hpos, rfl, hf⟩⟩ | ⟨hno, rfl, hf⟩⟩
          · exfalso; omega
          · have HT3 := Lib.hid (HT2.out.newFds ht hf)
            have HTC := Lib.hid (Tch.trans (Tch.ofBelow (S := Owned L) HBS.out.below.drew) (Tch.ownF HT2.out ht))
            have hne : ¬ One L.fb w.heap.size := fun e => by have e' : w.heap.size = L.fb := e; have := H.out.low _ _ H.out.ownf; omega
            have hne2 : ¬ One L.fb (w.heap.size + 1) := fun e => by have e' : w.heap.size + 1 = L.fb := e; have := H.out.low _ _ H.out.ownf; omega
            have HO3 := Lib.hid ((HBS.out.op.below (Below.refl _ _).drew).tch ht hne)
            have HA3 := Lib.hid ((HBS.out.ans.below (Below.refl _ _).drew).tch ht hne2)
            clear o0 o1 o2 o3 o4 o5 o6 o7 of olt t0 t2 tf htb ht hf hne hne2
            obtain ⟨o0, o1, o2, o3, o4, o5, o6, o7, of, olt⟩ := HO3.out.cells
            obtain ⟨z0, z1, z2, z3, z4, z5, zf, zlt⟩ := HA3.out.cells
            unfold NilS at z4 z5
            have HQ := Lib.hid (show s.moveTo o.fd (seekFrom s o + o.off) = { s with fds := tset s.fds q { s.fds q with off := seekFrom s o + o.off } } by
              unfold M.St.moveTo M.St.fdSet tset
              rw [hfd, Int.toNat_natCast])
            clear hfd ho
            go_wp2_with fail
            have hb6 := Tch.put6 HTC.out (w.heap.size + 1) (Nat.le_succ _) (I 0) (I (seekFrom s o + o.off)) (I 0) (I 0) NilS NilS
            have hst6 := HA3.out.store { n := seekFrom s o + o.off } NilS NilS
            have ht6 := HT3.out.put6 (w.heap.size + 1) (H.out.none (Nat.le_succ _)) (I 0) (I (seekFrom s o + o.off)) (I 0) (I 0) NilS NilS
            rw [HST.out] at hb6 hst6 ht6
            try simp only [Int.zero_add] at hb6 hst6 ht6
            obtain ⟨r0, r1, r2, r3, r4, r5, -, -⟩ := hst6.cells
            unfold put6 NilS at r0 r1 r2 r3 r4 r5
            refine bodyPost_ret (v := M.Ans.val { n := seekFrom s o + o.off } NilS NilS) (by simp [results, Tryz.results74, go_sem, M.Ans.val, NilS, HST.out, r0, r1, r2, r3, r4, r5]) rfl ?_
            exact ⟨_, L, rfl, by rw [HR.out]; exact AnsIn.plain rfl rfl, by rw [HR.out, HQ.out, HST.out]; (try simp only [Int.zero_add]); exact ht6, Ext.same _ _ L, hb6⟩
          · exact absurd HIO.out hno
  · have hb1 : (s.fileCode o.fd false != 0) = true := by simpa using hc
    have HR := Lib.hid (seek_bad hc)
    clear hc
    generalize s.fileCode o.fd false = C at *
    have HBS := Lib.hid (HBS.out.below' (hb.alloc hb.size (.cells #[I 0, I 0, I 0] 90)))
    unfold M.Sl.fval
    go_wp2_with fail
    (with_reducible refine (code_any (C) _).mono ?_)
    rintro e wc ⟨rfl, hbc⟩
    have HBC := Lib.hid (HBS.out.below' hbc); clear hbc
    obtain ⟨z0, z1, z2, z3, z4, z5, zf, zlt⟩ := HBC.out.ans.cells
    unfold NilS at z4 z5
    unfold M.Ans.val
    go_wp2_with fail
    have hb6 := Below.put6 HBC.out.below (w.heap.size + 1) (Nat.le_succ _) (I (M.code (C)).code) (I (M.code (C)).n) (I (M.code (C)).kind) (I (M.code (C)).links) NilS NilS
    obtain ⟨r0, r1, r2, r3, r4, r5, -, -⟩ := (HBC.out.ans.store (M.code (C)) NilS NilS).cells
    unfold put6 NilS at r0 r1 r2 r3 r4 r5
    refine bodyPost_ret (v := M.Ans.val (M.code (C)) NilS NilS) (by simp [results, Tryz.results74, go_sem, M.Ans.val, NilS, r0, r1, r2, r3, r4, r5]) rfl ?_
    exact ⟨_, L, rfl, by rw [HR.out]; exact AnsIn.plain rfl rfl, by rw [HR.out]; exact H.out.below hb6, Ext.same _ _ L, Tch.ofBelow hb6⟩
end Go.Proofs.YtpfaccpmgldkeaaGreatDoor

namespace Go.Proofs.YtpfaccpmgldkeaaGreatDoor
open Go.RowKit Go.MapKept Go.ChangeMaps
set_option maxRecDepth 100000

theorem run_len_nilmap (w : World) (ty : TypeId) : (Builtin.len_ #[69] ty #[.map none]).run Tryz.prog w = .ok (.int .i64 0) w := by
  simp [Builtin.len_, run_underlying Tryz.underlying69, goInt]
theorem NamesAt.len {w : World} {ow : Nat → Option Own} {n : Int} {v : Value} {x : M.Nd} (h : NamesAt w ow n v x) (ty : TypeId) : (Builtin.len_ #[69] ty #[v]).run Tryz.prog w = .ok (.int .i64 x.names.length) w := by
  rcases h with ⟨_, _, b, rfl, _, h5⟩ | ⟨_, rfl, h3⟩
  · exact run_len_names h5 ty
  · rw [h3]; exact run_len_nilmap w ty

theorem stat_bad {s : M.St} {o : M.Op} (h : (s.find o.path (decide (o.kind = 16))).2 ≠ 0) : s.statS o = (M.code (s.find o.path (decide (o.kind = 16))).2, s) := by unfold M.St.statS; rw [if_pos h]
theorem stat_ok {s : M.St} {o : M.Op} (h : (s.find o.path (decide (o.kind = 16))).2 = 0) {x : M.Nd} (hx : s.nd (s.find o.path (decide (o.kind = 16))).1.node = x) : s.statS o = ({ kind := x.kind, n := (x.data.length : Int) + x.names.length, links := x.links }, s) := by
  subst hx; unfold M.St.statS; rw [if_neg (by simp [h])]

set_option maxHeartbeats 2000000 in
theorem stat_any (tb : Nat) (L : Lay) (k : Int) (s : M.St) (o : M.Op) (dp : Option Addr) (dn dc : Nat) (w : World) (h : TreeAt w tb L s) (hwf : Wf k s) (hk : k ≤ 10000) (hl : o.path.length ≤ 1000000) (hm : GMax w) :
    Calls Tryz.prog 83 #[Pt tb, o.val (.slice dp dn dc)] w (OpPost tb L (s.statS o) w) := by
  have H := Lib.hid h; clear h
  unfold M.Op.val
  have HM := Lib.hid hm; clear hm
  have hdk : (o.kind == 16) = decide (o.kind = 16) := rfl
  have HFB := Lib.hid (fun h => stat_bad (s := s) (o := o) h)
  have HFO := Lib.hid (fun h => stat_ok (s := s) (o := o) h rfl)
  generalize hfo : decide (o.kind = 16) = fo at *
  have HFI := Lib.hid hfo; clear hfo
  have HBS := Lib.hid (Base.start w o (.slice dp dn dc))
  obtain ⟨t0, -, t2, -, -, tf, htb⟩ := (H.out.below HBS.out.below).cells5
  go_enter Tryz.func83, Tryz.ntmps83
  go_wp2_with fail
  change Calls _ _ _ (base2 w o (.slice dp dn dc)) _
  generalize base2 w o (.slice dp dn dc) = W0 at *
  obtain ⟨o0, o1, o2, o3, o4, o5, o6, o7, of, olt⟩ := HBS.out.op.cells
  (with_reducible refine (find_any tb L s o.path fo W0 (H.out.below HBS.out.below) hwf.cl hl (HM.out.below HBS.out.below)).mono ?_)
  rintro e w1 ⟨rfl, hb⟩
  by_cases hc : (s.find o.path fo).2 = 0
  · have hn := find_has hwf.cl hc
    have HR := Lib.hid (HFO.out hc)
    rw [hc]
    clear hc
    generalize (s.find o.path fo).1 = R at *
    have HBS := Lib.hid (HBS.out.below' (hb.alloc hb.size (.cells #[I R.node, I R.dir, S R.name] 86)))
    have HSP := Lib.hid (spot_new w1 R)
    unfold M.Spot.val
    go_wp2_with fail
    clear o0 o1 o2 o3 o4 o5 o6 o7 of olt t0 t2 tf htb hb
    generalize hw2 : w1.alloc (.cells #[I R.node, I R.dir, S R.name] 86) = w2 at *
    clear hw2
    have HT2 := Lib.hid (H.out.below HBS.out.below)
    have hlk := fun m : Nat => (HT2.out.keep ((Tch.refl _ w2).drewN m)).look hn
    obtain ⟨t0, -, -, -, -, tf, htb⟩ := HT2.out.cells5
    obtain ⟨s0, s1, s2, sf, slt⟩ := HSP.out.cells
    go_quiet (fail)
    have HBE := Lib.hid (HBS.out.below' (below_drewN (Below.refl _ _) nq).drew)
    have HT3 := Lib.hid (H.out.below HBE.out.below)
    clear hlk t0 tf htb s0 s1 s2 sf slt HT2 HSP
    generalize hw3 : w2.drewN nq = w3 at *
    clear hw3
    have hs1 := hwf.small hk hn
    have hd1 := hs1.data
    have hd2 := hs1.names
    go_wp2_with fail
    refine wp_region_still_tail 20 (by kernel_rfl) (by kernel_rfl) ?_
    change wpStill _ _ (World.drew w3) _ _ _
    simp only [List.take_succ_cons, List.take_zero, List.drop_succ_cons, List.drop_zero]
    obtain ⟨dv, wv, mv, hnode⟩ := HT3.out.nodeOf hn
    obtain ⟨pd, cd, hdv⟩ := hnode.data.list.form
    subst hdv
    have hlen := hnode.nams.len
    obtain ⟨n0, n1, -, n3, -, n5, -, -, nf, hnb⟩ := hnode.cells8
    have HN := Lib.hid hnode; clear hnode
    generalize s.nd R.node = x at *
    have hsum : IntKind.i64.wrap ((x.data.length : Int) + (x.names.length : Int)) = (x.data.length : Int) + (x.names.length : Int) := by rw [IntKind.wrap_i64]; omega
    repeat still_step
    refine wpStill_nil ?_
    change wpList _ _ _ _ _ (World.drew w3)
    generalize hw4 : w3.drew = w4 at *
    clear hw4
    clear n0 n1 n3 n5 nf hnb hlen hsum
    obtain ⟨z0, z1, z2, z3, z4, z5, zf, zlt⟩ := HBE.out.ans.cells
    unfold NilS at z4 z5
    go_wp2_with fail
    have hb6 := Below.put6 HBE.out.below (w.heap.size + 1) (Nat.le_succ _) (I ({ kind := x.kind, n := (x.data.length : Int) + x.names.length, links := x.links } : M.Ans).code) (I ({ kind := x.kind, n := (x.data.length : Int) + x.names.length, links := x.links } : M.Ans).n) (I ({ kind := x.kind, n := (x.data.length : Int) + x.names.length, links := x.links } : M.Ans).kind) (I ({ kind := x.kind, n := (x.data.length : Int) + x.names.length, links := x.links } : M.Ans).links) (.slice none 0 0) (.slice none 0 0)
    obtain ⟨r0, r1, r2, r3, r4, r5, -, -⟩ := (HBE.out.ans.store ({ kind := x.kind, n := (x.data.length : Int) + x.names.length, links := x.links } : M.Ans) (.slice none 0 0) (.slice none 0 0)).cells
    unfold put6 at r0 r1 r2 r3 r4 r5
    refine bodyPost_ret (v := M.Ans.val ({ kind := x.kind, n := (x.data.length : Int) + x.names.length, links := x.links } : M.Ans) (.slice none 0 0) (.slice none 0 0)) (by simp [results, Tryz.results83, go_sem, M.Ans.val, r0, r1, r2, r3, r4, r5]) rfl ?_
    exact ⟨_, L, rfl, by rw [HR.out]; exact AnsIn.plain rfl rfl, by rw [HR.out]; exact H.out.below hb6, Ext.same _ _ L, Tch.ofBelow hb6⟩
  · have hb1 : ((s.find o.path fo).2 != 0) = true := by simpa using hc
    have HR := Lib.hid (HFB.out hc)
    clear hc
    generalize (s.find o.path fo).2 = C at *
    generalize (s.find o.path fo).1 = R at *
    have HBS := Lib.hid (HBS.out.below' (hb.alloc hb.size (.cells #[I R.node, I R.dir, S R.name] 86)))
    unfold M.Spot.val
    go_wp2_with fail
    (with_reducible refine (code_any (C) _).mono ?_)
    rintro e wc ⟨rfl, hbc⟩
    have HBC := Lib.hid (HBS.out.below' hbc); clear hbc
    obtain ⟨z0, z1, z2, z3, z4, z5, zf, zlt⟩ := HBC.out.ans.cells
    unfold NilS at z4 z5
    unfold M.Ans.val
    go_wp2_with fail
    have hb6 := Below.put6 HBC.out.below (w.heap.size + 1) (Nat.le_succ _) (I (M.code (C)).code) (I (M.code (C)).n) (I (M.code (C)).kind) (I (M.code (C)).links) NilS NilS
    obtain ⟨r0, r1, r2, r3, r4, r5, -, -⟩ := (HBC.out.ans.store (M.code (C)) NilS NilS).cells
    unfold put6 NilS at r0 r1 r2 r3 r4 r5
    refine bodyPost_ret (v := M.Ans.val (M.code (C)) NilS NilS) (by simp [results, Tryz.results83, go_sem, M.Ans.val, NilS, r0, r1, r2, r3, r4, r5]) rfl ?_
    exact ⟨_, L, rfl, by rw [HR.out]; exact AnsIn.plain rfl rfl, by rw [HR.out]; exact H.out.below hb6, Ext.same _ _ L, Tch.ofBelow hb6⟩
end Go.Proofs.YtpfaccpmgldkeaaGreatDoor

namespace Go.Proofs.YtpfaccpmgldkeaaGreatDoor
open Go.RowKit Go.MapKept Go.ChangeMaps
set_option maxRecDepth 100000

theorem trunc_bad {s : M.St} {o : M.Op} (h : s.fileCode o.fd true ≠ 0) : s.truncS o = (M.code (s.fileCode o.fd true), s) := by unfold M.St.truncS; rw [if_pos h]
theorem trunc_arg {s : M.St} {o : M.Op} (h : s.fileCode o.fd true = 0) (h2 : o.off < 0) : s.truncS o = (M.code 2, s) := by unfold M.St.truncS; rw [if_neg (by simp [h]), if_pos h2]
theorem trunc_big {s : M.St} {o : M.Op} (h : s.fileCode o.fd true = 0) (h2 : ¬ o.off < 0) (h3 : 20736 < o.off) : s.truncS o = (M.code 15, s) := by unfold M.St.truncS; rw [if_neg (by simp [h]), if_neg h2, if_pos h3]
theorem trunc_ok {s : M.St} {o : M.Op} (h : s.fileCode o.fd true = 0) (h2 : ¬ o.off < 0) (h3 : ¬ 20736 < o.off) : s.truncS o = ({}, s.set (s.fds o.fd.toNat).node ((s.nd (s.fds o.fd.toNat).node).resize o.off.toNat)) := by
  unfold M.St.truncS; rw [if_neg (by simp [h]), if_neg h2, if_neg h3]

set_option maxHeartbeats 2000000 in
theorem trunc_any (tb : Nat) (L : Lay) (k : Int) (s : M.St) (o : M.Op) (dp : Option Addr) (dn dc : Nat) (w : World) (h : TreeAt w tb L s) (hwf : Wf k s) (hk : k ≤ 10000) :
    Calls Tryz.prog 75 #[Pt tb, o.val (.slice dp dn dc)] w (OpPost tb L (s.truncS o) w) := by
  have H := Lib.hid h; clear h
  unfold M.Op.val
  have HBS := Lib.hid (Base.start w o (.slice dp dn dc))
  obtain ⟨t0, -, t2, -, -, tf, htb⟩ := (H.out.below HBS.out.below).cells5
  go_enter Tryz.func75, Tryz.ntmps75
  go_wp2_with fail
  change Calls _ _ _ (base2 w o (.slice dp dn dc)) _
  generalize base2 w o (.slice dp dn dc) = W0 at *
  obtain ⟨o0, o1, o2, o3, o4, o5, o6, o7, of, olt⟩ := HBS.out.op.cells
  (with_reducible refine (file_any tb L k s o.fd true W0 (H.out.below HBS.out.below) hwf).mono ?_)
  rintro e w1 ⟨hb, ⟨hc, rfl⟩ | ⟨hc, rfl⟩⟩
  · have hop := fileCode_open hc
    obtain ⟨hfd0, hfd1, hopn⟩ := isOpen_iff.1 hop
    obtain ⟨hn, -, -⟩ := hwf.fds o.fd.toNat hopn
    have hk3 := hwf.fdk o.fd.toNat hopn
    have hsm := hwf.small hk hn
    have HRA := Lib.hid (fun h2 => trunc_arg hc h2)
    have HRB := Lib.hid (fun h2 h3 => trunc_big hc h2 h3)
    have HRC := Lib.hid (fun h2 h3 => trunc_ok hc h2 h3)
    have HBS1 := Lib.hid (HBS.out.below' hb)
    have HBS := Lib.hid (HBS.out.below' (hb.alloc hb.size (.cells #[I (s.fds o.fd.toNat).node, I (s.fds o.fd.toNat).off, I (s.fds o.fd.toNat).flags] 90)))
    clear o0 o1 o2 o3 o4 o5 o6 o7 of olt t0 t2 tf htb hb hop hc
    obtain ⟨o0, o1, o2, o3, o4, o5, o6, o7, of, olt⟩ := HBS1.out.op.cells
    unfold M.Sl.fval
    by_cases h2 : o.off < 0
    · have HR := Lib.hid (HRA.out h2)
      go_wp2_with fail
      (with_reducible refine (code_any (2) _).mono ?_)
      rintro e wc ⟨rfl, hbc⟩
      have HBC := Lib.hid (HBS.out.below' hbc); clear hbc
      obtain ⟨z0, z1, z2, z3, z4, z5, zf, zlt⟩ := HBC.out.ans.cells
      unfold NilS at z4 z5
      unfold M.Ans.val
      go_wp2_with fail
      have hb6 := Below.put6 HBC.out.below (w.heap.size + 1) (Nat.le_succ _) (I (M.code (2)).code) (I (M.code (2)).n) (I (M.code (2)).kind) (I (M.code (2)).links) NilS NilS
      obtain ⟨r0, r1, r2, r3, r4, r5, -, -⟩ := (HBC.out.ans.store (M.code (2)) NilS NilS).cells
      unfold put6 NilS at r0 r1 r2 r3 r4 r5
      refine bodyPost_ret (v := M.Ans.val (M.code (2)) NilS NilS) (by simp [results, Tryz.results75, go_sem, M.Ans.val, NilS, r0, r1, r2, r3, r4, r5]) rfl ?_
      exact ⟨_, L, rfl, by rw [HR.out]; exact AnsIn.plain rfl rfl, by rw [HR.out]; exact H.out.below hb6, Ext.same _ _ L, Tch.ofBelow hb6⟩
    · by_cases h3 : 20736 < o.off
      · have HR := Lib.hid (HRB.out h2 h3)
        go_wp2_with fail
        (with_reducible refine (code_any (15) _).mono ?_)
        rintro e wc ⟨rfl, hbc⟩
        have HBC := Lib.hid (HBS.out.below' hbc); clear hbc
        obtain ⟨z0, z1, z2, z3, z4, z5, zf, zlt⟩ := HBC.out.ans.cells
        unfold NilS at z4 z5
        unfold M.Ans.val
        go_wp2_with fail
        have hb6 := Below.put6 HBC.out.below (w.heap.size + 1) (Nat.le_succ _) (I (M.code (15)).code) (I (M.code (15)).n) (I (M.code (15)).kind) (I (M.code (15)).links) NilS NilS
        obtain ⟨r0, r1, r2, r3, r4, r5, -, -⟩ := (HBC.out.ans.store (M.code (15)) NilS NilS).cells
        unfold put6 NilS at r0 r1 r2 r3 r4 r5
        refine bodyPost_ret (v := M.Ans.val (M.code (15)) NilS NilS) (by simp [results, Tryz.results75, go_sem, M.Ans.val, NilS, r0, r1, r2, r3, r4, r5]) rfl ?_
        exact ⟨_, L, rfl, by rw [HR.out]; exact AnsIn.plain rfl rfl, by rw [HR.out]; exact H.out.below hb6, Ext.same _ _ L, Tch.ofBelow hb6⟩
      · have HR := Lib.hid (HRC.out h2 h3)
        have hrz := fun w' (hb : Below w.heap.size w w') => resize_any tb L s (s.fds o.fd.toNat).node o.off.toNat w' (H.out.below hb) hn hk3 hsm (by omega)
        rw [show ((o.off.toNat : Nat) : Int) = o.off by omega] at hrz
        have HRZ := Lib.hid hrz; clear hrz
        go_wp2_with fail
        (with_reducible refine (HRZ.out _ HBS.out.below).mono ?_)
        rintro e w3 ⟨rfl, hp3⟩
        obtain ⟨ow3, ht3, hc3, ho3⟩ := hp3
        have HT3 := Lib.hid ht3; clear ht3
        have HO3 := Lib.hid ho3; clear ho3
        have hno : ¬ OfN L (s.fds o.fd.toNat).node (w.heap.size + 1) := fun ⟨j, e⟩ => by rw [H.out.none (Nat.le_succ _)] at e; cases e
        have HA3 := Lib.hid (HBS.out.ans.tch hc3 hno)
        have HTC := Lib.hid ((Tch.ofBelow (S := Owned L) HBS.out.below).andNew hc3 (fun i _ hT => by obtain ⟨j, e⟩ := hT; unfold Owned; rw [e]; simp))
        have HNN := Lib.hid (show ow3 (w.heap.size + 1) = none from (HO3.out _ HBS.out.ans.cells.lt).trans (H.out.none (Nat.le_succ _)))
        clear hc3 hno
        clear o0 o1 o2 o3 o4 o5 o6 o7 of olt
        obtain ⟨z0, z1, z2, z3, z4, z5, zf, zlt⟩ := HA3.out.cells
        unfold NilS at z4 z5
        go_wp2_with fail
        have hb6 := Tch.put6 HTC.out (w.heap.size + 1) (Nat.le_succ _) (I 0) (I 0) (I 0) (I 0) NilS NilS
        have ht6 := HT3.out.put6 (w.heap.size + 1) HNN.out (I 0) (I 0) (I 0) (I 0) NilS NilS
        obtain ⟨r0, r1, r2, r3, r4, r5, -, -⟩ := (HA3.out.store {} NilS NilS).cells
        unfold put6 NilS at r0 r1 r2 r3 r4 r5
        refine bodyPost_ret (v := M.Ans.val {} NilS NilS) (by simp [results, Tryz.results75, go_sem, M.Ans.val, NilS, r0, r1, r2, r3, r4, r5]) rfl ?_
        exact ⟨_, { L with ow := ow3 }, rfl, by rw [HR.out]; exact AnsIn.plain rfl rfl, by rw [HR.out]; exact ht6, ⟨rfl, rfl, fun k hk => HO3.out k (Nat.lt_of_lt_of_le hk HBS.out.below.size)⟩, hb6⟩
  · have hb1 : (s.fileCode o.fd true != 0) = true := by simpa using hc
    have HR := Lib.hid (trunc_bad hc)
    clear hc
    generalize s.fileCode o.fd true = C at *
    have HBS := Lib.hid (HBS.out.below' (hb.alloc hb.size (.cells #[I 0, I 0, I 0] 90)))
    unfold M.Sl.fval
    go_wp2_with fail
    (with_reducible refine (code_any (C) _).mono ?_)
    rintro e wc ⟨rfl, hbc⟩
    have HBC := Lib.hid (HBS.out.below' hbc); clear hbc
    obtain ⟨z0, z1, z2, z3, z4, z5, zf, zlt⟩ := HBC.out.ans.cells
    unfold NilS at z4 z5
    unfold M.Ans.val
    go_wp2_with fail
    have hb6 := Below.put6 HBC.out.below (w.heap.size + 1) (Nat.le_succ _) (I (M.code (C)).code) (I (M.code (C)).n) (I (M.code (C)).kind) (I (M.code (C)).links) NilS NilS
    obtain ⟨r0, r1, r2, r3, r4, r5, -, -⟩ := (HBC.out.ans.store (M.code (C)) NilS NilS).cells
    unfold put6 NilS at r0 r1 r2 r3 r4 r5
    refine bodyPost_ret (v := M.Ans.val (M.code (C)) NilS NilS) (by simp [results, Tryz.results75, go_sem, M.Ans.val, NilS, r0, r1, r2, r3, r4, r5]) rfl ?_
    exact ⟨_, L, rfl, by rw [HR.out]; exact AnsIn.plain rfl rfl, by rw [HR.out]; exact H.out.below hb6, Ext.same _ _ L, Tch.ofBelow hb6⟩
end Go.Proofs.YtpfaccpmgldkeaaGreatDoor
