/- Contract of stat. -/
import Derived.Test.YtpfaccpmgldkeaaGreatDoorSeek
namespace Go.Proofs.YtpfaccpmgldkeaaGreatDoor
open Go.RowKit Go.MapKept Go.ChangeMaps
set_option maxRecDepth 100000

theorem run_len_nilmap (w : World) (ty : TypeId) : (Builtin.len_ #[69] ty #[.map none]).run Tryz.prog w = .ok (.int .i64 0) w := by
  simp [Builtin.len_, run_underlying Tryz.underlying69, goInt]
theorem NamesAt.len {w : World} {ow : Nat → Option Own} {n : Int} {v : Value} {x : M.Nd} (h : NamesAt w ow n v x) (ty : TypeId) : (Builtin.len_ #[69] ty #[v]).run Tryz.prog w = .ok (.int .i64 x.names.length) w := by
  rcases h with ⟨_, _, b, rfl, _, h5⟩ | ⟨_, rfl, h3⟩
  · exact run_len_names h5 ty
  · rw [h3]; exact run_len_nilmap w ty

theorem stat_bad {s : M.St} {o : M.Op} (h : (s.find o.path (decide (o.kind = 16))).2 ≠ 0) : s.statS o = (M.code (s.find o.path (decide (o.kind = 16))).2, s) := by unfold M.St.statS; rw [if_pos h]
theorem stat_ok {s : M.St} {o : M.Op} (h : (s.find o.path (decide (o.kind = 16))).2 = 0) {x : M.Nd} (hx : s.nd (s.find o.path (decide (o.kind = 16))).1.node = x) : s.statS o = ({ kind := x.kind, n := (x.data.length : Int) + x.names.length, links := x.links }, s) := by
  subst hx; unfold M.St.statS; rw [if_neg (by simp [h])]

set_option maxHeartbeats 2000000 in
theorem stat_any (tb : Nat) (L : Lay) (k : Int) (s : M.St) (o : M.Op) (dp : Option Addr) (dn dc : Nat) (w : World) (h : TreeAt w tb L s) (hwf : Wf k s) (hk : k ≤ 10000) (hl : o.path.length ≤ 1000000) (hm : GMax w) :
    Calls Tryz.prog 83 #[Pt tb, o.val (.slice dp dn dc)] w (OpPost tb L (s.statS o) w) := by
  have H := Lib.hid h; clear h
  unfold M.Op.val
  have HM := Lib.hid hm; clear hm
  have hdk : (o.kind == 16) = decide (o.kind = 16) := rfl
  have HFB := Lib.hid (fun h => stat_bad (s := s) (o := o) h)
  have HFO := Lib.hid (fun h => stat_ok (s := s) (o := o) h rfl)
  generalize hfo : decide (o.kind = 16) = fo at *
  have HFI := Lib.hid hfo; clear hfo
  have HBS := Lib.hid (Base.start w o (.slice dp dn dc))
  obtain ⟨t0, -, t2, -, -, tf, htb⟩ := (H.out.below HBS.out.below).cells5
  go_enter Tryz.func83, Tryz.ntmps83
  go_wp2_with fail
  change Calls _ _ _ (base2 w o (.slice dp dn dc)) _
  generalize base2 w o (.slice dp dn dc) = W0 at *
  obtain ⟨o0, o1, o2, o3, o4, o5, o6, o7, of, olt⟩ := HBS.out.op.cells
  (with_reducible refine (find_any tb L s o.path fo W0 (H.out.below HBS.out.below) hwf.cl hl (HM.out.below HBS.out.below)).mono ?_)
  rintro e w1 ⟨rfl, hb⟩
  by_cases hc : (s.find o.path fo).2 = 0
  · have hn := find_has hwf.cl hc
    have HR := Lib.hid (HFO.out hc)
    rw [hc]
    clear hc
    generalize (s.find o.path fo).1 = R at *
    have HBS := Lib.hid (HBS.out.below' (hb.alloc hb.size (.cells #[I R.node, I R.dir, S R.name] 86)))
    have HSP := Lib.hid (spot_new w1 R)
    unfold M.Spot.val
    go_wp2_with fail
    clear o0 o1 o2 o3 o4 o5 o6 o7 of olt t0 t2 tf htb hb
    generalize hw2 : w1.alloc (.cells #[I R.node, I R.dir, S R.name] 86) = w2 at *
    clear hw2
    have HT2 := Lib.hid (H.out.below HBS.out.below)
    have hlk := fun m : Nat => (HT2.out.keep ((Tch.refl _ w2).drewN m)).look hn
    obtain ⟨t0, -, -, -, -, tf, htb⟩ := HT2.out.cells5
    obtain ⟨s0, s1, s2, sf, slt⟩ := HSP.out.cells
    go_quiet (fail)
    have HBE := Lib.hid (HBS.out.below' (below_drewN (Below.refl _ _) nq).drew)
    have HT3 := Lib.hid (H.out.below HBE.out.below)
    clear hlk t0 tf htb s0 s1 s2 sf slt HT2 HSP
    generalize hw3 : w2.drewN nq = w3 at *
    clear hw3
    have hs1 := hwf.small hk hn
    have hd1 := hs1.data
    have hd2 := hs1.names
    go_wp2_with fail
    refine wp_region_still_tail 20 (by kernel_rfl) (by kernel_rfl) ?_
    change wpStill _ _ (World.drew w3) _ _ _
    simp only [List.take_succ_cons, List.take_zero, List.drop_succ_cons, List.drop_zero]
    obtain ⟨dv, wv, mv, hnode⟩ := HT3.out.nodeOf hn
    obtain ⟨pd, cd, hdv⟩ := hnode.data.list.form
    subst hdv
    have hlen := hnode.nams.len
    obtain ⟨n0, n1, -, n3, -, n5, -, -, nf, hnb⟩ := hnode.cells8
    have HN := Lib.hid hnode; clear hnode
    generalize s.nd R.node = x at *
    have hsum : IntKind.i64.wrap ((x.data.length : Int) + (x.names.length : Int)) = (x.data.length : Int) + (x.names.length : Int) := by rw [IntKind.wrap_i64]; omega
    repeat still_step
    refine wpStill_nil ?_
    change wpList _ _ _ _ _ (World.drew w3)
    generalize hw4 : w3.drew = w4 at *
    clear hw4
    clear n0 n1 n3 n5 nf hnb hlen hsum
    obtain ⟨z0, z1, z2, z3, z4, z5, zf, zlt⟩ := HBE.out.ans.cells
    unfold NilS at z4 z5
    go_wp2_with fail
    have hb6 := Below.put6 HBE.out.below (w.heap.size + 1) (Nat.le_succ _) (I ({ kind := x.kind, n := (x.data.length : Int) + x.names.length, links := x.links } : M.Ans).code) (I ({ kind := x.kind, n := (x.data.length : Int) + x.names.length, links := x.links } : M.Ans).n) (I ({ kind := x.kind, n := (x.data.length : Int) + x.names.length, links := x.links } : M.Ans).kind) (I ({ kind := x.kind, n := (x.data.length : Int) + x.names.length, links := x.links } : M.Ans).links) (.slice none 0 0) (.slice none 0 0)
    obtain ⟨r0, r1, r2, r3, r4, r5, -, -⟩ := (HBE.out.ans.store ({ kind := x.kind, n := (x.data.length : Int) + x.names.length, links := x.links } : M.Ans) (.slice none 0 0) (.slice none 0 0)).cells
    unfold put6 at r0 r1 r2 r3 r4 r5
    refine bodyPost_ret (v := M.Ans.val ({ kind := x.kind, n := (x.data.length : Int) + x.names.length, links := x.links } : M.Ans) (.slice none 0 0) (.slice none 0 0)) (by simp [results, Tryz.results83, go_sem, M.Ans.val, r0, r1, r2, r3, r4, r5]) rfl ?_
    exact ⟨_, L, rfl, by rw [HR.out]; exact AnsIn.plain rfl rfl, by rw [HR.out]; exact H.out.below hb6, Ext.same _ _ L, Tch.ofBelow hb6⟩
  · have hb1 : ((s.find o.path fo).2 != 0) = true := by simpa using hc
    have HR := Lib.hid (HFB.out hc)
    clear hc
    generalize (s.find o.path fo).2 = C at *
    generalize (s.find o.path fo).1 = R at *
    have HBS := Lib.hid (HBS.out.below' (hb.alloc hb.size (.cells #[I R.node, I R.dir, S R.name] 86)))
    unfold M.Spot.val
    go_wp2_with fail
    (with_reducible refine (code_any (C) _).mono ?_)
    rintro e wc ⟨rfl, hbc⟩
    have HBC := Lib.hid (HBS.out.below' hbc); clear hbc
    obtain ⟨z0, z1, z2, z3, z4, z5, zf, zlt⟩ := HBC.out.ans.cells
    unfold NilS at z4 z5
    unfold M.Ans.val
    go_wp2_with fail
    have hb6 := Below.put6 HBC.out.below (w.heap.size + 1) (Nat.le_succ _) (I (M.code (C)).code) (I (M.code (C)).n) (I (M.code (C)).kind) (I (M.code (C)).links) NilS NilS
    obtain ⟨r0, r1, r2, r3, r4, r5, -, -⟩ := (HBC.out.ans.store (M.code (C)) NilS NilS).cells
    unfold put6 NilS at r0 r1 r2 r3 r4 r5
    refine bodyPost_ret (v := M.Ans.val (M.code (C)) NilS NilS) (by simp [results, Tryz.results83, go_sem, M.Ans.val, NilS, r0, r1, r2, r3, r4, r5]) rfl ?_
    exact ⟨_, L, rfl, by rw [HR.out]; exact AnsIn.plain rfl rfl, by rw [HR.out]; exact H.out.below hb6, Ext.same _ _ L, Tch.ofBelow hb6⟩
end Go.Proofs.YtpfaccpmgldkeaaGreatDoor
