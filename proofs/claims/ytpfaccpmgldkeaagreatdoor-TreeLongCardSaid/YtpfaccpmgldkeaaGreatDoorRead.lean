/- Contract of read. -/
import Derived.Test.YtpfaccpmgldkeaaGreatDoorStat
set_option linter.unusedVariables false
set_option linter.unusedSimpArgs false
namespace Go.Proofs.YtpfaccpmgldkeaaGreatDoor
open Go.RowKit Go.MapKept Go.ChangeMaps
set_option maxRecDepth 100000

theorem read_bad {s : M.St} {o : M.Op} (h : s.fileCode o.fd false ≠ 0) : s.readS o = (M.code (s.fileCode o.fd false), s) := by unfold M.St.readS; rw [if_pos h]
theorem read_arg {s : M.St} {o : M.Op} (h : s.fileCode o.fd false = 0) (h2 : o.n < 0 ∨ o.kind = 5 ∧ o.off < 0) : s.readS o = (M.code 2, s) := by unfold M.St.readS; rw [if_neg (by simp [h]), if_pos h2]
theorem read_ok {s : M.St} {o : M.Op} (h : s.fileCode o.fd false = 0) (h2 : ¬ (o.n < 0 ∨ o.kind = 5 ∧ o.off < 0)) {off : Int} (ho : (if o.kind = 5 then o.off else (s.fds o.fd.toNat).off) = off) {d : M.Bs}
    (hd : ((s.nd (s.fds o.fd.toNat).node).data.drop (min off.toNat (s.nd (s.fds o.fd.toNat).node).data.length)).take o.n.toNat = d) :
    s.readS o = ({ data := d }, if o.kind = 3 then s.moveTo o.fd (off + d.length) else s) := by
  subst ho; subst hd
  unfold M.St.readS; rw [if_neg (by simp [h]), if_neg h2]

theorem read_nums (off : Int) (len : Nat) (n : Int) (h0 : 0 ≤ off) (hn : 0 ≤ n) (hl : len ≤ 20736) :
    ∃ f g h e : Nat, min off (len : Int) = f ∧ IntKind.i64.wrap ((len : Int) - f) = g ∧ min n (g : Int) = h ∧ IntKind.i64.wrap ((f : Int) + h) = e ∧ f = min off.toNat len ∧ e = f + h ∧ h = min n.toNat (len - f) ∧ f ≤ e ∧ e ≤ len := by
  refine ⟨min off.toNat len, len - min off.toNat len, min n.toNat (len - min off.toNat len), min off.toNat len + min n.toNat (len - min off.toNat len), ?_, ?_, ?_, ?_, rfl, rfl, rfl, by omega, by omega⟩
  · omega
  · rw [IntKind.wrap_i64]; omega
  · omega
  · rw [IntKind.wrap_i64]; omega

theorem take_min {d : M.Bs} {n f h : Nat} (hh : h = min n (d.length - f)) : (d.drop f).take h = (d.drop f).take n := by
  rw [hh, List.take_eq_take_iff]; simp

theorem row_lower {w : World} {B B' n sz : Nat} {e : TypeId} {v : Value} {xs : List Value} (h : w.ownsRow B e sz v n xs) (hb : B' ≤ B) : w.ownsRow B' e sz v n xs := by
  refine ⟨h.1, ?_⟩
  rcases h.2 with h2 | ⟨g, cap, cur, h1, h2, h3⟩
  · exact Or.inl h2
  · exact Or.inr ⟨g, cap, cur, h1, Nat.le_trans hb h2, h3⟩
theorem add_lit0 (b o k : Nat) : (⟨b, o, none⟩ : Addr).add k = ⟨b, o + k, none⟩ := by unfold Addr.add; split <;> simp_all
theorem ListAt.sub {α : Type} {f : α → Value} {w : World} {p : Option Addr} {n c : Nat} {l : List α} (h : ListAt f w (.slice p n c) l) {lo hi : Nat} (h1 : lo ≤ hi) (h2 : hi ≤ n) : ListAt f w (.slice (if c = lo then p else p.map (·.add lo)) (hi - lo) (c - lo)) ((l.drop lo).take (hi - lo)) := by
  have hn := h.len
  rcases h with ⟨c', e1, e2⟩ | ⟨b, o, c', e1, e2, e3, e4⟩
  · cases e1
    have e5 : hi - lo = 0 := by omega
    rw [e5]
    refine Or.inl ⟨c - lo, ?_, by simp⟩
    split <;> rfl
  · have e6 : p = some ⟨b, o, none⟩ ∧ c = c' := by simp at e1; exact ⟨e1.1, e1.2.2⟩
    obtain ⟨rfl, rfl⟩ := e6
    have hl : ((l.drop lo).take (hi - lo)).length = hi - lo := by simp; omega
    by_cases hc : c = lo
    · rw [if_pos hc]
      refine Or.inr ⟨b, o, c - lo, by rw [hl], by omega, e3, fun j x hx => ?_⟩
      have := (List.getElem?_eq_some_iff.1 hx).1
      omega
    · rw [if_neg hc]
      refine Or.inr ⟨b, o + lo, c - lo, by rw [hl]; simp [add_lit0], by omega, e3, fun j x hx => ?_⟩
      rw [List.getElem?_take] at hx
      split at hx
      · rw [List.getElem?_drop] at hx
        rw [← e4 _ _ hx, Nat.add_assoc]
      · cases hx

set_option maxHeartbeats 4000000 in
theorem read_any (tb : Nat) (L : Lay) (k : Int) (s : M.St) (o : M.Op) (dp : Option Addr) (dn dc : Nat) (w : World) (h : TreeAt w tb L s) (hwf : Wf k s) (hk : k ≤ 10000) (hkind : o.kind = 3 ∨ o.kind = 5) :
    Calls Tryz.prog 72 #[Pt tb, o.val (.slice dp dn dc)] w (OpPost tb L (s.readS o) w) := by
  have H := Lib.hid h; clear h
  unfold M.Op.val
  have HBS := Lib.hid (Base.start w o (.slice dp dn dc))
  obtain ⟨t0, -, t2, -, -, tf, htb⟩ := (H.out.below HBS.out.below).cells5
  go_enter Tryz.func72, Tryz.ntmps72
  go_wp2_with fail
  change Calls _ _ _ (base2 w o (.slice dp dn dc)) _
  generalize base2 w o (.slice dp dn dc) = W0 at *
  obtain ⟨o0, o1, o2, o3, o4, o5, o6, o7, of, olt⟩ := HBS.out.op.cells
  (with_reducible refine (file_any tb L k s o.fd false W0 (H.out.below HBS.out.below) hwf).mono ?_)
  rintro e w1 ⟨hb, ⟨hc, rfl⟩ | ⟨hc, rfl⟩⟩
  · have hop := fileCode_open hc
    obtain ⟨hfd0, hfd1, hopn⟩ := isOpen_iff.1 hop
    obtain ⟨hn, ⟨ho1, ho2⟩, hf1, hf2⟩ := hwf.fds o.fd.toNat hopn
    have hsm := (hwf.data _ hn).1
    have HRA := Lib.hid (fun h2 => read_arg hc h2)
    have HRB := Lib.hid (fun h2 => read_ok hc h2 rfl rfl)
    have HBS1 := Lib.hid (HBS.out.below' hb)
    have HBS := Lib.hid (HBS.out.below' (hb.alloc hb.size (.cells #[I (s.fds o.fd.toNat).node, I (s.fds o.fd.toNat).off, I (s.fds o.fd.toNat).flags] 90)))
    have HIO := Lib.hid (isOpen_iff.1 hop); clear hopn
    clear o0 o1 o2 o3 o4 o5 o6 o7 of olt t0 t2 tf htb hb hop hc
    obtain ⟨o0, o1, o2, o3, o4, o5, o6, o7, of, olt⟩ := HBS1.out.op.cells
    have HT1 := Lib.hid (H.out.below HBS1.out.below)
    obtain ⟨dv, wv, mv, hnode⟩ := HT1.out.nodeOf hn
    obtain ⟨pd, cd, hdv⟩ := hnode.data.list.form
    subst hdv
    have HDL := Lib.hid hnode.data.list
    have hcap := HDL.out.cap
    obtain ⟨-, n1, -, -, -, -, -, -, nf, hnb⟩ := hnode.cells8
    have HN := Lib.hid hnode; clear hnode
    unfold M.Sl.fval
    generalize hsl : s.fds o.fd.toNat = sl at *
    have HSL := Lib.hid hsl; clear hsl
    rcases hkind with hkd | hkd
    · have b5 : (o.kind == 5) = false := by rw [hkd]; rfl
      have b3 : (o.kind == 3) = true := by rw [hkd]; rfl
      have HKD := Lib.hid hkd; clear hkd
      by_cases h2 : o.n < 0
      · have HR := Lib.hid (HRA.out (Or.inl h2))
        go_wp2_with fail
        (with_reducible refine (code_any (2) _).mono ?_)
        rintro e wc ⟨rfl, hbc⟩
        have HBC := Lib.hid (HBS.out.below' hbc); clear hbc
        obtain ⟨z0, z1, z2, z3, z4, z5, zf, zlt⟩ := HBC.out.ans.cells
        unfold NilS at z4 z5
        unfold M.Ans.val
        go_wp2_with fail
        have hb6 := Below.put6 HBC.out.below (w.heap.size + 1) (Nat.le_succ _) (I (M.code (2)).code) (I (M.code (2)).n) (I (M.code (2)).kind) (I (M.code (2)).links) NilS NilS
        obtain ⟨r0, r1, r2, r3, r4, r5, -, -⟩ := (HBC.out.ans.store (M.code (2)) NilS NilS).cells
        unfold put6 NilS at r0 r1 r2 r3 r4 r5
        refine bodyPost_ret (v := M.Ans.val (M.code (2)) NilS NilS) (by simp [results, Tryz.results72, go_sem, M.Ans.val, NilS, r0, r1, r2, r3, r4, r5]) rfl ?_
        exact ⟨_, L, rfl, by rw [HR.out]; exact AnsIn.plain rfl rfl, by rw [HR.out]; exact H.out.below hb6, Ext.same _ _ L, Tch.ofBelow hb6⟩
      · have HR := HRB.out (by rintro (e | e); exact h2 e; rw [HKD.out] at e; exact absurd e.1 (by decide))
        rw [if_neg (by rw [HKD.out]; decide), if_pos HKD.out] at HR
        have HR := Lib.hid HR
        clear HRA HRB
        obtain ⟨f, g, h, e, q1, q2, q3, q4, qf, qe, qh, q5, q6⟩ := read_nums sl.off (s.nd sl.node).data.length o.n (by omega) (by omega) hsm
        have HQF := Lib.hid qf; clear qf
        have HQE := Lib.hid qe; clear qe
        have HQH := Lib.hid qh; clear qh
        go_wp2_with fail
        clear o0 o1 o2 o3 o4 o5 o6 o7 of olt n1 nf hnb
        have HNA := Lib.hid (HN.out.keep (w' := w1.alloc (.cells #[I sl.node, I sl.off, I sl.flags] 90)) (fun k j hk => heap_alloc_old _ _ (HT1.out.low k _ hk)) (fun _ _ h => h))
        have HDA := Lib.hid (HDL.out.below ((Below.refl _ _).alloc (Nat.le_refl _) (.cells #[I sl.node, I sl.off, I sl.flags] 90)))
        generalize hw2 : w1.alloc (.cells #[I sl.node, I sl.off, I sl.flags] 90) = w2 at *
        clear hw2
        have hsub := HDA.out.sub q5 q6
        obtain ⟨D, hD⟩ : ∃ D, D = ((s.nd sl.node).data.drop f).take (e - f) := ⟨_, rfl⟩
        have HL4 := Lib.hid (show D.length = h by rw [hD]; simp; have := HQE.out; omega)
        have HDD := Lib.hid (show D = ((s.nd sl.node).data.drop (min (sl.off).toNat (s.nd sl.node).data.length)).take o.n.toNat from by
          rw [hD, show e - f = h by have := HQE.out; omega, take_min HQH.out, HQF.out])
        rw [← hD] at hsub
        have HSUB := Lib.hid hsub; clear hsub hD
        have hshape : (pd = none ∧ cd = f) ∨ (pd = none ∧ ¬ cd = f) ∨ (∃ bb oo, pd = some ⟨bb, oo, none⟩ ∧ cd = f) ∨ (∃ bb oo, pd = some ⟨bb, oo, none⟩ ∧ ¬ cd = f) := by
          rcases HDA.out with ⟨cc, hdn, hdl0⟩ | ⟨bb, oo, cc, hdn, hcc, hbb, hcl⟩
          · have e1 : pd = none := by simp at hdn; exact hdn.1
            by_cases hcf : cd = f
            · exact Or.inl ⟨e1, hcf⟩
            · exact Or.inr (Or.inl ⟨e1, hcf⟩)
          · have e1 : pd = some ⟨bb, oo, none⟩ := by simp at hdn; exact hdn.1
            by_cases hcf : cd = f
            · exact Or.inr (Or.inr (Or.inl ⟨bb, oo, e1, hcf⟩))
            · exact Or.inr (Or.inr (Or.inr ⟨bb, oo, e1, hcf⟩))
        have q7 : e ≤ cd := by omega
        have q8 : h ≤ 20736 := by have := HQH.out; omega
        rcases hshape with ⟨rfl, hcf⟩ | ⟨rfl, hcf⟩ | ⟨bb, oo, rfl, hcf⟩ | ⟨bb, oo, rfl, hcf⟩
        all_goals
          first
            | rw [if_neg hcf] at HSUB
            | (have hec : e = cd := by omega
               subst hcf
               subst hec
               rw [if_pos rfl] at HSUB)
          try simp only [Option.map_some, Option.map_none, add_lit0, Nat.sub_self] at HSUB
          refine wp_region_still_tail 18 (by kernel_rfl) (by kernel_rfl) ?_
          change wpStill _ _ (World.drew w2) _ _ _
          simp only [List.take_succ_cons, List.take_zero, List.drop_succ_cons, List.drop_zero]
          obtain ⟨o0, o1, o2, o3, o4, o5, o6, o7, of, olt⟩ := (HBS.out.op.below (Below.refl _ _).drew).cells
          obtain ⟨-, n1, -, -, -, -, -, -, nf, hnb⟩ := (HNA.out.keep (w' := w2.drew) (fun _ _ _ => rfl) (fun _ _ h => h)).cells8
          have HCL := Lib.hid (clone_bytes _ _ w2.drew (HSUB.out.below (Below.refl _ _).drew) (by have := HL4.out; omega))
          have HBW := Lib.hid (HBS.out.below' (Below.refl _ _).drew)
          repeat still_step
          refine wpStill_nil ?_
          change wpList _ _ _ _ _ (World.drew w2)
          generalize hwW : World.drew w2 = w3 at *
          clear hwW
          clear o0 o1 o2 o3 o4 o5 o6 o7 of olt n1 nf hnb
          go_wp2_with fail
          (with_reducible refine HCL.out.mono ?_)
          rintro er w4 ⟨v4, rfl, hr4, hb4⟩
          rw [List.length_map] at hr4
          obtain ⟨p4, c4, hv4, -⟩ := row_form hr4
          rw [HL4.out] at hv4
          subst hv4
          have HR4 := Lib.hid hr4; clear hr4
          have HBX := Lib.hid (HBW.out.below' hb4); clear hb4
          obtain ⟨o0, o1, o2, o3, o4, o5, o6, o7, of, olt⟩ := HBX.out.op.cells
          go_wp2_with fail
          clear o0 o1 o2 o3 o4 o5 o6 o7 of olt
          refine wp_region_still_tail 10 (by kernel_rfl) (by kernel_rfl) ?_
          change wpStill _ _ (World.drew w4) _ _ _
          simp only [List.take_succ_cons, List.take_zero, List.drop_succ_cons, List.drop_zero]
          have HT4 := Lib.hid (H.out.below HBX.out.below.drew)
          have HBY := Lib.hid (HBX.out.below' (Below.refl _ _).drew)
          have HR5 := Lib.hid (row_same (w' := w4.drew) HR4.out (fun _ _ => rfl))
          obtain ⟨o0, o1, o2, o3, o4, o5, o6, o7, of, olt⟩ := HBY.out.op.cells
          obtain ⟨t0, -, t2, -, -, tf, htb⟩ := HT4.out.cells5
          have hsum : IntKind.i64.wrap (sl.off + (h : Int)) = sl.off + h := by rw [IntKind.wrap_i64]; omega
          have HMV := Lib.hid (move_any w4.drew L.fb s.fds o.fd (sl.off + h) HT4.out.fds)
          repeat still_step
          refine wpStill_nil ?_
          change wpList _ _ _ _ _ (World.drew w4)
          generalize hwW : World.drew w4 = w5 at *
          clear hwW
          clear o0 o1 o2 o3 o4 o5 o6 o7 of olt t0 t2 tf htb hsum
          go_wp2_with fail
          (with_reducible refine HMV.out.mono ?_)
          rintro er w6 ⟨ht, ⟨q, hq, hfd, ho, ⟨hneg, rfl, hf⟩ | ⟨hpos, rfl, hf⟩⟩ | ⟨hno, rfl, hf⟩⟩
          · exfalso; omega
          · have HT6 := Lib.hid (HT4.out.newFds ht hf)
            have HTC := Lib.hid (Tch.trans (Tch.ofBelow (S := Owned L) HBY.out.below) (Tch.ownF HT4.out ht))
            have hne2 : ¬ One L.fb (w.heap.size + 1) := fun e => by have e' : w.heap.size + 1 = L.fb := e; have := H.out.low _ _ H.out.ownf; omega
            have HA6 := Lib.hid (HBY.out.ans.tch ht hne2)
            have HR6 := Lib.hid (row_same (w' := w6) HR5.out (fun g hg => ht.block g (HR5.out.lt g hg).2 (fun e => by have e' : g = L.fb := e; have h1 := (HR5.out.lt g hg).1; have h2 := H.out.low _ _ H.out.ownf; have h3 := HBW.out.below.size; omega)))
            have HLO := Lib.hid (show ∀ g, (Value.slice p4 h c4).ownBlock = some g → w.heap.size + 1 < g from fun g hg => by have h1 := (HR5.out.lt g hg).1; have h2 := HBW.out.ans.cells.lt; omega)
            have HQ := Lib.hid (show s.moveTo o.fd (sl.off + D.length) = { s with fds := tset s.fds q { s.fds q with off := sl.off + h } } by
              unfold M.St.moveTo M.St.fdSet tset
              rw [hfd, Int.toNat_natCast, HL4.out])
            clear ht hf hne2 hfd ho
            obtain ⟨z0, z1, z2, z3, z4, z5, zf, zlt⟩ := HA6.out.cells
            unfold NilS at z4 z5
            go_wp2_with fail
            have hb6 := Tch.put6 HTC.out (w.heap.size + 1) (Nat.le_succ _) (I 0) (I 0) (I 0) (I 0) (.slice p4 h c4) NilS
            have ht6 := HT6.out.put6 (w.heap.size + 1) (H.out.none (Nat.le_succ _)) (I 0) (I 0) (I 0) (I 0) (.slice p4 h c4) NilS
            have hr6 := row_same (w' := put6 w6 (w.heap.size + 1) (I 0) (I 0) (I 0) (I 0) (.slice p4 h c4) NilS) HR6.out (fun g hg => put6_other (fun e => by have := HLO.out g hg; omega) _ _ _ _ _ _)
            obtain ⟨r0, r1, r2, r3, r4, r5, -, -⟩ := (HA6.out.store { data := D } (.slice p4 h c4) NilS).cells
            unfold put6 NilS at r0 r1 r2 r3 r4 r5
            refine bodyPost_ret (v := M.Ans.val { data := D } (.slice p4 h c4) NilS) (by simp [results, Tryz.results72, go_sem, M.Ans.val, NilS, r0, r1, r2, r3, r4, r5]) rfl ?_
            have hai : AnsIn w.heap.size L.ow (put6 w6 (w.heap.size + 1) (I 0) (I 0) (I 0) (I 0) (.slice p4 h c4) NilS) (M.Ans.val { data := D } (.slice p4 h c4) NilS) { data := D } :=
              ⟨_, _, rfl, row_lower hr6 (by have := HBW.out.below.size; omega), World.ownsRow_nil _ _ _ _, fun g hg => by
                rcases hg with hg | hg
                · exact H.out.none (by have := HLO.out g hg; omega)
                · cases hg⟩
            exact ⟨_, L, rfl, by rw [HR.out, ← HDD.out]; exact hai, by rw [HR.out, ← HDD.out, HQ.out]; exact ht6, Ext.same _ _ L, hb6⟩
          · exact absurd HIO.out hno
    · have b5 : (o.kind == 5) = true := by rw [hkd]; rfl
      have b3 : (o.kind == 3) = false := by rw [hkd]; rfl
      have HKD := Lib.hid hkd; clear hkd
      by_cases h2 : o.n < 0 ∨ o.off < 0
      · have HR := Lib.hid (HRA.out (by rcases h2 with e | e; exact Or.inl e; exact Or.inr ⟨HKD.out, e⟩))
        rcases h2 with h2 | h2
        all_goals
          go_wp2_with fail
          all_goals
            (with_reducible refine (code_any (2) _).mono ?_)
            rintro e wc ⟨rfl, hbc⟩
            have HBC := Lib.hid (HBS.out.below' hbc); clear hbc
            obtain ⟨z0, z1, z2, z3, z4, z5, zf, zlt⟩ := HBC.out.ans.cells
            unfold NilS at z4 z5
            unfold M.Ans.val
            go_wp2_with fail
            have hb6 := Below.put6 HBC.out.below (w.heap.size + 1) (Nat.le_succ _) (I (M.code (2)).code) (I (M.code (2)).n) (I (M.code (2)).kind) (I (M.code (2)).links) NilS NilS
            obtain ⟨r0, r1, r2, r3, r4, r5, -, -⟩ := (HBC.out.ans.store (M.code (2)) NilS NilS).cells
            unfold put6 NilS at r0 r1 r2 r3 r4 r5
            refine bodyPost_ret (v := M.Ans.val (M.code (2)) NilS NilS) (by simp [results, Tryz.results72, go_sem, M.Ans.val, NilS, r0, r1, r2, r3, r4, r5]) rfl ?_
            exact ⟨_, L, rfl, by rw [HR.out]; exact AnsIn.plain rfl rfl, by rw [HR.out]; exact H.out.below hb6, Ext.same _ _ L, Tch.ofBelow hb6⟩
      · obtain ⟨h2, h6⟩ := not_or.1 h2
        have HR := HRB.out (by rintro (e | e); exact h2 e; exact h6 e.2)
        rw [if_pos HKD.out, if_neg (by rw [HKD.out]; decide)] at HR
        have HR := Lib.hid HR
        clear HRA HRB
        obtain ⟨f, g, h, e, q1, q2, q3, q4, qf, qe, qh, q5, q6⟩ := read_nums o.off (s.nd sl.node).data.length o.n (by omega) (by omega) hsm
        have HQF := Lib.hid qf; clear qf
        have HQE := Lib.hid qe; clear qe
        have HQH := Lib.hid qh; clear qh
        go_wp2_with fail
        clear o0 o1 o2 o3 o4 o5 o6 o7 of olt n1 nf hnb
        have HNA := Lib.hid (HN.out.keep (w' := w1.alloc (.cells #[I sl.node, I sl.off, I sl.flags] 90)) (fun k j hk => heap_alloc_old _ _ (HT1.out.low k _ hk)) (fun _ _ h => h))
        have HDA := Lib.hid (HDL.out.below ((Below.refl _ _).alloc (Nat.le_refl _) (.cells #[I sl.node, I sl.off, I sl.flags] 90)))
        generalize hw2 : w1.alloc (.cells #[I sl.node, I sl.off, I sl.flags] 90) = w2 at *
        clear hw2
        have hsub := HDA.out.sub q5 q6
        obtain ⟨D, hD⟩ : ∃ D, D = ((s.nd sl.node).data.drop f).take (e - f) := ⟨_, rfl⟩
        have HL4 := Lib.hid (show D.length = h by rw [hD]; simp; have := HQE.out; omega)
        have HDD := Lib.hid (show D = ((s.nd sl.node).data.drop (min (o.off).toNat (s.nd sl.node).data.length)).take o.n.toNat from by
          rw [hD, show e - f = h by have := HQE.out; omega, take_min HQH.out, HQF.out])
        rw [← hD] at hsub
        have HSUB := Lib.hid hsub; clear hsub hD
        have hshape : (pd = none ∧ cd = f) ∨ (pd = none ∧ ¬ cd = f) ∨ (∃ bb oo, pd = some ⟨bb, oo, none⟩ ∧ cd = f) ∨ (∃ bb oo, pd = some ⟨bb, oo, none⟩ ∧ ¬ cd = f) := by
          rcases HDA.out with ⟨cc, hdn, hdl0⟩ | ⟨bb, oo, cc, hdn, hcc, hbb, hcl⟩
          · have e1 : pd = none := by simp at hdn; exact hdn.1
            by_cases hcf : cd = f
            · exact Or.inl ⟨e1, hcf⟩
            · exact Or.inr (Or.inl ⟨e1, hcf⟩)
          · have e1 : pd = some ⟨bb, oo, none⟩ := by simp at hdn; exact hdn.1
            by_cases hcf : cd = f
            · exact Or.inr (Or.inr (Or.inl ⟨bb, oo, e1, hcf⟩))
            · exact Or.inr (Or.inr (Or.inr ⟨bb, oo, e1, hcf⟩))
        have q7 : e ≤ cd := by omega
        have q8 : h ≤ 20736 := by have := HQH.out; omega
        rcases hshape with ⟨rfl, hcf⟩ | ⟨rfl, hcf⟩ | ⟨bb, oo, rfl, hcf⟩ | ⟨bb, oo, rfl, hcf⟩
        all_goals
          first
            | rw [if_neg hcf] at HSUB
            | (have hec : e = cd := by omega
               subst hcf
               subst hec
               rw [if_pos rfl] at HSUB)
          try simp only [Option.map_some, Option.map_none, add_lit0, Nat.sub_self] at HSUB
          refine wp_region_still_tail 18 (by kernel_rfl) (by kernel_rfl) ?_
          change wpStill _ _ (World.drew w2) _ _ _
          simp only [List.take_succ_cons, List.take_zero, List.drop_succ_cons, List.drop_zero]
          obtain ⟨o0, o1, o2, o3, o4, o5, o6, o7, of, olt⟩ := (HBS.out.op.below (Below.refl _ _).drew).cells
          obtain ⟨-, n1, -, -, -, -, -, -, nf, hnb⟩ := (HNA.out.keep (w' := w2.drew) (fun _ _ _ => rfl) (fun _ _ h => h)).cells8
          have HCL := Lib.hid (clone_bytes _ _ w2.drew (HSUB.out.below (Below.refl _ _).drew) (by have := HL4.out; omega))
          have HBW := Lib.hid (HBS.out.below' (Below.refl _ _).drew)
          repeat still_step
          refine wpStill_nil ?_
          change wpList _ _ _ _ _ (World.drew w2)
          generalize hwW : World.drew w2 = w3 at *
          clear hwW
          clear o0 o1 o2 o3 o4 o5 o6 o7 of olt n1 nf hnb
          go_wp2_with fail
          (with_reducible refine HCL.out.mono ?_)
          rintro er w4 ⟨v4, rfl, hr4, hb4⟩
          rw [List.length_map] at hr4
          obtain ⟨p4, c4, hv4, -⟩ := row_form hr4
          rw [HL4.out] at hv4
          subst hv4
          have HR4 := Lib.hid hr4; clear hr4
          have HBX := Lib.hid (HBW.out.below' hb4); clear hb4
          obtain ⟨o0, o1, o2, o3, o4, o5, o6, o7, of, olt⟩ := HBX.out.op.cells
          obtain ⟨z0, z1, z2, z3, z4, z5, zf, zlt⟩ := HBX.out.ans.cells
          unfold NilS at z4 z5
          have HLO := Lib.hid (show ∀ g, (Value.slice p4 h c4).ownBlock = some g → w.heap.size + 1 < g from fun g hg => by have h1 := (HR4.out.lt g hg).1; have h2 := HBW.out.ans.cells.lt; omega)
          go_wp2_with fail
          have hb6 := Below.put6 HBX.out.below (w.heap.size + 1) (Nat.le_succ _) (I 0) (I 0) (I 0) (I 0) (.slice p4 h c4) NilS
          have hr6 := row_same (w' := put6 w4 (w.heap.size + 1) (I 0) (I 0) (I 0) (I 0) (.slice p4 h c4) NilS) HR4.out (fun g hg => put6_other (fun e => by have := HLO.out g hg; omega) _ _ _ _ _ _)
          have hai : AnsIn w.heap.size L.ow (put6 w4 (w.heap.size + 1) (I 0) (I 0) (I 0) (I 0) (.slice p4 h c4) NilS) (M.Ans.val { data := D } (.slice p4 h c4) NilS) { data := D } :=
            ⟨_, _, rfl, row_lower hr6 (by have := HBW.out.below.size; omega), World.ownsRow_nil _ _ _ _, fun g hg => by
              rcases hg with hg | hg
              · exact H.out.none (by have := HLO.out g hg; omega)
              · cases hg⟩
          obtain ⟨r0, r1, r2, r3, r4, r5, -, -⟩ := (HBX.out.ans.store { data := D } (.slice p4 h c4) NilS).cells
          unfold put6 NilS at r0 r1 r2 r3 r4 r5
          refine bodyPost_ret (v := M.Ans.val { data := D } (.slice p4 h c4) NilS) (by simp [results, Tryz.results72, go_sem, M.Ans.val, NilS, r0, r1, r2, r3, r4, r5]) rfl ?_
          exact ⟨_, L, rfl, by rw [HR.out, ← HDD.out]; exact hai, by rw [HR.out]; exact H.out.below hb6, Ext.same _ _ L, Tch.ofBelow hb6⟩
  · have hb1 : (s.fileCode o.fd false != 0) = true := by simpa using hc
    have HR := Lib.hid (read_bad hc)
    clear hc
    generalize s.fileCode o.fd false = C at *
    have HBS := Lib.hid (HBS.out.below' (hb.alloc hb.size (.cells #[I 0, I 0, I 0] 90)))
    unfold M.Sl.fval
    go_wp2_with fail
    (with_reducible refine (code_any (C) _).mono ?_)
    rintro e wc ⟨rfl, hbc⟩
    have HBC := Lib.hid (HBS.out.below' hbc); clear hbc
    obtain ⟨z0, z1, z2, z3, z4, z5, zf, zlt⟩ := HBC.out.ans.cells
    unfold NilS at z4 z5
    unfold M.Ans.val
    go_wp2_with fail
    have hb6 := Below.put6 HBC.out.below (w.heap.size + 1) (Nat.le_succ _) (I (M.code (C)).code) (I (M.code (C)).n) (I (M.code (C)).kind) (I (M.code (C)).links) NilS NilS
    obtain ⟨r0, r1, r2, r3, r4, r5, -, -⟩ := (HBC.out.ans.store (M.code (C)) NilS NilS).cells
    unfold put6 NilS at r0 r1 r2 r3 r4 r5
    refine bodyPost_ret (v := M.Ans.val (M.code (C)) NilS NilS) (by simp [results, Tryz.results72, go_sem, M.Ans.val, NilS, r0, r1, r2, r3, r4, r5]) rfl ?_
    exact ⟨_, L, rfl, by rw [HR.out]; exact AnsIn.plain rfl rfl, by rw [HR.out]; exact H.out.below hb6, Ext.same _ _ L, Tch.ofBelow hb6⟩
end Go.Proofs.YtpfaccpmgldkeaaGreatDoor
