/- Contract of Do. -/
import Derived.Test.YtpfaccpmgldkeaaGreatDoorDo
import Derived.Test.YtpfaccpmgldkeaaGreatDoorMark
set_option linter.unusedVariables false
set_option linter.unusedSimpArgs false
namespace Go.Proofs.YtpfaccpmgldkeaaGreatDoor
open Go.RowKit Go.MapKept Go.ChangeMaps
set_option maxRecDepth 100000

/-- Behind a Sync: nothing is kept of what was taken. -/
def M.St.synced (s : M.St) : M.St := { s with past := 0, went := 0, nodes := s.nodes.map fun p => (p.1, { p.2 with high := 0 }) }
theorem synced_eq (s : M.St) : highBut { s with past := 0, went := 0 } (fun _ => 0) [] = s.synced := by
  unfold highBut M.St.synced
  simp
theorem doS_sync {s : M.St} {o : M.Op} (h : o.kind = 21) : s.doS o = ((s.mark.step o).1, (s.mark.step o).2.synced.mark) := by
  unfold M.St.doS
  simp only
  rw [if_pos h]
  rfl
theorem doS_else {s : M.St} {o : M.Op} (h : o.kind ≠ 21) : s.doS o = ((s.mark.step o).1, (s.mark.step o).2.mark) := by
  unfold M.St.doS
  simp only
  rw [if_neg h]

/-- What Do needs of the tree. -/
structure Fit (k : Int) (s : M.St) (o : M.Op) : Prop where
  sm : ∀ n, s.has n = true → Small (s.nd n)
  wf : Wf k s.mark
  lk : ∀ n, s.mark.has n = true → ∀ m c, M.get (s.mark.nd n).names m = some c → 1 ≤ (s.mark.nd c).links
  sm2 : ∀ n, (s.mark.step o).2.has n = true → Small ((s.mark.step o).2.nd n)
  srt2 : Srt M.ltI (s.mark.step o).2.nodes
  k : k ≤ 9999
/-- What Do needs of its argument. -/
structure Arg (L : Lay) (o : M.Op) (dp : Option Addr) (dn dc : Nat) (w : World) : Prop where
  hl : o.path.length ≤ 1000000
  hl2 : o.to.length ≤ 1000000
  hm : GMax w
  h0 : L.ow 0 = none
  hdl : o.data.length ≤ 1000000
  hdat : ListAt U8 w (.slice dp dn dc) o.data
  hun : ∀ b, (Value.slice dp dn dc).ownBlock = some b → L.ow b = none

theorem GMax.tch {w w' : World} {T : Nat → Prop} (h : GMax w) (ht : Tch T w w') (h0 : ¬ T 0) : GMax w' := by
  obtain ⟨m, hm⟩ := h
  refine ⟨m, ?_⟩
  have hlt : 0 < w.heap.size := by
    cases hh : w.heap[0]? with
    | none => rw [World.cell?, hh] at hm; cases hm
    | some x => exact (Array.getElem?_eq_some_iff.1 hh).1
  rw [World.cell?_of_block (a := ⟨0, 0, none⟩) (ht.block _ hlt h0)]
  exact hm
theorem Arg.tch {L : Lay} {o : M.Op} {dp : Option Addr} {dn dc : Nat} {w w' : World} (h : Arg L o dp dn dc w) (ht : Tch (Owned L) w w') : Arg L o dp dn dc w' :=
  ⟨h.hl, h.hl2, h.hm.tch ht (fun e => e h.h0), h.h0, h.hdl, h.hdat.tch ht (fun b hb e => e (h.hun b hb)), h.hun⟩

theorem small_high {s : M.St} {K : List Int} (h : ∀ n, s.has n = true → Small (s.nd n)) (n : Int) (hn : (highBut s (fun _ => 0) K).has n = true) : Small ((highBut s (fun _ => 0) K).nd n) := by
  rw [highBut_has] at hn
  have h1 := h n hn
  have h2 : (highBut s (fun _ => 0) K).nd n = if n ∈ K then s.nd n else { s.nd n with high := 0 } := by
    unfold M.St.nd
    rw [highBut_get]
    unfold M.St.has at hn
    cases hh : M.get s.nodes n with
    | none => rw [hh] at hn; cases hn
    | some x => rfl
  rw [h2]
  split
  · exact h1
  · exact ⟨h1.most, h1.links, by simp, h1.data, h1.written, h1.names⟩

/-- The tail of Do: what is told, and what is left. -/
theorem OpPost.done {w w1 w2 w4 : World} {tb : Nat} {L L1 : Lay} {s s4 : M.St} {a : M.Ans} {dv nv : Value} {ob : Obj} (H : TreeAt w tb L s) (hsz : w.heap.size + 1 < w1.heap.size) (hx : Ext w1 w2 L L1) (htc : Tch (Owned L) w w2) (hs12 : w1.heap.size ≤ w2.heap.size)
    (hdr : w2.ownsRow w1.heap.size 5 1 dv a.data.length (a.data.map U8)) (hnr : w2.ownsRow w1.heap.size 9 1 nv a.names.length (a.names.map S)) (han : ∀ k, dv.ownBlock = some k ∨ nv.ownBlock = some k → L1.ow k = none)
    (ht4 : TreeAt w4 tb L1 s4) (hu4 : Tch (Owned L1) (w2.alloc ob) w4) : OpPost tb L (a, s4) w (.returned (a.val dv nv)) (put6 w4 (w.heap.size + 1) (I a.code) (I a.n) (I a.kind) (I a.links) dv nv) := by
  have hN : L1.ow (w.heap.size + 1) = none := (hx.old _ hsz).trans (H.none (Nat.le_succ _))
  have hk4 : ∀ k, k < w2.heap.size → L1.ow k = none → w4.heap[k]? = w2.heap[k]? := fun k h1 h2 => (hu4.block k (by simp; omega) (fun e => e h2)).trans (heap_alloc_old _ _ h1)
  have hrow : ∀ {e : TypeId} {v : Value} {n : Nat} {xs : List Value}, w2.ownsRow w1.heap.size e 1 v n xs → (∀ k, v.ownBlock = some k → L1.ow k = none) → (put6 w4 (w.heap.size + 1) (I a.code) (I a.n) (I a.kind) (I a.links) dv nv).ownsRow w.heap.size e 1 v n xs := by
    intro e v n xs hr hun
    refine row_lower (row_same hr fun k hk => ?_) (by omega)
    have := World.ownsRow.lt hr k hk
    rw [put6_other (by omega)]
    exact hk4 k this.2 (hun k hk)
  refine ⟨_, L1, rfl, ⟨_, _, rfl, hrow hdr fun k hk => han k (Or.inl hk), hrow hnr fun k hk => han k (Or.inr hk), han⟩, ht4.put6 _ hN _ _ _ _ _ _, ⟨hx.mb, hx.fb, fun k hk => hx.old k (by omega)⟩, Tch.put6 ?_ _ (Nat.le_succ _) _ _ _ _ _ _⟩
  refine Tch.andNew (htc.alloc ob) hu4 fun i hi hT => ?_
  unfold Owned at hT ⊢
  rw [hx.old i (by omega)] at hT
  exact hT

theorem tch_two {w : World} {L : Lay} {tb : Nat} (h : L.ow tb = some .tree) (i j : Nat) (u v : Value) (ob : Obj) : Tch (Owned L) (w.alloc ob) (((w.setCell ⟨tb, i, none⟩ u).setCell ⟨tb, j, none⟩ v).alloc ob) := by
  refine ⟨rfl, rfl, rfl, by simp [World.setCell], fun k hk hS => ?_⟩
  have hne : tb ≠ k := fun e => hS (by unfold Owned; rw [← e, h]; simp)
  by_cases hlt : k < w.heap.size
  · rw [heap_alloc_old _ _ (by simpa [World.setCell] using hlt), heap_alloc_old _ _ hlt, Below.heap_setCell _ _ _ _ (fun e => hne e.symm), Below.heap_setCell _ _ _ _ (fun e => hne e.symm)]
  · have : k = w.heap.size := by simp at hk; omega
    subst this
    have h1 := heap_alloc_new w ob
    have h2 := heap_alloc_new ((w.setCell ⟨tb, i, none⟩ u).setCell ⟨tb, j, none⟩ v) ob
    rw [show ((w.setCell ⟨tb, i, none⟩ u).setCell ⟨tb, j, none⟩ v).heap.size = w.heap.size by simp [World.setCell]] at h2
    rw [h1, h2]

set_option maxHeartbeats 4000000 in
theorem Do_any (tb : Nat) (L : Lay) (k : Int) (s : M.St) (o : M.Op) (dp : Option Addr) (dn dc : Nat) (w : World) (hL : o.kind = 14 ∨ o.kind = 18 → ListC) (hR : o.kind = 15 → RenC) (h : TreeAt w tb L s) (hf : Fit k s o) (ha : Arg L o dp dn dc w) :
    Calls Tryz.prog 17 #[Pt tb, o.val (.slice dp dn dc)] w (OpPost tb L (s.doS o) w) := by
  have H := Lib.hid h; clear h
  have HL := Lib.hid hL; clear hL
  have HR0 := Lib.hid hR; clear hR
  have HF := Lib.hid hf; clear hf
  have HA := Lib.hid ha; clear ha
  unfold M.Op.val
  have HBS := Lib.hid (Base.start w o (.slice dp dn dc))
  obtain ⟨t0, -, t2, -, -, tf, htb⟩ := (H.out.below HBS.out.below).cells5
  go_enter Tryz.func17, Tryz.ntmps17
  go_wp2_with fail
  change Calls _ _ _ (base2 w o (.slice dp dn dc)) _
  generalize base2 w o (.slice dp dn dc) = W0 at *
  obtain ⟨o0, o1, o2, o3, o4, o5, o6, o7, of, olt⟩ := HBS.out.op.cells
  clear t0 t2 tf htb o0 o1 o2 o3 o4 o5 o6 o7 of olt
  (with_reducible refine (mark_any tb L s W0 (H.out.below HBS.out.below) HF.out.sm).mono ?_)
  rintro e w1 ⟨rfl, ht1, hc1⟩
  have hnn : ∀ k, w.heap.size ≤ k → ¬ Owned L k := fun k hk' h => h (H.out.none hk')
  have HT1 := Lib.hid ht1; clear ht1
  have HTC1 := Lib.hid ((Tch.ofBelow (S := Owned L) HBS.out.below).trans hc1)
  have HO1 := Lib.hid (HBS.out.op.tch hc1 (hnn _ (Nat.le_refl _)))
  have HN1 := Lib.hid (HBS.out.ans.tch hc1 (hnn _ (Nat.le_succ _)))
  clear hc1 hnn
  obtain ⟨o0, o1, o2, o3, o4, o5, o6, o7, of, olt⟩ := HO1.out.cells
  have hA1 := HA.out.tch HTC1.out
  have hdo := do_any tb L k s.mark o dp dn dc w1 HL.out HR0.out ⟨HT1.out, HF.out.wf, HF.out.lk, HF.out.k, hA1.hl, hA1.hl2, hA1.hm, hA1.hdl, hA1.hdat, hA1.hun⟩
  clear hA1
  unfold M.Op.val at hdo
  have HDO := Lib.hid hdo; clear hdo
  go_wp2_with fail
  refine HDO.out.mono ?_
  rintro e w2 ⟨v, L1, rfl, ⟨dv, nv, rfl, hdr, hnr, hans⟩, ht2, hx2, hc2⟩
  obtain ⟨p8, c8, hfo8, -⟩ := row_form hdr
  obtain ⟨p9, c9, hfo9, -⟩ := row_form hnr
  subst hfo8
  subst hfo9
  have hsz1 := HTC1.out.size
  have HDE := Lib.hid (fun h => doS_sync (s := s) (o := o) h)
  have HDN := Lib.hid (fun h => doS_else (s := s) (o := o) h)
  have HSM := Lib.hid HF.out.sm2
  have HSR := Lib.hid HF.out.srt2
  clear HDO HF HL HR0
  generalize s.mark.step o = R at *
  have hn2 : ∀ k, w.heap.size ≤ k → k < w1.heap.size → L1.ow k = none := fun k h1 h2 => (hx2.old k h2).trans (H.out.none h1)
  have HT2 := Lib.hid ht2; clear ht2
  have HX2 := Lib.hid hx2; clear hx2
  have HO2 := Lib.hid (HO1.out.tch hc2 (fun e => e (H.out.none (Nat.le_refl _))))
  have HN2 := Lib.hid (HN1.out.tch hc2 (fun e => e (H.out.none (Nat.le_succ _))))
  have HN3 := Lib.hid (hn2 _ (Nat.le_succ _) HN1.out.cells.lt); clear hn2
  have HDR := Lib.hid hdr; clear hdr
  have HNR := Lib.hid hnr; clear hnr
  have HAN := Lib.hid hans; clear hans
  have HTC2 := Lib.hid (HTC1.out.trans hc2)
  have HSZ := Lib.hid hc2.size
  clear hc2 o0 o1 o2 o3 o4 o5 o6 o7 of olt
  obtain ⟨o0, o1, o2, o3, o4, o5, o6, o7, of, olt⟩ := HO2.out.cells
  unfold M.Ans.val
  by_cases hk : o.kind = 21
  · have b21 : (o.kind == 21) = true := by rw [hk]; rfl
    have HS := Lib.hid (HDE.out hk)
    clear hk HDE HDN
    obtain ⟨t0, -, -, t3, t4, tf, htb⟩ := HT2.out.cells5
    have HT5 := Lib.hid (((HT2.out.setPast 0).setWent 0).below ((Below.refl _ _).alloc (Nat.le_refl _) (.cells #[I R.1.code, I R.1.n, I R.1.kind, I R.1.links, .slice p8 R.1.data.length c8, .slice p9 R.1.names.length c9] 29)))
    have HU5 := Lib.hid (tch_two (w := w2) HT2.out.own 3 4 (I 0) (I 0) (.cells #[I R.1.code, I R.1.n, I R.1.kind, I R.1.links, .slice p8 R.1.data.length c8, .slice p9 R.1.names.length c9] 29))
    obtain ⟨s2, hs2⟩ : ∃ s2 : M.St, s2 = { R.2 with past := 0, went := 0 } := ⟨_, rfl⟩
    rw [show ({ ({ R.2 with past := 0 } : M.St) with went := 0 } : M.St) = s2 from hs2.symm] at HT5
    have HSY := Lib.hid (show highBut s2 (fun _ => 0) [] = R.2.synced from by rw [hs2]; exact synced_eq _)
    have HSR2 := Lib.hid (show Srt M.ltI s2.nodes from by rw [hs2]; exact HSR.out)
    have HSM2 := Lib.hid (show ∀ n, s2.has n = true → Small (s2.nd n) from by rw [hs2]; exact HSM.out)
    have HM5 := Lib.hid HT5.out.nodes
    clear hs2 HSR HSM
    unfold I at HT5 HU5 HM5
    go_wp2_with (first | (at_range; refine wpList_range_mine rfl _ 73 rfl 3 68 Tryz.underlying73 L1.mb _ rfl HM5.out ?_; intro w0 hit0 hb0) | fail)
    have HU0 := Lib.hid (HU5.out.trans (Tch.ofBelow hb0))
    have HT0 := Lib.hid (HT5.out.below hb0)
    have HIT := Lib.hid hit0; clear hit0 hb0
    have hWs : (((w2.setCell ⟨tb, 3, none⟩ (Value.int IntKind.i64 0)).setCell ⟨tb, 4, none⟩ (Value.int IntKind.i64 0)).alloc (.cells #[Value.int IntKind.i64 R.1.code, Value.int IntKind.i64 R.1.n, Value.int IntKind.i64 R.1.kind, Value.int IntKind.i64 R.1.links, .slice p8 R.1.data.length c8, .slice p9 R.1.names.length c9] 29)).heap.size = w2.heap.size + 1 := by simp [World.setCell]
    rw [hWs] at HIT ⊢
    clear hWs
    clear t0 t3 t4 tf htb o0 o1 o2 o3 o4 o5 o6 o7 of olt HT5 HU5
    go_frame
    go_loopw [7] (fun _ wr => ∃ left, IterAt I Pt wr (w2.heap.size + 1) L1.mb (s2.nodes.map fun p => (p.1, L1.pn p.1)) left ∧ TreeAt wr tb L1 (highBut s2 (fun _ => 0) (left.map (·.1))) ∧ Tch (Owned L1) (w2.alloc (.cells #[I R.1.code, I R.1.n, I R.1.kind, I R.1.links, .slice p8 R.1.data.length c8, .slice p9 R.1.names.length c9] 29)) wr ∧ (∀ p ∈ left, p ∈ s2.nodes.map fun p => (p.1, L1.pn p.1)) ∧ (left.map (·.1)).Nodup) (fun _ wr => wr.rangeLeft L1.mb (w2.heap.size + 1))
    case atStart =>
      refine ⟨_, HIT.out, ?_, HU0.out, fun _ h => h, ?_⟩
      · rw [highBut_all (fun p hp => by simp only [List.map_map, List.mem_map]; exact ⟨p, hp, rfl⟩)]
        exact HT0.out
      · rw [List.map_map]
        exact srt_keys HSR2.out
    case round =>
      obtain ⟨left, hit, htr, htc, hsub, hnd⟩ := hrel
      have HI := Lib.hid hit; clear hit
      have HT := Lib.hid htr; clear htr
      have HTC := Lib.hid htc; clear htc
      have HSUB := Lib.hid hsub; clear hsub
      have HND := Lib.hid hnd; clear hnd
      obtain ⟨wo, rfl⟩ : ∃ wo : World, wo = wr := ⟨_, rfl⟩
      go_wp2_with (first | (at_next; refine wpList_next_mine rfl _ rfl (w2.heap.size + 1) L1.mb _ _ rfl HI.out ?_ ?_) | fail)
      · intro hl0
        subst hl0
        have HT3 := Lib.hid (show TreeAt wo tb L1 R.2.synced from by rw [← HSY.out]; exact HT.out)
        have HU3 := HTC
        have HSM3 := Lib.hid (show ∀ n, R.2.synced.has n = true → Small (R.2.synced.nd n) from by rw [← HSY.out]; exact small_high HSM2.out)
        clear HT HTC
        go_wp2_with fail
        obtain ⟨s3, hs3⟩ : ∃ s3, s3 = R.2.synced := ⟨_, rfl⟩
        rw [← hs3] at HT3 HSM3 HS
        (with_reducible refine (mark_any tb L1 s3 _ HT3.out HSM3.out).mono ?_)
        rintro e w4 ⟨rfl, ht4, hc4⟩
        have HT4 := Lib.hid ht4; clear ht4
        have HU4 := Lib.hid (HU3.out.trans hc4)
        clear hc4
        have HN4 := Lib.hid ((HN2.out.below ((Below.refl _ _).alloc (Nat.le_refl _) (.cells #[I R.1.code, I R.1.n, I R.1.kind, I R.1.links, .slice p8 R.1.data.length c8, .slice p9 R.1.names.length c9] 29))).tch HU4.out (fun e => e HN3.out))
        have HA4 := Lib.hid ((show AnsAt (w2.alloc (.cells #[I R.1.code, I R.1.n, I R.1.kind, I R.1.links, .slice p8 R.1.data.length c8, .slice p9 R.1.names.length c9] 29)) w2.heap.size R.1 (.slice p8 R.1.data.length c8) (.slice p9 R.1.names.length c9) from heap_alloc_new _ _).tch HU4.out (fun e => e (HT2.out.none (Nat.le_refl _))))
        obtain ⟨z0, z1, z2, z3, z4, z5, zf, zlt⟩ := HN4.out.cells
        unfold NilS at z4 z5
        obtain ⟨y0, y1, y2, y3, y4, y5, yf, ylt⟩ := HA4.out.cells
        go_wp2_with fail
        obtain ⟨r0, r1, r2, r3, r4, r5, -, -⟩ := (HN4.out.store R.1 (.slice p8 R.1.data.length c8) (.slice p9 R.1.names.length c9)).cells
        unfold put6 at r0 r1 r2 r3 r4 r5
        refine bodyPost_ret (v := R.1.val (.slice p8 R.1.data.length c8) (.slice p9 R.1.names.length c9)) (by simp [results, Tryz.results17, go_sem, M.Ans.val, r0, r1, r2, r3, r4, r5]) rfl ?_
        have hfin := OpPost.done H.out HN1.out.cells.lt HX2.out HTC2.out HSZ.out HDR.out HNR.out HAN.out HT4.out HU4.out
        unfold put6 at hfin
        rw [HS.out]
        exact hfin
      · intro n b left' wn hperm hit1 hgrow hsz hen
        have HP := Lib.hid hperm; clear hperm
        have hmem := HSUB.out (n, b) (HP.out.mem_iff.2 List.mem_cons_self)
        obtain ⟨p, hp, hpe⟩ := List.mem_map.1 hmem
        obtain rfl : p.1 = n := congrArg Prod.fst hpe
        obtain rfl : L1.pn p.1 = b := congrArg Prod.snd hpe
        have hhas : s2.has p.1 = true := by
          unfold M.St.has
          rw [get_mem (srt_keys HSR2.out) (k := p.1) (v := p.2) hp]
          rfl
        have hr0 : L1.ow (w2.heap.size + 1) = none := HT2.out.none (Nat.le_succ _)
        have HT1' := Lib.hid (HT.out.keep ((Tch.refl (fun k => L1.ow k = none) wo).grown hgrow (fun k e => by cases e; exact hr0)))
        have HTC1' := Lib.hid (HTC.out.grownNew hgrow (fun k e => by cases e; simp))
        have HI1 := Lib.hid hit1; clear hit1 hgrow hsz
        have hin : p.1 ∈ left.map (·.1) := List.mem_map.2 ⟨_, HP.out.mem_iff.2 List.mem_cons_self, rfl⟩
        have hh1 : (highBut s2 (fun _ => 0) (left.map (·.1))).has p.1 = true := by rw [highBut_has]; exact hhas
        have hnd1 : (highBut s2 (fun _ => 0) (left.map (·.1))).nd p.1 = s2.nd p.1 := highBut_nd hin
        obtain ⟨dv, wv, mv, hnode2⟩ := HT1'.out.nodeOf hh1
        have how := hnode2.own
        obtain ⟨-, -, -, -, -, -, -, n7, nf, hnb⟩ := hnode2.cells8
        clear hnode2 hmem hpe
        have HPND := Lib.hid (HP.out.map (·.1))
        have HNP := Lib.hid (List.nodup_cons.1 (HPND.out.nodup_iff.1 HND.out))
        have HSUB' := Lib.hid (show ∀ q ∈ left', q ∈ s2.nodes.map fun p => (p.1, L1.pn p.1) from fun q hq => HSUB.out q (HP.out.mem_iff.2 (List.mem_cons_of_mem _ hq)))
        have HLL := Lib.hid (show left'.length < left.length by rw [HP.out.length_eq]; simp)
        have HT3 := Lib.hid (HT1'.out.setHigh hh1 0)
        rw [hnd1, highBut_step HSR2.out hhas (h := fun _ => 0) (K' := left'.map (·.1)) (fun m => by rw [HPND.out.mem_iff]; simp) HNP.out.1] at HT3
        have HI3 := Lib.hid (HI1.out.node (k := L1.pn p.1) (j := 7) (v := I 0) (fun e => by rw [e, hr0] at how; cases how) (fun e => by rw [e, HT2.out.ownm] at how; cases how))
        have HTC3 := Lib.hid (HTC1'.out.setCell (p := ⟨L1.pn p.1, 7, none⟩) (by unfold Owned; rw [how]; simp) (I 0))
        clear how hr0 hh1 hnd1
        go_wp2_with fail
        go_roundw
        case rel => exact ⟨left', HI3.out, HT3.out, HTC3.out, HSUB'.out, HNP.out.2⟩
        case measure => rw [HI3.out.left_eq, HI.out.left_eq]; exact HLL.out
  · have b21 : (o.kind == 21) = false := by simpa using hk
    have HS := Lib.hid (HDN.out hk)
    clear hk HDE HDN
    go_wp2_with fail
    have HT3 := Lib.hid (HT2.out.below ((Below.refl _ _).alloc (Nat.le_refl _) (.cells #[I R.1.code, I R.1.n, I R.1.kind, I R.1.links, .slice p8 R.1.data.length c8, .slice p9 R.1.names.length c9] 29)))
    have HU3 := Lib.hid (Tch.refl (Owned L1) (w2.alloc (.cells #[I R.1.code, I R.1.n, I R.1.kind, I R.1.links, .slice p8 R.1.data.length c8, .slice p9 R.1.names.length c9] 29)))
    obtain ⟨s3, hs3⟩ : ∃ s3, s3 = R.2 := ⟨_, rfl⟩
    have HSM3 := Lib.hid (show ∀ n, s3.has n = true → Small (s3.nd n) from by rw [hs3]; exact HSM.out)
    rw [← hs3] at HT3 HS
    clear o0 o1 o2 o3 o4 o5 o6 o7 of olt
    (with_reducible refine (mark_any tb L1 s3 _ HT3.out HSM3.out).mono ?_)
    rintro e w4 ⟨rfl, ht4, hc4⟩
    have HT4 := Lib.hid ht4; clear ht4
    have HU4 := Lib.hid (HU3.out.trans hc4)
    clear hc4
    have HN4 := Lib.hid ((HN2.out.below ((Below.refl _ _).alloc (Nat.le_refl _) (.cells #[I R.1.code, I R.1.n, I R.1.kind, I R.1.links, .slice p8 R.1.data.length c8, .slice p9 R.1.names.length c9] 29))).tch HU4.out (fun e => e HN3.out))
    have HA4 := Lib.hid ((show AnsAt (w2.alloc (.cells #[I R.1.code, I R.1.n, I R.1.kind, I R.1.links, .slice p8 R.1.data.length c8, .slice p9 R.1.names.length c9] 29)) w2.heap.size R.1 (.slice p8 R.1.data.length c8) (.slice p9 R.1.names.length c9) from heap_alloc_new _ _).tch HU4.out (fun e => e (HT2.out.none (Nat.le_refl _))))
    obtain ⟨z0, z1, z2, z3, z4, z5, zf, zlt⟩ := HN4.out.cells
    unfold NilS at z4 z5
    obtain ⟨y0, y1, y2, y3, y4, y5, yf, ylt⟩ := HA4.out.cells
    go_wp2_with fail
    obtain ⟨r0, r1, r2, r3, r4, r5, -, -⟩ := (HN4.out.store R.1 (.slice p8 R.1.data.length c8) (.slice p9 R.1.names.length c9)).cells
    unfold put6 at r0 r1 r2 r3 r4 r5
    refine bodyPost_ret (v := R.1.val (.slice p8 R.1.data.length c8) (.slice p9 R.1.names.length c9)) (by simp [results, Tryz.results17, go_sem, M.Ans.val, r0, r1, r2, r3, r4, r5]) rfl ?_
    have hfin := OpPost.done H.out HN1.out.cells.lt HX2.out HTC2.out HSZ.out HDR.out HNR.out HAN.out HT4.out HU4.out
    unfold put6 at hfin
    rw [HS.out]
    exact hfin
end Go.Proofs.YtpfaccpmgldkeaaGreatDoor
