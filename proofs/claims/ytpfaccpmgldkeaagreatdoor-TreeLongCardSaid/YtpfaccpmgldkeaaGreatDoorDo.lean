/- Contract of do: each operation by its function. -/
import Derived.Test.YtpfaccpmgldkeaaGreatDoorOpen
import Derived.Test.YtpfaccpmgldkeaaGreatDoorClose
import Derived.Test.YtpfaccpmgldkeaaGreatDoorRead
import Derived.Test.YtpfaccpmgldkeaaGreatDoorWrite
import Derived.Test.YtpfaccpmgldkeaaGreatDoorStat
import Derived.Test.YtpfaccpmgldkeaaGreatDoorRemove
import Derived.Test.YtpfaccpmgldkeaaGreatDoorLink
set_option linter.unusedVariables false
set_option linter.unusedSimpArgs false
namespace Go.Proofs.YtpfaccpmgldkeaaGreatDoor
open Go.RowKit Go.MapKept Go.ChangeMaps
set_option maxRecDepth 100000

/-- What an operation needs. -/
structure OpHyp (tb : Nat) (L : Lay) (k : Int) (s : M.St) (o : M.Op) (dp : Option Addr) (dn dc : Nat) (w : World) : Prop where
  h : TreeAt w tb L s
  wf : Wf k s
  lk : ∀ n, s.has n = true → ∀ m c, M.get (s.nd n).names m = some c → 1 ≤ (s.nd c).links
  k : k ≤ 9999
  hl : o.path.length ≤ 1000000
  hl2 : o.to.length ≤ 1000000
  hm : GMax w
  hdl : o.data.length ≤ 1000000
  hdat : ListAt U8 w (.slice dp dn dc) o.data
  hun : ∀ b, (Value.slice dp dn dc).ownBlock = some b → L.ow b = none
theorem OpHyp.below {tb : Nat} {L : Lay} {k : Int} {s : M.St} {o : M.Op} {dp : Option Addr} {dn dc : Nat} {w w' : World} (h : OpHyp tb L k s o dp dn dc w) (hb : Below w.heap.size w w') : OpHyp tb L k s o dp dn dc w' :=
  ⟨h.h.below hb, h.wf, h.lk, h.k, h.hl, h.hl2, h.hm.below hb, h.hdl, h.hdat.below hb, h.hun⟩

def ListC : Prop := ∀ (tb : Nat) (L : Lay) (k : Int) (s : M.St) (o : M.Op) (dp : Option Addr) (dn dc : Nat) (w : World), OpHyp tb L k s o dp dn dc w → o.kind = 14 ∨ o.kind = 18 → Calls Tryz.prog 81 #[Pt tb, o.val (.slice dp dn dc)] w (OpPost tb L (s.listS o) w)
def RenC : Prop := ∀ (tb : Nat) (L : Lay) (k : Int) (s : M.St) (o : M.Op) (dp : Option Addr) (dn dc : Nat) (w : World), OpHyp tb L k s o dp dn dc w → Calls Tryz.prog 82 #[Pt tb, o.val (.slice dp dn dc)] w (OpPost tb L (s.renameS o) w)

theorem row_move {w w' : World} {B B' n sz : Nat} {e : TypeId} {v : Value} {xs : List Value} (h : w.ownsRow B e sz v n xs) (hb : B' ≤ B) (hk : ∀ k, B ≤ k → w'.heap[k]? = w.heap[k]?) : w'.ownsRow B' e sz v n xs :=
  row_lower (row_same h fun k hv => hk k (World.ownsRow.lt h k hv).1) hb

/-- The answer of an operation is stored, and told. -/
theorem OpPost.told {w W w9 : World} {tb : Nat} {L : Lay} {s : M.St} {o : M.Op} {dv : Value} (hB : Base w W o dv) (H : TreeAt w tb L s) {R : M.Ans × M.St} {dv nv : Value} (h : OpPost tb L R W (.returned (R.1.val dv nv)) w9) :
    AnsAt w9 (w.heap.size + 1) {} NilS NilS ∧ OpPost tb L R w (.returned (R.1.val dv nv)) (put6 w9 (w.heap.size + 1) (I R.1.code) (I R.1.n) (I R.1.kind) (I R.1.links) dv nv) := by
  obtain ⟨v, L1, hv, ⟨dv', nv', rfl, hdv, hnv, hun⟩, ht9, hx9, hc9⟩ := h
  have hv' : dv = dv' ∧ nv = nv' := by
    have := congrArg (fun e => match e with | Ending.returned v => v | _ => Value.int .i64 0) hv
    unfold M.Ans.val at this
    simp at this
    exact this
  obtain ⟨rfl, rfl⟩ := hv'
  have hlt : w.heap.size + 1 < W.heap.size := hB.ans.cells.lt
  have hnn : ∀ k, w.heap.size ≤ k → ¬ Owned L k := fun k hk' h => h (H.none hk')
  have hN : L1.ow (w.heap.size + 1) = Option.none := (hx9.old _ hlt).trans (H.none (Nat.le_succ _))
  have hXL : Ext w w9 L L1 := ⟨hx9.mb, hx9.fb, fun k hk' => hx9.old k (Nat.lt_of_lt_of_le hk' hB.below.size)⟩
  refine ⟨hB.ans.tch hc9 (hnn _ (Nat.le_succ _)), _, L1, rfl, ⟨_, _, rfl, ?_, ?_, hun⟩, ht9.put6 _ hN _ _ _ _ _ _, ⟨hXL.mb, hXL.fb, hXL.old⟩, Tch.put6 ((Tch.ofBelow (S := Owned L) hB.below).trans hc9) _ (Nat.le_succ _) _ _ _ _ _ _⟩
  · exact row_move hdv hB.below.size fun k hk => put6_other (by omega) _ _ _ _ _ _
  · exact row_move hnv hB.below.size fun k hk => put6_other (by omega) _ _ _ _ _ _

theorem mkdir_bad {s : M.St} {o : M.Op} (h : (s.fresh o.path).2 ≠ 0) : s.mkdirS o = (M.code (s.fresh o.path).2, s) := by unfold M.St.mkdirS; simp only; rw [if_pos h]
theorem mkdir_ok {s : M.St} {o : M.Op} (h : (s.fresh o.path).2 = 0) : s.mkdirS o = (M.code 0, s.make (s.fresh o.path).1 2 []) := by unfold M.St.mkdirS; simp only; rw [if_neg (by simp [h])]; rfl

theorem step_none {s : M.St} {o : M.Op} (h1 : ¬ o.kind = 1) (h2 : ¬ o.kind = 2) (h3 : ¬ o.kind = 3) (h4 : ¬ o.kind = 4) (h5 : ¬ o.kind = 5) (h6 : ¬ o.kind = 6) (h7 : ¬ o.kind = 7) (h8 : ¬ o.kind = 8) (h9 : ¬ o.kind = 9) (h10 : ¬ o.kind = 10) (h11 : ¬ o.kind = 11) (h12 : ¬ o.kind = 12) (h13 : ¬ o.kind = 13) (h14 : ¬ o.kind = 14) (h15 : ¬ o.kind = 15) (h16 : ¬ o.kind = 16) (h17 : ¬ o.kind = 17) (h18 : ¬ o.kind = 18) (h19 : ¬ o.kind = 19) (h20 : ¬ o.kind = 20) (h21 : ¬ o.kind = 21) (h22 : ¬ o.kind = 22) (h23 : ¬ o.kind = 23) : s.step o = (M.code 2, s) := by unfold M.St.step; simp [h1, h2, h3, h4, h5, h6, h7, h8, h9, h10, h11, h12, h13, h14, h15, h16, h17, h18, h19, h20, h21, h22, h23]

set_option maxHeartbeats 8000000 in
theorem do_any (tb : Nat) (L : Lay) (k : Int) (s : M.St) (o : M.Op) (dp : Option Addr) (dn dc : Nat) (w : World) (hL : o.kind = 14 ∨ o.kind = 18 → ListC) (hR : o.kind = 15 → RenC) (h : OpHyp tb L k s o dp dn dc w) :
    Calls Tryz.prog 45 #[Pt tb, o.val (.slice dp dn dc)] w (OpPost tb L (s.step o) w) := by
  have H := Lib.hid h.h
  have HY := Lib.hid h; clear h
  have HL := Lib.hid hL; clear hL
  have HR0 := Lib.hid hR; clear hR
  unfold M.Op.val
  by_cases hk : o.kind = 1
  · skip
    have HS := Lib.hid (show s.step o = s.openS o from by unfold M.St.step; rw [hk]; rfl)
    have bk1 : (o.kind == 1) = true := by rw [hk]; rfl
    have bk2 : (o.kind == 2) = false := by rw [hk]; rfl
    have bk3 : (o.kind == 3) = false := by rw [hk]; rfl
    have bk4 : (o.kind == 4) = false := by rw [hk]; rfl
    have bk5 : (o.kind == 5) = false := by rw [hk]; rfl
    have bk6 : (o.kind == 6) = false := by rw [hk]; rfl
    have bk7 : (o.kind == 7) = false := by rw [hk]; rfl
    have bk8 : (o.kind == 8) = false := by rw [hk]; rfl
    have bk9 : (o.kind == 9) = false := by rw [hk]; rfl
    have bk10 : (o.kind == 10) = false := by rw [hk]; rfl
    have bk11 : (o.kind == 11) = false := by rw [hk]; rfl
    have bk12 : (o.kind == 12) = false := by rw [hk]; rfl
    have bk13 : (o.kind == 13) = false := by rw [hk]; rfl
    have bk14 : (o.kind == 14) = false := by rw [hk]; rfl
    have bk15 : (o.kind == 15) = false := by rw [hk]; rfl
    have bk16 : (o.kind == 16) = false := by rw [hk]; rfl
    have bk17 : (o.kind == 17) = false := by rw [hk]; rfl
    have bk18 : (o.kind == 18) = false := by rw [hk]; rfl
    have bk19 : (o.kind == 19) = false := by rw [hk]; rfl
    have bk20 : (o.kind == 20) = false := by rw [hk]; rfl
    have bk21 : (o.kind == 21) = false := by rw [hk]; rfl
    have bk22 : (o.kind == 22) = false := by rw [hk]; rfl
    have bk23 : (o.kind == 23) = false := by rw [hk]; rfl
    clear hk
    have HBS := Lib.hid (Base.start w o (.slice dp dn dc))
    obtain ⟨t0, -, t2, -, -, tf, htb⟩ := (H.out.below HBS.out.below).cells5
    go_enter Tryz.func45, Tryz.ntmps45
    go_wp2_with fail
    change Calls _ _ _ (base2 w o (.slice dp dn dc)) _
    generalize base2 w o (.slice dp dn dc) = W0 at *
    obtain ⟨o0, o1, o2, o3, o4, o5, o6, o7, of, olt⟩ := HBS.out.op.cells
    clear t0 t2 tf htb
    have HYW := Lib.hid (HY.out.below HBS.out.below); clear HY
    have HC := open_tree tb L k s o dp dn dc W0 HYW.out.h HYW.out.wf HYW.out.k HYW.out.hl HYW.out.hm
    unfold M.Op.val at HC
    generalize s.openS o = R at *
    have HCC := Lib.hid HC; clear HC
    refine HCC.out.mono ?_
    rintro e w9 hp
    obtain ⟨v, L1, rfl, ⟨dv, nv, rfl, hdr, hnr, hans⟩, hrest⟩ := hp
    obtain ⟨p8, c8, hfo8, -⟩ := row_form hdr
    obtain ⟨p9, c9, hfo9, -⟩ := row_form hnr
    subst hfo8
    subst hfo9
    obtain ⟨hAA, hPP⟩ := OpPost.told HBS.out H.out (⟨_, L1, rfl, ⟨_, _, rfl, hdr, hnr, hans⟩, hrest⟩ : OpPost tb L R W0 (.returned (R.1.val (.slice p8 R.1.data.length c8) (.slice p9 R.1.names.length c9))) w9)
    have HA := Lib.hid hAA; clear hAA hans hrest hdr hnr
    have HP := Lib.hid hPP; clear hPP
    clear o0 o1 o2 o3 o4 o5 o6 o7 of olt
    obtain ⟨z0, z1, z2, z3, z4, z5, zf, zlt⟩ := HA.out.cells
    unfold NilS at z4 z5
    unfold M.Ans.val
    go_wp2_with fail
    obtain ⟨r0, r1, r2, r3, r4, r5, -, -⟩ := (HA.out.store R.1 (.slice p8 R.1.data.length c8) (.slice p9 R.1.names.length c9)).cells
    unfold put6 at r0 r1 r2 r3 r4 r5
    refine bodyPost_ret (v := R.1.val (.slice p8 R.1.data.length c8) (.slice p9 R.1.names.length c9)) (by simp [results, Tryz.results45, go_sem, M.Ans.val, r0, r1, r2, r3, r4, r5]) rfl ?_
    have hfin := HP.out
    unfold put6 at hfin
    rw [HS.out]
    exact hfin
  have hk1 := hk; clear hk
  by_cases hk : o.kind = 2
  · skip
    have HS := Lib.hid (show s.step o = s.closeS o.fd from by unfold M.St.step; rw [hk]; rfl)
    have bk1 : (o.kind == 1) = false := by rw [hk]; rfl
    have bk2 : (o.kind == 2) = true := by rw [hk]; rfl
    have bk3 : (o.kind == 3) = false := by rw [hk]; rfl
    have bk4 : (o.kind == 4) = false := by rw [hk]; rfl
    have bk5 : (o.kind == 5) = false := by rw [hk]; rfl
    have bk6 : (o.kind == 6) = false := by rw [hk]; rfl
    have bk7 : (o.kind == 7) = false := by rw [hk]; rfl
    have bk8 : (o.kind == 8) = false := by rw [hk]; rfl
    have bk9 : (o.kind == 9) = false := by rw [hk]; rfl
    have bk10 : (o.kind == 10) = false := by rw [hk]; rfl
    have bk11 : (o.kind == 11) = false := by rw [hk]; rfl
    have bk12 : (o.kind == 12) = false := by rw [hk]; rfl
    have bk13 : (o.kind == 13) = false := by rw [hk]; rfl
    have bk14 : (o.kind == 14) = false := by rw [hk]; rfl
    have bk15 : (o.kind == 15) = false := by rw [hk]; rfl
    have bk16 : (o.kind == 16) = false := by rw [hk]; rfl
    have bk17 : (o.kind == 17) = false := by rw [hk]; rfl
    have bk18 : (o.kind == 18) = false := by rw [hk]; rfl
    have bk19 : (o.kind == 19) = false := by rw [hk]; rfl
    have bk20 : (o.kind == 20) = false := by rw [hk]; rfl
    have bk21 : (o.kind == 21) = false := by rw [hk]; rfl
    have bk22 : (o.kind == 22) = false := by rw [hk]; rfl
    have bk23 : (o.kind == 23) = false := by rw [hk]; rfl
    clear hk
    have HBS := Lib.hid (Base.start w o (.slice dp dn dc))
    obtain ⟨t0, -, t2, -, -, tf, htb⟩ := (H.out.below HBS.out.below).cells5
    go_enter Tryz.func45, Tryz.ntmps45
    go_wp2_with fail
    change Calls _ _ _ (base2 w o (.slice dp dn dc)) _
    generalize base2 w o (.slice dp dn dc) = W0 at *
    obtain ⟨o0, o1, o2, o3, o4, o5, o6, o7, of, olt⟩ := HBS.out.op.cells
    clear t0 t2 tf htb
    have HYW := Lib.hid (HY.out.below HBS.out.below); clear HY
    have HC := close_tree tb L k s o.fd W0 HYW.out.h HYW.out.wf (by have := HYW.out.k; omega)
    unfold M.Op.val at HC
    generalize s.closeS o.fd = R at *
    have HCC := Lib.hid HC; clear HC
    refine HCC.out.mono ?_
    rintro e w9 hp
    obtain ⟨v, L1, rfl, ⟨dv, nv, rfl, hdr, hnr, hans⟩, hrest⟩ := hp
    obtain ⟨p8, c8, hfo8, -⟩ := row_form hdr
    obtain ⟨p9, c9, hfo9, -⟩ := row_form hnr
    subst hfo8
    subst hfo9
    obtain ⟨hAA, hPP⟩ := OpPost.told HBS.out H.out (⟨_, L1, rfl, ⟨_, _, rfl, hdr, hnr, hans⟩, hrest⟩ : OpPost tb L R W0 (.returned (R.1.val (.slice p8 R.1.data.length c8) (.slice p9 R.1.names.length c9))) w9)
    have HA := Lib.hid hAA; clear hAA hans hrest hdr hnr
    have HP := Lib.hid hPP; clear hPP
    clear o0 o1 o2 o3 o4 o5 o6 o7 of olt
    obtain ⟨z0, z1, z2, z3, z4, z5, zf, zlt⟩ := HA.out.cells
    unfold NilS at z4 z5
    unfold M.Ans.val
    go_wp2_with fail
    obtain ⟨r0, r1, r2, r3, r4, r5, -, -⟩ := (HA.out.store R.1 (.slice p8 R.1.data.length c8) (.slice p9 R.1.names.length c9)).cells
    unfold put6 at r0 r1 r2 r3 r4 r5
    refine bodyPost_ret (v := R.1.val (.slice p8 R.1.data.length c8) (.slice p9 R.1.names.length c9)) (by simp [results, Tryz.results45, go_sem, M.Ans.val, r0, r1, r2, r3, r4, r5]) rfl ?_
    have hfin := HP.out
    unfold put6 at hfin
    rw [HS.out]
    exact hfin
  have hk2 := hk; clear hk
  by_cases hk : o.kind = 3
  · skip
    have HS := Lib.hid (show s.step o = s.readS o from by unfold M.St.step; rw [hk]; rfl)
    have bk1 : (o.kind == 1) = false := by rw [hk]; rfl
    have bk2 : (o.kind == 2) = false := by rw [hk]; rfl
    have bk3 : (o.kind == 3) = true := by rw [hk]; rfl
    have bk4 : (o.kind == 4) = false := by rw [hk]; rfl
    have bk5 : (o.kind == 5) = false := by rw [hk]; rfl
    have bk6 : (o.kind == 6) = false := by rw [hk]; rfl
    have bk7 : (o.kind == 7) = false := by rw [hk]; rfl
    have bk8 : (o.kind == 8) = false := by rw [hk]; rfl
    have bk9 : (o.kind == 9) = false := by rw [hk]; rfl
    have bk10 : (o.kind == 10) = false := by rw [hk]; rfl
    have bk11 : (o.kind == 11) = false := by rw [hk]; rfl
    have bk12 : (o.kind == 12) = false := by rw [hk]; rfl
    have bk13 : (o.kind == 13) = false := by rw [hk]; rfl
    have bk14 : (o.kind == 14) = false := by rw [hk]; rfl
    have bk15 : (o.kind == 15) = false := by rw [hk]; rfl
    have bk16 : (o.kind == 16) = false := by rw [hk]; rfl
    have bk17 : (o.kind == 17) = false := by rw [hk]; rfl
    have bk18 : (o.kind == 18) = false := by rw [hk]; rfl
    have bk19 : (o.kind == 19) = false := by rw [hk]; rfl
    have bk20 : (o.kind == 20) = false := by rw [hk]; rfl
    have bk21 : (o.kind == 21) = false := by rw [hk]; rfl
    have bk22 : (o.kind == 22) = false := by rw [hk]; rfl
    have bk23 : (o.kind == 23) = false := by rw [hk]; rfl
    clear hk
    have HBS := Lib.hid (Base.start w o (.slice dp dn dc))
    obtain ⟨t0, -, t2, -, -, tf, htb⟩ := (H.out.below HBS.out.below).cells5
    go_enter Tryz.func45, Tryz.ntmps45
    go_wp2_with fail
    change Calls _ _ _ (base2 w o (.slice dp dn dc)) _
    generalize base2 w o (.slice dp dn dc) = W0 at *
    obtain ⟨o0, o1, o2, o3, o4, o5, o6, o7, of, olt⟩ := HBS.out.op.cells
    clear t0 t2 tf htb
    have HYW := Lib.hid (HY.out.below HBS.out.below); clear HY
    have HC := read_any tb L k s o dp dn dc W0 HYW.out.h HYW.out.wf (by have := HYW.out.k; omega) (Or.inl (by simpa using bk3))
    unfold M.Op.val at HC
    generalize s.readS o = R at *
    have HCC := Lib.hid HC; clear HC
    refine HCC.out.mono ?_
    rintro e w9 hp
    obtain ⟨v, L1, rfl, ⟨dv, nv, rfl, hdr, hnr, hans⟩, hrest⟩ := hp
    obtain ⟨p8, c8, hfo8, -⟩ := row_form hdr
    obtain ⟨p9, c9, hfo9, -⟩ := row_form hnr
    subst hfo8
    subst hfo9
    obtain ⟨hAA, hPP⟩ := OpPost.told HBS.out H.out (⟨_, L1, rfl, ⟨_, _, rfl, hdr, hnr, hans⟩, hrest⟩ : OpPost tb L R W0 (.returned (R.1.val (.slice p8 R.1.data.length c8) (.slice p9 R.1.names.length c9))) w9)
    have HA := Lib.hid hAA; clear hAA hans hrest hdr hnr
    have HP := Lib.hid hPP; clear hPP
    clear o0 o1 o2 o3 o4 o5 o6 o7 of olt
    obtain ⟨z0, z1, z2, z3, z4, z5, zf, zlt⟩ := HA.out.cells
    unfold NilS at z4 z5
    unfold M.Ans.val
    go_wp2_with fail
    obtain ⟨r0, r1, r2, r3, r4, r5, -, -⟩ := (HA.out.store R.1 (.slice p8 R.1.data.length c8) (.slice p9 R.1.names.length c9)).cells
    unfold put6 at r0 r1 r2 r3 r4 r5
    refine bodyPost_ret (v := R.1.val (.slice p8 R.1.data.length c8) (.slice p9 R.1.names.length c9)) (by simp [results, Tryz.results45, go_sem, M.Ans.val, r0, r1, r2, r3, r4, r5]) rfl ?_
    have hfin := HP.out
    unfold put6 at hfin
    rw [HS.out]
    exact hfin
  have hk3 := hk; clear hk
  by_cases hk : o.kind = 5
  · skip
    have HS := Lib.hid (show s.step o = s.readS o from by unfold M.St.step; rw [hk]; rfl)
    have bk1 : (o.kind == 1) = false := by rw [hk]; rfl
    have bk2 : (o.kind == 2) = false := by rw [hk]; rfl
    have bk3 : (o.kind == 3) = false := by rw [hk]; rfl
    have bk4 : (o.kind == 4) = false := by rw [hk]; rfl
    have bk5 : (o.kind == 5) = true := by rw [hk]; rfl
    have bk6 : (o.kind == 6) = false := by rw [hk]; rfl
    have bk7 : (o.kind == 7) = false := by rw [hk]; rfl
    have bk8 : (o.kind == 8) = false := by rw [hk]; rfl
    have bk9 : (o.kind == 9) = false := by rw [hk]; rfl
    have bk10 : (o.kind == 10) = false := by rw [hk]; rfl
    have bk11 : (o.kind == 11) = false := by rw [hk]; rfl
    have bk12 : (o.kind == 12) = false := by rw [hk]; rfl
    have bk13 : (o.kind == 13) = false := by rw [hk]; rfl
    have bk14 : (o.kind == 14) = false := by rw [hk]; rfl
    have bk15 : (o.kind == 15) = false := by rw [hk]; rfl
    have bk16 : (o.kind == 16) = false := by rw [hk]; rfl
    have bk17 : (o.kind == 17) = false := by rw [hk]; rfl
    have bk18 : (o.kind == 18) = false := by rw [hk]; rfl
    have bk19 : (o.kind == 19) = false := by rw [hk]; rfl
    have bk20 : (o.kind == 20) = false := by rw [hk]; rfl
    have bk21 : (o.kind == 21) = false := by rw [hk]; rfl
    have bk22 : (o.kind == 22) = false := by rw [hk]; rfl
    have bk23 : (o.kind == 23) = false := by rw [hk]; rfl
    clear hk
    have HBS := Lib.hid (Base.start w o (.slice dp dn dc))
    obtain ⟨t0, -, t2, -, -, tf, htb⟩ := (H.out.below HBS.out.below).cells5
    go_enter Tryz.func45, Tryz.ntmps45
    go_wp2_with fail
    change Calls _ _ _ (base2 w o (.slice dp dn dc)) _
    generalize base2 w o (.slice dp dn dc) = W0 at *
    obtain ⟨o0, o1, o2, o3, o4, o5, o6, o7, of, olt⟩ := HBS.out.op.cells
    clear t0 t2 tf htb
    have HYW := Lib.hid (HY.out.below HBS.out.below); clear HY
    have HC := read_any tb L k s o dp dn dc W0 HYW.out.h HYW.out.wf (by have := HYW.out.k; omega) (Or.inr (by simpa using bk5))
    unfold M.Op.val at HC
    generalize s.readS o = R at *
    have HCC := Lib.hid HC; clear HC
    refine HCC.out.mono ?_
    rintro e w9 hp
    obtain ⟨v, L1, rfl, ⟨dv, nv, rfl, hdr, hnr, hans⟩, hrest⟩ := hp
    obtain ⟨p8, c8, hfo8, -⟩ := row_form hdr
    obtain ⟨p9, c9, hfo9, -⟩ := row_form hnr
    subst hfo8
    subst hfo9
    obtain ⟨hAA, hPP⟩ := OpPost.told HBS.out H.out (⟨_, L1, rfl, ⟨_, _, rfl, hdr, hnr, hans⟩, hrest⟩ : OpPost tb L R W0 (.returned (R.1.val (.slice p8 R.1.data.length c8) (.slice p9 R.1.names.length c9))) w9)
    have HA := Lib.hid hAA; clear hAA hans hrest hdr hnr
    have HP := Lib.hid hPP; clear hPP
    clear o0 o1 o2 o3 o4 o5 o6 o7 of olt
    obtain ⟨z0, z1, z2, z3, z4, z5, zf, zlt⟩ := HA.out.cells
    unfold NilS at z4 z5
    unfold M.Ans.val
    go_wp2_with fail
    obtain ⟨r0, r1, r2, r3, r4, r5, -, -⟩ := (HA.out.store R.1 (.slice p8 R.1.data.length c8) (.slice p9 R.1.names.length c9)).cells
    unfold put6 at r0 r1 r2 r3 r4 r5
    refine bodyPost_ret (v := R.1.val (.slice p8 R.1.data.length c8) (.slice p9 R.1.names.length c9)) (by simp [results, Tryz.results45, go_sem, M.Ans.val, r0, r1, r2, r3, r4, r5]) rfl ?_
    have hfin := HP.out
    unfold put6 at hfin
    rw [HS.out]
    exact hfin
  have hk5 := hk; clear hk
  by_cases hk : o.kind = 4
  · skip
    have HS := Lib.hid (show s.step o = s.writeS o from by unfold M.St.step; rw [hk]; rfl)
    have bk1 : (o.kind == 1) = false := by rw [hk]; rfl
    have bk2 : (o.kind == 2) = false := by rw [hk]; rfl
    have bk3 : (o.kind == 3) = false := by rw [hk]; rfl
    have bk4 : (o.kind == 4) = true := by rw [hk]; rfl
    have bk5 : (o.kind == 5) = false := by rw [hk]; rfl
    have bk6 : (o.kind == 6) = false := by rw [hk]; rfl
    have bk7 : (o.kind == 7) = false := by rw [hk]; rfl
    have bk8 : (o.kind == 8) = false := by rw [hk]; rfl
    have bk9 : (o.kind == 9) = false := by rw [hk]; rfl
    have bk10 : (o.kind == 10) = false := by rw [hk]; rfl
    have bk11 : (o.kind == 11) = false := by rw [hk]; rfl
    have bk12 : (o.kind == 12) = false := by rw [hk]; rfl
    have bk13 : (o.kind == 13) = false := by rw [hk]; rfl
    have bk14 : (o.kind == 14) = false := by rw [hk]; rfl
    have bk15 : (o.kind == 15) = false := by rw [hk]; rfl
    have bk16 : (o.kind == 16) = false := by rw [hk]; rfl
    have bk17 : (o.kind == 17) = false := by rw [hk]; rfl
    have bk18 : (o.kind == 18) = false := by rw [hk]; rfl
    have bk19 : (o.kind == 19) = false := by rw [hk]; rfl
    have bk20 : (o.kind == 20) = false := by rw [hk]; rfl
    have bk21 : (o.kind == 21) = false := by rw [hk]; rfl
    have bk22 : (o.kind == 22) = false := by rw [hk]; rfl
    have bk23 : (o.kind == 23) = false := by rw [hk]; rfl
    clear hk
    have HBS := Lib.hid (Base.start w o (.slice dp dn dc))
    obtain ⟨t0, -, t2, -, -, tf, htb⟩ := (H.out.below HBS.out.below).cells5
    go_enter Tryz.func45, Tryz.ntmps45
    go_wp2_with fail
    change Calls _ _ _ (base2 w o (.slice dp dn dc)) _
    generalize base2 w o (.slice dp dn dc) = W0 at *
    obtain ⟨o0, o1, o2, o3, o4, o5, o6, o7, of, olt⟩ := HBS.out.op.cells
    clear t0 t2 tf htb
    have HYW := Lib.hid (HY.out.below HBS.out.below); clear HY
    have HC := write_any tb L k s o dp dn dc W0 HYW.out.h HYW.out.wf (by have := HYW.out.k; omega) (Or.inl (by simpa using bk4)) HYW.out.hdl HYW.out.hdat HYW.out.hun
    unfold M.Op.val at HC
    generalize s.writeS o = R at *
    have HCC := Lib.hid HC; clear HC
    refine HCC.out.mono ?_
    rintro e w9 hp
    obtain ⟨v, L1, rfl, ⟨dv, nv, rfl, hdr, hnr, hans⟩, hrest⟩ := hp
    obtain ⟨p8, c8, hfo8, -⟩ := row_form hdr
    obtain ⟨p9, c9, hfo9, -⟩ := row_form hnr
    subst hfo8
    subst hfo9
    obtain ⟨hAA, hPP⟩ := OpPost.told HBS.out H.out (⟨_, L1, rfl, ⟨_, _, rfl, hdr, hnr, hans⟩, hrest⟩ : OpPost tb L R W0 (.returned (R.1.val (.slice p8 R.1.data.length c8) (.slice p9 R.1.names.length c9))) w9)
    have HA := Lib.hid hAA; clear hAA hans hrest hdr hnr
    have HP := Lib.hid hPP; clear hPP
    clear o0 o1 o2 o3 o4 o5 o6 o7 of olt
    obtain ⟨z0, z1, z2, z3, z4, z5, zf, zlt⟩ := HA.out.cells
    unfold NilS at z4 z5
    unfold M.Ans.val
    go_wp2_with fail
    obtain ⟨r0, r1, r2, r3, r4, r5, -, -⟩ := (HA.out.store R.1 (.slice p8 R.1.data.length c8) (.slice p9 R.1.names.length c9)).cells
    unfold put6 at r0 r1 r2 r3 r4 r5
    refine bodyPost_ret (v := R.1.val (.slice p8 R.1.data.length c8) (.slice p9 R.1.names.length c9)) (by simp [results, Tryz.results45, go_sem, M.Ans.val, r0, r1, r2, r3, r4, r5]) rfl ?_
    have hfin := HP.out
    unfold put6 at hfin
    rw [HS.out]
    exact hfin
  have hk4 := hk; clear hk
  by_cases hk : o.kind = 6
  · skip
    have HS := Lib.hid (show s.step o = s.writeS o from by unfold M.St.step; rw [hk]; rfl)
    have bk1 : (o.kind == 1) = false := by rw [hk]; rfl
    have bk2 : (o.kind == 2) = false := by rw [hk]; rfl
    have bk3 : (o.kind == 3) = false := by rw [hk]; rfl
    have bk4 : (o.kind == 4) = false := by rw [hk]; rfl
    have bk5 : (o.kind == 5) = false := by rw [hk]; rfl
    have bk6 : (o.kind == 6) = true := by rw [hk]; rfl
    have bk7 : (o.kind == 7) = false := by rw [hk]; rfl
    have bk8 : (o.kind == 8) = false := by rw [hk]; rfl
    have bk9 : (o.kind == 9) = false := by rw [hk]; rfl
    have bk10 : (o.kind == 10) = false := by rw [hk]; rfl
    have bk11 : (o.kind == 11) = false := by rw [hk]; rfl
    have bk12 : (o.kind == 12) = false := by rw [hk]; rfl
    have bk13 : (o.kind == 13) = false := by rw [hk]; rfl
    have bk14 : (o.kind == 14) = false := by rw [hk]; rfl
    have bk15 : (o.kind == 15) = false := by rw [hk]; rfl
    have bk16 : (o.kind == 16) = false := by rw [hk]; rfl
    have bk17 : (o.kind == 17) = false := by rw [hk]; rfl
    have bk18 : (o.kind == 18) = false := by rw [hk]; rfl
    have bk19 : (o.kind == 19) = false := by rw [hk]; rfl
    have bk20 : (o.kind == 20) = false := by rw [hk]; rfl
    have bk21 : (o.kind == 21) = false := by rw [hk]; rfl
    have bk22 : (o.kind == 22) = false := by rw [hk]; rfl
    have bk23 : (o.kind == 23) = false := by rw [hk]; rfl
    clear hk
    have HBS := Lib.hid (Base.start w o (.slice dp dn dc))
    obtain ⟨t0, -, t2, -, -, tf, htb⟩ := (H.out.below HBS.out.below).cells5
    go_enter Tryz.func45, Tryz.ntmps45
    go_wp2_with fail
    change Calls _ _ _ (base2 w o (.slice dp dn dc)) _
    generalize base2 w o (.slice dp dn dc) = W0 at *
    obtain ⟨o0, o1, o2, o3, o4, o5, o6, o7, of, olt⟩ := HBS.out.op.cells
    clear t0 t2 tf htb
    have HYW := Lib.hid (HY.out.below HBS.out.below); clear HY
    have HC := write_any tb L k s o dp dn dc W0 HYW.out.h HYW.out.wf (by have := HYW.out.k; omega) (Or.inr (by simpa using bk6)) HYW.out.hdl HYW.out.hdat HYW.out.hun
    unfold M.Op.val at HC
    generalize s.writeS o = R at *
    have HCC := Lib.hid HC; clear HC
    refine HCC.out.mono ?_
    rintro e w9 hp
    obtain ⟨v, L1, rfl, ⟨dv, nv, rfl, hdr, hnr, hans⟩, hrest⟩ := hp
    obtain ⟨p8, c8, hfo8, -⟩ := row_form hdr
    obtain ⟨p9, c9, hfo9, -⟩ := row_form hnr
    subst hfo8
    subst hfo9
    obtain ⟨hAA, hPP⟩ := OpPost.told HBS.out H.out (⟨_, L1, rfl, ⟨_, _, rfl, hdr, hnr, hans⟩, hrest⟩ : OpPost tb L R W0 (.returned (R.1.val (.slice p8 R.1.data.length c8) (.slice p9 R.1.names.length c9))) w9)
    have HA := Lib.hid hAA; clear hAA hans hrest hdr hnr
    have HP := Lib.hid hPP; clear hPP
    clear o0 o1 o2 o3 o4 o5 o6 o7 of olt
    obtain ⟨z0, z1, z2, z3, z4, z5, zf, zlt⟩ := HA.out.cells
    unfold NilS at z4 z5
    unfold M.Ans.val
    go_wp2_with fail
    obtain ⟨r0, r1, r2, r3, r4, r5, -, -⟩ := (HA.out.store R.1 (.slice p8 R.1.data.length c8) (.slice p9 R.1.names.length c9)).cells
    unfold put6 at r0 r1 r2 r3 r4 r5
    refine bodyPost_ret (v := R.1.val (.slice p8 R.1.data.length c8) (.slice p9 R.1.names.length c9)) (by simp [results, Tryz.results45, go_sem, M.Ans.val, r0, r1, r2, r3, r4, r5]) rfl ?_
    have hfin := HP.out
    unfold put6 at hfin
    rw [HS.out]
    exact hfin
  have hk6 := hk; clear hk
  by_cases hk : o.kind = 7
  · skip
    have HS := Lib.hid (show s.step o = s.seekS o from by unfold M.St.step; rw [hk]; rfl)
    have bk1 : (o.kind == 1) = false := by rw [hk]; rfl
    have bk2 : (o.kind == 2) = false := by rw [hk]; rfl
    have bk3 : (o.kind == 3) = false := by rw [hk]; rfl
    have bk4 : (o.kind == 4) = false := by rw [hk]; rfl
    have bk5 : (o.kind == 5) = false := by rw [hk]; rfl
    have bk6 : (o.kind == 6) = false := by rw [hk]; rfl
    have bk7 : (o.kind == 7) = true := by rw [hk]; rfl
    have bk8 : (o.kind == 8) = false := by rw [hk]; rfl
    have bk9 : (o.kind == 9) = false := by rw [hk]; rfl
    have bk10 : (o.kind == 10) = false := by rw [hk]; rfl
    have bk11 : (o.kind == 11) = false := by rw [hk]; rfl
    have bk12 : (o.kind == 12) = false := by rw [hk]; rfl
    have bk13 : (o.kind == 13) = false := by rw [hk]; rfl
    have bk14 : (o.kind == 14) = false := by rw [hk]; rfl
    have bk15 : (o.kind == 15) = false := by rw [hk]; rfl
    have bk16 : (o.kind == 16) = false := by rw [hk]; rfl
    have bk17 : (o.kind == 17) = false := by rw [hk]; rfl
    have bk18 : (o.kind == 18) = false := by rw [hk]; rfl
    have bk19 : (o.kind == 19) = false := by rw [hk]; rfl
    have bk20 : (o.kind == 20) = false := by rw [hk]; rfl
    have bk21 : (o.kind == 21) = false := by rw [hk]; rfl
    have bk22 : (o.kind == 22) = false := by rw [hk]; rfl
    have bk23 : (o.kind == 23) = false := by rw [hk]; rfl
    clear hk
    have HBS := Lib.hid (Base.start w o (.slice dp dn dc))
    obtain ⟨t0, -, t2, -, -, tf, htb⟩ := (H.out.below HBS.out.below).cells5
    go_enter Tryz.func45, Tryz.ntmps45
    go_wp2_with fail
    change Calls _ _ _ (base2 w o (.slice dp dn dc)) _
    generalize base2 w o (.slice dp dn dc) = W0 at *
    obtain ⟨o0, o1, o2, o3, o4, o5, o6, o7, of, olt⟩ := HBS.out.op.cells
    clear t0 t2 tf htb
    have HYW := Lib.hid (HY.out.below HBS.out.below); clear HY
    have HC := seek_any tb L k s o dp dn dc W0 HYW.out.h HYW.out.wf
    unfold M.Op.val at HC
    generalize s.seekS o = R at *
    have HCC := Lib.hid HC; clear HC
    refine HCC.out.mono ?_
    rintro e w9 hp
    obtain ⟨v, L1, rfl, ⟨dv, nv, rfl, hdr, hnr, hans⟩, hrest⟩ := hp
    obtain ⟨p8, c8, hfo8, -⟩ := row_form hdr
    obtain ⟨p9, c9, hfo9, -⟩ := row_form hnr
    subst hfo8
    subst hfo9
    obtain ⟨hAA, hPP⟩ := OpPost.told HBS.out H.out (⟨_, L1, rfl, ⟨_, _, rfl, hdr, hnr, hans⟩, hrest⟩ : OpPost tb L R W0 (.returned (R.1.val (.slice p8 R.1.data.length c8) (.slice p9 R.1.names.length c9))) w9)
    have HA := Lib.hid hAA; clear hAA hans hrest hdr hnr
    have HP := Lib.hid hPP; clear hPP
    clear o0 o1 o2 o3 o4 o5 o6 o7 of olt
    obtain ⟨z0, z1, z2, z3, z4, z5, zf, zlt⟩ := HA.out.cells
    unfold NilS at z4 z5
    unfold M.Ans.val
    go_wp2_with fail
    obtain ⟨r0, r1, r2, r3, r4, r5, -, -⟩ := (HA.out.store R.1 (.slice p8 R.1.data.length c8) (.slice p9 R.1.names.length c9)).cells
    unfold put6 at r0 r1 r2 r3 r4 r5
    refine bodyPost_ret (v := R.1.val (.slice p8 R.1.data.length c8) (.slice p9 R.1.names.length c9)) (by simp [results, Tryz.results45, go_sem, M.Ans.val, r0, r1, r2, r3, r4, r5]) rfl ?_
    have hfin := HP.out
    unfold put6 at hfin
    rw [HS.out]
    exact hfin
  have hk7 := hk; clear hk
  by_cases hk : o.kind = 8
  · skip
    have HS := Lib.hid (show s.step o = s.truncS o from by unfold M.St.step; rw [hk]; rfl)
    have bk1 : (o.kind == 1) = false := by rw [hk]; rfl
    have bk2 : (o.kind == 2) = false := by rw [hk]; rfl
    have bk3 : (o.kind == 3) = false := by rw [hk]; rfl
    have bk4 : (o.kind == 4) = false := by rw [hk]; rfl
    have bk5 : (o.kind == 5) = false := by rw [hk]; rfl
    have bk6 : (o.kind == 6) = false := by rw [hk]; rfl
    have bk7 : (o.kind == 7) = false := by rw [hk]; rfl
    have bk8 : (o.kind == 8) = true := by rw [hk]; rfl
    have bk9 : (o.kind == 9) = false := by rw [hk]; rfl
    have bk10 : (o.kind == 10) = false := by rw [hk]; rfl
    have bk11 : (o.kind == 11) = false := by rw [hk]; rfl
    have bk12 : (o.kind == 12) = false := by rw [hk]; rfl
    have bk13 : (o.kind == 13) = false := by rw [hk]; rfl
    have bk14 : (o.kind == 14) = false := by rw [hk]; rfl
    have bk15 : (o.kind == 15) = false := by rw [hk]; rfl
    have bk16 : (o.kind == 16) = false := by rw [hk]; rfl
    have bk17 : (o.kind == 17) = false := by rw [hk]; rfl
    have bk18 : (o.kind == 18) = false := by rw [hk]; rfl
    have bk19 : (o.kind == 19) = false := by rw [hk]; rfl
    have bk20 : (o.kind == 20) = false := by rw [hk]; rfl
    have bk21 : (o.kind == 21) = false := by rw [hk]; rfl
    have bk22 : (o.kind == 22) = false := by rw [hk]; rfl
    have bk23 : (o.kind == 23) = false := by rw [hk]; rfl
    clear hk
    have HBS := Lib.hid (Base.start w o (.slice dp dn dc))
    obtain ⟨t0, -, t2, -, -, tf, htb⟩ := (H.out.below HBS.out.below).cells5
    go_enter Tryz.func45, Tryz.ntmps45
    go_wp2_with fail
    change Calls _ _ _ (base2 w o (.slice dp dn dc)) _
    generalize base2 w o (.slice dp dn dc) = W0 at *
    obtain ⟨o0, o1, o2, o3, o4, o5, o6, o7, of, olt⟩ := HBS.out.op.cells
    clear t0 t2 tf htb
    have HYW := Lib.hid (HY.out.below HBS.out.below); clear HY
    have HC := trunc_any tb L k s o dp dn dc W0 HYW.out.h HYW.out.wf (by have := HYW.out.k; omega)
    unfold M.Op.val at HC
    generalize s.truncS o = R at *
    have HCC := Lib.hid HC; clear HC
    refine HCC.out.mono ?_
    rintro e w9 hp
    obtain ⟨v, L1, rfl, ⟨dv, nv, rfl, hdr, hnr, hans⟩, hrest⟩ := hp
    obtain ⟨p8, c8, hfo8, -⟩ := row_form hdr
    obtain ⟨p9, c9, hfo9, -⟩ := row_form hnr
    subst hfo8
    subst hfo9
    obtain ⟨hAA, hPP⟩ := OpPost.told HBS.out H.out (⟨_, L1, rfl, ⟨_, _, rfl, hdr, hnr, hans⟩, hrest⟩ : OpPost tb L R W0 (.returned (R.1.val (.slice p8 R.1.data.length c8) (.slice p9 R.1.names.length c9))) w9)
    have HA := Lib.hid hAA; clear hAA hans hrest hdr hnr
    have HP := Lib.hid hPP; clear hPP
    clear o0 o1 o2 o3 o4 o5 o6 o7 of olt
    obtain ⟨z0, z1, z2, z3, z4, z5, zf, zlt⟩ := HA.out.cells
    unfold NilS at z4 z5
    unfold M.Ans.val
    go_wp2_with fail
    obtain ⟨r0, r1, r2, r3, r4, r5, -, -⟩ := (HA.out.store R.1 (.slice p8 R.1.data.length c8) (.slice p9 R.1.names.length c9)).cells
    unfold put6 at r0 r1 r2 r3 r4 r5
    refine bodyPost_ret (v := R.1.val (.slice p8 R.1.data.length c8) (.slice p9 R.1.names.length c9)) (by simp [results, Tryz.results45, go_sem, M.Ans.val, r0, r1, r2, r3, r4, r5]) rfl ?_
    have hfin := HP.out
    unfold put6 at hfin
    rw [HS.out]
    exact hfin
  have hk8 := hk; clear hk
  by_cases hk : o.kind = 10
  · skip
    have HS := Lib.hid (show s.step o = s.removeS o from by unfold M.St.step; rw [hk]; rfl)
    have bk1 : (o.kind == 1) = false := by rw [hk]; rfl
    have bk2 : (o.kind == 2) = false := by rw [hk]; rfl
    have bk3 : (o.kind == 3) = false := by rw [hk]; rfl
    have bk4 : (o.kind == 4) = false := by rw [hk]; rfl
    have bk5 : (o.kind == 5) = false := by rw [hk]; rfl
    have bk6 : (o.kind == 6) = false := by rw [hk]; rfl
    have bk7 : (o.kind == 7) = false := by rw [hk]; rfl
    have bk8 : (o.kind == 8) = false := by rw [hk]; rfl
    have bk9 : (o.kind == 9) = false := by rw [hk]; rfl
    have bk10 : (o.kind == 10) = true := by rw [hk]; rfl
    have bk11 : (o.kind == 11) = false := by rw [hk]; rfl
    have bk12 : (o.kind == 12) = false := by rw [hk]; rfl
    have bk13 : (o.kind == 13) = false := by rw [hk]; rfl
    have bk14 : (o.kind == 14) = false := by rw [hk]; rfl
    have bk15 : (o.kind == 15) = false := by rw [hk]; rfl
    have bk16 : (o.kind == 16) = false := by rw [hk]; rfl
    have bk17 : (o.kind == 17) = false := by rw [hk]; rfl
    have bk18 : (o.kind == 18) = false := by rw [hk]; rfl
    have bk19 : (o.kind == 19) = false := by rw [hk]; rfl
    have bk20 : (o.kind == 20) = false := by rw [hk]; rfl
    have bk21 : (o.kind == 21) = false := by rw [hk]; rfl
    have bk22 : (o.kind == 22) = false := by rw [hk]; rfl
    have bk23 : (o.kind == 23) = false := by rw [hk]; rfl
    clear hk
    have HBS := Lib.hid (Base.start w o (.slice dp dn dc))
    obtain ⟨t0, -, t2, -, -, tf, htb⟩ := (H.out.below HBS.out.below).cells5
    go_enter Tryz.func45, Tryz.ntmps45
    go_wp2_with fail
    change Calls _ _ _ (base2 w o (.slice dp dn dc)) _
    generalize base2 w o (.slice dp dn dc) = W0 at *
    obtain ⟨o0, o1, o2, o3, o4, o5, o6, o7, of, olt⟩ := HBS.out.op.cells
    clear t0 t2 tf htb
    have HYW := Lib.hid (HY.out.below HBS.out.below); clear HY
    have HC := remove_any tb L k s o dp dn dc W0 HYW.out.h HYW.out.wf HYW.out.lk HYW.out.k (Or.inl (by simpa using bk10)) HYW.out.hl HYW.out.hm
    unfold M.Op.val at HC
    generalize s.removeS o = R at *
    have HCC := Lib.hid HC; clear HC
    refine HCC.out.mono ?_
    rintro e w9 hp
    obtain ⟨v, L1, rfl, ⟨dv, nv, rfl, hdr, hnr, hans⟩, hrest⟩ := hp
    obtain ⟨p8, c8, hfo8, -⟩ := row_form hdr
    obtain ⟨p9, c9, hfo9, -⟩ := row_form hnr
    subst hfo8
    subst hfo9
    obtain ⟨hAA, hPP⟩ := OpPost.told HBS.out H.out (⟨_, L1, rfl, ⟨_, _, rfl, hdr, hnr, hans⟩, hrest⟩ : OpPost tb L R W0 (.returned (R.1.val (.slice p8 R.1.data.length c8) (.slice p9 R.1.names.length c9))) w9)
    have HA := Lib.hid hAA; clear hAA hans hrest hdr hnr
    have HP := Lib.hid hPP; clear hPP
    clear o0 o1 o2 o3 o4 o5 o6 o7 of olt
    obtain ⟨z0, z1, z2, z3, z4, z5, zf, zlt⟩ := HA.out.cells
    unfold NilS at z4 z5
    unfold M.Ans.val
    go_wp2_with fail
    obtain ⟨r0, r1, r2, r3, r4, r5, -, -⟩ := (HA.out.store R.1 (.slice p8 R.1.data.length c8) (.slice p9 R.1.names.length c9)).cells
    unfold put6 at r0 r1 r2 r3 r4 r5
    refine bodyPost_ret (v := R.1.val (.slice p8 R.1.data.length c8) (.slice p9 R.1.names.length c9)) (by simp [results, Tryz.results45, go_sem, M.Ans.val, r0, r1, r2, r3, r4, r5]) rfl ?_
    have hfin := HP.out
    unfold put6 at hfin
    rw [HS.out]
    exact hfin
  have hk10 := hk; clear hk
  by_cases hk : o.kind = 11
  · skip
    have HS := Lib.hid (show s.step o = s.removeS o from by unfold M.St.step; rw [hk]; rfl)
    have bk1 : (o.kind == 1) = false := by rw [hk]; rfl
    have bk2 : (o.kind == 2) = false := by rw [hk]; rfl
    have bk3 : (o.kind == 3) = false := by rw [hk]; rfl
    have bk4 : (o.kind == 4) = false := by rw [hk]; rfl
    have bk5 : (o.kind == 5) = false := by rw [hk]; rfl
    have bk6 : (o.kind == 6) = false := by rw [hk]; rfl
    have bk7 : (o.kind == 7) = false := by rw [hk]; rfl
    have bk8 : (o.kind == 8) = false := by rw [hk]; rfl
    have bk9 : (o.kind == 9) = false := by rw [hk]; rfl
    have bk10 : (o.kind == 10) = false := by rw [hk]; rfl
    have bk11 : (o.kind == 11) = true := by rw [hk]; rfl
    have bk12 : (o.kind == 12) = false := by rw [hk]; rfl
    have bk13 : (o.kind == 13) = false := by rw [hk]; rfl
    have bk14 : (o.kind == 14) = false := by rw [hk]; rfl
    have bk15 : (o.kind == 15) = false := by rw [hk]; rfl
    have bk16 : (o.kind == 16) = false := by rw [hk]; rfl
    have bk17 : (o.kind == 17) = false := by rw [hk]; rfl
    have bk18 : (o.kind == 18) = false := by rw [hk]; rfl
    have bk19 : (o.kind == 19) = false := by rw [hk]; rfl
    have bk20 : (o.kind == 20) = false := by rw [hk]; rfl
    have bk21 : (o.kind == 21) = false := by rw [hk]; rfl
    have bk22 : (o.kind == 22) = false := by rw [hk]; rfl
    have bk23 : (o.kind == 23) = false := by rw [hk]; rfl
    clear hk
    have HBS := Lib.hid (Base.start w o (.slice dp dn dc))
    obtain ⟨t0, -, t2, -, -, tf, htb⟩ := (H.out.below HBS.out.below).cells5
    go_enter Tryz.func45, Tryz.ntmps45
    go_wp2_with fail
    change Calls _ _ _ (base2 w o (.slice dp dn dc)) _
    generalize base2 w o (.slice dp dn dc) = W0 at *
    obtain ⟨o0, o1, o2, o3, o4, o5, o6, o7, of, olt⟩ := HBS.out.op.cells
    clear t0 t2 tf htb
    have HYW := Lib.hid (HY.out.below HBS.out.below); clear HY
    have HC := remove_any tb L k s o dp dn dc W0 HYW.out.h HYW.out.wf HYW.out.lk HYW.out.k (Or.inr (by simpa using bk11)) HYW.out.hl HYW.out.hm
    unfold M.Op.val at HC
    generalize s.removeS o = R at *
    have HCC := Lib.hid HC; clear HC
    refine HCC.out.mono ?_
    rintro e w9 hp
    obtain ⟨v, L1, rfl, ⟨dv, nv, rfl, hdr, hnr, hans⟩, hrest⟩ := hp
    obtain ⟨p8, c8, hfo8, -⟩ := row_form hdr
    obtain ⟨p9, c9, hfo9, -⟩ := row_form hnr
    subst hfo8
    subst hfo9
    obtain ⟨hAA, hPP⟩ := OpPost.told HBS.out H.out (⟨_, L1, rfl, ⟨_, _, rfl, hdr, hnr, hans⟩, hrest⟩ : OpPost tb L R W0 (.returned (R.1.val (.slice p8 R.1.data.length c8) (.slice p9 R.1.names.length c9))) w9)
    have HA := Lib.hid hAA; clear hAA hans hrest hdr hnr
    have HP := Lib.hid hPP; clear hPP
    clear o0 o1 o2 o3 o4 o5 o6 o7 of olt
    obtain ⟨z0, z1, z2, z3, z4, z5, zf, zlt⟩ := HA.out.cells
    unfold NilS at z4 z5
    unfold M.Ans.val
    go_wp2_with fail
    obtain ⟨r0, r1, r2, r3, r4, r5, -, -⟩ := (HA.out.store R.1 (.slice p8 R.1.data.length c8) (.slice p9 R.1.names.length c9)).cells
    unfold put6 at r0 r1 r2 r3 r4 r5
    refine bodyPost_ret (v := R.1.val (.slice p8 R.1.data.length c8) (.slice p9 R.1.names.length c9)) (by simp [results, Tryz.results45, go_sem, M.Ans.val, r0, r1, r2, r3, r4, r5]) rfl ?_
    have hfin := HP.out
    unfold put6 at hfin
    rw [HS.out]
    exact hfin
  have hk11 := hk; clear hk
  by_cases hk : o.kind = 12
  · skip
    have HS := Lib.hid (show s.step o = s.linkS o from by unfold M.St.step; rw [hk]; rfl)
    have bk1 : (o.kind == 1) = false := by rw [hk]; rfl
    have bk2 : (o.kind == 2) = false := by rw [hk]; rfl
    have bk3 : (o.kind == 3) = false := by rw [hk]; rfl
    have bk4 : (o.kind == 4) = false := by rw [hk]; rfl
    have bk5 : (o.kind == 5) = false := by rw [hk]; rfl
    have bk6 : (o.kind == 6) = false := by rw [hk]; rfl
    have bk7 : (o.kind == 7) = false := by rw [hk]; rfl
    have bk8 : (o.kind == 8) = false := by rw [hk]; rfl
    have bk9 : (o.kind == 9) = false := by rw [hk]; rfl
    have bk10 : (o.kind == 10) = false := by rw [hk]; rfl
    have bk11 : (o.kind == 11) = false := by rw [hk]; rfl
    have bk12 : (o.kind == 12) = true := by rw [hk]; rfl
    have bk13 : (o.kind == 13) = false := by rw [hk]; rfl
    have bk14 : (o.kind == 14) = false := by rw [hk]; rfl
    have bk15 : (o.kind == 15) = false := by rw [hk]; rfl
    have bk16 : (o.kind == 16) = false := by rw [hk]; rfl
    have bk17 : (o.kind == 17) = false := by rw [hk]; rfl
    have bk18 : (o.kind == 18) = false := by rw [hk]; rfl
    have bk19 : (o.kind == 19) = false := by rw [hk]; rfl
    have bk20 : (o.kind == 20) = false := by rw [hk]; rfl
    have bk21 : (o.kind == 21) = false := by rw [hk]; rfl
    have bk22 : (o.kind == 22) = false := by rw [hk]; rfl
    have bk23 : (o.kind == 23) = false := by rw [hk]; rfl
    clear hk
    have HBS := Lib.hid (Base.start w o (.slice dp dn dc))
    obtain ⟨t0, -, t2, -, -, tf, htb⟩ := (H.out.below HBS.out.below).cells5
    go_enter Tryz.func45, Tryz.ntmps45
    go_wp2_with fail
    change Calls _ _ _ (base2 w o (.slice dp dn dc)) _
    generalize base2 w o (.slice dp dn dc) = W0 at *
    obtain ⟨o0, o1, o2, o3, o4, o5, o6, o7, of, olt⟩ := HBS.out.op.cells
    clear t0 t2 tf htb
    have HYW := Lib.hid (HY.out.below HBS.out.below); clear HY
    have HC := link_any tb L k s o dp dn dc W0 HYW.out.h HYW.out.wf HYW.out.k HYW.out.hl HYW.out.hl2 HYW.out.hm
    unfold M.Op.val at HC
    generalize s.linkS o = R at *
    have HCC := Lib.hid HC; clear HC
    refine HCC.out.mono ?_
    rintro e w9 hp
    obtain ⟨v, L1, rfl, ⟨dv, nv, rfl, hdr, hnr, hans⟩, hrest⟩ := hp
    obtain ⟨p8, c8, hfo8, -⟩ := row_form hdr
    obtain ⟨p9, c9, hfo9, -⟩ := row_form hnr
    subst hfo8
    subst hfo9
    obtain ⟨hAA, hPP⟩ := OpPost.told HBS.out H.out (⟨_, L1, rfl, ⟨_, _, rfl, hdr, hnr, hans⟩, hrest⟩ : OpPost tb L R W0 (.returned (R.1.val (.slice p8 R.1.data.length c8) (.slice p9 R.1.names.length c9))) w9)
    have HA := Lib.hid hAA; clear hAA hans hrest hdr hnr
    have HP := Lib.hid hPP; clear hPP
    clear o0 o1 o2 o3 o4 o5 o6 o7 of olt
    obtain ⟨z0, z1, z2, z3, z4, z5, zf, zlt⟩ := HA.out.cells
    unfold NilS at z4 z5
    unfold M.Ans.val
    go_wp2_with fail
    obtain ⟨r0, r1, r2, r3, r4, r5, -, -⟩ := (HA.out.store R.1 (.slice p8 R.1.data.length c8) (.slice p9 R.1.names.length c9)).cells
    unfold put6 at r0 r1 r2 r3 r4 r5
    refine bodyPost_ret (v := R.1.val (.slice p8 R.1.data.length c8) (.slice p9 R.1.names.length c9)) (by simp [results, Tryz.results45, go_sem, M.Ans.val, r0, r1, r2, r3, r4, r5]) rfl ?_
    have hfin := HP.out
    unfold put6 at hfin
    rw [HS.out]
    exact hfin
  have hk12 := hk; clear hk
  by_cases hk : o.kind = 13
  · skip
    have HS := Lib.hid (show s.step o = s.symlinkS o from by unfold M.St.step; rw [hk]; rfl)
    have bk1 : (o.kind == 1) = false := by rw [hk]; rfl
    have bk2 : (o.kind == 2) = false := by rw [hk]; rfl
    have bk3 : (o.kind == 3) = false := by rw [hk]; rfl
    have bk4 : (o.kind == 4) = false := by rw [hk]; rfl
    have bk5 : (o.kind == 5) = false := by rw [hk]; rfl
    have bk6 : (o.kind == 6) = false := by rw [hk]; rfl
    have bk7 : (o.kind == 7) = false := by rw [hk]; rfl
    have bk8 : (o.kind == 8) = false := by rw [hk]; rfl
    have bk9 : (o.kind == 9) = false := by rw [hk]; rfl
    have bk10 : (o.kind == 10) = false := by rw [hk]; rfl
    have bk11 : (o.kind == 11) = false := by rw [hk]; rfl
    have bk12 : (o.kind == 12) = false := by rw [hk]; rfl
    have bk13 : (o.kind == 13) = true := by rw [hk]; rfl
    have bk14 : (o.kind == 14) = false := by rw [hk]; rfl
    have bk15 : (o.kind == 15) = false := by rw [hk]; rfl
    have bk16 : (o.kind == 16) = false := by rw [hk]; rfl
    have bk17 : (o.kind == 17) = false := by rw [hk]; rfl
    have bk18 : (o.kind == 18) = false := by rw [hk]; rfl
    have bk19 : (o.kind == 19) = false := by rw [hk]; rfl
    have bk20 : (o.kind == 20) = false := by rw [hk]; rfl
    have bk21 : (o.kind == 21) = false := by rw [hk]; rfl
    have bk22 : (o.kind == 22) = false := by rw [hk]; rfl
    have bk23 : (o.kind == 23) = false := by rw [hk]; rfl
    clear hk
    have HBS := Lib.hid (Base.start w o (.slice dp dn dc))
    obtain ⟨t0, -, t2, -, -, tf, htb⟩ := (H.out.below HBS.out.below).cells5
    go_enter Tryz.func45, Tryz.ntmps45
    go_wp2_with fail
    change Calls _ _ _ (base2 w o (.slice dp dn dc)) _
    generalize base2 w o (.slice dp dn dc) = W0 at *
    obtain ⟨o0, o1, o2, o3, o4, o5, o6, o7, of, olt⟩ := HBS.out.op.cells
    clear t0 t2 tf htb
    have HYW := Lib.hid (HY.out.below HBS.out.below); clear HY
    have HC := symlink_any tb L k s o dp dn dc W0 HYW.out.h HYW.out.wf HYW.out.k HYW.out.hl HYW.out.hl2 HYW.out.hm
    unfold M.Op.val at HC
    generalize s.symlinkS o = R at *
    have HCC := Lib.hid HC; clear HC
    refine HCC.out.mono ?_
    rintro e w9 hp
    obtain ⟨v, L1, rfl, ⟨dv, nv, rfl, hdr, hnr, hans⟩, hrest⟩ := hp
    obtain ⟨p8, c8, hfo8, -⟩ := row_form hdr
    obtain ⟨p9, c9, hfo9, -⟩ := row_form hnr
    subst hfo8
    subst hfo9
    obtain ⟨hAA, hPP⟩ := OpPost.told HBS.out H.out (⟨_, L1, rfl, ⟨_, _, rfl, hdr, hnr, hans⟩, hrest⟩ : OpPost tb L R W0 (.returned (R.1.val (.slice p8 R.1.data.length c8) (.slice p9 R.1.names.length c9))) w9)
    have HA := Lib.hid hAA; clear hAA hans hrest hdr hnr
    have HP := Lib.hid hPP; clear hPP
    clear o0 o1 o2 o3 o4 o5 o6 o7 of olt
    obtain ⟨z0, z1, z2, z3, z4, z5, zf, zlt⟩ := HA.out.cells
    unfold NilS at z4 z5
    unfold M.Ans.val
    go_wp2_with fail
    obtain ⟨r0, r1, r2, r3, r4, r5, -, -⟩ := (HA.out.store R.1 (.slice p8 R.1.data.length c8) (.slice p9 R.1.names.length c9)).cells
    unfold put6 at r0 r1 r2 r3 r4 r5
    refine bodyPost_ret (v := R.1.val (.slice p8 R.1.data.length c8) (.slice p9 R.1.names.length c9)) (by simp [results, Tryz.results45, go_sem, M.Ans.val, r0, r1, r2, r3, r4, r5]) rfl ?_
    have hfin := HP.out
    unfold put6 at hfin
    rw [HS.out]
    exact hfin
  have hk13 := hk; clear hk
  by_cases hk : o.kind = 14
  · skip
    have HS := Lib.hid (show s.step o = s.listS o from by unfold M.St.step; rw [hk]; rfl)
    have bk1 : (o.kind == 1) = false := by rw [hk]; rfl
    have bk2 : (o.kind == 2) = false := by rw [hk]; rfl
    have bk3 : (o.kind == 3) = false := by rw [hk]; rfl
    have bk4 : (o.kind == 4) = false := by rw [hk]; rfl
    have bk5 : (o.kind == 5) = false := by rw [hk]; rfl
    have bk6 : (o.kind == 6) = false := by rw [hk]; rfl
    have bk7 : (o.kind == 7) = false := by rw [hk]; rfl
    have bk8 : (o.kind == 8) = false := by rw [hk]; rfl
    have bk9 : (o.kind == 9) = false := by rw [hk]; rfl
    have bk10 : (o.kind == 10) = false := by rw [hk]; rfl
    have bk11 : (o.kind == 11) = false := by rw [hk]; rfl
    have bk12 : (o.kind == 12) = false := by rw [hk]; rfl
    have bk13 : (o.kind == 13) = false := by rw [hk]; rfl
    have bk14 : (o.kind == 14) = true := by rw [hk]; rfl
    have bk15 : (o.kind == 15) = false := by rw [hk]; rfl
    have bk16 : (o.kind == 16) = false := by rw [hk]; rfl
    have bk17 : (o.kind == 17) = false := by rw [hk]; rfl
    have bk18 : (o.kind == 18) = false := by rw [hk]; rfl
    have bk19 : (o.kind == 19) = false := by rw [hk]; rfl
    have bk20 : (o.kind == 20) = false := by rw [hk]; rfl
    have bk21 : (o.kind == 21) = false := by rw [hk]; rfl
    have bk22 : (o.kind == 22) = false := by rw [hk]; rfl
    have bk23 : (o.kind == 23) = false := by rw [hk]; rfl
    clear hk
    have HBS := Lib.hid (Base.start w o (.slice dp dn dc))
    obtain ⟨t0, -, t2, -, -, tf, htb⟩ := (H.out.below HBS.out.below).cells5
    go_enter Tryz.func45, Tryz.ntmps45
    go_wp2_with fail
    change Calls _ _ _ (base2 w o (.slice dp dn dc)) _
    generalize base2 w o (.slice dp dn dc) = W0 at *
    obtain ⟨o0, o1, o2, o3, o4, o5, o6, o7, of, olt⟩ := HBS.out.op.cells
    clear t0 t2 tf htb
    have HYW := Lib.hid (HY.out.below HBS.out.below); clear HY
    have HC := HL.out (Or.inl (by simpa using bk14)) tb L k s o dp dn dc W0 HYW.out (Or.inl (by simpa using bk14))
    unfold M.Op.val at HC
    generalize s.listS o = R at *
    have HCC := Lib.hid HC; clear HC
    refine HCC.out.mono ?_
    rintro e w9 hp
    obtain ⟨v, L1, rfl, ⟨dv, nv, rfl, hdr, hnr, hans⟩, hrest⟩ := hp
    obtain ⟨p8, c8, hfo8, -⟩ := row_form hdr
    obtain ⟨p9, c9, hfo9, -⟩ := row_form hnr
    subst hfo8
    subst hfo9
    obtain ⟨hAA, hPP⟩ := OpPost.told HBS.out H.out (⟨_, L1, rfl, ⟨_, _, rfl, hdr, hnr, hans⟩, hrest⟩ : OpPost tb L R W0 (.returned (R.1.val (.slice p8 R.1.data.length c8) (.slice p9 R.1.names.length c9))) w9)
    have HA := Lib.hid hAA; clear hAA hans hrest hdr hnr
    have HP := Lib.hid hPP; clear hPP
    clear o0 o1 o2 o3 o4 o5 o6 o7 of olt
    obtain ⟨z0, z1, z2, z3, z4, z5, zf, zlt⟩ := HA.out.cells
    unfold NilS at z4 z5
    unfold M.Ans.val
    go_wp2_with fail
    obtain ⟨r0, r1, r2, r3, r4, r5, -, -⟩ := (HA.out.store R.1 (.slice p8 R.1.data.length c8) (.slice p9 R.1.names.length c9)).cells
    unfold put6 at r0 r1 r2 r3 r4 r5
    refine bodyPost_ret (v := R.1.val (.slice p8 R.1.data.length c8) (.slice p9 R.1.names.length c9)) (by simp [results, Tryz.results45, go_sem, M.Ans.val, r0, r1, r2, r3, r4, r5]) rfl ?_
    have hfin := HP.out
    unfold put6 at hfin
    rw [HS.out]
    exact hfin
  have hk14 := hk; clear hk
  by_cases hk : o.kind = 18
  · skip
    have HS := Lib.hid (show s.step o = s.listS o from by unfold M.St.step; rw [hk]; rfl)
    have bk1 : (o.kind == 1) = false := by rw [hk]; rfl
    have bk2 : (o.kind == 2) = false := by rw [hk]; rfl
    have bk3 : (o.kind == 3) = false := by rw [hk]; rfl
    have bk4 : (o.kind == 4) = false := by rw [hk]; rfl
    have bk5 : (o.kind == 5) = false := by rw [hk]; rfl
    have bk6 : (o.kind == 6) = false := by rw [hk]; rfl
    have bk7 : (o.kind == 7) = false := by rw [hk]; rfl
    have bk8 : (o.kind == 8) = false := by rw [hk]; rfl
    have bk9 : (o.kind == 9) = false := by rw [hk]; rfl
    have bk10 : (o.kind == 10) = false := by rw [hk]; rfl
    have bk11 : (o.kind == 11) = false := by rw [hk]; rfl
    have bk12 : (o.kind == 12) = false := by rw [hk]; rfl
    have bk13 : (o.kind == 13) = false := by rw [hk]; rfl
    have bk14 : (o.kind == 14) = false := by rw [hk]; rfl
    have bk15 : (o.kind == 15) = false := by rw [hk]; rfl
    have bk16 : (o.kind == 16) = false := by rw [hk]; rfl
    have bk17 : (o.kind == 17) = false := by rw [hk]; rfl
    have bk18 : (o.kind == 18) = true := by rw [hk]; rfl
    have bk19 : (o.kind == 19) = false := by rw [hk]; rfl
    have bk20 : (o.kind == 20) = false := by rw [hk]; rfl
    have bk21 : (o.kind == 21) = false := by rw [hk]; rfl
    have bk22 : (o.kind == 22) = false := by rw [hk]; rfl
    have bk23 : (o.kind == 23) = false := by rw [hk]; rfl
    clear hk
    have HBS := Lib.hid (Base.start w o (.slice dp dn dc))
    obtain ⟨t0, -, t2, -, -, tf, htb⟩ := (H.out.below HBS.out.below).cells5
    go_enter Tryz.func45, Tryz.ntmps45
    go_wp2_with fail
    change Calls _ _ _ (base2 w o (.slice dp dn dc)) _
    generalize base2 w o (.slice dp dn dc) = W0 at *
    obtain ⟨o0, o1, o2, o3, o4, o5, o6, o7, of, olt⟩ := HBS.out.op.cells
    clear t0 t2 tf htb
    have HYW := Lib.hid (HY.out.below HBS.out.below); clear HY
    have HC := HL.out (Or.inr (by simpa using bk18)) tb L k s o dp dn dc W0 HYW.out (Or.inr (by simpa using bk18))
    unfold M.Op.val at HC
    generalize s.listS o = R at *
    have HCC := Lib.hid HC; clear HC
    refine HCC.out.mono ?_
    rintro e w9 hp
    obtain ⟨v, L1, rfl, ⟨dv, nv, rfl, hdr, hnr, hans⟩, hrest⟩ := hp
    obtain ⟨p8, c8, hfo8, -⟩ := row_form hdr
    obtain ⟨p9, c9, hfo9, -⟩ := row_form hnr
    subst hfo8
    subst hfo9
    obtain ⟨hAA, hPP⟩ := OpPost.told HBS.out H.out (⟨_, L1, rfl, ⟨_, _, rfl, hdr, hnr, hans⟩, hrest⟩ : OpPost tb L R W0 (.returned (R.1.val (.slice p8 R.1.data.length c8) (.slice p9 R.1.names.length c9))) w9)
    have HA := Lib.hid hAA; clear hAA hans hrest hdr hnr
    have HP := Lib.hid hPP; clear hPP
    clear o0 o1 o2 o3 o4 o5 o6 o7 of olt
    obtain ⟨z0, z1, z2, z3, z4, z5, zf, zlt⟩ := HA.out.cells
    unfold NilS at z4 z5
    unfold M.Ans.val
    go_wp2_with fail
    obtain ⟨r0, r1, r2, r3, r4, r5, -, -⟩ := (HA.out.store R.1 (.slice p8 R.1.data.length c8) (.slice p9 R.1.names.length c9)).cells
    unfold put6 at r0 r1 r2 r3 r4 r5
    refine bodyPost_ret (v := R.1.val (.slice p8 R.1.data.length c8) (.slice p9 R.1.names.length c9)) (by simp [results, Tryz.results45, go_sem, M.Ans.val, r0, r1, r2, r3, r4, r5]) rfl ?_
    have hfin := HP.out
    unfold put6 at hfin
    rw [HS.out]
    exact hfin
  have hk18 := hk; clear hk
  by_cases hk : o.kind = 15
  · skip
    have HS := Lib.hid (show s.step o = s.renameS o from by unfold M.St.step; rw [hk]; rfl)
    have bk1 : (o.kind == 1) = false := by rw [hk]; rfl
    have bk2 : (o.kind == 2) = false := by rw [hk]; rfl
    have bk3 : (o.kind == 3) = false := by rw [hk]; rfl
    have bk4 : (o.kind == 4) = false := by rw [hk]; rfl
    have bk5 : (o.kind == 5) = false := by rw [hk]; rfl
    have bk6 : (o.kind == 6) = false := by rw [hk]; rfl
    have bk7 : (o.kind == 7) = false := by rw [hk]; rfl
    have bk8 : (o.kind == 8) = false := by rw [hk]; rfl
    have bk9 : (o.kind == 9) = false := by rw [hk]; rfl
    have bk10 : (o.kind == 10) = false := by rw [hk]; rfl
    have bk11 : (o.kind == 11) = false := by rw [hk]; rfl
    have bk12 : (o.kind == 12) = false := by rw [hk]; rfl
    have bk13 : (o.kind == 13) = false := by rw [hk]; rfl
    have bk14 : (o.kind == 14) = false := by rw [hk]; rfl
    have bk15 : (o.kind == 15) = true := by rw [hk]; rfl
    have bk16 : (o.kind == 16) = false := by rw [hk]; rfl
    have bk17 : (o.kind == 17) = false := by rw [hk]; rfl
    have bk18 : (o.kind == 18) = false := by rw [hk]; rfl
    have bk19 : (o.kind == 19) = false := by rw [hk]; rfl
    have bk20 : (o.kind == 20) = false := by rw [hk]; rfl
    have bk21 : (o.kind == 21) = false := by rw [hk]; rfl
    have bk22 : (o.kind == 22) = false := by rw [hk]; rfl
    have bk23 : (o.kind == 23) = false := by rw [hk]; rfl
    clear hk
    have HBS := Lib.hid (Base.start w o (.slice dp dn dc))
    obtain ⟨t0, -, t2, -, -, tf, htb⟩ := (H.out.below HBS.out.below).cells5
    go_enter Tryz.func45, Tryz.ntmps45
    go_wp2_with fail
    change Calls _ _ _ (base2 w o (.slice dp dn dc)) _
    generalize base2 w o (.slice dp dn dc) = W0 at *
    obtain ⟨o0, o1, o2, o3, o4, o5, o6, o7, of, olt⟩ := HBS.out.op.cells
    clear t0 t2 tf htb
    have HYW := Lib.hid (HY.out.below HBS.out.below); clear HY
    have HC := HR0.out (by simpa using bk15) tb L k s o dp dn dc W0 HYW.out
    unfold M.Op.val at HC
    generalize s.renameS o = R at *
    have HCC := Lib.hid HC; clear HC
    refine HCC.out.mono ?_
    rintro e w9 hp
    obtain ⟨v, L1, rfl, ⟨dv, nv, rfl, hdr, hnr, hans⟩, hrest⟩ := hp
    obtain ⟨p8, c8, hfo8, -⟩ := row_form hdr
    obtain ⟨p9, c9, hfo9, -⟩ := row_form hnr
    subst hfo8
    subst hfo9
    obtain ⟨hAA, hPP⟩ := OpPost.told HBS.out H.out (⟨_, L1, rfl, ⟨_, _, rfl, hdr, hnr, hans⟩, hrest⟩ : OpPost tb L R W0 (.returned (R.1.val (.slice p8 R.1.data.length c8) (.slice p9 R.1.names.length c9))) w9)
    have HA := Lib.hid hAA; clear hAA hans hrest hdr hnr
    have HP := Lib.hid hPP; clear hPP
    clear o0 o1 o2 o3 o4 o5 o6 o7 of olt
    obtain ⟨z0, z1, z2, z3, z4, z5, zf, zlt⟩ := HA.out.cells
    unfold NilS at z4 z5
    unfold M.Ans.val
    go_wp2_with fail
    obtain ⟨r0, r1, r2, r3, r4, r5, -, -⟩ := (HA.out.store R.1 (.slice p8 R.1.data.length c8) (.slice p9 R.1.names.length c9)).cells
    unfold put6 at r0 r1 r2 r3 r4 r5
    refine bodyPost_ret (v := R.1.val (.slice p8 R.1.data.length c8) (.slice p9 R.1.names.length c9)) (by simp [results, Tryz.results45, go_sem, M.Ans.val, r0, r1, r2, r3, r4, r5]) rfl ?_
    have hfin := HP.out
    unfold put6 at hfin
    rw [HS.out]
    exact hfin
  have hk15 := hk; clear hk
  by_cases hk : o.kind = 16
  · skip
    have HS := Lib.hid (show s.step o = s.statS o from by unfold M.St.step; rw [hk]; rfl)
    have bk1 : (o.kind == 1) = false := by rw [hk]; rfl
    have bk2 : (o.kind == 2) = false := by rw [hk]; rfl
    have bk3 : (o.kind == 3) = false := by rw [hk]; rfl
    have bk4 : (o.kind == 4) = false := by rw [hk]; rfl
    have bk5 : (o.kind == 5) = false := by rw [hk]; rfl
    have bk6 : (o.kind == 6) = false := by rw [hk]; rfl
    have bk7 : (o.kind == 7) = false := by rw [hk]; rfl
    have bk8 : (o.kind == 8) = false := by rw [hk]; rfl
    have bk9 : (o.kind == 9) = false := by rw [hk]; rfl
    have bk10 : (o.kind == 10) = false := by rw [hk]; rfl
    have bk11 : (o.kind == 11) = false := by rw [hk]; rfl
    have bk12 : (o.kind == 12) = false := by rw [hk]; rfl
    have bk13 : (o.kind == 13) = false := by rw [hk]; rfl
    have bk14 : (o.kind == 14) = false := by rw [hk]; rfl
    have bk15 : (o.kind == 15) = false := by rw [hk]; rfl
    have bk16 : (o.kind == 16) = true := by rw [hk]; rfl
    have bk17 : (o.kind == 17) = false := by rw [hk]; rfl
    have bk18 : (o.kind == 18) = false := by rw [hk]; rfl
    have bk19 : (o.kind == 19) = false := by rw [hk]; rfl
    have bk20 : (o.kind == 20) = false := by rw [hk]; rfl
    have bk21 : (o.kind == 21) = false := by rw [hk]; rfl
    have bk22 : (o.kind == 22) = false := by rw [hk]; rfl
    have bk23 : (o.kind == 23) = false := by rw [hk]; rfl
    clear hk
    have HBS := Lib.hid (Base.start w o (.slice dp dn dc))
    obtain ⟨t0, -, t2, -, -, tf, htb⟩ := (H.out.below HBS.out.below).cells5
    go_enter Tryz.func45, Tryz.ntmps45
    go_wp2_with fail
    change Calls _ _ _ (base2 w o (.slice dp dn dc)) _
    generalize base2 w o (.slice dp dn dc) = W0 at *
    obtain ⟨o0, o1, o2, o3, o4, o5, o6, o7, of, olt⟩ := HBS.out.op.cells
    clear t0 t2 tf htb
    have HYW := Lib.hid (HY.out.below HBS.out.below); clear HY
    have HC := stat_any tb L k s o dp dn dc W0 HYW.out.h HYW.out.wf (by have := HYW.out.k; omega) HYW.out.hl HYW.out.hm
    unfold M.Op.val at HC
    generalize s.statS o = R at *
    have HCC := Lib.hid HC; clear HC
    refine HCC.out.mono ?_
    rintro e w9 hp
    obtain ⟨v, L1, rfl, ⟨dv, nv, rfl, hdr, hnr, hans⟩, hrest⟩ := hp
    obtain ⟨p8, c8, hfo8, -⟩ := row_form hdr
    obtain ⟨p9, c9, hfo9, -⟩ := row_form hnr
    subst hfo8
    subst hfo9
    obtain ⟨hAA, hPP⟩ := OpPost.told HBS.out H.out (⟨_, L1, rfl, ⟨_, _, rfl, hdr, hnr, hans⟩, hrest⟩ : OpPost tb L R W0 (.returned (R.1.val (.slice p8 R.1.data.length c8) (.slice p9 R.1.names.length c9))) w9)
    have HA := Lib.hid hAA; clear hAA hans hrest hdr hnr
    have HP := Lib.hid hPP; clear hPP
    clear o0 o1 o2 o3 o4 o5 o6 o7 of olt
    obtain ⟨z0, z1, z2, z3, z4, z5, zf, zlt⟩ := HA.out.cells
    unfold NilS at z4 z5
    unfold M.Ans.val
    go_wp2_with fail
    obtain ⟨r0, r1, r2, r3, r4, r5, -, -⟩ := (HA.out.store R.1 (.slice p8 R.1.data.length c8) (.slice p9 R.1.names.length c9)).cells
    unfold put6 at r0 r1 r2 r3 r4 r5
    refine bodyPost_ret (v := R.1.val (.slice p8 R.1.data.length c8) (.slice p9 R.1.names.length c9)) (by simp [results, Tryz.results45, go_sem, M.Ans.val, r0, r1, r2, r3, r4, r5]) rfl ?_
    have hfin := HP.out
    unfold put6 at hfin
    rw [HS.out]
    exact hfin
  have hk16 := hk; clear hk
  by_cases hk : o.kind = 17
  · skip
    have HS := Lib.hid (show s.step o = s.statS o from by unfold M.St.step; rw [hk]; rfl)
    have bk1 : (o.kind == 1) = false := by rw [hk]; rfl
    have bk2 : (o.kind == 2) = false := by rw [hk]; rfl
    have bk3 : (o.kind == 3) = false := by rw [hk]; rfl
    have bk4 : (o.kind == 4) = false := by rw [hk]; rfl
    have bk5 : (o.kind == 5) = false := by rw [hk]; rfl
    have bk6 : (o.kind == 6) = false := by rw [hk]; rfl
    have bk7 : (o.kind == 7) = false := by rw [hk]; rfl
    have bk8 : (o.kind == 8) = false := by rw [hk]; rfl
    have bk9 : (o.kind == 9) = false := by rw [hk]; rfl
    have bk10 : (o.kind == 10) = false := by rw [hk]; rfl
    have bk11 : (o.kind == 11) = false := by rw [hk]; rfl
    have bk12 : (o.kind == 12) = false := by rw [hk]; rfl
    have bk13 : (o.kind == 13) = false := by rw [hk]; rfl
    have bk14 : (o.kind == 14) = false := by rw [hk]; rfl
    have bk15 : (o.kind == 15) = false := by rw [hk]; rfl
    have bk16 : (o.kind == 16) = false := by rw [hk]; rfl
    have bk17 : (o.kind == 17) = true := by rw [hk]; rfl
    have bk18 : (o.kind == 18) = false := by rw [hk]; rfl
    have bk19 : (o.kind == 19) = false := by rw [hk]; rfl
    have bk20 : (o.kind == 20) = false := by rw [hk]; rfl
    have bk21 : (o.kind == 21) = false := by rw [hk]; rfl
    have bk22 : (o.kind == 22) = false := by rw [hk]; rfl
    have bk23 : (o.kind == 23) = false := by rw [hk]; rfl
    clear hk
    have HBS := Lib.hid (Base.start w o (.slice dp dn dc))
    obtain ⟨t0, -, t2, -, -, tf, htb⟩ := (H.out.below HBS.out.below).cells5
    go_enter Tryz.func45, Tryz.ntmps45
    go_wp2_with fail
    change Calls _ _ _ (base2 w o (.slice dp dn dc)) _
    generalize base2 w o (.slice dp dn dc) = W0 at *
    obtain ⟨o0, o1, o2, o3, o4, o5, o6, o7, of, olt⟩ := HBS.out.op.cells
    clear t0 t2 tf htb
    have HYW := Lib.hid (HY.out.below HBS.out.below); clear HY
    have HC := stat_any tb L k s o dp dn dc W0 HYW.out.h HYW.out.wf (by have := HYW.out.k; omega) HYW.out.hl HYW.out.hm
    unfold M.Op.val at HC
    generalize s.statS o = R at *
    have HCC := Lib.hid HC; clear HC
    refine HCC.out.mono ?_
    rintro e w9 hp
    obtain ⟨v, L1, rfl, ⟨dv, nv, rfl, hdr, hnr, hans⟩, hrest⟩ := hp
    obtain ⟨p8, c8, hfo8, -⟩ := row_form hdr
    obtain ⟨p9, c9, hfo9, -⟩ := row_form hnr
    subst hfo8
    subst hfo9
    obtain ⟨hAA, hPP⟩ := OpPost.told HBS.out H.out (⟨_, L1, rfl, ⟨_, _, rfl, hdr, hnr, hans⟩, hrest⟩ : OpPost tb L R W0 (.returned (R.1.val (.slice p8 R.1.data.length c8) (.slice p9 R.1.names.length c9))) w9)
    have HA := Lib.hid hAA; clear hAA hans hrest hdr hnr
    have HP := Lib.hid hPP; clear hPP
    clear o0 o1 o2 o3 o4 o5 o6 o7 of olt
    obtain ⟨z0, z1, z2, z3, z4, z5, zf, zlt⟩ := HA.out.cells
    unfold NilS at z4 z5
    unfold M.Ans.val
    go_wp2_with fail
    obtain ⟨r0, r1, r2, r3, r4, r5, -, -⟩ := (HA.out.store R.1 (.slice p8 R.1.data.length c8) (.slice p9 R.1.names.length c9)).cells
    unfold put6 at r0 r1 r2 r3 r4 r5
    refine bodyPost_ret (v := R.1.val (.slice p8 R.1.data.length c8) (.slice p9 R.1.names.length c9)) (by simp [results, Tryz.results45, go_sem, M.Ans.val, r0, r1, r2, r3, r4, r5]) rfl ?_
    have hfin := HP.out
    unfold put6 at hfin
    rw [HS.out]
    exact hfin
  have hk17 := hk; clear hk
  by_cases hk : o.kind = 19
  · skip
    have HS := Lib.hid (show s.step o = s.lastsS o.fd from by unfold M.St.step; rw [hk]; rfl)
    have bk1 : (o.kind == 1) = false := by rw [hk]; rfl
    have bk2 : (o.kind == 2) = false := by rw [hk]; rfl
    have bk3 : (o.kind == 3) = false := by rw [hk]; rfl
    have bk4 : (o.kind == 4) = false := by rw [hk]; rfl
    have bk5 : (o.kind == 5) = false := by rw [hk]; rfl
    have bk6 : (o.kind == 6) = false := by rw [hk]; rfl
    have bk7 : (o.kind == 7) = false := by rw [hk]; rfl
    have bk8 : (o.kind == 8) = false := by rw [hk]; rfl
    have bk9 : (o.kind == 9) = false := by rw [hk]; rfl
    have bk10 : (o.kind == 10) = false := by rw [hk]; rfl
    have bk11 : (o.kind == 11) = false := by rw [hk]; rfl
    have bk12 : (o.kind == 12) = false := by rw [hk]; rfl
    have bk13 : (o.kind == 13) = false := by rw [hk]; rfl
    have bk14 : (o.kind == 14) = false := by rw [hk]; rfl
    have bk15 : (o.kind == 15) = false := by rw [hk]; rfl
    have bk16 : (o.kind == 16) = false := by rw [hk]; rfl
    have bk17 : (o.kind == 17) = false := by rw [hk]; rfl
    have bk18 : (o.kind == 18) = false := by rw [hk]; rfl
    have bk19 : (o.kind == 19) = true := by rw [hk]; rfl
    have bk20 : (o.kind == 20) = false := by rw [hk]; rfl
    have bk21 : (o.kind == 21) = false := by rw [hk]; rfl
    have bk22 : (o.kind == 22) = false := by rw [hk]; rfl
    have bk23 : (o.kind == 23) = false := by rw [hk]; rfl
    clear hk
    have HBS := Lib.hid (Base.start w o (.slice dp dn dc))
    obtain ⟨t0, -, t2, -, -, tf, htb⟩ := (H.out.below HBS.out.below).cells5
    go_enter Tryz.func45, Tryz.ntmps45
    go_wp2_with fail
    change Calls _ _ _ (base2 w o (.slice dp dn dc)) _
    generalize base2 w o (.slice dp dn dc) = W0 at *
    obtain ⟨o0, o1, o2, o3, o4, o5, o6, o7, of, olt⟩ := HBS.out.op.cells
    clear t0 t2 tf htb
    have HYW := Lib.hid (HY.out.below HBS.out.below); clear HY
    have HC := lasts_any tb L s o.fd W0 HYW.out.h
    unfold M.Op.val at HC
    generalize s.lastsS o.fd = R at *
    have HCC := Lib.hid HC; clear HC
    refine HCC.out.mono ?_
    rintro e w9 hp
    obtain ⟨v, L1, rfl, ⟨dv, nv, rfl, hdr, hnr, hans⟩, hrest⟩ := hp
    obtain ⟨p8, c8, hfo8, -⟩ := row_form hdr
    obtain ⟨p9, c9, hfo9, -⟩ := row_form hnr
    subst hfo8
    subst hfo9
    obtain ⟨hAA, hPP⟩ := OpPost.told HBS.out H.out (⟨_, L1, rfl, ⟨_, _, rfl, hdr, hnr, hans⟩, hrest⟩ : OpPost tb L R W0 (.returned (R.1.val (.slice p8 R.1.data.length c8) (.slice p9 R.1.names.length c9))) w9)
    have HA := Lib.hid hAA; clear hAA hans hrest hdr hnr
    have HP := Lib.hid hPP; clear hPP
    clear o0 o1 o2 o3 o4 o5 o6 o7 of olt
    obtain ⟨z0, z1, z2, z3, z4, z5, zf, zlt⟩ := HA.out.cells
    unfold NilS at z4 z5
    unfold M.Ans.val
    go_wp2_with fail
    obtain ⟨r0, r1, r2, r3, r4, r5, -, -⟩ := (HA.out.store R.1 (.slice p8 R.1.data.length c8) (.slice p9 R.1.names.length c9)).cells
    unfold put6 at r0 r1 r2 r3 r4 r5
    refine bodyPost_ret (v := R.1.val (.slice p8 R.1.data.length c8) (.slice p9 R.1.names.length c9)) (by simp [results, Tryz.results45, go_sem, M.Ans.val, r0, r1, r2, r3, r4, r5]) rfl ?_
    have hfin := HP.out
    unfold put6 at hfin
    rw [HS.out]
    exact hfin
  have hk19 := hk; clear hk
  by_cases hk : o.kind = 20
  · skip
    have HS := Lib.hid (show s.step o = s.lastsS o.fd from by unfold M.St.step; rw [hk]; rfl)
    have bk1 : (o.kind == 1) = false := by rw [hk]; rfl
    have bk2 : (o.kind == 2) = false := by rw [hk]; rfl
    have bk3 : (o.kind == 3) = false := by rw [hk]; rfl
    have bk4 : (o.kind == 4) = false := by rw [hk]; rfl
    have bk5 : (o.kind == 5) = false := by rw [hk]; rfl
    have bk6 : (o.kind == 6) = false := by rw [hk]; rfl
    have bk7 : (o.kind == 7) = false := by rw [hk]; rfl
    have bk8 : (o.kind == 8) = false := by rw [hk]; rfl
    have bk9 : (o.kind == 9) = false := by rw [hk]; rfl
    have bk10 : (o.kind == 10) = false := by rw [hk]; rfl
    have bk11 : (o.kind == 11) = false := by rw [hk]; rfl
    have bk12 : (o.kind == 12) = false := by rw [hk]; rfl
    have bk13 : (o.kind == 13) = false := by rw [hk]; rfl
    have bk14 : (o.kind == 14) = false := by rw [hk]; rfl
    have bk15 : (o.kind == 15) = false := by rw [hk]; rfl
    have bk16 : (o.kind == 16) = false := by rw [hk]; rfl
    have bk17 : (o.kind == 17) = false := by rw [hk]; rfl
    have bk18 : (o.kind == 18) = false := by rw [hk]; rfl
    have bk19 : (o.kind == 19) = false := by rw [hk]; rfl
    have bk20 : (o.kind == 20) = true := by rw [hk]; rfl
    have bk21 : (o.kind == 21) = false := by rw [hk]; rfl
    have bk22 : (o.kind == 22) = false := by rw [hk]; rfl
    have bk23 : (o.kind == 23) = false := by rw [hk]; rfl
    clear hk
    have HBS := Lib.hid (Base.start w o (.slice dp dn dc))
    obtain ⟨t0, -, t2, -, -, tf, htb⟩ := (H.out.below HBS.out.below).cells5
    go_enter Tryz.func45, Tryz.ntmps45
    go_wp2_with fail
    change Calls _ _ _ (base2 w o (.slice dp dn dc)) _
    generalize base2 w o (.slice dp dn dc) = W0 at *
    obtain ⟨o0, o1, o2, o3, o4, o5, o6, o7, of, olt⟩ := HBS.out.op.cells
    clear t0 t2 tf htb
    have HYW := Lib.hid (HY.out.below HBS.out.below); clear HY
    have HC := lasts_any tb L s o.fd W0 HYW.out.h
    unfold M.Op.val at HC
    generalize s.lastsS o.fd = R at *
    have HCC := Lib.hid HC; clear HC
    refine HCC.out.mono ?_
    rintro e w9 hp
    obtain ⟨v, L1, rfl, ⟨dv, nv, rfl, hdr, hnr, hans⟩, hrest⟩ := hp
    obtain ⟨p8, c8, hfo8, -⟩ := row_form hdr
    obtain ⟨p9, c9, hfo9, -⟩ := row_form hnr
    subst hfo8
    subst hfo9
    obtain ⟨hAA, hPP⟩ := OpPost.told HBS.out H.out (⟨_, L1, rfl, ⟨_, _, rfl, hdr, hnr, hans⟩, hrest⟩ : OpPost tb L R W0 (.returned (R.1.val (.slice p8 R.1.data.length c8) (.slice p9 R.1.names.length c9))) w9)
    have HA := Lib.hid hAA; clear hAA hans hrest hdr hnr
    have HP := Lib.hid hPP; clear hPP
    clear o0 o1 o2 o3 o4 o5 o6 o7 of olt
    obtain ⟨z0, z1, z2, z3, z4, z5, zf, zlt⟩ := HA.out.cells
    unfold NilS at z4 z5
    unfold M.Ans.val
    go_wp2_with fail
    obtain ⟨r0, r1, r2, r3, r4, r5, -, -⟩ := (HA.out.store R.1 (.slice p8 R.1.data.length c8) (.slice p9 R.1.names.length c9)).cells
    unfold put6 at r0 r1 r2 r3 r4 r5
    refine bodyPost_ret (v := R.1.val (.slice p8 R.1.data.length c8) (.slice p9 R.1.names.length c9)) (by simp [results, Tryz.results45, go_sem, M.Ans.val, r0, r1, r2, r3, r4, r5]) rfl ?_
    have hfin := HP.out
    unfold put6 at hfin
    rw [HS.out]
    exact hfin
  have hk20 := hk; clear hk
  by_cases hk : o.kind = 9
  · skip
    have HS := Lib.hid (show s.step o = s.mkdirS o from by unfold M.St.step; rw [hk]; rfl)
    have bk1 : (o.kind == 1) = false := by rw [hk]; rfl
    have bk2 : (o.kind == 2) = false := by rw [hk]; rfl
    have bk3 : (o.kind == 3) = false := by rw [hk]; rfl
    have bk4 : (o.kind == 4) = false := by rw [hk]; rfl
    have bk5 : (o.kind == 5) = false := by rw [hk]; rfl
    have bk6 : (o.kind == 6) = false := by rw [hk]; rfl
    have bk7 : (o.kind == 7) = false := by rw [hk]; rfl
    have bk8 : (o.kind == 8) = false := by rw [hk]; rfl
    have bk9 : (o.kind == 9) = true := by rw [hk]; rfl
    have bk10 : (o.kind == 10) = false := by rw [hk]; rfl
    have bk11 : (o.kind == 11) = false := by rw [hk]; rfl
    have bk12 : (o.kind == 12) = false := by rw [hk]; rfl
    have bk13 : (o.kind == 13) = false := by rw [hk]; rfl
    have bk14 : (o.kind == 14) = false := by rw [hk]; rfl
    have bk15 : (o.kind == 15) = false := by rw [hk]; rfl
    have bk16 : (o.kind == 16) = false := by rw [hk]; rfl
    have bk17 : (o.kind == 17) = false := by rw [hk]; rfl
    have bk18 : (o.kind == 18) = false := by rw [hk]; rfl
    have bk19 : (o.kind == 19) = false := by rw [hk]; rfl
    have bk20 : (o.kind == 20) = false := by rw [hk]; rfl
    have bk21 : (o.kind == 21) = false := by rw [hk]; rfl
    have bk22 : (o.kind == 22) = false := by rw [hk]; rfl
    have bk23 : (o.kind == 23) = false := by rw [hk]; rfl
    clear hk
    have HBS := Lib.hid (Base.start w o (.slice dp dn dc))
    obtain ⟨t0, -, t2, -, -, tf, htb⟩ := (H.out.below HBS.out.below).cells5
    go_enter Tryz.func45, Tryz.ntmps45
    go_wp2_with fail
    change Calls _ _ _ (base2 w o (.slice dp dn dc)) _
    generalize base2 w o (.slice dp dn dc) = W0 at *
    obtain ⟨o0, o1, o2, o3, o4, o5, o6, o7, of, olt⟩ := HBS.out.op.cells
    clear t0 t2 tf htb
    have HYW := Lib.hid (HY.out.below HBS.out.below); clear HY
    have HMB := Lib.hid (fun h => mkdir_bad (s := s) (o := o) h)
    have HMO := Lib.hid (fun h => mkdir_ok (s := s) (o := o) h)
    (with_reducible refine (fresh_any tb L k s o.path W0 HYW.out.h HYW.out.wf HYW.out.hl HYW.out.hm).mono ?_)
    rintro e w2 ⟨rfl, hb2⟩
    have hfd := fun h => fresh_dir (p := o.path) HYW.out.wf.cl h
    generalize s.fresh o.path = Q at *
    have HFD := Lib.hid hfd; clear hfd
    clear o0 o1 o2 o3 o4 o5 o6 o7 of olt
    have HBS2 := Lib.hid (HBS.out.below' (hb2.alloc hb2.size (.cells #[I Q.1.node, I Q.1.dir, S Q.1.name] 86)))
    have HB2 := Lib.hid (hb2.alloc hb2.size (.cells #[I Q.1.node, I Q.1.dir, S Q.1.name] 86))
    have HSP := Lib.hid (spot_new w2 Q.1)
    clear hb2
    obtain ⟨s0, s1, s2, sf, slt⟩ := HSP.out.cells
    unfold M.Spot.val
    by_cases hc2 : Q.2 = 0
    · obtain ⟨hd1, hd2, hd3⟩ := HFD.out hc2
      have HRX := Lib.hid (HMO.out hc2)
      have b2 : (Q.2 == 0) = true := by simpa using hc2
      have hmk := make_any tb L s Q.1 2 [] _ (HYW.out.h.below HB2.out) hd1 HYW.out.wf.free hd2 (HYW.out.wf.small (by have := HYW.out.k; omega) hd1) (HYW.out.wf.smallT (by have := HYW.out.k; omega)) (Or.inr (Or.inl rfl)) (by simp)
      unfold M.Spot.val at hmk
      have HMK := Lib.hid hmk; clear hmk
      go_wp2_with fail
      refine HMK.out.mono ?_
      rintro e w9 ⟨rfl, L1, ht9, hx9, hc9⟩
      go_wp2_with fail
      (with_reducible refine (code_any 0 _).mono ?_)
      rintro e wc ⟨rfl, hbc⟩
      have hp : OpPost tb L (M.code 0, s.make Q.1 2 []) W0 (.returned ((M.code 0).val NilS NilS)) wc := ⟨_, L1, rfl, AnsIn.plain rfl rfl, ht9.below hbc, ⟨hx9.mb, hx9.fb, fun k hk' => hx9.old k (Nat.lt_of_lt_of_le hk' HB2.out.size)⟩, ((Tch.ofBelow (S := Owned L) HB2.out).trans hc9).trans (Tch.ofBelow hbc)⟩
      clear s0 s1 s2 sf slt
      have HR := Lib.hid (show s.step o = (M.code 0, s.make Q.1 2 []) from HS.out.trans (by first | exact HRX.out | rfl))
      obtain ⟨hAA, hPP⟩ := OpPost.told (R := (M.code 0, s.make Q.1 2 [])) HBS.out H.out hp
      have HA := Lib.hid hAA; clear hAA hp
      have HP := Lib.hid hPP; clear hPP
      obtain ⟨z0, z1, z2, z3, z4, z5, zf, zlt⟩ := HA.out.cells
      unfold NilS at z4 z5
      unfold M.Ans.val
      go_wp2_with fail
      obtain ⟨r0, r1, r2, r3, r4, r5, -, -⟩ := (HA.out.store (M.code 0) NilS NilS).cells
      unfold put6 NilS at r0 r1 r2 r3 r4 r5
      refine bodyPost_ret (v := M.Ans.val (M.code 0) NilS NilS) (by simp [results, Tryz.results45, go_sem, M.Ans.val, NilS, r0, r1, r2, r3, r4, r5]) rfl ?_
      have hfin := HP.out
      unfold put6 at hfin
      rw [HR.out]
      exact hfin
    · have HRX := Lib.hid (HMB.out hc2)
      have b2 : (Q.2 == 0) = false := by simpa using hc2
      clear hc2
      go_wp2_with fail
      (with_reducible refine (code_any (Q.2) _).mono ?_)
      rintro e wc ⟨rfl, hbc⟩
      have hp : OpPost tb L (M.code Q.2, s) W0 (.returned ((M.code Q.2).val NilS NilS)) wc := ⟨_, L, rfl, AnsIn.plain rfl rfl, (HYW.out.h.below HB2.out).below hbc, Ext.same _ _ L, (Tch.ofBelow (S := Owned L) HB2.out).trans (Tch.ofBelow hbc)⟩
      clear s0 s1 s2 sf slt
      have HR := Lib.hid (show s.step o = (M.code Q.2, s) from HS.out.trans (by first | exact HRX.out | rfl))
      obtain ⟨hAA, hPP⟩ := OpPost.told (R := (M.code Q.2, s)) HBS.out H.out hp
      have HA := Lib.hid hAA; clear hAA hp
      have HP := Lib.hid hPP; clear hPP
      obtain ⟨z0, z1, z2, z3, z4, z5, zf, zlt⟩ := HA.out.cells
      unfold NilS at z4 z5
      unfold M.Ans.val
      go_wp2_with fail
      obtain ⟨r0, r1, r2, r3, r4, r5, -, -⟩ := (HA.out.store (M.code Q.2) NilS NilS).cells
      unfold put6 NilS at r0 r1 r2 r3 r4 r5
      refine bodyPost_ret (v := M.Ans.val (M.code Q.2) NilS NilS) (by simp [results, Tryz.results45, go_sem, M.Ans.val, NilS, r0, r1, r2, r3, r4, r5]) rfl ?_
      have hfin := HP.out
      unfold put6 at hfin
      rw [HR.out]
      exact hfin
  have hk9 := hk; clear hk
  by_cases hk : o.kind = 21
  · skip
    have HS := Lib.hid (show s.step o = (({} : M.Ans), s) from by unfold M.St.step; rw [hk]; rfl)
    have bk1 : (o.kind == 1) = false := by rw [hk]; rfl
    have bk2 : (o.kind == 2) = false := by rw [hk]; rfl
    have bk3 : (o.kind == 3) = false := by rw [hk]; rfl
    have bk4 : (o.kind == 4) = false := by rw [hk]; rfl
    have bk5 : (o.kind == 5) = false := by rw [hk]; rfl
    have bk6 : (o.kind == 6) = false := by rw [hk]; rfl
    have bk7 : (o.kind == 7) = false := by rw [hk]; rfl
    have bk8 : (o.kind == 8) = false := by rw [hk]; rfl
    have bk9 : (o.kind == 9) = false := by rw [hk]; rfl
    have bk10 : (o.kind == 10) = false := by rw [hk]; rfl
    have bk11 : (o.kind == 11) = false := by rw [hk]; rfl
    have bk12 : (o.kind == 12) = false := by rw [hk]; rfl
    have bk13 : (o.kind == 13) = false := by rw [hk]; rfl
    have bk14 : (o.kind == 14) = false := by rw [hk]; rfl
    have bk15 : (o.kind == 15) = false := by rw [hk]; rfl
    have bk16 : (o.kind == 16) = false := by rw [hk]; rfl
    have bk17 : (o.kind == 17) = false := by rw [hk]; rfl
    have bk18 : (o.kind == 18) = false := by rw [hk]; rfl
    have bk19 : (o.kind == 19) = false := by rw [hk]; rfl
    have bk20 : (o.kind == 20) = false := by rw [hk]; rfl
    have bk21 : (o.kind == 21) = true := by rw [hk]; rfl
    have bk22 : (o.kind == 22) = false := by rw [hk]; rfl
    have bk23 : (o.kind == 23) = false := by rw [hk]; rfl
    clear hk
    have HBS := Lib.hid (Base.start w o (.slice dp dn dc))
    go_enter Tryz.func45, Tryz.ntmps45
    go_wp2_with fail
    obtain ⟨r0, r1, r2, r3, r4, r5, -, -⟩ := HBS.out.ans.cells
    unfold NilS at r4 r5
    unfold base2 at r0 r1 r2 r3 r4 r5
    refine bodyPost_ret (v := M.Ans.val {} NilS NilS) (by simp [results, Tryz.results45, go_sem, M.Ans.val, NilS, r0, r1, r2, r3, r4, r5]) rfl ?_
    exact ⟨_, L, rfl, by rw [HS.out]; exact AnsIn.plain rfl rfl, by rw [HS.out]; exact H.out.below HBS.out.below, Ext.same _ _ L, Tch.ofBelow HBS.out.below⟩
  have hk21 := hk; clear hk
  by_cases hk : o.kind = 22
  · by_cases hn : 0 ≤ o.n
    · have HS := Lib.hid (show s.step o = (({} : M.Ans), s) from by unfold M.St.step; rw [hk]; simp [hn])
      have bk1 : (o.kind == 1) = false := by rw [hk]; rfl
      have bk2 : (o.kind == 2) = false := by rw [hk]; rfl
      have bk3 : (o.kind == 3) = false := by rw [hk]; rfl
      have bk4 : (o.kind == 4) = false := by rw [hk]; rfl
      have bk5 : (o.kind == 5) = false := by rw [hk]; rfl
      have bk6 : (o.kind == 6) = false := by rw [hk]; rfl
      have bk7 : (o.kind == 7) = false := by rw [hk]; rfl
      have bk8 : (o.kind == 8) = false := by rw [hk]; rfl
      have bk9 : (o.kind == 9) = false := by rw [hk]; rfl
      have bk10 : (o.kind == 10) = false := by rw [hk]; rfl
      have bk11 : (o.kind == 11) = false := by rw [hk]; rfl
      have bk12 : (o.kind == 12) = false := by rw [hk]; rfl
      have bk13 : (o.kind == 13) = false := by rw [hk]; rfl
      have bk14 : (o.kind == 14) = false := by rw [hk]; rfl
      have bk15 : (o.kind == 15) = false := by rw [hk]; rfl
      have bk16 : (o.kind == 16) = false := by rw [hk]; rfl
      have bk17 : (o.kind == 17) = false := by rw [hk]; rfl
      have bk18 : (o.kind == 18) = false := by rw [hk]; rfl
      have bk19 : (o.kind == 19) = false := by rw [hk]; rfl
      have bk20 : (o.kind == 20) = false := by rw [hk]; rfl
      have bk21 : (o.kind == 21) = false := by rw [hk]; rfl
      have bk22 : (o.kind == 22) = true := by rw [hk]; rfl
      have bk23 : (o.kind == 23) = false := by rw [hk]; rfl
      clear hk
      have HBS := Lib.hid (Base.start w o (.slice dp dn dc))
      go_enter Tryz.func45, Tryz.ntmps45
      go_wp2_with fail
      obtain ⟨r0, r1, r2, r3, r4, r5, -, -⟩ := HBS.out.ans.cells
      unfold NilS at r4 r5
      unfold base2 at r0 r1 r2 r3 r4 r5
      refine bodyPost_ret (v := M.Ans.val {} NilS NilS) (by simp [results, Tryz.results45, go_sem, M.Ans.val, NilS, r0, r1, r2, r3, r4, r5]) rfl ?_
      exact ⟨_, L, rfl, by rw [HS.out]; exact AnsIn.plain rfl rfl, by rw [HS.out]; exact H.out.below HBS.out.below, Ext.same _ _ L, Tch.ofBelow HBS.out.below⟩
    · have HS := Lib.hid (show s.step o = (M.code 2, s) from by unfold M.St.step; rw [hk]; simp [hn])
      have bk1 : (o.kind == 1) = false := by rw [hk]; rfl
      have bk2 : (o.kind == 2) = false := by rw [hk]; rfl
      have bk3 : (o.kind == 3) = false := by rw [hk]; rfl
      have bk4 : (o.kind == 4) = false := by rw [hk]; rfl
      have bk5 : (o.kind == 5) = false := by rw [hk]; rfl
      have bk6 : (o.kind == 6) = false := by rw [hk]; rfl
      have bk7 : (o.kind == 7) = false := by rw [hk]; rfl
      have bk8 : (o.kind == 8) = false := by rw [hk]; rfl
      have bk9 : (o.kind == 9) = false := by rw [hk]; rfl
      have bk10 : (o.kind == 10) = false := by rw [hk]; rfl
      have bk11 : (o.kind == 11) = false := by rw [hk]; rfl
      have bk12 : (o.kind == 12) = false := by rw [hk]; rfl
      have bk13 : (o.kind == 13) = false := by rw [hk]; rfl
      have bk14 : (o.kind == 14) = false := by rw [hk]; rfl
      have bk15 : (o.kind == 15) = false := by rw [hk]; rfl
      have bk16 : (o.kind == 16) = false := by rw [hk]; rfl
      have bk17 : (o.kind == 17) = false := by rw [hk]; rfl
      have bk18 : (o.kind == 18) = false := by rw [hk]; rfl
      have bk19 : (o.kind == 19) = false := by rw [hk]; rfl
      have bk20 : (o.kind == 20) = false := by rw [hk]; rfl
      have bk21 : (o.kind == 21) = false := by rw [hk]; rfl
      have bk22 : (o.kind == 22) = true := by rw [hk]; rfl
      have bk23 : (o.kind == 23) = false := by rw [hk]; rfl
      clear hk
      have HRX := HS
      have HBS := Lib.hid (Base.start w o (.slice dp dn dc))
      obtain ⟨t0, -, t2, -, -, tf, htb⟩ := (H.out.below HBS.out.below).cells5
      go_enter Tryz.func45, Tryz.ntmps45
      go_wp2_with fail
      change Calls _ _ _ (base2 w o (.slice dp dn dc)) _
      generalize base2 w o (.slice dp dn dc) = W0 at *
      obtain ⟨o0, o1, o2, o3, o4, o5, o6, o7, of, olt⟩ := HBS.out.op.cells
      clear t0 t2 tf htb
      (with_reducible refine (code_any 2 _).mono ?_)
      rintro e wc ⟨rfl, hbc⟩
      clear o0 o1 o2 o3 o4 o5 o6 o7 of olt
      have hp : OpPost tb L (M.code 2, s) W0 (.returned ((M.code 2).val NilS NilS)) wc := ⟨_, L, rfl, AnsIn.plain rfl rfl, (H.out.below HBS.out.below).below hbc, Ext.same _ _ L, Tch.ofBelow hbc⟩
      have HR := Lib.hid (show s.step o = (M.code 2, s) from HS.out.trans (by first | exact HRX.out | rfl))
      obtain ⟨hAA, hPP⟩ := OpPost.told (R := (M.code 2, s)) HBS.out H.out hp
      have HA := Lib.hid hAA; clear hAA hp
      have HP := Lib.hid hPP; clear hPP
      obtain ⟨z0, z1, z2, z3, z4, z5, zf, zlt⟩ := HA.out.cells
      unfold NilS at z4 z5
      unfold M.Ans.val
      go_wp2_with fail
      obtain ⟨r0, r1, r2, r3, r4, r5, -, -⟩ := (HA.out.store (M.code 2) NilS NilS).cells
      unfold put6 NilS at r0 r1 r2 r3 r4 r5
      refine bodyPost_ret (v := M.Ans.val (M.code 2) NilS NilS) (by simp [results, Tryz.results45, go_sem, M.Ans.val, NilS, r0, r1, r2, r3, r4, r5]) rfl ?_
      have hfin := HP.out
      unfold put6 at hfin
      rw [HR.out]
      exact hfin
  have hk22 := hk; clear hk
  by_cases hk : o.kind = 23
  · by_cases hn : 0 ≤ o.n
    · have HS := Lib.hid (show s.step o = (({} : M.Ans), s) from by unfold M.St.step; rw [hk]; simp [hn])
      have bk1 : (o.kind == 1) = false := by rw [hk]; rfl
      have bk2 : (o.kind == 2) = false := by rw [hk]; rfl
      have bk3 : (o.kind == 3) = false := by rw [hk]; rfl
      have bk4 : (o.kind == 4) = false := by rw [hk]; rfl
      have bk5 : (o.kind == 5) = false := by rw [hk]; rfl
      have bk6 : (o.kind == 6) = false := by rw [hk]; rfl
      have bk7 : (o.kind == 7) = false := by rw [hk]; rfl
      have bk8 : (o.kind == 8) = false := by rw [hk]; rfl
      have bk9 : (o.kind == 9) = false := by rw [hk]; rfl
      have bk10 : (o.kind == 10) = false := by rw [hk]; rfl
      have bk11 : (o.kind == 11) = false := by rw [hk]; rfl
      have bk12 : (o.kind == 12) = false := by rw [hk]; rfl
      have bk13 : (o.kind == 13) = false := by rw [hk]; rfl
      have bk14 : (o.kind == 14) = false := by rw [hk]; rfl
      have bk15 : (o.kind == 15) = false := by rw [hk]; rfl
      have bk16 : (o.kind == 16) = false := by rw [hk]; rfl
      have bk17 : (o.kind == 17) = false := by rw [hk]; rfl
      have bk18 : (o.kind == 18) = false := by rw [hk]; rfl
      have bk19 : (o.kind == 19) = false := by rw [hk]; rfl
      have bk20 : (o.kind == 20) = false := by rw [hk]; rfl
      have bk21 : (o.kind == 21) = false := by rw [hk]; rfl
      have bk22 : (o.kind == 22) = false := by rw [hk]; rfl
      have bk23 : (o.kind == 23) = true := by rw [hk]; rfl
      clear hk
      have HBS := Lib.hid (Base.start w o (.slice dp dn dc))
      go_enter Tryz.func45, Tryz.ntmps45
      go_wp2_with fail
      obtain ⟨r0, r1, r2, r3, r4, r5, -, -⟩ := HBS.out.ans.cells
      unfold NilS at r4 r5
      unfold base2 at r0 r1 r2 r3 r4 r5
      refine bodyPost_ret (v := M.Ans.val {} NilS NilS) (by simp [results, Tryz.results45, go_sem, M.Ans.val, NilS, r0, r1, r2, r3, r4, r5]) rfl ?_
      exact ⟨_, L, rfl, by rw [HS.out]; exact AnsIn.plain rfl rfl, by rw [HS.out]; exact H.out.below HBS.out.below, Ext.same _ _ L, Tch.ofBelow HBS.out.below⟩
    · have HS := Lib.hid (show s.step o = (M.code 2, s) from by unfold M.St.step; rw [hk]; simp [hn])
      have bk1 : (o.kind == 1) = false := by rw [hk]; rfl
      have bk2 : (o.kind == 2) = false := by rw [hk]; rfl
      have bk3 : (o.kind == 3) = false := by rw [hk]; rfl
      have bk4 : (o.kind == 4) = false := by rw [hk]; rfl
      have bk5 : (o.kind == 5) = false := by rw [hk]; rfl
      have bk6 : (o.kind == 6) = false := by rw [hk]; rfl
      have bk7 : (o.kind == 7) = false := by rw [hk]; rfl
      have bk8 : (o.kind == 8) = false := by rw [hk]; rfl
      have bk9 : (o.kind == 9) = false := by rw [hk]; rfl
      have bk10 : (o.kind == 10) = false := by rw [hk]; rfl
      have bk11 : (o.kind == 11) = false := by rw [hk]; rfl
      have bk12 : (o.kind == 12) = false := by rw [hk]; rfl
      have bk13 : (o.kind == 13) = false := by rw [hk]; rfl
      have bk14 : (o.kind == 14) = false := by rw [hk]; rfl
      have bk15 : (o.kind == 15) = false := by rw [hk]; rfl
      have bk16 : (o.kind == 16) = false := by rw [hk]; rfl
      have bk17 : (o.kind == 17) = false := by rw [hk]; rfl
      have bk18 : (o.kind == 18) = false := by rw [hk]; rfl
      have bk19 : (o.kind == 19) = false := by rw [hk]; rfl
      have bk20 : (o.kind == 20) = false := by rw [hk]; rfl
      have bk21 : (o.kind == 21) = false := by rw [hk]; rfl
      have bk22 : (o.kind == 22) = false := by rw [hk]; rfl
      have bk23 : (o.kind == 23) = true := by rw [hk]; rfl
      clear hk
      have HRX := HS
      have HBS := Lib.hid (Base.start w o (.slice dp dn dc))
      obtain ⟨t0, -, t2, -, -, tf, htb⟩ := (H.out.below HBS.out.below).cells5
      go_enter Tryz.func45, Tryz.ntmps45
      go_wp2_with fail
      change Calls _ _ _ (base2 w o (.slice dp dn dc)) _
      generalize base2 w o (.slice dp dn dc) = W0 at *
      obtain ⟨o0, o1, o2, o3, o4, o5, o6, o7, of, olt⟩ := HBS.out.op.cells
      clear t0 t2 tf htb
      (with_reducible refine (code_any 2 _).mono ?_)
      rintro e wc ⟨rfl, hbc⟩
      clear o0 o1 o2 o3 o4 o5 o6 o7 of olt
      have hp : OpPost tb L (M.code 2, s) W0 (.returned ((M.code 2).val NilS NilS)) wc := ⟨_, L, rfl, AnsIn.plain rfl rfl, (H.out.below HBS.out.below).below hbc, Ext.same _ _ L, Tch.ofBelow hbc⟩
      have HR := Lib.hid (show s.step o = (M.code 2, s) from HS.out.trans (by first | exact HRX.out | rfl))
      obtain ⟨hAA, hPP⟩ := OpPost.told (R := (M.code 2, s)) HBS.out H.out hp
      have HA := Lib.hid hAA; clear hAA hp
      have HP := Lib.hid hPP; clear hPP
      obtain ⟨z0, z1, z2, z3, z4, z5, zf, zlt⟩ := HA.out.cells
      unfold NilS at z4 z5
      unfold M.Ans.val
      go_wp2_with fail
      obtain ⟨r0, r1, r2, r3, r4, r5, -, -⟩ := (HA.out.store (M.code 2) NilS NilS).cells
      unfold put6 NilS at r0 r1 r2 r3 r4 r5
      refine bodyPost_ret (v := M.Ans.val (M.code 2) NilS NilS) (by simp [results, Tryz.results45, go_sem, M.Ans.val, NilS, r0, r1, r2, r3, r4, r5]) rfl ?_
      have hfin := HP.out
      unfold put6 at hfin
      rw [HR.out]
      exact hfin
  have hk23 := hk; clear hk
  have HS := Lib.hid (show s.step o = (M.code 2, s) from step_none hk1 hk2 hk3 hk4 hk5 hk6 hk7 hk8 hk9 hk10 hk11 hk12 hk13 hk14 hk15 hk16 hk17 hk18 hk19 hk20 hk21 hk22 hk23)
  have bk1 : (o.kind == 1) = false := by simpa using hk1
  have bk2 : (o.kind == 2) = false := by simpa using hk2
  have bk3 : (o.kind == 3) = false := by simpa using hk3
  have bk4 : (o.kind == 4) = false := by simpa using hk4
  have bk5 : (o.kind == 5) = false := by simpa using hk5
  have bk6 : (o.kind == 6) = false := by simpa using hk6
  have bk7 : (o.kind == 7) = false := by simpa using hk7
  have bk8 : (o.kind == 8) = false := by simpa using hk8
  have bk9 : (o.kind == 9) = false := by simpa using hk9
  have bk10 : (o.kind == 10) = false := by simpa using hk10
  have bk11 : (o.kind == 11) = false := by simpa using hk11
  have bk12 : (o.kind == 12) = false := by simpa using hk12
  have bk13 : (o.kind == 13) = false := by simpa using hk13
  have bk14 : (o.kind == 14) = false := by simpa using hk14
  have bk15 : (o.kind == 15) = false := by simpa using hk15
  have bk16 : (o.kind == 16) = false := by simpa using hk16
  have bk17 : (o.kind == 17) = false := by simpa using hk17
  have bk18 : (o.kind == 18) = false := by simpa using hk18
  have bk19 : (o.kind == 19) = false := by simpa using hk19
  have bk20 : (o.kind == 20) = false := by simpa using hk20
  have bk21 : (o.kind == 21) = false := by simpa using hk21
  have bk22 : (o.kind == 22) = false := by simpa using hk22
  have bk23 : (o.kind == 23) = false := by simpa using hk23
  have HRX := HS
  clear hk1 hk2 hk3 hk4 hk5 hk6 hk7 hk8 hk9 hk10 hk11 hk12 hk13 hk14 hk15 hk16 hk17 hk18 hk19 hk20 hk21 hk22 hk23
  have HBS := Lib.hid (Base.start w o (.slice dp dn dc))
  obtain ⟨t0, -, t2, -, -, tf, htb⟩ := (H.out.below HBS.out.below).cells5
  go_enter Tryz.func45, Tryz.ntmps45
  go_wp2_with fail
  change Calls _ _ _ (base2 w o (.slice dp dn dc)) _
  generalize base2 w o (.slice dp dn dc) = W0 at *
  obtain ⟨o0, o1, o2, o3, o4, o5, o6, o7, of, olt⟩ := HBS.out.op.cells
  clear t0 t2 tf htb
  (with_reducible refine (code_any 2 _).mono ?_)
  rintro e wc ⟨rfl, hbc⟩
  clear o0 o1 o2 o3 o4 o5 o6 o7 of olt
  have hp : OpPost tb L (M.code 2, s) W0 (.returned ((M.code 2).val NilS NilS)) wc := ⟨_, L, rfl, AnsIn.plain rfl rfl, (H.out.below HBS.out.below).below hbc, Ext.same _ _ L, Tch.ofBelow hbc⟩
  have HR := Lib.hid (show s.step o = (M.code 2, s) from HS.out.trans (by first | exact HRX.out | rfl))
  obtain ⟨hAA, hPP⟩ := OpPost.told (R := (M.code 2, s)) HBS.out H.out hp
  have HA := Lib.hid hAA; clear hAA hp
  have HP := Lib.hid hPP; clear hPP
  obtain ⟨z0, z1, z2, z3, z4, z5, zf, zlt⟩ := HA.out.cells
  unfold NilS at z4 z5
  unfold M.Ans.val
  go_wp2_with fail
  obtain ⟨r0, r1, r2, r3, r4, r5, -, -⟩ := (HA.out.store (M.code 2) NilS NilS).cells
  unfold put6 NilS at r0 r1 r2 r3 r4 r5
  refine bodyPost_ret (v := M.Ans.val (M.code 2) NilS NilS) (by simp [results, Tryz.results45, go_sem, M.Ans.val, NilS, r0, r1, r2, r3, r4, r5]) rfl ?_
  have hfin := HP.out
  unfold put6 at hfin
  rw [HR.out]
  exact hfin
end Go.Proofs.YtpfaccpmgldkeaaGreatDoor
