/- Contract of mark; the loop that sets all nodes' high. -/
import Derived.Test.YtpfaccpmgldkeaaGreatDoorFor
import Derived.Test.YtpfaccpmgldkeaaGreatDoorAid
import Derived.Test.YtpfaccpmgldkeaaGreatDoorOp
set_option linter.unusedVariables false
set_option linter.unusedSimpArgs false
namespace Go.Proofs.YtpfaccpmgldkeaaGreatDoor
open Go.RowKit Go.MapKept Go.ChangeMaps
set_option maxRecDepth 100000

theorem get_map2 {ν μ : Type} (f : Int → ν → μ) (k : Int) : ∀ l : List (Int × ν), M.get (l.map fun p => (p.1, f p.1 p.2)) k = (M.get l k).map (f k)
  | [] => rfl
  | p :: l => by
    have ih := get_map2 f k l
    unfold M.get at ih ⊢
    by_cases h : p.1 = k
    · simp [h]
    · simp [h] at ih ⊢
      exact ih

theorem srt_keys {ν : Type} {l : List (Int × ν)} (h : Srt M.ltI l) : (l.map (·.1)).Nodup := by
  unfold Srt at h
  unfold List.Nodup
  rw [List.pairwise_map]
  exact h.imp fun {a b} hab e => by rw [e] at hab; simp [M.ltI] at hab
theorem srt_map2 {ν μ : Type} (f : Int × ν → μ) {l : List (Int × ν)} (h : Srt M.ltI l) : Srt M.ltI (l.map fun p => (p.1, f p)) := by
  unfold Srt at *
  rw [List.pairwise_map]
  exact h

/-- All nodes but those of K have turned their high. -/
def highBut (s : M.St) (h : M.Nd → Int) (K : List Int) : M.St := { s with nodes := s.nodes.map fun p => (p.1, if p.1 ∈ K then p.2 else { p.2 with high := h p.2 }) }

section
variable {s : M.St} {h : M.Nd → Int} {K : List Int}
theorem highBut_get (n : Int) : M.get (highBut s h K).nodes n = (M.get s.nodes n).map fun x => if n ∈ K then x else { x with high := h x } :=
  get_map2 (fun (k : Int) (x : M.Nd) => if k ∈ K then x else ({ x with high := h x } : M.Nd)) n s.nodes
theorem highBut_has (n : Int) : (highBut s h K).has n = s.has n := by
  unfold M.St.has
  rw [highBut_get]
  cases M.get s.nodes n <;> rfl
theorem highBut_nd {n : Int} (hn : n ∈ K) : (highBut s h K).nd n = s.nd n := by
  unfold M.St.nd
  rw [highBut_get]
  cases M.get s.nodes n <;> simp [hn]
theorem highBut_all (hK : ∀ p ∈ s.nodes, p.1 ∈ K) : highBut s h K = s := by
  unfold highBut
  have : (s.nodes.map fun p => (p.1, if p.1 ∈ K then p.2 else { p.2 with high := h p.2 })) = s.nodes := by
    conv => rhs; rw [← List.map_id s.nodes]
    apply List.map_congr_left
    intro p hp
    rw [if_pos (hK p hp)]
    rfl
  rw [this]
theorem highBut_step (hs : Srt M.ltI s.nodes) {n : Int} (hn : s.has n = true) {K' : List Int} (hK : ∀ m, m ∈ K ↔ m = n ∨ m ∈ K') (hn' : n ∉ K') : (highBut s h K).set n { s.nd n with high := h (s.nd n) } = highBut s h K' := by
  have hg : M.get (highBut s h K).nodes n = some (s.nd n) := by
    rw [highBut_get, get_of_has hn]
    simp [(hK n).2 (Or.inl rfl)]
  unfold M.St.set
  rw [put_old ltI_ok n _ (highBut s h K).nodes (srt_map2 _ hs) _ hg]
  unfold highBut
  simp only [List.map_map]
  congr 1
  apply List.map_congr_left
  intro p hp
  simp only [Function.comp_apply]
  by_cases e : p.1 = n
  · have hp2 : p.2 = s.nd n := by
      have h1 := get_mem (srt_keys hs) (k := p.1) (v := p.2) hp
      have h2 := get_of_has hn
      rw [e, h2] at h1
      exact (Option.some.inj h1).symm
    rw [if_pos e, if_neg (by rw [e]; exact hn'), e, hp2]
  · rw [if_neg e]
    by_cases e2 : p.1 ∈ K'
    · rw [if_pos ((hK _).2 (Or.inr e2)), if_pos e2]
    · rw [if_neg (fun hm => by rcases (hK _).1 hm with h1 | h1; exact e h1; exact e2 h1), if_neg e2]
end
theorem mark_eq (s : M.St) : highBut s M.Nd.greatest [] = s.mark := by
  unfold highBut M.St.mark
  simp

def MarkPost (tb : Nat) (L : Lay) (s' : M.St) (w : World) (e : Ending) (w' : World) : Prop := e = .returned (.tuple #[]) ∧ TreeAt w' tb L s' ∧ Tch (Owned L) w w'

theorem IterAt.node {w : World} {r b : Nat} {l left : List (Int × Nat)} (h : IterAt I Pt w r b l left) {k j : Nat} {v : Value} (hr : k ≠ r) (hb : k ≠ b) : IterAt I Pt (w.setCell ⟨k, j, none⟩ v) r b l left :=
  h.same (Below.heap_setCell _ _ _ _ (fun e => hr e.symm)) (Below.heap_setCell _ _ _ _ (fun e => hb e.symm))

set_option maxHeartbeats 2000000 in
theorem mark_any (tb : Nat) (L : Lay) (s : M.St) (w : World) (h : TreeAt w tb L s) (hsm : ∀ n, s.has n = true → Small (s.nd n)) :
    Calls Tryz.prog 44 #[Pt tb] w (MarkPost tb L s.mark w) := by
  obtain ⟨t0, -, -, -, -, tf, htb⟩ := h.cells5
  have HM := Lib.hid h.nodes
  have H := Lib.hid h; clear h
  go_enter Tryz.func44, Tryz.ntmps44
  go_wp2_with (first | (at_range; refine wpList_range_mine rfl _ 73 rfl 3 68 Tryz.underlying73 L.mb _ rfl HM.out ?_; intro w0 hit0 hb0) | fail)
  have HIT := Lib.hid hit0; clear hit0
  have HB0 := Lib.hid hb0; clear hb0
  clear t0 tf htb
  go_frame
  go_loopw [3] (fun _ wr => ∃ left, IterAt I Pt wr w.heap.size L.mb (s.nodes.map fun p => (p.1, L.pn p.1)) left ∧ TreeAt wr tb L (highBut s M.Nd.greatest (left.map (·.1))) ∧ Tch (Owned L) w wr ∧ (∀ p ∈ left, p ∈ s.nodes.map fun p => (p.1, L.pn p.1)) ∧ (left.map (·.1)).Nodup) (fun _ wr => wr.rangeLeft L.mb w.heap.size)
  case atStart =>
    refine ⟨_, HIT.out, ?_, Tch.ofBelow HB0.out, fun _ h => h, ?_⟩
    · rw [highBut_all (fun p hp => by simp only [List.map_map, List.mem_map]; exact ⟨p, hp, rfl⟩)]
      exact H.out.below HB0.out
    · rw [List.map_map]
      exact srt_keys H.out.srt
  case round =>
    obtain ⟨left, hit, htr, htc, hsub, hnd⟩ := hrel
    have HI := Lib.hid hit; clear hit
    have HT := Lib.hid htr; clear htr
    have HTC := Lib.hid htc; clear htc
    have HSUB := Lib.hid hsub; clear hsub
    have HND := Lib.hid hnd; clear hnd
    obtain ⟨wo, rfl⟩ : ∃ wo : World, wo = wr := ⟨_, rfl⟩
    go_wp2_with (first | (at_next; refine wpList_next_mine rfl _ rfl w.heap.size L.mb _ _ rfl HI.out ?_ ?_) | fail)
    · intro hl0
      subst hl0
      go_wp2_with fail
      go_end0
      exact ⟨rfl, by rw [← mark_eq]; exact HT.out, HTC.out⟩
    · intro n b left' w1 hperm hit1 hgrow hsz hen
      have HP := Lib.hid hperm; clear hperm
      have hmem := HSUB.out (n, b) (HP.out.mem_iff.2 List.mem_cons_self)
      obtain ⟨p, hp, hpe⟩ := List.mem_map.1 hmem
      obtain rfl : p.1 = n := congrArg Prod.fst hpe
      obtain rfl : L.pn p.1 = b := congrArg Prod.snd hpe
      have hhas : s.has p.1 = true := by
        unfold M.St.has
        rw [get_mem (srt_keys H.out.srt) (k := p.1) (v := p.2) hp]
        rfl
      have hr0 : L.ow w.heap.size = none := H.out.none (Nat.le_refl _)
      have HT1 := Lib.hid (HT.out.keep ((Tch.refl (fun k => L.ow k = none) wo).grown hgrow (fun k e => by cases e; exact hr0)))
      have HTC1 := Lib.hid (HTC.out.grownNew hgrow (fun k e => by cases e; exact Nat.le_refl _))
      have HI1 := Lib.hid hit1; clear hit1 hgrow hsz
      have hin : p.1 ∈ left.map (·.1) := List.mem_map.2 ⟨_, HP.out.mem_iff.2 List.mem_cons_self, rfl⟩
      have hh1 : (highBut s M.Nd.greatest (left.map (·.1))).has p.1 = true := by rw [highBut_has]; exact hhas
      have hnd1 : (highBut s M.Nd.greatest (left.map (·.1))).nd p.1 = s.nd p.1 := highBut_nd hin
      have hnode := HT1.out.nodeOf hh1
      rw [hnd1] at hnode
      have hsmall := hsm p.1 hhas
      have HG := Lib.hid (greatest_any (L.pn p.1) L.ow p.1 (s.nd p.1) w1 hnode (by have := hsmall.written; omega) (by have := hsmall.most; omega) HT1.out.low)
      clear hsmall hmem hpe hnode
      have HPND := Lib.hid (HP.out.map (·.1))
      have HNP := Lib.hid (List.nodup_cons.1 (HPND.out.nodup_iff.1 HND.out))
      have HSUB' := Lib.hid (show ∀ q ∈ left', q ∈ s.nodes.map fun p => (p.1, L.pn p.1) from fun q hq => HSUB.out q (HP.out.mem_iff.2 (List.mem_cons_of_mem _ hq)))
      have HL := Lib.hid (show left'.length < left.length by rw [HP.out.length_eq]; simp)
      go_wp2_with fail
      (with_reducible refine HG.out.mono ?_)
      rintro e w2 ⟨rfl, hb2⟩
      have HT2 := Lib.hid (HT1.out.below hb2)
      have HTC2 := Lib.hid (HTC1.out.andNew (Tch.ofBelow (S := fun _ => False) hb2) (fun _ _ h => h.elim))
      have HI2 := Lib.hid (HI1.out.below hb2)
      clear hb2
      obtain ⟨dv, wv, mv, hnode2⟩ := HT2.out.nodeOf hh1
      have how := hnode2.own
      obtain ⟨-, -, -, -, -, -, -, n7, nf, hnb⟩ := hnode2.cells8
      clear hnode2
      have HT3 := Lib.hid (HT2.out.setHigh hh1 (s.nd p.1).greatest)
      rw [hnd1, highBut_step H.out.srt hhas (K' := left'.map (·.1)) (fun m => by rw [HPND.out.mem_iff]; simp) HNP.out.1] at HT3
      have HI3 := Lib.hid (HI2.out.node (k := L.pn p.1) (j := 7) (v := I (s.nd p.1).greatest) (fun e => by rw [e, hr0] at how; cases how) (fun e => by rw [e, H.out.ownm] at how; cases how))
      have HTC3 := Lib.hid (HTC2.out.setCell (p := ⟨L.pn p.1, 7, none⟩) (by unfold Owned; rw [how]; simp) (I (s.nd p.1).greatest))
      clear how hr0 hh1 hnd1
      go_wp2_with fail
      go_roundw
      case rel => exact ⟨left', HI3.out, HT3.out, HTC3.out, HSUB'.out, HNP.out.2⟩
      case measure => rw [HI3.out.left_eq, HI.out.left_eq]; exact HL.out
end Go.Proofs.YtpfaccpmgldkeaaGreatDoor
