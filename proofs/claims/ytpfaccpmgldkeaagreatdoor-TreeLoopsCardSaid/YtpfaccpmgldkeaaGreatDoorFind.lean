/- Contracts of find, long. -/
import Derived.Test.YtpfaccpmgldkeaaGreatDoorWf
namespace Go.Proofs.YtpfaccpmgldkeaaGreatDoor
open Go.RowKit Go.MapKept Go.ChangeMaps
set_option maxRecDepth 100000

theorem spot_new (w : World) (sp : M.Spot) : SpotAt (w.alloc (.cells #[I sp.node, I sp.dir, S sp.name] 86)) w.heap.size sp := heap_alloc_new _ _
theorem spot_zero (w : World) : SpotAt (w.alloc (.cells #[I 0, I 0, S []] 86)) w.heap.size {} := heap_alloc_new _ _

theorem find_any (tb : Nat) (L : Lay) (s : M.St) (p : M.Bs) (follow : Bool) (w : World) (h : TreeAt w tb L s) (hcl : Cl s) (hl : p.length ≤ 1000000) (hm : GMax w) :
    Calls Tryz.prog 52 #[Pt tb, S p, .bool follow] w (WalkPost (s.find p follow) w) := by
  have HS := Lib.hid (fun w1 (hb : Below w.heap.size w w1) => split_path p w1 hl (hm.below hb))
  have H := Lib.hid h; clear h
  have HM := Lib.hid hm; clear hm
  have s0 := spot_zero w
  have HS0 := Lib.hid s0; clear s0
  by_cases hc : (M.splitP p).2 = 0
  · obtain ⟨hp1, hp2, _⟩ := splitP_ok hc
    obtain ⟨hp3, hp4⟩ := parts_len hp2
    rw [← hp1] at hp3 hp4
    have HR := Lib.hid (show s.find p follow = s.walk follow (M.fuel (M.splitP p).1 0) { node := 1 } 0 (M.splitP p).1 by unfold M.St.find; rw [if_neg (by rw [hc]; simp)])
    have HC := Lib.hid hc; clear hc hp1 hp2
    have HP4 := Lib.hid hp4; clear hp4
    go_enter Tryz.func52, Tryz.ntmps52
    go_wp2_with fail
    (with_reducible refine (HS.out _ ?_).mono ?_)
    · exact (Below.refl _ _).alloc (Nat.le_refl _) _
    rintro e w1 ⟨v, rfl, hs, hb⟩
    rw [HC.out]
    have HB := Lib.hid (((Below.refl w.heap.size w).alloc (Nat.le_refl _) _).trans (hb.mono (by simp))); 
    have HST := Lib.hid hs
    have HS1 := Lib.hid (HS0.out.below hb); clear hb hs
    go_wp2_with fail
    (with_reducible refine (walk_any tb L s 1 v (M.splitP p).1 follow w1 (H.out.below HB.out) hcl hcl.root HST.out.at hp3 ?_ (HM.out.below HB.out)).mono ?_)
    · exact fun q hq => (World.ownsRow.lt HST.out q hq).2
    rintro e w2 ⟨rfl, hb2⟩
    rw [← HR.out]
    have HS2 := Lib.hid (HS1.out.below hb2)
    have HB2 := Lib.hid (HB.out.trans (hb2.mono HB.out.size)); clear hb2
    obtain ⟨a0, a1, a2, af, alt⟩ := HS2.out.cells
    generalize s.find p follow = R at *
    unfold M.Spot.val
    go_wp2_with fail
    obtain ⟨r0, r1, r2, -, -⟩ := (HS2.out.store R.1).cells
    refine bodyPost_ret (v := (.tuple #[R.1.val, I R.2])) (by simp [results, Tryz.results52, go_sem, M.Spot.val, r0, r1, r2]) rfl ?_
    exact ⟨rfl, Below.store3 HB2.out _ (Nat.le_refl _) _ _ _⟩
  · have HR := Lib.hid (show s.find p follow = ({}, (M.splitP p).2) by unfold M.St.find; rw [if_pos hc])
    have hb1 : ((M.splitP p).2 != 0) = true := by simpa using hc
    clear hc
    go_enter Tryz.func52, Tryz.ntmps52
    go_wp2_with fail
    (with_reducible refine (HS.out _ ?_).mono ?_)
    · exact (Below.refl _ _).alloc (Nat.le_refl _) _
    rintro e w1 ⟨v, rfl, hs, hb⟩
    have HB := Lib.hid (((Below.refl w.heap.size w).alloc (Nat.le_refl _) _).trans (hb.mono (by simp)))
    have HS1 := Lib.hid (HS0.out.below hb); clear hb hs
    obtain ⟨a0, a1, a2, af, alt⟩ := HS1.out.cells
    go_wp2_with fail
    obtain ⟨r0, r1, r2, -, -⟩ := (HS1.out.store {}).cells
    refine bodyPost_ret (v := (.tuple #[M.Spot.val {}, I (M.splitP p).2])) (by simp [results, Tryz.results52, go_sem, M.Spot.val, r0, r1, r2]) rfl ?_
    exact ⟨by rw [HR.out], Below.store3 HB.out _ (Nat.le_refl _) _ _ _⟩

theorem joinL_le (l : List M.Bs) (h : ∀ x ∈ l, x.length ≤ 24) (hl : l.length ≤ 1000) : (M.joinL l).length ≤ 1000000 := by
  have := joinL_len l h
  omega

theorem long_any (v : Value) (l : List M.Bs) (w : World) (h : StrsAt w v l) (hl : ∀ x ∈ l, x.length ≤ 24) (hn : l.length ≤ 1000) :
    Calls Tryz.prog 164 #[v] w fun e w' => e = .returned (.bool (M.long l)) ∧ Below w.heap.size w w' := by
  have HJ := Lib.hid (join_path v l w h (joinL_le l hl hn) (by omega))
  obtain ⟨p, c, rfl⟩ := strsAt_form h
  clear h hl
  unfold M.long
  by_cases h1 : 20 < l.length
  · have hd : decide (20 < l.length) = true := by simpa using h1
    have hd' : decide ((20 : Int) < l.length) = true := decide_eq_true (by omega)
    go_enter Tryz.func164, Tryz.ntmps164
    go_wp2_with fail
    go_ret
    exact ⟨by simp [hd], Below.refl _ _⟩
  · have hd : decide (20 < l.length) = false := by simpa using h1
    have hd' : decide ((20 : Int) < l.length) = false := decide_eq_false (by omega)
    go_enter Tryz.func164, Tryz.ntmps164
    go_wp2_with fail
    (with_reducible refine HJ.out.mono ?_)
    rintro e w1 ⟨rfl, hb⟩
    have HB := Lib.hid hb; clear hb
    go_wp2_with fail
    go_ret
    exact ⟨by simp [hd] <;> omega, HB.out⟩
end Go.Proofs.YtpfaccpmgldkeaaGreatDoor
