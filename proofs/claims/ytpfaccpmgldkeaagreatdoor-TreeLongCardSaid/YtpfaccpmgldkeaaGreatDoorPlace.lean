/- Contracts of place, fresh. -/
import Derived.Test.YtpfaccpmgldkeaaGreatDoorWay
import Derived.StillTailTactics
set_option linter.unusedVariables false
set_option linter.unusedSimpArgs false
namespace Go.Proofs.YtpfaccpmgldkeaaGreatDoor
open Go.RowKit Go.MapKept Go.ChangeMaps
set_option maxRecDepth 100000

theorem way_len {k : Int} {s : M.St} (h : Wf k s) : ∀ (f : Nat) (n : Int), s.has n = true → (s.way f n).length ≤ f ∧ ∀ x ∈ s.way f n, x.length ≤ 24
  | 0, n, _ => ⟨by simp [M.St.way], by simp [M.St.way]⟩
  | f + 1, n, hn => by
    by_cases h1 : n = 1 ∨ (s.nd n).above = 0
    · rw [way_end h1]; simp
    · obtain ⟨m, _, _, h24, hs⟩ := way_step h hn (fun e => h1 (Or.inl e)) (fun e => h1 (Or.inr e))
      have ih := way_len h f _ (h.up n hn (fun e => h1 (Or.inr e))).1
      rw [hs]
      refine ⟨by simp; omega, fun x hx => ?_⟩
      rcases List.mem_append.1 hx with hx | hx
      · exact ih.2 x hx
      · have e : x = m := by simpa using hx
        rw [e]; exact h24

theorem lastP_name {l : M.Bs} (h : (M.lastP l).2.2 = 0) : (M.lastP l).2.1.length ≤ 24 ∧ (M.lastP l).1.length ≤ 600 := by
  unfold M.lastP at h ⊢
  by_cases hc : (M.splitP l).2 = 0
  · obtain ⟨hp1, hp2, _⟩ := splitP_ok hc
    obtain ⟨hp3, hp4⟩ := parts_len hp2
    rw [← hp1] at hp3 hp4
    rw [if_neg (by rw [hc]; simp)] at h ⊢
    cases hg : (M.splitP l).1.getLast? with
    | none => simp [hg] at h
    | some x =>
      simp only [hg] at h ⊢
      split
      · rename_i hx; simp [hx] at h
      · have hx := List.mem_of_getLast? hg
        refine ⟨hp4 x hx, ?_⟩
        have := joinL_len (M.splitP l).1.dropLast (fun y hy => hp4 y (List.dropLast_subset _ hy))
        simp only [List.length_dropLast] at this
        simp only [M.joinP, List.length_cons]
        omega
  · rw [if_pos hc] at h ⊢
    exact absurd h hc

theorem walk_has {s : M.St} (hcl : Cl s) (fo : Bool) : ∀ (f : Nat) (sp : M.Spot) (hops : Nat) (ps : List M.Bs), s.has sp.node = true → (s.walk fo f sp hops ps).2 = 0 → s.has (s.walk fo f sp hops ps).1.node = true
  | 0, sp, _, _, hn, _ => hn
  | f + 1, sp, hops, [], hn, _ => hn
  | f + 1, sp, hops, p :: ps, hn, h0 => by
    unfold M.St.walk at h0 ⊢
    split at h0
    · cases h0
    · rename_i h1
      rw [if_neg h1]
      split at h0
      · rename_i h2
        rw [if_pos h2]
        exact walk_has hcl fo f _ _ _ (hcl.above _ hn) h0
      · rename_i h2
        rw [if_neg h2]
        cases hg : M.get (s.nd sp.node).names p with
        | none => simp [hg] at h0
        | some c =>
          simp only [hg] at h0 ⊢
          split at h0
          · rename_i h3
            rw [if_pos h3]
            split at h0
            · cases h0
            · rename_i h4
              rw [if_neg h4]
              refine walk_has hcl fo f _ _ _ ?_ h0
              split
              · exact hcl.root
              · exact hn
          · rename_i h3
            rw [if_neg h3]
            exact walk_has hcl fo f _ _ _ (hcl.child _ hn _ _ hg) h0

theorem find_has {s : M.St} (hcl : Cl s) {p : M.Bs} {fo : Bool} (h0 : (s.find p fo).2 = 0) : s.has (s.find p fo).1.node = true := by
  unfold M.St.find at h0 ⊢
  split at h0
  · rename_i h; exact absurd h0 h
  · rename_i h
    rw [if_neg h]
    exact walk_has hcl fo _ _ _ _ hcl.root h0

theorem place_bad {s : M.St} {p : M.Bs} (h : (M.lastP p).2.2 ≠ 0) : s.place p = ({}, (M.lastP p).2.2) := by unfold M.St.place; rw [if_pos h]
theorem place_lost {s : M.St} {p : M.Bs} (h : (M.lastP p).2.2 = 0) (h2 : (s.find (M.lastP p).1 true).2 ≠ 0) : s.place p = ({}, (s.find (M.lastP p).1 true).2) := by
  unfold M.St.place; rw [if_neg (by simp [h])]; simp only; rw [if_pos h2]
theorem place_notdir {s : M.St} {p : M.Bs} (h : (M.lastP p).2.2 = 0) (h2 : (s.find (M.lastP p).1 true).2 = 0) (h3 : (s.nd (s.find (M.lastP p).1 true).1.node).kind ≠ 2) : s.place p = ({}, 7) := by
  unfold M.St.place; rw [if_neg (by simp [h])]; simp only; rw [if_neg (by simp [h2]), if_pos h3]
theorem place_long {s : M.St} {p : M.Bs} (h : (M.lastP p).2.2 = 0) (h2 : (s.find (M.lastP p).1 true).2 = 0) (h3 : (s.nd (s.find (M.lastP p).1 true).1.node).kind = 2) (h4 : M.long (s.way s.deepest (s.find (M.lastP p).1 true).1.node ++ [(M.lastP p).2.1]) = true) : s.place p = ({}, 11) := by
  unfold M.St.place; rw [if_neg (by simp [h])]; simp only; rw [if_neg (by simp [h2]), if_neg (by simp [h3]), if_pos h4]
theorem place_ok {s : M.St} {p : M.Bs} (h : (M.lastP p).2.2 = 0) (h2 : (s.find (M.lastP p).1 true).2 = 0) (h3 : (s.nd (s.find (M.lastP p).1 true).1.node).kind = 2) (h4 : M.long (s.way s.deepest (s.find (M.lastP p).1 true).1.node ++ [(M.lastP p).2.1]) = false) :
    s.place p = (⟨(M.get (s.nd (s.find (M.lastP p).1 true).1.node).names (M.lastP p).2.1).getD 0, (s.find (M.lastP p).1 true).1.node, (M.lastP p).2.1⟩, 0) := by
  unfold M.St.place; rw [if_neg (by simp [h])]; simp only; rw [if_neg (by simp [h2]), if_neg (by simp [h3]), if_neg (by simp [h4])]

set_option maxHeartbeats 4000000 in
theorem spot_any (tb : Nat) (L : Lay) (k : Int) (s : M.St) (p : M.Bs) (w : World) (h : TreeAt w tb L s) (hwf : Wf k s) (hl : p.length ≤ 1000000) (hm : GMax w) :
    Calls Tryz.prog 110 #[Pt tb, S p] w (WalkPost (s.place p) w) := by
  have HL := Lib.hid (fun w1 (hb : Below w.heap.size w w1) => last_path p w1 hl (hm.below hb))
  have H := Lib.hid h; clear h
  have HM := Lib.hid hm; clear hm
  have s0 := spot_zero w
  have HS0 := Lib.hid s0; clear s0
  by_cases hc : (M.lastP p).2.2 = 0
  · obtain ⟨hn24, hah⟩ := lastP_name hc
    have HC := Lib.hid hc; clear hc
    go_enter Tryz.func110, Tryz.ntmps110
    go_wp2_with fail
    (with_reducible refine (HL.out _ ?_).mono ?_)
    · exact (Below.refl _ _).alloc (Nat.le_refl _) _
    rintro e w1 ⟨rfl, hb⟩
    rw [HC.out]
    have HB := Lib.hid (((Below.refl w.heap.size w).alloc (Nat.le_refl _) _).trans (hb.mono (by simp)))
    have HS1 := Lib.hid (HS0.out.below hb); clear hb
    go_wp2_with fail
    (with_reducible refine (find_any tb L s (M.lastP p).1 true w1 (H.out.below HB.out) hwf.cl (by omega) (HM.out.below HB.out)).mono ?_)
    rintro e w2 ⟨rfl, hb2⟩
    have HS2 := Lib.hid (HS1.out.below hb2)
    have HB2 := Lib.hid (HB.out.trans (hb2.mono HB.out.size)); clear hb2
    by_cases hc2 : (s.find (M.lastP p).1 true).2 = 0
    · have hq := find_has hwf.cl hc2
      have HC2 := Lib.hid hc2; clear hc2
      rw [HC2.out]
      have HR0 := Lib.hid (place_notdir HC.out HC2.out)
      have HR1 := Lib.hid (place_long HC.out HC2.out)
      have HR2 := Lib.hid (place_ok HC.out HC2.out)
      generalize hRR : (s.find (M.lastP p).1 true).1 = R at *
      have HRR := Lib.hid hRR; clear hRR
      unfold M.Spot.val
      go_wp2_with fail
      have s2 := spot_new w2 R
      have HSR := Lib.hid s2; clear s2
      have HB3 := Lib.hid (HB2.out.alloc HB2.out.size (.cells #[I R.node, I R.dir, S R.name] 86))
      have hl := fun m : Nat => (H.out.below (below_drewN HB3.out m)).look hq
      have HT := Lib.hid (fun m : Nat => H.out.below (below_drewN HB3.out m))
      obtain ⟨t0, -, -, -, -, tf, htb⟩ := (H.out.below HB3.out).cells5
      obtain ⟨dv, wv, mv, hnode⟩ := (H.out.below HB3.out).nodeOf hq
      obtain ⟨n0', -, -, n3, -, -, -, -, nf, hnb⟩ := hnode.cells8
      have HN := Lib.hid hnode; clear hnode
      obtain ⟨b0, b1, b2, bf, blt⟩ := HSR.out.cells
      have hS0 := HS2.out.below ((Below.refl _ _).alloc (Nat.le_refl _) (.cells #[I R.node, I R.dir, S R.name] 86))
      obtain ⟨a0, a1, a2, af, alt⟩ := hS0.cells
      have HS3 := Lib.hid hS0; clear hS0
      generalize hw3 : w2.alloc (.cells #[I R.node, I R.dir, S R.name] 86) = w3 at *
      have HW3 := Lib.hid hw3; clear hw3
      go_quiet (fail)
      by_cases hk : (s.nd R.node).kind = 2
      · have q2 : ((s.nd R.node).kind != 2) = false := by simpa using hk
        obtain ⟨m, rfl, hom, hsrt, hmap⟩ := HN.out.dir hk
        have HMAP := Lib.hid hmap; clear hmap
        have HK := Lib.hid hk; clear hk
        clear hl
        have HTq := Lib.hid (HT.out nq)
        have hwl := way_len hwf s.deepest R.node hq
        have HWL := Lib.hid hwl.2
        have HLL := Lib.hid (show (s.way s.deepest R.node).length ≤ 21 from hwl.1)
        clear hwl
        go_wp2_with fail
        (with_reducible refine (way_any tb L k s R.node _ HTq.out hwf hq).mono ?_)
        rintro e w4 ⟨v, rfl, hs4, hb4⟩
        have HS4 := Lib.hid hs4; clear hs4
        have HB4 := Lib.hid hb4; clear hb4
        go_wp2_with (first | (at_builtin; refine wpList_append_strs rfl _ _ rfl w3.heap.size _ _ (s.way s.deepest R.node) [(M.lastP p).2.1] rfl (World.ownsRow.alloc HS4.out _) rfl (strsAt_one _ _ _) (by have := HLL.out; simp; omega) (by have : w3.heap.size ≤ w4.heap.size := HB4.out.size; simp; omega) ?_; intro v5 w5 hs5 hg5) | fail)
        have HB5 := Lib.hid (((HB4.out.mono (Nat.le_refl w3.heap.size)).alloc HB4.out.size (.cells #[S (M.lastP p).2.1] 9)).grown hg5 (by have : w3.heap.size ≤ w4.heap.size := HB4.out.size; simp; omega) (fun q hq => (World.ownsRow.lt HS4.out q hq).1)); clear hg5
        have HB5' := Lib.hid ((below_drewN (Below.refl w3.heap.size w3) nq).trans HB5.out)
        (with_reducible refine (long_any v5 (s.way s.deepest R.node ++ [(M.lastP p).2.1]) w5 hs5.at ?_ (by have := HLL.out; simp; omega)).mono ?_)
        · intro x hx
          rcases List.mem_append.1 hx with hx | hx
          · exact HWL.out x hx
          · have e : x = (M.lastP p).2.1 := by simpa using hx
            rw [e]; exact hn24
        rintro e w6 ⟨rfl, hb6⟩
        have HB6 := Lib.hid (HB5'.out.trans (hb6.mono HB5'.out.size)); clear hb6 hs5
        have HS6 := Lib.hid (HS3.out.below HB6.out)
        have HSR6 := Lib.hid (HSR.out.below HB6.out)
        have HBW := Lib.hid (HB3.out.trans (HB6.out.mono HB3.out.size))
        have HT6 := Lib.hid (H.out.below HBW.out)
        clear t0 tf htb n0' n3 nf hnb b0 b1 b2 bf blt a0 a1 a2 af alt
        cases hlg : M.long (s.way s.deepest R.node ++ [(M.lastP p).2.1])
        · have HR := Lib.hid (HR2.out HK.out hlg)
          have HN6 := Lib.hid (HN.out.keep (w' := w6) (fun k j hk => HB6.out.block k (by have := (H.out.below HB3.out).low k _ hk; omega)) (fun _ _ h => h))
          have HMAP6 := Lib.hid (HMAP.out.same (w' := w6.drew) (HB6.out.block m (MapAt.lt HMAP.out)))
          have hlk : (Instr.lookup 69 (.map (some m)) (S (M.lastP p).2.1) false).run Tryz.prog w6.drew = .ok (I ((M.get (s.nd R.node).names (M.lastP p).2.1).getD 0)) w6.drew := by
            cases hg : M.get (s.nd R.node).names (M.lastP p).2.1 with
            | none => exact run_lookup_none (P := Tryz.prog) strKeys Tryz.underlying69 Tryz.underlying9 HMAP6.out hg (zeroInt _) false
            | some c => exact run_lookup_some (P := Tryz.prog) strKeys Tryz.underlying69 Tryz.underlying9 HMAP6.out hg false
          have HLK := Lib.hid hlk; clear hlk hlg
          go_wp2_with fail
          refine wp_region_still_tail 10 (by kernel_rfl) (by kernel_rfl) ?_
          change wpStill _ _ (World.drew w6) _ _ _
          simp only [List.take_succ_cons, List.take_zero, List.drop_succ_cons, List.drop_zero]
          obtain ⟨-, -, -, n3, -, -, -, -, nf, hnb⟩ := (HN6.out.keep (w' := w6.drew) (fun _ _ _ => rfl) (fun _ _ h => h)).cells8
          obtain ⟨b0, -, -, -, -⟩ := (show SpotAt w6.drew _ _ from HSR6.out).cells
          have hlk := HLK.out
          generalize (M.get (s.nd R.node).names (M.lastP p).2.1).getD 0 = g0 at *
          repeat still_step
          refine wpStill_nil ?_
          change wpList _ _ _ _ _ (World.drew w6)
          obtain ⟨a0, a1, a2, af, alt⟩ := (show SpotAt w6.drew _ _ from HS6.out).cells
          clear n3 nf hnb b0 hlk HLK HMAP6 HN6
          have HS7 := Lib.hid (show SpotAt w6.drew _ _ from HS6.out)
          have HBW7 := Lib.hid HBW.out.drew
          generalize hw7 : w6.drew = w7 at *
          clear hw7
          go_wp2_with fail
          obtain ⟨r0, r1, r2, -, -⟩ := (HS7.out.store ⟨g0, R.node, (M.lastP p).2.1⟩).cells
          refine bodyPost_ret (v := (.tuple #[M.Spot.val ⟨g0, R.node, (M.lastP p).2.1⟩, I 0])) (by simp [results, Tryz.results110, go_sem, M.Spot.val, r0, r1, r2]) rfl ?_
          exact ⟨by rw [HR.out], Below.store3 HBW7.out _ (Nat.le_refl _) _ _ _⟩
        · have HR := Lib.hid (HR1.out HK.out hlg)
          clear hlg
          obtain ⟨a0, a1, a2, af, alt⟩ := HS6.out.cells
          go_wp2_with fail
          obtain ⟨r0, r1, r2, -, -⟩ := (HS6.out.store {}).cells
          refine bodyPost_ret (v := (.tuple #[M.Spot.val {}, I 11])) (by simp [results, Tryz.results110, go_sem, M.Spot.val, r0, r1, r2]) rfl ?_
          exact ⟨by rw [HR.out], Below.store3 HBW.out _ (Nat.le_refl _) _ _ _⟩
      · have q2 : ((s.nd R.node).kind != 2) = true := by simpa using hk
        have HR := Lib.hid (HR0.out hk)
        clear hk
        go_wp2_with fail
        obtain ⟨r0, r1, r2, -, -⟩ := ((show SpotAt (w3.drewN nq) w.heap.size {} from HS3.out).store {}).cells
        refine bodyPost_ret (v := (.tuple #[M.Spot.val {}, I 7])) (by simp [results, Tryz.results110, go_sem, M.Spot.val, r0, r1, r2]) rfl ?_
        exact ⟨by rw [HR.out], Below.store3 (below_drewN HB3.out _) _ (Nat.le_refl _) _ _ _⟩
    · have HR := Lib.hid (place_lost HC.out hc2)
      have hb1 : ((s.find (M.lastP p).1 true).2 != 0) = true := by simpa using hc2
      clear hc2
      generalize (s.find (M.lastP p).1 true).2 = E at *
      generalize (s.find (M.lastP p).1 true).1 = R at *
      unfold M.Spot.val
      obtain ⟨a0, a1, a2, af, alt⟩ := HS2.out.cells
      go_wp2_with fail
      obtain ⟨r0, r1, r2, -, -⟩ := ((HS2.out.store {}).below ((Below.refl _ _).alloc (Nat.le_refl _) (.cells #[I R.node, I R.dir, S R.name] 86))).cells
      refine bodyPost_ret (v := (.tuple #[M.Spot.val {}, I E])) (by simp [results, Tryz.results110, go_sem, M.Spot.val, r0, r1, r2]) rfl ?_
      exact ⟨by rw [HR.out], (Below.store3 HB2.out _ (Nat.le_refl _) _ _ _).alloc (Below.store3 HB2.out _ (Nat.le_refl _) _ _ _).size _⟩
  · have HR := Lib.hid (place_bad (s := s) hc)
    have hb1 : ((M.lastP p).2.2 != 0) = true := by simpa using hc
    clear hc
    go_enter Tryz.func110, Tryz.ntmps110
    go_wp2_with fail
    (with_reducible refine (HL.out _ ?_).mono ?_)
    · exact (Below.refl _ _).alloc (Nat.le_refl _) _
    rintro e w1 ⟨rfl, hb⟩
    have HB := Lib.hid (((Below.refl w.heap.size w).alloc (Nat.le_refl _) _).trans (hb.mono (by simp)))
    have HS1 := Lib.hid (HS0.out.below hb); clear hb
    obtain ⟨a0, a1, a2, af, alt⟩ := HS1.out.cells
    go_wp2_with fail
    obtain ⟨r0, r1, r2, -, -⟩ := (HS1.out.store {}).cells
    refine bodyPost_ret (v := (.tuple #[M.Spot.val {}, I (M.lastP p).2.2])) (by simp [results, Tryz.results110, go_sem, M.Spot.val, r0, r1, r2]) rfl ?_
    exact ⟨by rw [HR.out], Below.store3 HB.out _ (Nat.le_refl _) _ _ _⟩

theorem fresh_any (tb : Nat) (L : Lay) (k : Int) (s : M.St) (p : M.Bs) (w : World) (h : TreeAt w tb L s) (hwf : Wf k s) (hl : p.length ≤ 1000000) (hm : GMax w) :
    Calls Tryz.prog 76 #[Pt tb, S p] w (WalkPost (s.fresh p) w) := by
  have HP := Lib.hid (fun w1 (hb : Below w.heap.size w w1) => spot_any tb L k s p w1 (h.below hb) hwf hl (hm.below hb))
  have s0 := spot_zero w
  have HS0 := Lib.hid s0; clear s0
  have hr : s.fresh p = if (s.place p).2 ≠ 0 then ({}, (s.place p).2) else if (s.place p).1.node ≠ 0 then ({}, 6) else ((s.place p).1, 0) := rfl
  have HR := Lib.hid hr
  clear h hm hr
  generalize s.place p = R at *
  by_cases h1 : R.2 = 0
  all_goals
    first
      | have b1 : (R.2 != 0) = false := by simpa using h1
      | have b1 : (R.2 != 0) = true := by simpa using h1
    go_enter Tryz.func76, Tryz.ntmps76
    go_wp2_with fail
    (with_reducible refine (HP.out _ ?_).mono ?_)
    · exact (Below.refl _ _).alloc (Nat.le_refl _) _
    rintro e w1 ⟨rfl, hb⟩
    have HB := Lib.hid (((Below.refl w.heap.size w).alloc (Nat.le_refl _) _).trans (hb.mono (by simp)))
    have HS1 := Lib.hid (HS0.out.below hb); clear hb
    unfold M.Spot.val
    obtain ⟨a0, a1, a2, af, alt⟩ := HS1.out.cells
  · rw [if_neg (by simp [h1])] at HR
    by_cases h2 : R.1.node = 0
    · have b2 : (R.1.node != 0) = false := by simpa using h2
      rw [if_neg (by simp [h2])] at HR
      clear h1 h2
      go_wp2_with fail
      obtain ⟨r0, r1, r2, -, -⟩ := ((HS1.out.store R.1).below ((Below.refl _ _).alloc (Nat.le_refl _) (.cells #[I R.1.node, I R.1.dir, S R.1.name] 86))).cells
      refine bodyPost_ret (v := (.tuple #[R.1.val, I 0])) (by simp [results, Tryz.results76, go_sem, M.Spot.val, r0, r1, r2]) rfl ?_
      exact ⟨by rw [HR.out], (Below.store3 HB.out _ (Nat.le_refl _) _ _ _).alloc (Below.store3 HB.out _ (Nat.le_refl _) _ _ _).size _⟩
    · have b2 : (R.1.node != 0) = true := by simpa using h2
      rw [if_pos h2] at HR
      clear h1
      go_wp2_with fail
      obtain ⟨r0, r1, r2, -, -⟩ := ((HS1.out.store {}).below ((Below.refl _ _).alloc (Nat.le_refl _) (.cells #[I R.1.node, I R.1.dir, S R.1.name] 86))).cells
      refine bodyPost_ret (v := (.tuple #[M.Spot.val {}, I 6])) (by simp [results, Tryz.results76, go_sem, M.Spot.val, r0, r1, r2]) rfl ?_
      exact ⟨by rw [HR.out], (Below.store3 HB.out _ (Nat.le_refl _) _ _ _).alloc (Below.store3 HB.out _ (Nat.le_refl _) _ _ _).size _⟩
  · rw [if_pos h1] at HR
    go_wp2_with fail
    obtain ⟨r0, r1, r2, -, -⟩ := ((HS1.out.store {}).below ((Below.refl _ _).alloc (Nat.le_refl _) (.cells #[I R.1.node, I R.1.dir, S R.1.name] 86))).cells
    refine bodyPost_ret (v := (.tuple #[M.Spot.val {}, I R.2])) (by simp [results, Tryz.results76, go_sem, M.Spot.val, r0, r1, r2]) rfl ?_
    exact ⟨by rw [HR.out], (Below.store3 HB.out _ (Nat.le_refl _) _ _ _).alloc (Below.store3 HB.out _ (Nat.le_refl _) _ _ _).size _⟩
end Go.Proofs.YtpfaccpmgldkeaaGreatDoor
