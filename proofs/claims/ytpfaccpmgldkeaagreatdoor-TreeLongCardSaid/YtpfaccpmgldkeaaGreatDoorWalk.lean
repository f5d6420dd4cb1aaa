/- Contracts of walk, find. -/
import Derived.Test.YtpfaccpmgldkeaaGreatDoorMake
import Derived.Test.YtpfaccpmgldkeaaGreatDoorSl
set_option linter.unusedVariables false
set_option linter.unusedSimpArgs false
namespace Go.Proofs.YtpfaccpmgldkeaaGreatDoor
open Go.RowKit Go.MapKept Go.ChangeMaps
set_option maxRecDepth 100000

/-- A tree in which paths can be gone. -/
structure Cl (s : M.St) : Prop where
  root : s.has 1 = true
  child : ∀ n, s.has n = true → ∀ m c, M.get (s.nd n).names m = some c → s.has c = true
  above : ∀ n, s.has n = true → s.has (s.above n) = true
  target : ∀ n, s.has n = true → (s.nd n).kind = 3 → (s.nd n).data.length ≤ 20736

theorem targetP_len (t : M.Bs) : (M.targetP t).1.length ≤ 20 := by
  unfold M.targetP
  split
  · simp
  · split
    · simp
    · rename_i h
      exact (parts_len (by cases hp : (M.parts t).2 <;> simp_all)).1

def lenV : Value → Nat | .slice _ n _ => n | _ => 0

/-- A spot in memory. -/
def SpotAt (w : World) (b : Nat) (sp : M.Spot) : Prop := w.heap[b]? = some (.cells #[I sp.node, I sp.dir, S sp.name] 86 (0, 0))

theorem SpotAt.cells {w : World} {b : Nat} {sp : M.Spot} (h : SpotAt w b sp) : w.cell? ⟨b, 0, none⟩ = some (I sp.node) ∧ w.cell? ⟨b, 1, none⟩ = some (I sp.dir) ∧ w.cell? ⟨b, 2, none⟩ = some (S sp.name) ∧ (∀ j, w.frozen? ⟨b, j, none⟩ = false) ∧ b < w.heap.size := by
  unfold SpotAt at h
  refine ⟨?_, ?_, ?_, fun j => frozen_of_row w b _ _ _ h, (Array.getElem?_eq_some_iff.1 h).1⟩ <;> (rw [cell_of_row w b _ _ _ _ h]; rfl)

theorem SpotAt.below {w w' : World} {b : Nat} {sp : M.Spot} (h : SpotAt w b sp) (hb : Below w.heap.size w w') : SpotAt w' b sp := by
  unfold SpotAt at *
  rw [hb.block b (Array.getElem?_eq_some_iff.1 h).1]
  exact h

def WalkPost (r : M.Spot × Int) (w : World) (e : Ending) (w' : World) : Prop := e = .returned (.tuple #[r.1.val, I r.2]) ∧ Below w.heap.size w w'

/-- How much a walk still has ahead. -/
def ahead (hops len : Nat) : Nat := (8 - hops) * 21 + len

theorem below_drewN {B : Nat} {w w' : World} (h : Below B w w') (n : Nat) : Below B w (w'.drewN n) := ⟨h.os, h.tape, h.output, h.size, h.block⟩
theorem walk_nil (s : M.St) (fo : Bool) (f : Nat) (sp : M.Spot) (h : Nat) : s.walk fo (f + 1) sp h [] = (sp, 0) := rfl
theorem walk_notdir {s : M.St} {fo : Bool} {f : Nat} {sp : M.Spot} {h : Nat} {p : M.Bs} {ps : List M.Bs} (hk : (s.nd sp.node).kind ≠ 2) : s.walk fo (f + 1) sp h (p :: ps) = ({}, 7) := by
  unfold M.St.walk; rw [if_pos hk]
theorem walk_up {s : M.St} {fo : Bool} {f : Nat} {sp : M.Spot} {h : Nat} {p : M.Bs} {ps : List M.Bs} (hk : (s.nd sp.node).kind = 2) (hp : p = M.dots) : s.walk fo (f + 1) sp h (p :: ps) = s.walk fo f { node := s.above sp.node } h ps := by
  conv => lhs; unfold M.St.walk
  rw [if_neg (by simp [hk]), if_pos hp]
theorem walk_none {s : M.St} {fo : Bool} {f : Nat} {sp : M.Spot} {h : Nat} {p : M.Bs} {ps : List M.Bs} (hk : (s.nd sp.node).kind = 2) (hp : p ≠ M.dots) (hg : M.get (s.nd sp.node).names p = none) : s.walk fo (f + 1) sp h (p :: ps) = ({}, 5) := by
  conv => lhs; unfold M.St.walk
  rw [if_neg (by simp [hk]), if_neg hp, hg]
theorem walk_loop {s : M.St} {fo : Bool} {f : Nat} {sp : M.Spot} {h : Nat} {p : M.Bs} {ps : List M.Bs} {c : Int} (hk : (s.nd sp.node).kind = 2) (hp : p ≠ M.dots) (hg : M.get (s.nd sp.node).names p = some c) (hl : (s.nd c).kind = 3 ∧ (ps ≠ [] ∨ fo = true)) (hh : 8 ≤ h) :
    s.walk fo (f + 1) sp h (p :: ps) = ({}, 12) := by
  conv => lhs; unfold M.St.walk
  rw [if_neg (by simp [hk]), if_neg hp, hg]
  simp only
  rw [if_pos hl, if_pos hh]
theorem walk_link {s : M.St} {fo : Bool} {f : Nat} {sp : M.Spot} {h : Nat} {p : M.Bs} {ps : List M.Bs} {c : Int} (hk : (s.nd sp.node).kind = 2) (hp : p ≠ M.dots) (hg : M.get (s.nd sp.node).names p = some c) (hl : (s.nd c).kind = 3 ∧ (ps ≠ [] ∨ fo = true)) (hh : ¬ 8 ≤ h) :
    s.walk fo (f + 1) sp h (p :: ps) = s.walk fo f (if (M.targetP (s.nd c).data).2.1 then { node := 1 } else { node := sp.node }) (h + 1) ((M.targetP (s.nd c).data).1 ++ ps) := by
  conv => lhs; unfold M.St.walk
  rw [if_neg (by simp [hk]), if_neg hp, hg]
  simp only
  rw [if_pos hl, if_neg hh]
theorem walk_on {s : M.St} {fo : Bool} {f : Nat} {sp : M.Spot} {h : Nat} {p : M.Bs} {ps : List M.Bs} {c : Int} (hk : (s.nd sp.node).kind = 2) (hp : p ≠ M.dots) (hg : M.get (s.nd sp.node).names p = some c) (hl : ¬ ((s.nd c).kind = 3 ∧ (ps ≠ [] ∨ fo = true))) :
    s.walk fo (f + 1) sp h (p :: ps) = s.walk fo f ⟨c, sp.node, p⟩ h ps := by
  conv => lhs; unfold M.St.walk
  rw [if_neg (by simp [hk]), if_neg hp, hg]
  simp only
  rw [if_neg hl]

theorem SpotAt.store {w : World} {b : Nat} {sp : M.Spot} (h : SpotAt w b sp) (q : M.Spot) : SpotAt (((w.setCell ⟨b, 0, none⟩ (I q.node)).setCell ⟨b, 1, none⟩ (I q.dir)).setCell ⟨b, 2, none⟩ (S q.name)) b q := by
  unfold SpotAt at *
  have e0 := heap_setCell_same w b 0 _ _ (I q.node) h
  have e1 := heap_setCell_same _ b 1 _ _ (I q.dir) e0
  have e2 := heap_setCell_same _ b 2 _ _ (S q.name) e1
  rw [e2]
  rfl
theorem SpotAt.other {w : World} {b b' : Nat} {sp : M.Spot} (h : SpotAt w b sp) (q : M.Spot) (hne : b ≠ b') : SpotAt (((w.setCell ⟨b', 0, none⟩ (I q.node)).setCell ⟨b', 1, none⟩ (I q.dir)).setCell ⟨b', 2, none⟩ (S q.name)) b sp := by
  unfold SpotAt at *
  rw [Below.heap_setCell _ _ _ _ hne, Below.heap_setCell _ _ _ _ hne, Below.heap_setCell _ _ _ _ hne]
  exact h
theorem StrsAt.store {w : World} {v : Value} {l : List M.Bs} (h : StrsAt w v l) (b' : Nat) (q : M.Spot) (hne : ∀ b, v.ownBlock = some b → b ≠ b') : StrsAt (((w.setCell ⟨b', 0, none⟩ (I q.node)).setCell ⟨b', 1, none⟩ (I q.dir)).setCell ⟨b', 2, none⟩ (S q.name)) v l := by
  rcases h with h | ⟨b, o, c, h1, h2, h3, h4⟩
  · exact Or.inl h
  · refine Or.inr ⟨b, o, c, h1, h2, by simp [World.setCell]; exact h3, fun j x hx => ?_⟩
    have hn := hne b (by rw [h1]; rfl)
    rw [← h4 j x hx]
    refine World.cell?_of_block ?_
    show (((w.setCell ⟨b', 0, none⟩ (I q.node)).setCell ⟨b', 1, none⟩ (I q.dir)).setCell ⟨b', 2, none⟩ (S q.name)).heap[b]? = w.heap[b]?
    rw [Below.heap_setCell _ _ _ _ hn, Below.heap_setCell _ _ _ _ hn, Below.heap_setCell _ _ _ _ hn]
theorem Below.store3 {w w' : World} (h : Below w.heap.size w w') (b : Nat) (hb : w.heap.size ≤ b) (x y z : Value) : Below w.heap.size w (((w'.setCell ⟨b, 0, none⟩ x).setCell ⟨b, 1, none⟩ y).setCell ⟨b, 2, none⟩ z) :=
  ((h.setCell hb _).setCell hb _).setCell hb _

def Off (B : Nat) (v : Value) : Prop := ∀ b, v.ownBlock = some b → b ≠ B ∧ b ≠ B + 1

set_option maxHeartbeats 4000000 in
theorem walk_any (tb : Nat) (L : Lay) (s : M.St) (n0 : Int) (v0 : Value) (parts : List M.Bs) (follow : Bool) (w : World) (h : TreeAt w tb L s) (hcl : Cl s) (hn : s.has n0 = true) (hv : StrsAt w v0 parts) (hlen : parts.length ≤ 20) (hoff : ∀ b, v0.ownBlock = some b → b < w.heap.size) (hm : GMax w) :
    Calls Tryz.prog 89 #[Pt tb, I n0, v0, .bool follow] w (WalkPost (s.walk follow (M.fuel parts 0) { node := n0 } 0 parts) w) := by
  have H := Lib.hid h; clear h
  have HCL := Lib.hid hcl; clear hcl
  generalize hR : s.walk follow (M.fuel parts 0) { node := n0 } 0 parts = R
  have HR := Lib.hid hR; clear hR
  have HV := Lib.hid hv; clear hv
  have HM := Lib.hid hm; clear hm
  have HOF := Lib.hid hoff; clear hoff
  have HHN := Lib.hid hn; clear hn
  go_enter Tryz.func89, Tryz.ntmps89
  go_wp2_with fail
  go_step3
  go_wp2_with fail
  go_step3
  go_wp2_with fail
  go_loopw [2, 11, 12, 13, 14, 15, 16, 17, 18, 19] (fun v hp _ _ _ _ _ _ _ _ wr => ∃ (hops f : Nat) (sp : M.Spot) (ps : List M.Bs), hops ≤ 8 ∧ hp = .int .i64 hops ∧ s.walk follow f sp hops ps = R ∧ ahead hops ps.length + 1 ≤ f ∧ ps.length ≤ 20 + 20 * hops ∧ s.has sp.node = true ∧ StrsAt wr v ps ∧ Off w.heap.size v ∧ Below w.heap.size w wr ∧ SpotAt wr w.heap.size {} ∧ SpotAt wr (w.heap.size + 1) sp)
    (fun v hp _ _ _ _ _ _ _ _ _ => ahead (intOf hp).toNat (lenV v))
  case atStart =>
    refine ⟨0, M.fuel parts 0, { node := n0 }, parts, by omega, rfl, HR.out, by simp [M.fuel, ahead]; omega, by omega, HHN.out, HV.out.below (((Below.refl _ _).alloc (Nat.le_refl _) _).alloc (by simp) _), fun b hb => by have := HOF.out b hb; omega, ((Below.refl _ _).alloc (Nat.le_refl _) _).alloc (by simp) _, ?_, ?_⟩
    · unfold SpotAt
      rw [heap_alloc_old _ _ (by simp)]
      exact heap_alloc_new _ _
    · have := heap_alloc_new (w.alloc (.cells #[I 0, I 0, S []] 86)) (.cells #[I n0, I 0, S []] 86)
      rw [show (w.alloc (.cells #[I 0, I 0, S []] 86)).heap.size = w.heap.size + 1 by simp] at this
      exact this
  case round =>
    obtain ⟨hops, f, sp, ps, hh, rfl, hw, hf, hpl, hsp, hst, hoff, hbel, hs0, hs1⟩ := hrel
    have HB := Lib.hid hbel; clear hbel
    have HS0 := Lib.hid hs0; clear hs0
    have HS1 := Lib.hid hs1; clear hs1
    have HW := Lib.hid hw; clear hw
    have HF := Lib.hid hf; clear hf
    have HST := Lib.hid hst; clear hst
    have HOFF := Lib.hid hoff; clear hoff
    obtain ⟨a0, a1, a2, af, alt⟩ := HS0.out.cells
    obtain ⟨b0, b1, b2, bf, blt⟩ := HS1.out.cells
    have HT := Lib.hid (H.out.below HB.out)
    obtain ⟨f, rfl⟩ : ∃ g, f = g + 1 := ⟨f - 1, by have := HF.out; omega⟩
    cases ps with
    | nil =>
      have hR : R = (sp, 0) := HW.out.symm
      have HRR := Lib.hid hR; clear hR
      obtain ⟨p, c, hv⟩ := strsAt_form HST.out
      simp only [List.length_nil] at hv
      subst hv
      go_wp2_with fail
      obtain ⟨r0, r1, r2, -, -⟩ := (HS0.out.store sp).cells
      refine bodyPost_ret (v := (.tuple #[sp.val, I 0])) (by simp [results, Tryz.results89, go_sem, M.Spot.val, r0, r1, r2]) rfl ?_
      exact ⟨by rw [HRR.out], Below.store3 HB.out _ (Nat.le_refl _) _ _ _⟩
    | cons part ps =>
      obtain ⟨b, o, c, rfl, hcap, hblt, hcs⟩ : ∃ b o c, u2 = .slice (some ⟨b, o, none⟩) (ps.length + 1) c ∧ ps.length + 1 ≤ c ∧ b < wr.heap.size ∧ ∀ j x, (part :: ps)[j]? = some x → wr.cell? ⟨b, o + j, none⟩ = some (S x) := by
        rcases HST.out with ⟨p, c, h1, h2⟩ | ⟨b, o, c, h1, h2, h3, h4⟩
        · cases h2
        · exact ⟨b, o, c, h1, h2, h3, h4⟩
      have hc0 : wr.cell? ⟨b, o, none⟩ = some (S part) := hcs 0 part rfl
      have HCS := Lib.hid hcs; clear hcs
      have hl := fun m : Nat => (HT.out.keep ((Tch.refl _ wr).drewN m)).look hsp
      obtain ⟨t0, -, -, -, -, tf, htb⟩ := HT.out.cells5
      obtain ⟨dv, wv, mv, hnode⟩ := HT.out.nodeOf hsp
      obtain ⟨n0', n1, -, n3, -, -, -, -, nf, hnb⟩ := hnode.cells8
      have HN := Lib.hid hnode; clear hnode
      have k0 : (0 : Int) < (ps.length : Int) + 1 := by omega
      have hcase : (c = 1 ∧ ps = []) ∨ ¬ c = 1 := by
        by_cases h : c = 1
        · exact Or.inl ⟨h, List.eq_nil_of_length_eq_zero (by omega)⟩
        · exact Or.inr h
      have HLP := Lib.hid hpl; clear hpl
      rcases hcase with ⟨rfl, hps⟩ | hc1
      case' inl => have HPS := Lib.hid hps
      all_goals
        first
          | have HTL := Lib.hid (show ∀ n, n = ps.length → StrsAt wr (.slice (some ⟨b, o, none⟩) n 0) ps from fun n hn => Or.inl ⟨some ⟨b, o, none⟩, 0, by rw [hn, hps]; simp, hps⟩)
          | have HTL := Lib.hid (show ∀ n, n = ps.length → StrsAt wr (.slice (some ⟨b, o + 1, none⟩) n (c - 1)) ps from fun n hn => hn ▸ Or.inr ⟨b, o + 1, c - 1, rfl, by omega, hblt, fun j x hx => by rw [show o + 1 + j = o + (j + 1) by omega]; exact HCS.out (j + 1) x hx⟩)
        go_wp2_with fail
        go_quiet (fail)
        by_cases hk2 : (s.nd sp.node).kind = 2
        · have q2 : ((s.nd sp.node).kind != 2) = false := by simpa using hk2
          have HK2 := Lib.hid hk2; clear hk2
          by_cases hp : part = M.dots
          · have HW2 := Lib.hid ((walk_up HK2.out hp).symm.trans HW.out)
            subst hp
            unfold M.dots at *
            go_wp2_with fail
            (with_reducible refine (above_any tb L s sp.node _ (HT.out.keep ((Tch.refl _ wr).drewN nq)) hsp).mono ?_)
            rintro e w1 ⟨rfl, rfl⟩
            go_wp2_with fail
            go_roundw
            case rel => exact ⟨hops, f, { node := s.above sp.node }, _, hh, rfl, HW2.out, by have := HF.out; simp [ahead] at this ⊢; omega, by have := HLP.out; simp at this; omega, HCL.out.above _ hsp, (show StrsAt (wr.drewN nq) _ _ from HTL.out _ (by first | rfl | simp_all)).store (w.heap.size + 1) { node := s.above sp.node } (fun q hq => by have := HOFF.out b rfl; cases hq; exact this.2), HOFF.out, Below.store3 (below_drewN HB.out _) _ (Nat.le_succ _) _ _ _, (show SpotAt (wr.drewN nq) _ _ from HS0.out).other { node := s.above sp.node } (by omega), (show SpotAt (wr.drewN nq) _ _ from HS1.out).store { node := s.above sp.node }⟩
            case measure => simp [intOf, lenV, ahead] <;> omega
          · have qp : (part == [46, 46]) = false := by simpa [M.dots] using hp
            have HP := Lib.hid hp; clear hp
            obtain ⟨m, rfl, hom, hsrt, hmap⟩ := HN.out.dir HK2.out
            cases hg : M.get (s.nd sp.node).names part with
            | none =>
              have HW2 := Lib.hid ((walk_none HK2.out HP.out hg).symm.trans HW.out)
              have hlk : ∀ k, (Instr.lookup 69 (.map (some m)) (S part) true).run Tryz.prog (wr.drewN k) = .ok (.tuple #[.int .i64 0, .bool false]) (wr.drewN k) := fun k => run_lookup_none (P := Tryz.prog) strKeys Tryz.underlying69 Tryz.underlying9 (hmap.same (w' := wr.drewN k) rfl) hg (zeroInt _) true
              clear hg hmap hsrt hom
              go_wp2_with fail
              obtain ⟨r0, r1, r2, -, -⟩ := ((show SpotAt (wr.drewN nq) w.heap.size {} from HS0.out).store {}).cells
              refine bodyPost_ret (v := (.tuple #[M.Spot.val {}, I 5])) (by simp [results, Tryz.results89, go_sem, M.Spot.val, r0, r1, r2]) rfl ?_
              exact ⟨by rw [← HW2.out], Below.store3 (below_drewN HB.out _) _ (Nat.le_refl _) _ _ _⟩
            | some child =>
              have hlk : ∀ k, (Instr.lookup 69 (.map (some m)) (S part) true).run Tryz.prog (wr.drewN k) = .ok (.tuple #[.int .i64 child, .bool true]) (wr.drewN k) := fun k => run_lookup_some (P := Tryz.prog) strKeys Tryz.underlying69 Tryz.underlying9 (hmap.same (w' := wr.drewN k) rfl) hg true
              have hch := HCL.out.child _ hsp _ _ hg
              have HGC := Lib.hid hg
              clear hg hmap hsrt hom
              have hl2 := fun m : Nat => (HT.out.keep ((Tch.refl _ wr).drewN m)).look hch
              obtain ⟨dy, wy, my, hny⟩ := HT.out.nodeOf hch
              obtain ⟨y0, y1, -, -, -, -, -, -, yf, hyb⟩ := hny.cells8
              have HNY := Lib.hid hny; clear hny
              by_cases hlk3 : (s.nd child).kind = 3 ∧ (ps ≠ [] ∨ follow = true)
              · obtain ⟨g, cap, hdy, hog, hglt, hgcap, hgc⟩ : ReadRow wr L.ow (.of child 1) dy ((s.nd child).data.map U8) := by
                  rcases HNY.out.data with ⟨h1, _⟩ | ⟨_, h2⟩
                  · exact absurd hlk3.1 h1
                  · exact h2
                rw [List.length_map] at hdy
                subst hdy
                have hdl := HCL.out.target _ hch hlk3.1
                have hcv : ∀ k, (convert 22 9 (.slice (some ⟨g, 0, none⟩) (s.nd child).data.length cap)).run Tryz.prog (wr.drewN k) = .ok (S (s.nd child).data) (wr.drewN k) := fun k =>
                  run_convert_bytes_back (wr.drewN k) 22 9 5 ⟨g, 0, none⟩ cap (s.nd child).data Tryz.underlying22 Tryz.underlying5 Tryz.underlying9 (fun j hj => by
                    rw [Addr.add_lit, Nat.zero_add]
                    exact hgc j _ (by simp [hj]))
                clear hgc
                have b3 : ((s.nd child).kind == 3) = true := by simpa using hlk3.1
                have HL3 := Lib.hid hlk3
                have hsplit : (0 : Int) < (ps.length : Int) ∨ ((ps.length : Int) = 0 ∧ follow = true) := by
                  rcases hlk3.2 with h | h
                  · exact Or.inl (by cases ps with | nil => exact absurd rfl h | cons a l => (simp only [List.length_cons]; omega))
                  · by_cases hp0 : (ps.length : Int) = 0
                    · exact Or.inr ⟨hp0, h⟩
                    · exact Or.inl (by omega)
                clear hlk3
                rcases hsplit with g1 | ⟨g1, rfl⟩
                case' inl => have hpn : ¬ ps = [] := by intro e; rw [e] at g1; exact absurd g1 (by decide)
                case' inl => try (exfalso; rw [HPS.out] at g1; exact absurd g1 (by decide))
                all_goals
                  by_cases h8 : 8 ≤ hops
                  · have HW2 := Lib.hid ((walk_loop HK2.out HP.out HGC.out HL3.out h8).symm.trans HW.out)
                    go_wp2_with fail
                    obtain ⟨r0, r1, r2, -, -⟩ := ((show SpotAt (wr.drewN nq) w.heap.size {} from HS0.out).store {}).cells
                    refine bodyPost_ret (v := (.tuple #[M.Spot.val {}, I 12])) (by simp [results, Tryz.results89, go_sem, M.Spot.val, r0, r1, r2]) rfl ?_
                    exact ⟨by rw [← HW2.out], Below.store3 (below_drewN HB.out _) _ (Nat.le_refl _) _ _ _⟩
                  · have HW2 := Lib.hid ((walk_link HK2.out HP.out HGC.out HL3.out h8).symm.trans HW.out)
                    go_wp2_with fail
                    (with_reducible refine (target_path (s.nd child).data _ (by omega) (HM.out.below (below_drewN HB.out _))).mono ?_)
                    rintro e w1 ⟨vt, rfl, hst, hb1⟩
                    obtain ⟨pt, ct, rfl⟩ := strsAt_form hst.at
                    have HT1 := Lib.hid hst; clear hst
                    have HB1 := Lib.hid hb1; clear hb1
                    have hal : (M.targetP (s.nd child).data).1.length ≤ 20 := targetP_len _
                    have hwsz : w.heap.size + 1 < wr.heap.size := blt
                    have HWSZ := Lib.hid hwsz; clear hwsz
                    cases hwh : (M.targetP (s.nd child).data).2.1
                    all_goals
                      have HW3 := Lib.hid HW2.out
                      rw [hwh] at HW3
                      clear hwh
                      go_wp2_with fail
                      (with_reducible refine (concat_lit _ _ _ (M.targetP (s.nd child).data).1 ps w1 ?_ ?_ (by have := HLP.out; simp only [List.length_cons] at this; omega)).mono ?_)
                      · exact HT1.out.at
                      · exact (HTL.out _ (by first | rfl | simp_all)).below ((below_drewN (Below.refl _ _) _).trans HB1.out)
                      rintro e w2 ⟨vc, rfl, hsc, hbc⟩
                      have HOV := Lib.hid (show ∀ q, vc.ownBlock = some q → w.heap.size + 1 < q from fun q hq => by have h1 := (World.ownsRow.lt hsc q hq).1; have h2 : wr.heap.size ≤ w1.heap.size := HB1.out.size; have h3 := HWSZ.out; simp at h1; omega)
                      have HSC := Lib.hid hsc.at; clear hsc
                      have HB2 := Lib.hid (((below_drewN (Below.refl wr.heap.size wr) nq).trans HB1.out).trans (((Below.refl w1.heap.size w1).alloc (Nat.le_refl _) (.cells _ _)).trans (hbc.mono (by simp)) |>.mono HB1.out.size)); clear hbc
                      have HS0' := Lib.hid (HS0.out.below HB2.out)
                      have HS1' := Lib.hid (HS1.out.below HB2.out)
                      have HBW := Lib.hid (HB.out.trans (HB2.out.mono HB.out.size))
                      obtain ⟨b0', b1', b2', bf', -⟩ := HS1'.out.cells
                      have HHH := Lib.hid (show hops + 1 ≤ 8 by omega)
                      have HAF := Lib.hid (show ahead (hops + 1) ((M.targetP (s.nd child).data).1 ++ ps).length + 1 ≤ f by have := HF.out; simp only [ahead, List.length_append, List.length_cons] at this ⊢; omega)
                      have HPL := Lib.hid (show ((M.targetP (s.nd child).data).1 ++ ps).length ≤ 20 + 20 * (hops + 1) by have := HLP.out; simp only [List.length_append, List.length_cons] at this ⊢; omega)
                      have HLV := Lib.hid (show ahead (hops + 1) (lenV vc) < ahead hops (ps.length + 1) by
                        have h1 : lenV vc = ((M.targetP (s.nd child).data).1 ++ ps).length := by obtain ⟨_, _, e⟩ := strsAt_form HSC.out; rw [e]; rfl
                        rw [h1]; simp only [ahead, List.length_append]; omega)
                      go_wp2_with fail
                      go_roundw
                      case rel =>
                        first
                          | exact ⟨hops + 1, f, { node := sp.node }, _, HHH.out, by go_num, HW3.out, HAF.out, HPL.out, hsp, HSC.out.store (w.heap.size + 1) { node := sp.node } (fun q hq => by have := HOV.out q hq; omega), (fun q hq => by have := HOV.out q hq; omega), Below.store3 HBW.out _ (Nat.le_succ _) _ _ _, HS0'.out.other { node := sp.node } (by omega), HS1'.out.store { node := sp.node }⟩
                          | exact ⟨hops + 1, f, { node := 1 }, _, HHH.out, by go_num, HW3.out, HAF.out, HPL.out, HCL.out.root, (HSC.out.store (w.heap.size + 1) { node := sp.node } (fun q hq => by have := HOV.out q hq; omega)).store (w.heap.size + 1) { node := 1 } (fun q hq => by have := HOV.out q hq; omega), (fun q hq => by have := HOV.out q hq; omega), Below.store3 (Below.store3 HBW.out _ (Nat.le_succ _) _ _ _) _ (Nat.le_succ _) _ _ _, (HS0'.out.other { node := sp.node } (by omega)).other { node := 1 } (by omega), (HS1'.out.store { node := sp.node }).store { node := 1 }⟩
                      case measure => exact HLV.out
              · have HW2 := Lib.hid ((walk_on HK2.out HP.out HGC.out hlk3).symm.trans HW.out)
                have hsplit : ((s.nd child).kind == 3) = false ∨ (((s.nd child).kind == 3) = true ∧ ps = [] ∧ follow = false) := by
                  by_cases h3 : (s.nd child).kind = 3
                  · refine Or.inr ⟨by simpa using h3, ?_, ?_⟩
                    · cases hps : ps with
                      | nil => rfl
                      | cons a l => exact absurd ⟨h3, Or.inl (by rw [hps]; simp)⟩ hlk3
                    · cases hfo : follow with
                      | false => rfl
                      | true => exact absurd ⟨h3, Or.inr hfo⟩ hlk3
                  · exact Or.inl (by simpa using h3)
                clear hlk3
                rcases hsplit with b3 | ⟨b3, hpe, rfl⟩
                case' inr => have g1 : (ps.length : Int) = 0 := by simp [hpe]
                all_goals
                  go_wp2_with fail
                  go_roundw
                  case rel => exact ⟨hops, f, ⟨child, sp.node, part⟩, _, hh, rfl, HW2.out, by have := HF.out; simp [ahead] at this ⊢; omega, by have := HLP.out; simp at this; omega, hch, (show StrsAt (wr.drewN nq) _ _ from HTL.out _ (by first | rfl | simp_all)).store (w.heap.size + 1) ⟨child, sp.node, part⟩ (fun q hq => by have := HOFF.out b rfl; cases hq; exact this.2), HOFF.out, Below.store3 (below_drewN HB.out _) _ (Nat.le_succ _) _ _ _, (show SpotAt (wr.drewN nq) _ _ from HS0.out).other ⟨child, sp.node, part⟩ (by omega), (show SpotAt (wr.drewN nq) _ _ from HS1.out).store ⟨child, sp.node, part⟩⟩
                  case measure => simp [intOf, lenV, ahead] <;> omega
        · have q2 : ((s.nd sp.node).kind != 2) = true := by simpa using hk2
          have HW2 := Lib.hid ((walk_notdir hk2).symm.trans HW.out)
          clear hk2
          go_wp2_with fail
          obtain ⟨r0, r1, r2, -, -⟩ := ((show SpotAt (wr.drewN nq) w.heap.size {} from HS0.out).store {}).cells
          refine bodyPost_ret (v := (.tuple #[M.Spot.val {}, I 7])) (by simp [results, Tryz.results89, go_sem, M.Spot.val, r0, r1, r2]) rfl ?_
          exact ⟨by rw [← HW2.out], Below.store3 (below_drewN HB.out _) _ (Nat.le_refl _) _ _ _⟩
end Go.Proofs.YtpfaccpmgldkeaaGreatDoor
