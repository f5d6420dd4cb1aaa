/- Contract of file. -/
import Derived.Test.YtpfaccpmgldkeaaGreatDoorSize
import Derived.Test.YtpfaccpmgldkeaaGreatDoorPlace
set_option linter.unusedVariables false
set_option linter.unusedSimpArgs false
namespace Go.Proofs.YtpfaccpmgldkeaaGreatDoor
open Go.RowKit Go.MapKept Go.ChangeMaps
set_option maxRecDepth 100000

def M.Sl.fval (f : M.Sl) : Value := .agg #[I f.node, I f.off, I f.flags]

def FilePost (L : Lay) (s : M.St) (fd : Int) (wr : Bool) (w : World) (e : Ending) (w' : World) : Prop :=
  Below w.heap.size w w' ∧ ((s.fileCode fd wr = 0 ∧ e = .returned (.tuple #[(s.fds fd.toNat).fval, Pt (L.pn (s.fds fd.toNat).node), I 0])) ∨
    (s.fileCode fd wr ≠ 0 ∧ e = .returned (.tuple #[M.Sl.fval {}, .pointer none, I (s.fileCode fd wr)])))

/-- A file in memory. -/
def FileAt (w : World) (b : Nat) (f : M.Sl) : Prop := w.heap[b]? = some (.cells #[I f.node, I f.off, I f.flags] 90 (0, 0))
theorem FileAt.cells {w : World} {b : Nat} {f : M.Sl} (h : FileAt w b f) : w.cell? ⟨b, 0, none⟩ = some (I f.node) ∧ w.cell? ⟨b, 1, none⟩ = some (I f.off) ∧ w.cell? ⟨b, 2, none⟩ = some (I f.flags) ∧ (∀ j, w.frozen? ⟨b, j, none⟩ = false) ∧ b < w.heap.size := by
  unfold FileAt at h
  refine ⟨?_, ?_, ?_, fun j => frozen_of_row w b _ _ _ h, (Array.getElem?_eq_some_iff.1 h).1⟩ <;> (rw [cell_of_row w b _ _ _ _ h]; rfl)
theorem FileAt.below {w w' : World} {b : Nat} {f : M.Sl} (h : FileAt w b f) (hb : Below w.heap.size w w') : FileAt w' b f := by
  unfold FileAt at *
  rw [hb.block b (Array.getElem?_eq_some_iff.1 h).1]
  exact h
theorem FileAt.store {w : World} {b : Nat} {f : M.Sl} (h : FileAt w b f) (q : M.Sl) : FileAt (((w.setCell ⟨b, 0, none⟩ (I q.node)).setCell ⟨b, 1, none⟩ (I q.off)).setCell ⟨b, 2, none⟩ (I q.flags)) b q := by
  unfold FileAt at *
  have e0 := heap_setCell_same w b 0 _ _ (I q.node) h
  have e1 := heap_setCell_same _ b 1 _ _ (I q.off) e0
  have e2 := heap_setCell_same _ b 2 _ _ (I q.flags) e1
  rw [e2]
  rfl

theorem isOpen_iff {s : M.St} {fd : Int} : s.isOpen fd = true ↔ IsOpen s.fds fd := by
  unfold M.St.isOpen IsOpen
  simp [and_assoc]

theorem bits_one : ∀ f : Fin 64, ∀ b ∈ [(1 : Int), 2, 4, 8, 16, 32], (bits BinOp.and IntKind.i64 (f.val : Int) b == 0) = !M.bit f.val b := by decide
theorem bits_two : ∀ f : Fin 64, (bits BinOp.and IntKind.i64 (f.val : Int) 12 == 0) = !(M.bit f.val 4 || M.bit f.val 8) := by decide
theorem bits_eq {f b : Int} (h0 : 0 ≤ f) (h1 : f < 64) (hb : b ∈ [(1 : Int), 2, 4, 8, 16, 32]) : (bits BinOp.and IntKind.i64 f b == 0) = !M.bit f b := by
  have := bits_one ⟨f.toNat, by omega⟩ b hb
  rwa [show ((f.toNat : Nat) : Int) = f by omega] at this
theorem bits_eq2 {f : Int} (h0 : 0 ≤ f) (h1 : f < 64) : (bits BinOp.and IntKind.i64 f 12 == 0) = !(M.bit f 4 || M.bit f 8) := by
  have := bits_two ⟨f.toNat, by omega⟩
  rwa [show ((f.toNat : Nat) : Int) = f by omega] at this

theorem fileCode_shut {s : M.St} {fd : Int} {wr : Bool} (h : s.isOpen fd = false) : s.fileCode fd wr = 10 := by unfold M.St.fileCode; rw [if_pos h]
theorem fileCode_perm {s : M.St} {fd : Int} (h : s.isOpen fd = true) (h2 : M.bit (s.fds fd.toNat).flags 32 = false) : s.fileCode fd true = 10 := by unfold M.St.fileCode; rw [if_neg (by simp [h]), if_pos ⟨rfl, h2⟩]
theorem fileCode_dir {s : M.St} {fd : Int} {wr : Bool} (h : s.isOpen fd = true) (h2 : ¬ (wr = true ∧ M.bit (s.fds fd.toNat).flags 32 = false)) (h3 : (s.nd (s.fds fd.toNat).node).kind = 2) : s.fileCode fd wr = 8 := by
  unfold M.St.fileCode; rw [if_neg (by simp [h]), if_neg h2, if_pos h3]
theorem fileCode_ok {s : M.St} {fd : Int} {wr : Bool} (h : s.isOpen fd = true) (h2 : ¬ (wr = true ∧ M.bit (s.fds fd.toNat).flags 32 = false)) (h3 : (s.nd (s.fds fd.toNat).node).kind ≠ 2) : s.fileCode fd wr = 0 := by
  unfold M.St.fileCode; rw [if_neg (by simp [h]), if_neg h2, if_neg h3]

set_option maxHeartbeats 2000000 in
theorem file_any (tb : Nat) (L : Lay) (k : Int) (s : M.St) (fd : Int) (wr : Bool) (w : World) (h : TreeAt w tb L s) (hwf : Wf k s) :
    Calls Tryz.prog 116 #[Pt tb, I fd, .bool wr] w (FilePost L s fd wr w) := by
  have H := Lib.hid h; clear h
  obtain ⟨t0, -, t2, -, -, tf, htb⟩ := H.out.cells5
  have s0 : FileAt (w.alloc (.cells #[I 0, I 0, I 0] 90)) w.heap.size {} := heap_alloc_new _ _
  have HS0 := Lib.hid s0; clear s0
  have HG := Lib.hid (get_any (w.alloc (.cells #[I 0, I 0, I 0] 90)) L.fb s.fds fd (H.out.below ((Below.refl _ _).alloc (Nat.le_refl _) _)).fds)
  go_enter Tryz.func116, Tryz.ntmps116
  go_wp2_with fail
  (with_reducible refine HG.out.mono ?_)
  rintro e w1 ⟨hb, hp⟩
  have HB := Lib.hid (((Below.refl w.heap.size w).alloc (Nat.le_refl _) _).trans (hb.mono (by simp)))
  have HS1 := Lib.hid (HS0.out.below hb); clear hb
  rcases hp with ⟨q, hq, rfl, ho, rfl⟩ | ⟨hno, rfl⟩
  · have HO := Lib.hid ho; clear ho
    have hopen : s.isOpen (q : Int) = true := isOpen_iff.2 ⟨by omega, by omega, HO.out⟩
    have HOP := Lib.hid hopen; clear hopen
    obtain ⟨hn, ⟨ho1, ho2⟩, hf1, hf2⟩ := hwf.fds q HO.out
    generalize hsl : s.fds q = sl at *
    have HSL := Lib.hid hsl; clear hsl
    have HSL' := Lib.hid (show s.fds (q : Int).toNat = sl by rw [Int.toNat_natCast]; exact HSL.out)
    obtain ⟨a0, a1, a2, af, alt⟩ := HS1.out.cells
    by_cases hp : wr = true ∧ M.bit sl.flags 32 = false
    · obtain ⟨rfl, hp⟩ := hp
      have HC := Lib.hid (fileCode_perm HOP.out (by rw [HSL'.out]; exact hp))
      have hb : (bits BinOp.and IntKind.i64 sl.flags 32 == 0) = true := by rw [bits_eq hf1 hf2 (by decide), hp]; rfl
      clear hp
      go_wp2_with fail
      obtain ⟨r0, r1, r2, -, -⟩ := ((HS1.out.store {}).below ((Below.refl _ _).alloc (Nat.le_refl _) (.cells #[I sl.node, I sl.off, I sl.flags] 90))).cells
      refine bodyPost_ret (v := (.tuple #[M.Sl.fval {}, .pointer none, I 10])) (by simp [results, Tryz.results116, go_sem, M.Sl.fval, r0, r1, r2]) rfl ?_
      exact ⟨(Below.store3 HB.out _ (Nat.le_refl _) _ _ _).alloc (Below.store3 HB.out _ (Nat.le_refl _) _ _ _).size _, Or.inr ⟨by rw [HC.out]; decide, by rw [HC.out]⟩⟩
    · have hb : wr = false ∨ (wr = true ∧ (bits BinOp.and IntKind.i64 sl.flags 32 == 0) = false) := by
        cases hwr : wr
        · exact Or.inl rfl
        · refine Or.inr ⟨rfl, ?_⟩
          rw [bits_eq hf1 hf2 (by decide)]
          cases hq : M.bit sl.flags 32
          · exact absurd ⟨hwr, hq⟩ hp
          · rfl
      have HP := Lib.hid (show ¬ (wr = true ∧ M.bit (s.fds (q : Int).toNat).flags 32 = false) by rw [HSL'.out]; exact hp)
      have HCD := Lib.hid (fun hk => fileCode_dir (wr := wr) HOP.out HP.out hk)
      have HCO := Lib.hid (fun hk => fileCode_ok (wr := wr) HOP.out HP.out hk)
      clear hp
      have hw2 : FileAt (w1.alloc (.cells #[I sl.node, I sl.off, I sl.flags] 90)) w1.heap.size sl := heap_alloc_new _ _
      have HF := Lib.hid hw2; clear hw2
      have HB2 := Lib.hid (HB.out.alloc HB.out.size (.cells #[I sl.node, I sl.off, I sl.flags] 90))
      have HS2 := Lib.hid (HS1.out.below ((Below.refl _ _).alloc (Nat.le_refl _) (.cells #[I sl.node, I sl.off, I sl.flags] 90)))
      clear a0 a1 a2 af alt t0 t2 tf htb
      rcases hb with rfl | ⟨rfl, hb⟩
      all_goals
        go_wp2_with fail
        have hlt2 : w.heap.size < w1.heap.size := HS1.out.cells.2.2.2.2
        generalize hw2 : w1.alloc (.cells #[I sl.node, I sl.off, I sl.flags] 90) = w2 at *
        clear hw2
        have HT2 := Lib.hid (H.out.below HB2.out)
        have hl := fun m : Nat => (HT2.out.keep ((Tch.refl _ w2).drewN m)).look hn
        obtain ⟨t0, -, -, -, -, tf, htb⟩ := HT2.out.cells5
        obtain ⟨dv, wv, mv, hnode⟩ := HT2.out.nodeOf hn
        obtain ⟨n0, -, -, -, -, -, -, -, nf, hnb⟩ := hnode.cells8
        have HN := Lib.hid hnode; clear hnode
        obtain ⟨b0, b1, b2, bf, blt⟩ := HF.out.cells
        go_quiet (fail)
        by_cases hk : (s.nd sl.node).kind = 2
        · have q2 : ((s.nd sl.node).kind == 2) = true := by simpa using hk
          have HC := Lib.hid (HCD.out (by rw [HSL'.out]; exact hk))
          clear hk
          obtain ⟨a0, a1, a2, af, alt⟩ := HS2.out.cells
          go_wp2_with fail
          obtain ⟨r0, r1, r2, -, -⟩ := ((show FileAt (w2.drewN nq) _ _ from HS2.out).store {}).cells
          refine bodyPost_ret (v := (.tuple #[M.Sl.fval {}, .pointer none, I 8])) (by simp [results, Tryz.results116, go_sem, M.Sl.fval, r0, r1, r2]) rfl ?_
          exact ⟨Below.store3 (below_drewN HB2.out _) _ (Nat.le_refl _) _ _ _, Or.inr ⟨by rw [HC.out]; decide, by rw [HC.out]⟩⟩
        · have q2 : ((s.nd sl.node).kind == 2) = false := by simpa using hk
          have HC := Lib.hid (HCO.out (by rw [HSL'.out]; exact hk))
          clear hk
          go_wp2_with fail
          have HS3 := Lib.hid (show FileAt (w2.drewN nq) _ _ from HS2.out)
          have HF3 := Lib.hid (show FileAt (w2.drewN nq) _ _ from HF.out)
          have HB3 := Lib.hid (below_drewN HB2.out nq)
          clear hl t0 tf htb n0 nf hnb b0 b1 b2 bf blt
          generalize hW : w2.drewN nq = W at *
          clear hW
          have HT3 := Lib.hid (H.out.below HB3.out)
          have htw : tb < w.heap.size := H.out.lt
          have HB4 := Lib.hid (Below.store3 HB3.out w.heap.size (Nat.le_refl _) (I sl.node) (I sl.off) (I sl.flags)).drew
          have HS5 := Lib.hid (show FileAt (World.drew (((W.setCell ⟨w.heap.size, 0, none⟩ (I sl.node)).setCell ⟨w.heap.size, 1, none⟩ (I sl.off)).setCell ⟨w.heap.size, 2, none⟩ (I sl.flags))) w.heap.size sl from HS3.out.store sl)
          have hlA := (H.out.below HB3.out.drew).look hn
          have hlB := (H.out.below HB4.out).look hn
          obtain ⟨t0, -, -, -, -, tf, htb⟩ := HT3.out.cells5
          obtain ⟨b0, b1, b2, bf, blt⟩ := HF3.out.cells
          obtain ⟨a0, a1, a2, af, alt⟩ := HS3.out.cells
          go_region
          all_goals
            go_wp2_with fail
            obtain ⟨r0, r1, r2, -, -⟩ := HS5.out.cells
            refine bodyPost_ret (v := (.tuple #[sl.fval, Pt (L.pn sl.node), I 0])) (by simp [results, Tryz.results116, go_sem, M.Sl.fval, r0, r1, r2]) rfl ?_
            exact ⟨HB4.out, Or.inl ⟨HC.out, by rw [HSL'.out]⟩⟩
  · have HC := Lib.hid (fileCode_shut (wr := wr) (show s.isOpen fd = false by
      cases hh : s.isOpen fd
      · rfl
      · exact absurd (isOpen_iff.1 hh) hno))
    clear hno
    obtain ⟨a0, a1, a2, af, alt⟩ := HS1.out.cells
    go_wp2_with fail
    obtain ⟨r0, r1, r2, -, -⟩ := ((HS1.out.store {}).below ((Below.refl _ _).alloc (Nat.le_refl _) (.cells #[I 0, I 0, I 0] 90))).cells
    refine bodyPost_ret (v := (.tuple #[M.Sl.fval {}, .pointer none, I 10])) (by simp [results, Tryz.results116, go_sem, M.Sl.fval, r0, r1, r2]) rfl ?_
    exact ⟨(Below.store3 HB.out _ (Nat.le_refl _) _ _ _).alloc (Below.store3 HB.out _ (Nat.le_refl _) _ _ _).size _, Or.inr ⟨by rw [HC.out]; decide, by rw [HC.out]⟩⟩
end Go.Proofs.YtpfaccpmgldkeaaGreatDoor
