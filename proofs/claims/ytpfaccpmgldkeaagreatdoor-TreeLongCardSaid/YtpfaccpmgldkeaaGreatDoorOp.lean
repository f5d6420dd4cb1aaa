/- Operations and answers in memory; what an operation of a tree leaves; code, lasts, seek. -/
import Derived.Test.YtpfaccpmgldkeaaGreatDoorFile
set_option linter.unusedVariables false
set_option linter.unusedSimpArgs false
namespace Go.Proofs.YtpfaccpmgldkeaaGreatDoor
open Go.RowKit Go.MapKept Go.ChangeMaps
set_option maxRecDepth 100000

def M.Op.val (o : M.Op) (dv : Value) : Value := .agg #[I o.kind, I o.fd, I o.n, I o.off, I o.flags, S o.path, S o.to, dv]
def M.Ans.val (a : M.Ans) (dv nv : Value) : Value := .agg #[I a.code, I a.n, I a.kind, I a.links, dv, nv]

/-- An operation in memory. -/
def OpAt (w : World) (b : Nat) (o : M.Op) (dv : Value) : Prop := w.heap[b]? = some (.cells #[I o.kind, I o.fd, I o.n, I o.off, I o.flags, S o.path, S o.to, dv] 32 (0, 0))
/-- An answer in memory. -/
def AnsAt (w : World) (b : Nat) (a : M.Ans) (dv nv : Value) : Prop := w.heap[b]? = some (.cells #[I a.code, I a.n, I a.kind, I a.links, dv, nv] 29 (0, 0))

structure OpCells (w : World) (b : Nat) (o : M.Op) (dv : Value) : Prop where
  c0 : w.cell? ⟨b, 0, none⟩ = some (I o.kind)
  c1 : w.cell? ⟨b, 1, none⟩ = some (I o.fd)
  c2 : w.cell? ⟨b, 2, none⟩ = some (I o.n)
  c3 : w.cell? ⟨b, 3, none⟩ = some (I o.off)
  c4 : w.cell? ⟨b, 4, none⟩ = some (I o.flags)
  c5 : w.cell? ⟨b, 5, none⟩ = some (S o.path)
  c6 : w.cell? ⟨b, 6, none⟩ = some (S o.to)
  c7 : w.cell? ⟨b, 7, none⟩ = some dv
  f : ∀ j, w.frozen? ⟨b, j, none⟩ = false
  lt : b < w.heap.size
theorem OpAt.cells {w : World} {b : Nat} {o : M.Op} {dv : Value} (h : OpAt w b o dv) : OpCells w b o dv := by
  unfold OpAt at h
  refine ⟨?_, ?_, ?_, ?_, ?_, ?_, ?_, ?_, fun j => frozen_of_row w b _ _ _ h, (Array.getElem?_eq_some_iff.1 h).1⟩ <;> (rw [cell_of_row w b _ _ _ _ h]; rfl)
theorem OpAt.below {w w' : World} {b : Nat} {o : M.Op} {dv : Value} (h : OpAt w b o dv) (hb : Below w.heap.size w w') : OpAt w' b o dv := by
  unfold OpAt at *
  rw [hb.block b (Array.getElem?_eq_some_iff.1 h).1]
  exact h

structure AnsCells (w : World) (b : Nat) (a : M.Ans) (dv nv : Value) : Prop where
  c0 : w.cell? ⟨b, 0, none⟩ = some (I a.code)
  c1 : w.cell? ⟨b, 1, none⟩ = some (I a.n)
  c2 : w.cell? ⟨b, 2, none⟩ = some (I a.kind)
  c3 : w.cell? ⟨b, 3, none⟩ = some (I a.links)
  c4 : w.cell? ⟨b, 4, none⟩ = some dv
  c5 : w.cell? ⟨b, 5, none⟩ = some nv
  f : ∀ j, w.frozen? ⟨b, j, none⟩ = false
  lt : b < w.heap.size
theorem AnsAt.cells {w : World} {b : Nat} {a : M.Ans} {dv nv : Value} (h : AnsAt w b a dv nv) : AnsCells w b a dv nv := by
  unfold AnsAt at h
  refine ⟨?_, ?_, ?_, ?_, ?_, ?_, fun j => frozen_of_row w b _ _ _ h, (Array.getElem?_eq_some_iff.1 h).1⟩ <;> (rw [cell_of_row w b _ _ _ _ h]; rfl)
theorem AnsAt.below {w w' : World} {b : Nat} {a : M.Ans} {dv nv : Value} (h : AnsAt w b a dv nv) (hb : Below w.heap.size w w') : AnsAt w' b a dv nv := by
  unfold AnsAt at *
  rw [hb.block b (Array.getElem?_eq_some_iff.1 h).1]
  exact h
theorem AnsAt.tch {w w' : World} {b : Nat} {a : M.Ans} {dv nv : Value} {T : Nat → Prop} (h : AnsAt w b a dv nv) (hb : Tch T w w') (hT : ¬ T b) : AnsAt w' b a dv nv := by
  unfold AnsAt at *
  rw [hb.block b (Array.getElem?_eq_some_iff.1 h).1 hT]
  exact h
theorem OpAt.tch {w w' : World} {b : Nat} {o : M.Op} {dv : Value} {T : Nat → Prop} (h : OpAt w b o dv) (hb : Tch T w w') (hT : ¬ T b) : OpAt w' b o dv := by
  unfold OpAt at *
  rw [hb.block b (Array.getElem?_eq_some_iff.1 h).1 hT]
  exact h

/-- An answer is stored. -/
def put6 (w : World) (b : Nat) (x0 x1 x2 x3 x4 x5 : Value) : World := (((((w.setCell ⟨b, 0, none⟩ x0).setCell ⟨b, 1, none⟩ x1).setCell ⟨b, 2, none⟩ x2).setCell ⟨b, 3, none⟩ x3).setCell ⟨b, 4, none⟩ x4).setCell ⟨b, 5, none⟩ x5
theorem AnsAt.store {w : World} {b : Nat} {a : M.Ans} {dv nv : Value} (h : AnsAt w b a dv nv) (a' : M.Ans) (dv' nv' : Value) : AnsAt (put6 w b (I a'.code) (I a'.n) (I a'.kind) (I a'.links) dv' nv') b a' dv' nv' := by
  unfold AnsAt put6 at *
  have e0 := heap_setCell_same w b 0 _ _ (I a'.code) h
  have e1 := heap_setCell_same _ b 1 _ _ (I a'.n) e0
  have e2 := heap_setCell_same _ b 2 _ _ (I a'.kind) e1
  have e3 := heap_setCell_same _ b 3 _ _ (I a'.links) e2
  have e4 := heap_setCell_same _ b 4 _ _ dv' e3
  have e5 := heap_setCell_same _ b 5 _ _ nv' e4
  rw [e5]
  rfl
theorem Below.put6 {B : Nat} {w w' : World} (h : Below B w w') (b : Nat) (hb : B ≤ b) (x0 x1 x2 x3 x4 x5 : Value) : Below B w (put6 w' b x0 x1 x2 x3 x4 x5) :=
  (((((h.setCell hb _).setCell hb _).setCell hb _).setCell hb _).setCell hb _).setCell hb _
theorem Tch.put6 {T : Nat → Prop} {w w' : World} (h : Tch T w w') (b : Nat) (hb : w.heap.size ≤ b) (x0 x1 x2 x3 x4 x5 : Value) : Tch T w (put6 w' b x0 x1 x2 x3 x4 x5) :=
  (((((h.setNew (p := ⟨b, 0, none⟩) hb _).setNew (p := ⟨b, 1, none⟩) hb _).setNew (p := ⟨b, 2, none⟩) hb _).setNew (p := ⟨b, 3, none⟩) hb _).setNew (p := ⟨b, 4, none⟩) hb _).setNew (p := ⟨b, 5, none⟩) hb _
theorem put6_other {w : World} {b k : Nat} (h : k ≠ b) (x0 x1 x2 x3 x4 x5 : Value) : (put6 w b x0 x1 x2 x3 x4 x5).heap[k]? = w.heap[k]? := by
  unfold Go.Proofs.YtpfaccpmgldkeaaGreatDoor.put6
  iterate 6 rw [Below.heap_setCell _ _ _ _ h]

/-- An answer whose bytes and names are the caller's own. -/
def AnsIn (base : Nat) (ow : Nat → Option Own) (w : World) (v : Value) (a : M.Ans) : Prop :=
  ∃ dv nv, v = a.val dv nv ∧ w.ownsRow base 5 1 dv a.data.length (a.data.map U8) ∧ w.ownsRow base 9 1 nv a.names.length (a.names.map S) ∧ ∀ k, dv.ownBlock = some k ∨ nv.ownBlock = some k → ow k = none

theorem AnsIn.plain {base : Nat} {ow : Nat → Option Own} {w : World} {a : M.Ans} (h1 : a.data = []) (h2 : a.names = []) : AnsIn base ow w (a.val (.slice none 0 0) (.slice none 0 0)) a := by
  refine ⟨_, _, rfl, ?_, ?_, ?_⟩
  · rw [h1]; exact World.ownsRow_nil _ _ _ _
  · rw [h2]; exact World.ownsRow_nil _ _ _ _
  · rintro k (h | h) <;> cases h

/-- What an operation leaves: its answer, and the tree. -/
def OpPost (tb : Nat) (L : Lay) (r : M.Ans × M.St) (w : World) (e : Ending) (w' : World) : Prop :=
  ∃ v L', e = .returned v ∧ AnsIn w.heap.size L'.ow w' v r.1 ∧ TreeAt w' tb L' r.2 ∧ Ext w w' L L' ∧ Tch (Owned L) w w'

theorem Ext.same (w w' : World) (L : Lay) : Ext w w' L L := ⟨rfl, rfl, fun _ _ => rfl⟩

def NilS : Value := .slice none 0 0

theorem ans_zero (w : World) : AnsAt (w.alloc (.cells #[I 0, I 0, I 0, I 0, .slice none 0 0, .slice none 0 0] 29)) w.heap.size {} NilS NilS := heap_alloc_new _ _

def CodePost (c : Int) (w : World) (e : Ending) (w' : World) : Prop := e = .returned ((M.code c).val (.slice none 0 0) (.slice none 0 0)) ∧ Below w.heap.size w w'

theorem code_any (c : Int) (w : World) : Calls Tryz.prog 43 #[I c] w (CodePost c w) := by
  go_enter Tryz.func43, Tryz.ntmps43
  go_wp2
  refine bodyPost_ret (v := (M.code c).val (.slice none 0 0) (.slice none 0 0)) (by simp [results, Tryz.results43, go_sem, M.Ans.val, M.code]) rfl ?_
  exact ⟨rfl, (Below.refl _ _).alloc (Nat.le_refl _) _⟩

theorem lasts_any (tb : Nat) (L : Lay) (s : M.St) (fd : Int) (w : World) (h : TreeAt w tb L s) :
    Calls Tryz.prog 84 #[Pt tb, I fd] w (OpPost tb L (s.lastsS fd) w) := by
  obtain ⟨t0, -, t2, -, -, tf, htb⟩ := h.cells5
  have HG := Lib.hid (fun w1 (hb : Below w.heap.size w w1) => get_any w1 L.fb s.fds fd (h.below hb).fds)
  have H := Lib.hid h; clear h
  have HS0 := Lib.hid (ans_zero w)
  go_enter Tryz.func84, Tryz.ntmps84
  go_wp2_with fail
  (with_reducible refine (HG.out _ ((Below.refl _ _).alloc (Nat.le_refl _) _)).mono ?_)
  rintro e w1 ⟨hb, hp⟩
  have HB := Lib.hid (((Below.refl w.heap.size w).alloc (Nat.le_refl _) _).trans (hb.mono (by simp)))
  have HS1 := Lib.hid (HS0.out.below hb); clear hb
  have hcs := HS1.out.cells
  obtain ⟨a0, a1, a2, a3, a4, a5, af, alt⟩ := hcs
  unfold NilS at a4 a5
  rcases hp with ⟨q, hq, rfl, ho, rfl⟩ | ⟨hno, rfl⟩
  · have hr : s.lastsS (q : Int) = ({}, s) := by unfold M.St.lastsS; rw [if_neg (by rw [isOpen_iff.2 ⟨by omega, by omega, ho⟩]; decide)]
    have HR := Lib.hid hr; clear hr ho
    go_wp2_with fail
    have hst := (HS1.out.store {} NilS NilS).below ((Below.refl _ _).alloc (Nat.le_refl _) (.cells #[I (s.fds q).node, I (s.fds q).off, I (s.fds q).flags] 90))
    have hb6 := (Below.put6 HB.out w.heap.size (Nat.le_refl _) (I 0) (I 0) (I 0) (I 0) NilS NilS)
    have hb7 := hb6.alloc hb6.size (.cells #[I (s.fds q).node, I (s.fds q).off, I (s.fds q).flags] 90)
    obtain ⟨r0, r1, r2, r3, r4, r5, -, -⟩ := hst.cells
    unfold put6 NilS at r0 r1 r2 r3 r4 r5
    refine bodyPost_ret (v := M.Ans.val {} NilS NilS) (by simp [results, Tryz.results84, go_sem, M.Ans.val, NilS, r0, r1, r2, r3, r4, r5]) rfl ?_
    exact ⟨_, L, rfl, by rw [HR.out]; exact AnsIn.plain rfl rfl, by rw [HR.out]; exact H.out.below hb7, Ext.same _ _ L, Tch.ofBelow hb7⟩
  · have hr : s.lastsS fd = (M.code 10, s) := by unfold M.St.lastsS; rw [if_pos (by cases hh : s.isOpen fd; rfl; exact absurd (isOpen_iff.1 hh) hno)]
    have HR := Lib.hid hr; clear hr hno
    go_wp2_with fail
    have hb0 := HB.out.alloc HB.out.size (.cells #[I 0, I 0, I 0] 90)
    have HSX := Lib.hid (HS1.out.below ((Below.refl _ _).alloc (Nat.le_refl _) (.cells #[I 0, I 0, I 0] 90)))
    have HBX := Lib.hid hb0; clear hb0
    (with_reducible refine (code_any 10 _).mono ?_)
    rintro e w2 ⟨rfl, hb2⟩
    have HS2 := Lib.hid (HSX.out.below hb2)
    have HB2 := Lib.hid (HBX.out.trans (hb2.mono HBX.out.size)); clear hb2
    clear a0 a1 a2 a3 a4 a5 af alt
    obtain ⟨a0, a1, a2, a3, a4, a5, af, alt⟩ := HS2.out.cells
    unfold NilS at a4 a5
    unfold M.Ans.val
    go_wp2_with fail
    have hb6 := Below.put6 HB2.out w.heap.size (Nat.le_refl _) (I (M.code 10).code) (I (M.code 10).n) (I (M.code 10).kind) (I (M.code 10).links) NilS NilS
    obtain ⟨r0, r1, r2, r3, r4, r5, -, -⟩ := (HS2.out.store (M.code 10) NilS NilS).cells
    unfold put6 NilS at r0 r1 r2 r3 r4 r5
    refine bodyPost_ret (v := M.Ans.val (M.code 10) NilS NilS) (by simp [results, Tryz.results84, go_sem, M.Ans.val, NilS, r0, r1, r2, r3, r4, r5]) rfl ?_
    exact ⟨_, L, rfl, by rw [HR.out]; exact AnsIn.plain rfl rfl, by rw [HR.out]; exact H.out.below hb6, Ext.same _ _ L, Tch.ofBelow hb6⟩

/-- The world of an operation's function, behind its first lines: the operation, and the answer's place. -/
def base2 (w : World) (o : M.Op) (dv : Value) : World := (w.alloc (.cells #[I o.kind, I o.fd, I o.n, I o.off, I o.flags, S o.path, S o.to, dv] 32)).alloc (.cells #[I 0, I 0, I 0, I 0, .slice none 0 0, .slice none 0 0] 29)
structure Base (w W : World) (o : M.Op) (dv : Value) : Prop where
  op : OpAt W w.heap.size o dv
  ans : AnsAt W (w.heap.size + 1) {} NilS NilS
  below : Below w.heap.size w W
theorem Base.start (w : World) (o : M.Op) (dv : Value) : Base w (base2 w o dv) o dv := by
  refine ⟨?_, ?_, ((Below.refl _ _).alloc (Nat.le_refl _) _).alloc (by simp) _⟩
  · unfold OpAt base2
    rw [heap_alloc_old _ _ (by simp)]
    exact heap_alloc_new _ _
  · unfold AnsAt base2
    have := heap_alloc_new (w.alloc (.cells #[I o.kind, I o.fd, I o.n, I o.off, I o.flags, S o.path, S o.to, dv] 32)) (.cells #[I 0, I 0, I 0, I 0, .slice none 0 0, .slice none 0 0] 29)
    rw [show (w.alloc (.cells #[I o.kind, I o.fd, I o.n, I o.off, I o.flags, S o.path, S o.to, dv] 32)).heap.size = w.heap.size + 1 by simp] at this
    exact this
theorem Base.below' {w W W' : World} {o : M.Op} {dv : Value} (h : Base w W o dv) (hb : Below W.heap.size W W') : Base w W' o dv := ⟨h.op.below hb, h.ans.below hb, h.below.trans (hb.mono h.below.size)⟩

theorem TreeAt.newFds {w w' : World} {tb : Nat} {L : Lay} {s : M.St} (h : TreeAt w tb L s) {t' : Tab} (ht : Tch (One L.fb) w w') (hf : TabAt w' L.fb t') : TreeAt w' tb L { s with fds := t' } := by
  have hk : ∀ k o, L.ow k = some o → o ≠ .fds → w'.heap[k]? = w.heap[k]? := fun k o ho hne => ht.block k (h.low k o ho) (fun e => by
    have e' : k = L.fb := e
    rw [e', h.ownf] at ho
    exact hne (by cases ho; rfl))
  refine ⟨(hk _ _ h.own (by simp)).trans h.cells, h.own, h.ownm, h.ownf, h.nodes.same (hk _ _ h.ownm (by simp)), h.srt, hf, fun n x hx => ?_, fun k o ho => Nat.lt_of_lt_of_le (h.low k o ho) ht.size⟩
  obtain ⟨dv, wv, mv, h1⟩ := h.node n x hx
  exact ⟨dv, wv, mv, h1.keep (fun k j hj => hk k _ hj (by simp)) (fun _ _ h => h)⟩
theorem Tch.ownF {w w' : World} {tb : Nat} {L : Lay} {s : M.St} (h : TreeAt w tb L s) {a : World} (ht : Tch (One L.fb) a w') : Tch (Owned L) a w' := ht.mono fun k _ hk => by
  have e : k = L.fb := hk
  rw [e]; unfold Owned; rw [h.ownf]; simp
theorem TreeAt.none {w : World} {tb : Nat} {L : Lay} {s : M.St} (h : TreeAt w tb L s) {k : Nat} (hk : w.heap.size ≤ k) : L.ow k = none := by
  cases ho : L.ow k with
  | none => rfl
  | some o => have := h.low k o ho; omega
theorem TreeAt.put6 {w : World} {tb : Nat} {L : Lay} {s : M.St} (h : TreeAt w tb L s) (b : Nat) (hb : L.ow b = Option.none) (x0 x1 x2 x3 x4 x5 : Value) : TreeAt (put6 w b x0 x1 x2 x3 x4 x5) tb L s := by
  exact h.keep (((((((Tch.refl (fun k => L.ow k = Option.none) w).setCell (p := ⟨b, 0, Option.none⟩) hb x0).setCell (p := ⟨b, 1, Option.none⟩) hb x1).setCell (p := ⟨b, 2, Option.none⟩) hb x2).setCell (p := ⟨b, 3, Option.none⟩) hb x3).setCell (p := ⟨b, 4, Option.none⟩) hb x4).setCell (p := ⟨b, 5, Option.none⟩) hb x5)
end Go.Proofs.YtpfaccpmgldkeaaGreatDoor
