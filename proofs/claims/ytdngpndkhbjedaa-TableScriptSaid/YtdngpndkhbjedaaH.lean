/- The walk of the statement TableScript. -/
import Derived.Test.YtdngpndkhbjedaaG
import Derived.Deep.RegionHeld3
import Derived.Deep.DeepCutAuto
import Derived.Deep.CutBlock
import Derived.StillTailTactics
namespace Go.Proofs.Ytdngpndkhbjedaa
open Go.RowKit

/-- The copy of an act: its four cells. -/
def ActAt (w : World) (b : Nat) (d f n g : Int) : Prop :=
  w.heap[b]? = some (.cells #[.int .i64 d, .int .i64 f, .int .i64 n, .int .i64 g] 33 (0, 0))

theorem get_no {w : World} {b : Nat} {t : Tab} {fd : Int} (h : TabAt w b t) (hno : ¬ IsOpen t fd) :
    Calls Try.prog 14 #[.pointer (some ⟨b, 0, none⟩), .int .i64 fd] w fun e w' => e = .returned (.tuple #[.agg #[.int .i64 0, .int .i64 0, .int .i64 0], .int .i64 10]) ∧ Below w.heap.size w w' := by
  refine (get_any w b t fd h).mono ?_
  rintro e w' ⟨hb, ⟨k', hk', rfl, ho, rfl⟩ | ⟨_, rfl⟩⟩
  · exact (hno ⟨by omega, by omega, by rw [Int.toNat_natCast]; exact ho⟩).elim
  · exact ⟨rfl, hb⟩

/-- An argument of acts, as it can be read. -/
def ActsArg (W : World) (v : Value) (l : List (Int × Int × Int × Int)) : Prop :=
  (∃ p c, v = .slice p 0 c ∧ l = []) ∨ ∃ b o c, v = .slice (some ⟨b, o, none⟩) l.length c ∧ ∀ j x, l[j]? = some x →
    W.cell? ⟨b, o + j * 4, none⟩ = some (.int .i64 x.1) ∧ W.cell? ⟨b, o + j * 4 + 1, none⟩ = some (.int .i64 x.2.1) ∧ W.cell? ⟨b, o + j * 4 + 2, none⟩ = some (.int .i64 x.2.2.1) ∧ W.cell? ⟨b, o + j * 4 + 3, none⟩ = some (.int .i64 x.2.2.2)

/-- What the two tables are at a round's head. -/
def ScRel (W : World) (tb rb : Nat) (wr : World) : Prop := ∃ t : Tab, TabAt wr tb t ∧ TabAt wr rb t ∧ Below W.heap.size W wr

/-- Behind the switch. -/
def CutRel (W : World) (tb rb xb : Nat) (d f n g : Int) (wc : World) : Prop := ∃ t : Tab, TabAt wc tb t ∧ TabAt wc rb t ∧ Below W.heap.size W wc ∧ ActAt wc xb d f n g

theorem ActAt.same {w w' : World} {b : Nat} {d f n g : Int} (h : ActAt w b d f n g) (hb : w'.heap[b]? = w.heap[b]?) : ActAt w' b d f n g := hb.trans h
theorem ActAt.lt {w : World} {b : Nat} {d f n g : Int} (h : ActAt w b d f n g) : b < w.heap.size := by
  rcases Nat.lt_or_ge b w.heap.size with h' | h'
  · exact h'
  · unfold ActAt at h; rw [Array.getElem?_eq_none h'] at h; cases h
theorem ActAt.tch {w w' : World} {b ob : Nat} {d f n g : Int} (h : ActAt w b d f n g) (ht : Tch (One ob) w w') (hne : b ≠ ob) : ActAt w' b d f n g := h.same (ht.block b h.lt hne)
theorem ActAt.below {w w' : World} {b : Nat} {d f n g : Int} (h : ActAt w b d f n g) (ht : Below w.heap.size w w') : ActAt w' b d f n g := h.same (ht.block b h.lt)
theorem ActAt.cells {w : World} {b : Nat} {d f n g : Int} (h : ActAt w b d f n g) : w.cell? ⟨b, 0, none⟩ = some (.int .i64 d) ∧ w.cell? ⟨b, 1, none⟩ = some (.int .i64 f) ∧ w.cell? ⟨b, 2, none⟩ = some (.int .i64 n) ∧ w.cell? ⟨b, 3, none⟩ = some (.int .i64 g) :=
  ⟨cell_of_row _ _ _ _ _ _ h, cell_of_row _ _ _ _ _ _ h, cell_of_row _ _ _ _ _ _ h, cell_of_row _ _ _ _ _ _ h⟩

/-- The two tables, and the act, as the round holds them. -/
structure Rnd (W : World) (tb rb xb : Nat) (t u : Tab) (d f n g : Int) (wr : World) : Prop where
  tt : TabAt wr tb t
  rr : TabAt wr rb u
  xx : ActAt wr xb d f n g
  bel : Below W.heap.size W wr

theorem Rnd.tstep {W wr w' : World} {tb rb xb : Nat} {t t' u : Tab} {d f n g : Int} (h : Rnd W tb rb xb t u d f n g wr) (ht : Tch (One tb) wr w') (h1 : W.heap.size ≤ tb) (h2 : tb < rb) (h3 : rb < xb) (hn : TabAt w' tb t') : Rnd W tb rb xb t' u d f n g w' :=
  ⟨hn, h.rr.tch ht (fun e => by unfold One at e; omega), h.xx.tch ht (by omega), one_below h.bel ht h1⟩
theorem Rnd.rstep {W wr w' : World} {tb rb xb : Nat} {t u u' : Tab} {d f n g : Int} (h : Rnd W tb rb xb t u d f n g wr) (ht : Tch (One rb) wr w') (h1 : W.heap.size ≤ tb) (h2 : tb < rb) (h3 : rb < xb) (hn : TabAt w' rb u') : Rnd W tb rb xb t u' d f n g w' :=
  ⟨h.tt.tch ht (fun e => by unfold One at e; omega), hn, h.xx.tch ht (by omega), one_below h.bel ht (by omega)⟩
theorem Rnd.bstep {W wr w' : World} {tb rb xb : Nat} {t u : Tab} {d f n g : Int} (h : Rnd W tb rb xb t u d f n g wr) (ht : Below wr.heap.size wr w') : Rnd W tb rb xb t u d f n g w' :=
  ⟨h.tt.below ht h.tt.lt, h.rr.below ht h.rr.lt, h.xx.below ht, h.bel.trans (ht.mono h.bel.size)⟩

/- What each call tells and leaves, as functions of the table. -/
def freeOf (t : Tab) : Option Nat := (List.range 16).find? fun i => !(t i).opn
def opFd (t : Tab) : Int := match freeOf t with | some k => k | none => 0
def opCode (t : Tab) : Int := match freeOf t with | some _ => 0 | none => 14
def opTab (t : Tab) (node flags : Int) : Tab := match freeOf t with | some k => tset t k ⟨node, 0, flags, true⟩ | none => t
def clNode (t : Tab) (fd : Int) : Int := if isOpenB t fd then (t fd.toNat).node else 0
def clCode (t : Tab) (fd : Int) : Int := if isOpenB t fd then 0 else 10
def clTab (t : Tab) (fd : Int) : Tab := if isOpenB t fd then tset t fd.toNat zeroSlot else t
def mvCode (t : Tab) (fd off : Int) : Int := if isOpenB t fd then (if off < 0 then 2 else 0) else 10
def mvTab (t : Tab) (fd off : Int) : Tab := if isOpenB t fd then (if off < 0 then t else tset t fd.toNat { t fd.toNat with off := off }) else t

theorem isOpenB_nat {t : Tab} {k : Nat} (hk : k < 16) (h : (t k).opn = true) : isOpenB t (k : Int) = true := isOpenB_iff.2 ⟨by omega, by omega, by rw [Int.toNat_natCast]; exact h⟩
theorem isOpenB_not {t : Tab} {fd : Int} (h : ¬ IsOpen t fd) : isOpenB t fd = false := Bool.eq_false_iff.2 (fun h' => h (isOpenB_iff.1 h'))

def OpQ (b : Nat) (t : Tab) (node flags : Int) (w : World) (e : Ending) (w' : World) : Prop := e = .returned (.tuple #[.int .i64 (opFd t), .int .i64 (opCode t)]) ∧ Tch (One b) w w' ∧ TabAt w' b (opTab t node flags)
theorem openPost_q {b : Nat} {t : Tab} {node flags : Int} {w : World} {e : Ending} {w' : World} (h : OpenPost b t node flags w e w') : OpQ b t node flags w e w' := by
  rcases h with ⟨ht, ⟨k, hk, rfl, hf, hm, htab⟩ | ⟨rfl, hfull, htab⟩⟩
  · have h1 : freeOf t = some k := by
      unfold freeOf
      rw [List.find?_range_eq_some]
      exact ⟨by simp [hf], by simpa using hk, fun j hj => by simp [hm j hj]⟩
    exact ⟨by simp [opFd, opCode, h1], ht, by simpa [opTab, h1] using htab⟩
  · have h1 : freeOf t = none := by
      unfold freeOf
      rw [List.find?_eq_none]
      intro x hx
      simp [hfull x (by simpa using hx)]
    exact ⟨by simp [opFd, opCode, h1], ht, by simpa [opTab, h1] using htab⟩

def ClQ (b : Nat) (t : Tab) (fd : Int) (w : World) (e : Ending) (w' : World) : Prop := e = .returned (.tuple #[.int .i64 (clNode t fd), .int .i64 (clCode t fd)]) ∧ Tch (One b) w w' ∧ TabAt w' b (clTab t fd)
theorem closePost_q {b : Nat} {t : Tab} {fd : Int} {w : World} {e : Ending} {w' : World} (h : ClosePost b t fd w e w') : ClQ b t fd w e w' := by
  rcases h with ⟨ht, ⟨k, hk, rfl, ho, rfl, htab⟩ | ⟨hno, rfl, htab⟩⟩
  · have h1 := isOpenB_nat hk ho
    exact ⟨by simp [clNode, clCode, h1], ht, by simpa [clTab, h1] using htab⟩
  · have h1 := isOpenB_not hno
    exact ⟨by simp [clNode, clCode, h1], ht, by simpa [clTab, h1] using htab⟩

def MvQ (b : Nat) (t : Tab) (fd off : Int) (w : World) (e : Ending) (w' : World) : Prop := e = .returned (.int .i64 (mvCode t fd off)) ∧ Tch (One b) w w' ∧ TabAt w' b (mvTab t fd off)
theorem movePost_q {b : Nat} {t : Tab} {fd off : Int} {w : World} {e : Ending} {w' : World} (h : MovePost b t fd off w e w') : MvQ b t fd off w e w' := by
  rcases h with ⟨ht, ⟨k, hk, rfl, ho, ⟨hneg, rfl, htab⟩ | ⟨hpos, rfl, htab⟩⟩ | ⟨hno, rfl, htab⟩⟩
  · have h1 := isOpenB_nat hk ho
    exact ⟨by simp [mvCode, h1, hneg], ht, by simpa [mvTab, h1, hneg] using htab⟩
  · have h1 := isOpenB_nat hk ho
    have h2 : ¬ off < 0 := by omega
    exact ⟨by simp [mvCode, h1, h2], ht, by simpa [mvTab, h1, h2] using htab⟩
  · have h1 := isOpenB_not hno
    exact ⟨by simp [mvCode, h1], ht, by simpa [mvTab, h1] using htab⟩

section
variable {W wr : World} {tb rb xb : Nat} {t u : Tab} {d f n g : Int}
def Lay (W : World) (tb rb xb : Nat) : Prop := W.heap.size ≤ tb ∧ tb < rb ∧ rb < xb

theorem op_t (h : Rnd W tb rb xb t u d f n g wr) (l : Lay W tb rb xb) (x y : Int) : Calls Try.prog 8 #[.pointer (some ⟨tb, 0, none⟩), .int .i64 x, .int .i64 y] wr fun e w' => e = .returned (.tuple #[.int .i64 (opFd t), .int .i64 (opCode t)]) ∧ Rnd W tb rb xb (opTab t x y) u d f n g w' :=
  (open_any wr tb t x y h.tt).mono fun _ _ hp => by
    obtain ⟨h1, h2, h3⟩ := openPost_q hp
    exact ⟨h1, h.tstep h2 l.1 l.2.1 l.2.2 h3⟩
theorem op_r (h : Rnd W tb rb xb t u d f n g wr) (l : Lay W tb rb xb) (x y : Int) : Calls Try.prog 9 #[.pointer (some ⟨rb, 0, none⟩), .int .i64 x, .int .i64 y] wr fun e w' => e = .returned (.tuple #[.int .i64 (opFd u), .int .i64 (opCode u)]) ∧ Rnd W tb rb xb t (opTab u x y) d f n g w' :=
  (ropen_any wr rb u x y h.rr).mono fun _ _ hp => by
    obtain ⟨h1, h2, h3⟩ := openPost_q hp
    exact ⟨h1, h.rstep h2 l.1 l.2.1 l.2.2 h3⟩
theorem cl_t (h : Rnd W tb rb xb t u d f n g wr) (l : Lay W tb rb xb) (x : Int) : Calls Try.prog 10 #[.pointer (some ⟨tb, 0, none⟩), .int .i64 x] wr fun e w' => e = .returned (.tuple #[.int .i64 (clNode t x), .int .i64 (clCode t x)]) ∧ Rnd W tb rb xb (clTab t x) u d f n g w' :=
  (close_any wr tb t x h.tt).mono fun _ _ hp => by
    obtain ⟨h1, h2, h3⟩ := closePost_q hp
    exact ⟨h1, h.tstep h2 l.1 l.2.1 l.2.2 h3⟩
theorem cl_r (h : Rnd W tb rb xb t u d f n g wr) (l : Lay W tb rb xb) (x : Int) : Calls Try.prog 11 #[.pointer (some ⟨rb, 0, none⟩), .int .i64 x] wr fun e w' => e = .returned (.tuple #[.int .i64 (clNode u x), .int .i64 (clCode u x)]) ∧ Rnd W tb rb xb t (clTab u x) d f n g w' :=
  (rclose_any wr rb u x h.rr).mono fun _ _ hp => by
    obtain ⟨h1, h2, h3⟩ := closePost_q hp
    exact ⟨h1, h.rstep h2 l.1 l.2.1 l.2.2 h3⟩
theorem mv_t (h : Rnd W tb rb xb t u d f n g wr) (l : Lay W tb rb xb) (x y : Int) : Calls Try.prog 12 #[.pointer (some ⟨tb, 0, none⟩), .int .i64 x, .int .i64 y] wr fun e w' => e = .returned (.int .i64 (mvCode t x y)) ∧ Rnd W tb rb xb (mvTab t x y) u d f n g w' :=
  (move_any wr tb t x y h.tt).mono fun _ _ hp => by
    obtain ⟨h1, h2, h3⟩ := movePost_q hp
    exact ⟨h1, h.tstep h2 l.1 l.2.1 l.2.2 h3⟩
theorem mv_r (h : Rnd W tb rb xb t u d f n g wr) (l : Lay W tb rb xb) (x y : Int) : Calls Try.prog 13 #[.pointer (some ⟨rb, 0, none⟩), .int .i64 x, .int .i64 y] wr fun e w' => e = .returned (.int .i64 (mvCode u x y)) ∧ Rnd W tb rb xb t (mvTab u x y) d f n g w' :=
  (rmove_any wr rb u x y h.rr).mono fun _ _ hp => by
    obtain ⟨h1, h2, h3⟩ := movePost_q hp
    exact ⟨h1, h.rstep h2 l.1 l.2.1 l.2.2 h3⟩
theorem Rnd.drew (h : Rnd W tb rb xb t u d f n g wr) : Rnd W tb rb xb t u d f n g wr.drew := ⟨h.tt.same rfl, h.rr.same rfl, h.xx.same rfl, ⟨h.bel.os, h.bel.tape, h.bel.output, h.bel.size, h.bel.block⟩⟩
theorem Rnd.alloc (h : Rnd W tb rb xb t u d f n g wr) (o : Obj) : Rnd W tb rb xb t u d f n g (wr.alloc o) := h.bstep ((Below.refl _ _).alloc (Nat.le_refl _) o)
theorem Rnd.cut (h : Rnd W tb rb xb t t d f n g wr) : CutRel W tb rb xb d f n g wr := ⟨t, h.tt, h.rr, h.bel, h.xx⟩
end

theorem Owned.keep {base : Nat} {w w' : World} {v : Value} {l : List Nat} (h : Owned base w v l) (hb : Below w.heap.size w w') : Owned base w' v l :=
  World.ownsRow.kept (row := none) h ⟨hb.os, hb.tape, hb.output, hb.size, fun k hk _ => hb.block k hk⟩ (by cases v.ownBlock <;> simp)

/-- All that the long test reads. -/
structure View (W : World) (tb rb xb fa fb b0 : Nat) (u : Tab) (d f n g a b c a' b' c' : Int) (v : Value) (wr : World) : Prop where
  rnd : Rnd W tb rb xb u u d f n g wr
  p0 : wr.cell? ⟨fa, 0, none⟩ = some (.int .i64 a)
  p1 : wr.cell? ⟨fa, 1, none⟩ = some (.int .i64 b)
  p2 : wr.cell? ⟨fa, 2, none⟩ = some (.int .i64 c)
  q0 : wr.cell? ⟨fb, 0, none⟩ = some (.int .i64 a')
  q1 : wr.cell? ⟨fb, 1, none⟩ = some (.int .i64 b')
  q2 : wr.cell? ⟨fb, 2, none⟩ = some (.int .i64 c')
  own : Owned b0 wr v (opensTo u 16)
  lt : rb < b0
  le : b0 ≤ wr.heap.size

section
variable {W wr w' : World} {tb rb xb fa fb b0 : Nat} {u : Tab} {d f n g a b c a' b' c' : Int} {v : Value}
theorem View.below (h : View W tb rb xb fa fb b0 u d f n g a b c a' b' c' v wr) (hb : Below wr.heap.size wr w') : View W tb rb xb fa fb b0 u d f n g a b c a' b' c' v w' :=
  ⟨h.rnd.bstep hb, cell_later hb h.p0, cell_later hb h.p1, cell_later hb h.p2, cell_later hb h.q0, cell_later hb h.q1, cell_later hb h.q2, h.own.keep hb, h.lt, Nat.le_trans h.le hb.size⟩
theorem View.drew (h : View W tb rb xb fa fb b0 u d f n g a b c a' b' c' v wr) : View W tb rb xb fa fb b0 u d f n g a b c a' b' c' v wr.drew := h.below (Below.refl _ _).drew
theorem View.xs (h : View W tb rb xb fa fb b0 u d f n g a b c a' b' c' v wr) : wr.cell? ⟨xb, 1, none⟩ = some (.int .i64 f) ∧ wr.cell? ⟨xb, 2, none⟩ = some (.int .i64 n) := ⟨h.rnd.xx.cells.2.1, h.rnd.xx.cells.2.2.1⟩
theorem there_v (h : View W tb rb xb fa fb b0 u d f n g a b c a' b' c' v wr) : Calls Try.prog 15 #[.pointer (some ⟨rb, 0, none⟩), .int .i64 f] wr fun e w' => e = .returned (.bool (isOpenB u f)) ∧ View W tb rb xb fa fb b0 u d f n g a b c a' b' c' v w' :=
  (there_any wr rb u f h.rnd.rr).mono fun _ _ hp => ⟨hp.1, hp.2 ▸ h⟩
theorem rlist_v (h : View W tb rb xb fa fb b0 u d f n g a b c a' b' c' v wr) : Calls Try.prog 18 #[.pointer (some ⟨rb, 0, none⟩)] wr fun e w' => ∃ v2, e = .returned v2 ∧ IntsIn w' v2 (opensTo u 16) ∧ View W tb rb xb fa fb b0 u d f n g a b c a' b' c' v w' :=
  (rlist_any wr rb u h.rnd.rr).mono fun _ _ ⟨v2, he, ho, hb⟩ => ⟨v2, he, ho.reads, h.below hb⟩
theorem same_v {v2 : Value} (h : View W tb rb xb fa fb b0 u d f n g a b c a' b' c' v wr) (h2 : IntsIn wr v2 (opensTo u 16)) : Calls Try.prog 17 #[v, v2] wr fun e w' => e = .returned (.bool true) ∧ View W tb rb xb fa fb b0 u d f n g a b c a' b' c' v w' := by
  have hl := opensTo_len u 16
  refine (same_any wr v v2 _ _ h.own.reads h2 (by omega) (by omega)).mono fun e w' ⟨he, q, hq⟩ => ?_
  subst hq
  exact ⟨by rw [he]; simp, h.below (below_drewN (Below.refl _ _))⟩
theorem holds_v (h : View W tb rb xb fa fb b0 u d f n g a b c a' b' c' v wr) : Calls Try.prog 19 #[.pointer (some ⟨tb, 0, none⟩), .int .i64 n] wr fun e w' => e = .returned (.bool (holdsB u n)) ∧ View W tb rb xb fa fb b0 u d f n g a b c a' b' c' v w' :=
  (holds_any wr tb u n h.rnd.tt).mono fun _ _ hp => ⟨hp.1, h.below hp.2⟩
theorem rholds_v (h : View W tb rb xb fa fb b0 u d f n g a b c a' b' c' v wr) : Calls Try.prog 20 #[.pointer (some ⟨rb, 0, none⟩), .int .i64 n] wr fun e w' => e = .returned (.bool (holdsB u n)) ∧ View W tb rb xb fa fb b0 u d f n g a b c a' b' c' v w' :=
  (rholds_any wr rb u n h.rnd.rr).mono fun _ _ hp => ⟨hp.1, hp.2 ▸ h⟩
theorem over_v (h : View W tb rb xb fa fb b0 u d f n g a b c a' b' c' v wr) (l : Lay W tb rb xb) : Calls Try.prog 21 #[v] wr fun e w' => e = .returned (.tuple #[]) ∧ ScRel W tb rb w' :=
  (over_any b0 wr v _ h.own h.le (by have := opensTo_len u 16; omega)).mono fun _ _ ⟨he, hb⟩ =>
    ⟨he, u, h.rnd.tt.below hb (Nat.lt_trans l.2.1 h.lt), h.rnd.rr.below hb h.lt, h.rnd.bel.trans (hb.mono (by have := l.1; have := l.2.1; have := h.lt; omega))⟩
end

set_option maxRecDepth 100000 in
set_option maxHeartbeats 8000000 in
theorem script_some (bb oo c n : Nat) (l : List (Int × Int × Int × Int)) (w : World) (hn : n ≤ 80) (N : Hid (l.length = n))
    (A : Hid (∀ j x, l[j]? = some x → w.cell? ⟨bb, oo + j * 4, none⟩ = some (.int .i64 x.1) ∧ w.cell? ⟨bb, oo + j * 4 + 1, none⟩ = some (.int .i64 x.2.1) ∧ w.cell? ⟨bb, oo + j * 4 + 2, none⟩ = some (.int .i64 x.2.2.1) ∧ w.cell? ⟨bb, oo + j * 4 + 3, none⟩ = some (.int .i64 x.2.2.2))) :
    Calls Try.prog 3 #[.slice (some ⟨bb, oo, none⟩) n c] w fun e w' => e = .returned (.bool true) ∧ Below w.heap.size w w' := by
  go_enter Try.func3, Try.ntmps3
  go_wp2_with fail
  (with_reducible refine (new_any _).mono ?_)
  rintro e w1 ⟨rfl, ht, hb⟩
  have H := Lib.hid ht; clear ht
  have B1 := Lib.hid hb; clear hb
  have hw1 : w.heap.size < w1.heap.size := H.out.lt
  have Hw1 := Lib.hid hw1; clear hw1
  go_wp2_with fail
  go_loopw [5] (fun i wr => ∃ k : Nat, k ≤ n ∧ i = .int .i64 k ∧ ScRel w w.heap.size w1.heap.size wr) (fun i _ => n - (intOf i).toNat)
  case atStart =>
    refine ⟨0, by omega, rfl, fun _ => zeroSlot, ?_, ?_, B1.out.alloc B1.out.size _⟩
    · exact H.out.below ((Below.refl w1.heap.size _).alloc (Nat.le_refl _) _) H.out.lt
    · exact tab_zero (heap_alloc_new w1 _) (by kernel_rfl)
  case round =>
    clear H B1
    obtain ⟨k, hk, rfl, t, ht, hr, hbel⟩ := hrel
    have HT := Lib.hid ht; clear ht
    have HR := Lib.hid hr; clear hr
    have B1 := Lib.hid hbel; clear hbel
    by_cases hlt : k < n
    · obtain ⟨⟨xd, xf, xn, xg⟩, hx⟩ : ∃ x, l[k]? = some x := ⟨l[k]'(by have := N.out; omega), by simp⟩
      obtain ⟨a0, a1, a2, a3⟩ := A.out k _ hx
      have a0 := cell_later B1.out a0
      have a1 := cell_later B1.out a1
      have a2 := cell_later B1.out a2
      have a3 := cell_later B1.out a3
      dsimp only at a0 a1 a2 a3
      clear hx
      have g1 : (0 : Int) ≤ (k : Int) := by omega
      have g2 : (k : Int) < (n : Int) := by omega
      have hnew := heap_alloc_new wr (.cells #[.int .i64 xd, .int .i64 xf, .int .i64 xn, .int .i64 xg] 33)
      have R0 := Lib.hid (show Rnd w w.heap.size w1.heap.size wr.heap.size t t xd xf xn xg _ from ⟨HT.out.below ((Below.refl wr.heap.size _).alloc (Nat.le_refl _) _) HT.out.lt, HR.out.below ((Below.refl wr.heap.size _).alloc (Nat.le_refl _) _) HR.out.lt, hnew, B1.out.alloc B1.out.size _⟩)
      clear hnew
      have L : Lay w w.heap.size w1.heap.size wr.heap.size := ⟨Nat.le_refl _, Hw1.out, HR.out.lt⟩
      clear HT HR B1 Hw1
      go_upto_block 2 with fail
      go_cut [] (fun wc => CutRel w w.heap.size w1.heap.size wr.heap.size xd xf xn xg wc)
      case first =>
        by_cases hd0 : xd = 0
        · subst hd0
          go_wp2_with fail
          (with_reducible refine (op_t R0.out L xn xg).mono ?_)
          rintro e w2 ⟨rfl, h1⟩
          obtain ⟨x0, x1, x2, x3⟩ := h1.xx.cells
          have R1 := Lib.hid h1; clear h1
          go_wp2_with fail
          (with_reducible refine (op_r R1.out L xn xg).mono ?_)
          rintro e w3 ⟨rfl, h1⟩
          go_wp2_with fail
          go_meet
          case rel => exact h1.cut
        · have d0 : (xd == 0) = false := by simpa using hd0
          by_cases hd1 : xd = 1
          · subst hd1
            clear hd0
            go_wp2_with fail
            (with_reducible refine (cl_t R0.out L xf).mono ?_)
            rintro e w2 ⟨rfl, h1⟩
            obtain ⟨x0, x1, x2, x3⟩ := h1.xx.cells
            have R1 := Lib.hid h1; clear h1
            go_wp2_with fail
            (with_reducible refine (cl_r R1.out L xf).mono ?_)
            rintro e w3 ⟨rfl, h1⟩
            go_wp2_with fail
            go_meet
            case rel => exact h1.cut
          · have d1 : (xd == 1) = false := by simpa using hd1
            by_cases hd2 : xd = 2
            · subst hd2
              clear hd0 hd1
              have R1 := R0.out.drew
              go_wp2_with fail
              go_region_held3 (fun w' => w'.cell? ⟨wr.heap.size, 1, none⟩ = some (.int .i64 xf) ∧ w'.cell? ⟨wr.heap.size, 2, none⟩ = some (.int .i64 xn)) (first | go_keep | exact ⟨(Rnd.xx (by assumption)).cells.2.1, (Rnd.xx (by assumption)).cells.2.2.1⟩)
                (first
                  | (go_at_call 12; (with_reducible refine (mv_t (by assumption) L xf xn).mono ?_); rintro e w' ⟨rfl, hR⟩)
                  | (go_at_call 13; (with_reducible refine (mv_r (by assumption) L xf xn).mono ?_); rintro e w' ⟨rfl, hR⟩))
              all_goals
                go_wp2_with fail
                go_meet
                case rel => exact Rnd.cut (by assumption)
            · have d2 : (xd == 2) = false := by simpa using hd2
              clear hd0 hd1 hd2
              go_wp2_with fail
              go_meet
              case rel => exact R0.out.cut
      case rest =>
        obtain ⟨u, ht, hr, hbel, hx⟩ := hcut
        have R1 := Lib.hid (show Rnd w w.heap.size w1.heap.size wr.heap.size u u xd xf xn xg wc from ⟨ht, hr, hx, hbel⟩)
        clear ht hr hx hbel R0 a0 a1 a2 a3
        obtain ⟨x0, x1, x2, x3⟩ := R1.out.xx.cells
        by_cases ho : IsOpen u xf
        · obtain ⟨h1, h2, h3⟩ := ho
          obtain ⟨q, rfl⟩ := Int.eq_ofNat_of_zero_le h1
          have hq : q < 16 := by omega
          rw [Int.toNat_natCast] at h3
          have Ho := Lib.hid h3; clear h3 h1 h2
          go_wp2_with fail
          (with_reducible refine (get_at q R1.out.tt hq Ho.out).mono ?_)
          rintro e w2 ⟨rfl, hb⟩
          have h2 := R1.out.bstep hb
          have H2 := Lib.hid h2
          obtain ⟨y0, y1, y2, y3⟩ := h2.xx.cells
          have lt1 : wr.heap.size < w2.heap.size := h2.xx.lt
          have lt2 : w1.heap.size < w2.heap.size := h2.rr.lt
          obtain ⟨s0, s1, s2, s3, f0, f1, f2, f3⟩ := h2.rr.slot q hq
          clear f0 f1 f2 f3
          have R2 := Lib.hid ((h2.alloc (.cells #[.int .i64 (u q).node, .int .i64 (u q).off, .int .i64 (u q).flags] 40)).alloc (.cells #[.int .i64 0, .int .i64 0, .int .i64 0] 40)); clear h2 hb
          have hth := there_any _ _ _ q R2.out.rr
          rw [isOpenB_nat hq Ho.out] at hth
          have HTh := Lib.hid hth; clear hth
          clear x0 x1 x2 x3
          go_wp2_with fail
          (with_reducible refine HTh.out.mono ?_)
          rintro e w3 ⟨rfl, rfl⟩
          go_wp2_with fail
          have i0 : (0 : Int) ≤ (q : Int) := by omega
          have i1 : (q : Int) < 16 := by omega
          go_region_held3 (fun w' => w'.cell? ⟨wr.heap.size, 1, none⟩ = some (.int .i64 q) ∧ w'.cell? ⟨w1.heap.size, q * 4, none⟩ = some (.int .i64 (u q).node) ∧ w'.cell? ⟨w1.heap.size, q * 4 + 1, none⟩ = some (.int .i64 (u q).off) ∧ w'.cell? ⟨w1.heap.size, q * 4 + 2, none⟩ = some (.int .i64 (u q).flags)) (go_keep) (fail)
          clear s0 s1 s2 s3 y0 y1 y2 y3
          have hR3 : Rnd w w.heap.size w1.heap.size wr.heap.size u u xd q xn xg ((w2.alloc (.cells #[.int .i64 (u q).node, .int .i64 (u q).off, .int .i64 (u q).flags] 40)).alloc (.cells #[.int .i64 (u q).node, .int .i64 (u q).off, .int .i64 (u q).flags] 40)).drew := ((H2.out.alloc _).alloc _).drew
          have R3 := Lib.hid hR3; clear hR3
          go_wp2_with fail
          (with_reducible refine (list_any _ _ u R3.out.tt).mono ?_)
          rintro e w4 ⟨v, rfl, hown, hb⟩
          have H4 := Lib.hid (R3.out.bstep hb)
          have Own := Lib.hid hown; clear hown
          have c0 : ∀ j, w4.cell? ⟨w2.heap.size, j, none⟩ = #[Value.int .i64 (u q).node, .int .i64 (u q).off, .int .i64 (u q).flags][j]? := fun j => by
            rw [hb.cell (p := ⟨w2.heap.size, j, none⟩) (by simp; omega)]
            exact cell_of_row _ _ _ _ _ _ (heap_alloc2_old w2 _ _)
          have c1 : ∀ j, w4.cell? ⟨w2.heap.size + 1, j, none⟩ = #[Value.int .i64 (u q).node, .int .i64 (u q).off, .int .i64 (u q).flags][j]? := fun j => by
            rw [hb.cell (p := ⟨w2.heap.size + 1, j, none⟩) (by simp)]
            exact cell_of_row _ _ _ _ _ _ (heap_alloc2_new w2 _ _)
          have hV0 : View w w.heap.size w1.heap.size wr.heap.size w2.heap.size (w2.heap.size + 1) (w2.heap.size + 1 + 1) u xd q xn xg (u q).node (u q).off (u q).flags (u q).node (u q).off (u q).flags v w4 :=
            ⟨H4.out, c0 0, c0 1, c0 2, c1 0, c1 1, c1 2, by simpa using Own.out, by omega, by have := hb.size; simpa using this⟩
          clear c0 c1 hb
          have hop := isOpenB_nat hq Ho.out
          clear Own H4 R3 H2 R1
          go_wp2_with fail
          refine wp_region_held_drew (S := View w w.heap.size w1.heap.size wr.heap.size w2.heap.size (w2.heap.size + 1) (w2.heap.size + 1 + 1) u xd q xn xg (u q).node (u q).off (u q).flags (u q).node (u q).off (u q).flags v) (by kernel_rfl) (hV0.drew) (fun hHeld => ?_)
          refine wpAnyH_take (i := 0) (oi := { dst := some 146, op := Go.Op.load 40 (Go.Operand.tmp 15), type := 40, pos := "law.go:69", after := #[], guard := none }) (v := (.agg #[.int .i64 (u q).node, .int .i64 (u q).off, .int .i64 (u q).flags])) rfl (by kernel_rfl) (by kernel_rfl) (by kernel_rfl) (fun _ _ _ h => h) (Or.inl ⟨by rfl, ?ay0⟩) hHeld ?_
          case ay0 => (intro w hSw; (obtain ⟨k1, k2⟩ := View.xs hSw; have k3 := View.p0 hSw; have k4 := View.p1 hSw; have k5 := View.p2 hSw; have k6 := View.q0 hSw; have k7 := View.q1 hSw; have k8 := View.q2 hSw); go_simp)
          try simp only [Act.put, List.setIfInBounds_toArray, List.set_cons_zero, List.set_cons_succ]
          refine wpAnyH_take (i := 1) (oi := { dst := some 147, op := Go.Op.load 40 (Go.Operand.tmp 17), type := 40, pos := "law.go:69", after := #[], guard := none }) (v := (.agg #[.int .i64 (u q).node, .int .i64 (u q).off, .int .i64 (u q).flags])) rfl (by kernel_rfl) (by kernel_rfl) (by kernel_rfl) (fun _ _ _ h => h) (Or.inl ⟨by rfl, ?ay1⟩) hHeld ?_
          case ay1 => (intro w hSw; (obtain ⟨k1, k2⟩ := View.xs hSw; have k3 := View.p0 hSw; have k4 := View.p1 hSw; have k5 := View.p2 hSw; have k6 := View.q0 hSw; have k7 := View.q1 hSw; have k8 := View.q2 hSw); go_simp)
          try simp only [Act.put, List.setIfInBounds_toArray, List.set_cons_zero, List.set_cons_succ]
          refine wpAnyH_take (i := 2) (oi := { dst := some 148, op := Go.Op.binOp Go.BinOp.neq 40 (Go.Operand.tmp 146) (Go.Operand.tmp 147) 40, type := 4, pos := "law.go:69", after := #[{ on := 0, ground := Go.Ground.data }, { on := 1, ground := Go.Ground.data }], guard := none }) (v := (.bool false)) rfl (by kernel_rfl) (by kernel_rfl) (by kernel_rfl) (fun _ _ _ h => h) (Or.inl ⟨by rfl, ?ay2⟩) hHeld ?_
          case ay2 => (intro w hSw; (obtain ⟨k1, k2⟩ := View.xs hSw; have k3 := View.p0 hSw; have k4 := View.p1 hSw; have k5 := View.p2 hSw; have k6 := View.q0 hSw; have k7 := View.q1 hSw; have k8 := View.q2 hSw); go_simp)
          try simp only [Act.put, List.setIfInBounds_toArray, List.set_cons_zero, List.set_cons_succ]
          refine wpAnyH_take (i := 3) (oi := { dst := some 149, op := Go.Op.move (Go.Operand.tmp 148), type := 4, pos := "law.go:69", after := #[{ on := 2, ground := Go.Ground.data }], guard := none }) (v := (.bool false)) rfl (by kernel_rfl) (by kernel_rfl) (by kernel_rfl) (fun _ _ _ h => h) (Or.inl ⟨by rfl, ?ay3⟩) hHeld ?_
          case ay3 => (intro w hSw; (obtain ⟨k1, k2⟩ := View.xs hSw; have k3 := View.p0 hSw; have k4 := View.p1 hSw; have k5 := View.p2 hSw; have k6 := View.q0 hSw; have k7 := View.q1 hSw; have k8 := View.q2 hSw); go_simp)
          try simp only [Act.put, List.setIfInBounds_toArray, List.set_cons_zero, List.set_cons_succ]
          refine wpAnyH_take (i := 4) (oi := { dst := some 150, op := Go.Op.move (Go.Operand.tmp 16), type := 34, pos := "law.go:69", after := #[{ on := 3, ground := Go.Ground.guard }], guard := some (3, false) }) (v := (.int .i64 0)) rfl (by kernel_rfl) (by kernel_rfl) (by kernel_rfl) (fun _ _ _ h => h) (Or.inl ⟨by rfl, ?ay4⟩) hHeld ?_
          case ay4 => (intro w hSw; (obtain ⟨k1, k2⟩ := View.xs hSw; have k3 := View.p0 hSw; have k4 := View.p1 hSw; have k5 := View.p2 hSw; have k6 := View.q0 hSw; have k7 := View.q1 hSw; have k8 := View.q2 hSw); go_simp)
          try simp only [Act.put, List.setIfInBounds_toArray, List.set_cons_zero, List.set_cons_succ]
          refine wpAnyH_take (i := 5) (oi := { dst := some 151, op := Go.Op.binOp Go.BinOp.eql 34 (Go.Operand.tmp 150) (Go.Operand.const (Go.Value.int Go.IntKind.i64 0)) 34, type := 4, pos := "law.go:69", after := #[{ on := 4, ground := Go.Ground.data }, { on := 3, ground := Go.Ground.guard }], guard := some (3, false) }) (v := (.bool true)) rfl (by kernel_rfl) (by kernel_rfl) (by kernel_rfl) (fun _ _ _ h => h) (Or.inl ⟨by rfl, ?ay5⟩) hHeld ?_
          case ay5 => (intro w hSw; (obtain ⟨k1, k2⟩ := View.xs hSw; have k3 := View.p0 hSw; have k4 := View.p1 hSw; have k5 := View.p2 hSw; have k6 := View.q0 hSw; have k7 := View.q1 hSw; have k8 := View.q2 hSw); go_simp)
          try simp only [Act.put, List.setIfInBounds_toArray, List.set_cons_zero, List.set_cons_succ]
          refine wpAnyH_take (i := 6) (oi := { dst := some 152, op := Go.Op.move (Go.Operand.tmp 4), type := 26, pos := "law.go:69", after := #[{ on := 3, ground := Go.Ground.guard }], guard := some (3, false) }) (v := (.pointer (some ⟨w1.heap.size, 0, none⟩))) rfl (by kernel_rfl) (by kernel_rfl) (by kernel_rfl) (fun _ _ _ h => h) (Or.inl ⟨by rfl, ?ay6⟩) hHeld ?_
          case ay6 => (intro w hSw; (obtain ⟨k1, k2⟩ := View.xs hSw; have k3 := View.p0 hSw; have k4 := View.p1 hSw; have k5 := View.p2 hSw; have k6 := View.q0 hSw; have k7 := View.q1 hSw; have k8 := View.q2 hSw); go_simp)
          try simp only [Act.put, List.setIfInBounds_toArray, List.set_cons_zero, List.set_cons_succ]
          refine wpAnyH_take (i := 7) (oi := { dst := some 153, op := Go.Op.fieldAddr 33 (Go.Operand.tmp 6) 1, type := 0, pos := "law.go:69", after := #[{ on := 3, ground := Go.Ground.guard }], guard := some (3, false) }) (v := (.pointer (some ⟨wr.heap.size, 1, none⟩))) rfl (by kernel_rfl) (by kernel_rfl) (by kernel_rfl) (fun _ _ _ h => h) (Or.inl ⟨by rfl, ?ay7⟩) hHeld ?_
          case ay7 => (intro w hSw; (obtain ⟨k1, k2⟩ := View.xs hSw; have k3 := View.p0 hSw; have k4 := View.p1 hSw; have k5 := View.p2 hSw; have k6 := View.q0 hSw; have k7 := View.q1 hSw; have k8 := View.q2 hSw); go_simp)
          try simp only [Act.put, List.setIfInBounds_toArray, List.set_cons_zero, List.set_cons_succ]
          refine wpAnyH_take (i := 8) (oi := { dst := some 154, op := Go.Op.load 3 (Go.Operand.tmp 153), type := 3, pos := "law.go:69", after := #[{ on := 7, ground := Go.Ground.data }, { on := 3, ground := Go.Ground.guard }], guard := some (3, false) }) (v := (.int .i64 (q : Nat))) rfl (by kernel_rfl) (by kernel_rfl) (by kernel_rfl) (fun _ _ _ h => h) (Or.inl ⟨by rfl, ?ay8⟩) hHeld ?_
          case ay8 => (intro w hSw; (obtain ⟨k1, k2⟩ := View.xs hSw; have k3 := View.p0 hSw; have k4 := View.p1 hSw; have k5 := View.p2 hSw; have k6 := View.q0 hSw; have k7 := View.q1 hSw; have k8 := View.q2 hSw); go_simp)
          try simp only [Act.put, List.setIfInBounds_toArray, List.set_cons_zero, List.set_cons_succ]
          refine wpAnyH_ready (rs := [9]) (by kernel_rfl) (by simp) (AllReadyH.cons (o := { dst := some 155, op := Go.Op.call { callee := Go.Callee.value (Go.Operand.func 15), args := #[Go.Operand.tmp 152, Go.Operand.tmp 154], argTypes := #[26, 3] }, type := 4, pos := "law.go:69", after := #[{ on := 6, ground := Go.Ground.data }, { on := 8, ground := Go.Ground.data }, { on := 3, ground := Go.Ground.chain }, { on := 3, ground := Go.Ground.guard }], guard := some (3, false) }) rfl (fun K hK => ?_) AllReadyH.nil)
          go_simp
          (with_reducible refine (there_v hHeld).mono ?_)
          rintro e w' ⟨rfl, hV⟩
          rw [hop]
          refine hK.out _ _ hV (fun hHeld => ?_)
          clear hK K
          try simp only [Act.put, List.setIfInBounds_toArray, List.set_cons_zero, List.set_cons_succ]
          refine wpAnyH_take (i := 10) (oi := { dst := some 156, op := Go.Op.binOp Go.BinOp.neq 4 (Go.Operand.tmp 151) (Go.Operand.tmp 155) 4, type := 4, pos := "law.go:69", after := #[{ on := 5, ground := Go.Ground.data }, { on := 9, ground := Go.Ground.data }, { on := 3, ground := Go.Ground.guard }], guard := some (3, false) }) (v := (.bool false)) rfl (by kernel_rfl) (by kernel_rfl) (by kernel_rfl) (fun _ _ _ h => h) (Or.inl ⟨by rfl, ?ay10⟩) hHeld ?_
          case ay10 => (intro w hSw; (obtain ⟨k1, k2⟩ := View.xs hSw; have k3 := View.p0 hSw; have k4 := View.p1 hSw; have k5 := View.p2 hSw; have k6 := View.q0 hSw; have k7 := View.q1 hSw; have k8 := View.q2 hSw); go_simp)
          try simp only [Act.put, List.setIfInBounds_toArray, List.set_cons_zero, List.set_cons_succ]
          refine wpAnyH_take (i := 11) (oi := { dst := some 157, op := Go.Op.pick (Go.Operand.tmp 149) (Go.Operand.const (Go.Value.bool true)) (Go.Operand.tmp 156), type := 4, pos := "law.go:69", after := #[{ on := 3, ground := Go.Ground.data }, { on := 10, ground := Go.Ground.data }], guard := none }) (v := (.bool false)) rfl (by kernel_rfl) (by kernel_rfl) (by kernel_rfl) (fun _ _ _ h => h) (Or.inl ⟨by rfl, ?ay11⟩) hHeld ?_
          case ay11 => (intro w hSw; (obtain ⟨k1, k2⟩ := View.xs hSw; have k3 := View.p0 hSw; have k4 := View.p1 hSw; have k5 := View.p2 hSw; have k6 := View.q0 hSw; have k7 := View.q1 hSw; have k8 := View.q2 hSw); go_simp)
          try simp only [Act.put, List.setIfInBounds_toArray, List.set_cons_zero, List.set_cons_succ]
          refine wpAnyH_take (i := 12) (oi := { dst := some 158, op := Go.Op.move (Go.Operand.tmp 157), type := 4, pos := "law.go:69", after := #[{ on := 11, ground := Go.Ground.data }, { on := 9, ground := Go.Ground.chain }], guard := none }) (v := (.bool false)) rfl (by kernel_rfl) (by kernel_rfl) (by kernel_rfl) (fun _ _ _ h => h) (Or.inl ⟨by rfl, ?ay12⟩) hHeld ?_
          case ay12 => (intro w hSw; (obtain ⟨k1, k2⟩ := View.xs hSw; have k3 := View.p0 hSw; have k4 := View.p1 hSw; have k5 := View.p2 hSw; have k6 := View.q0 hSw; have k7 := View.q1 hSw; have k8 := View.q2 hSw); go_simp)
          try simp only [Act.put, List.setIfInBounds_toArray, List.set_cons_zero, List.set_cons_succ]
          refine wpAnyH_take (i := 13) (oi := { dst := some 159, op := Go.Op.move (Go.Operand.tmp 16), type := 34, pos := "law.go:69", after := #[{ on := 12, ground := Go.Ground.guard }], guard := some (12, false) }) (v := (.int .i64 0)) rfl (by kernel_rfl) (by kernel_rfl) (by kernel_rfl) (fun _ _ _ h => h) (Or.inl ⟨by rfl, ?ay13⟩) hHeld ?_
          case ay13 => (intro w hSw; (obtain ⟨k1, k2⟩ := View.xs hSw; have k3 := View.p0 hSw; have k4 := View.p1 hSw; have k5 := View.p2 hSw; have k6 := View.q0 hSw; have k7 := View.q1 hSw; have k8 := View.q2 hSw); go_simp)
          try simp only [Act.put, List.setIfInBounds_toArray, List.set_cons_zero, List.set_cons_succ]
          refine wpAnyH_take (i := 14) (oi := { dst := some 160, op := Go.Op.binOp Go.BinOp.neq 34 (Go.Operand.tmp 159) (Go.Operand.const (Go.Value.int Go.IntKind.i64 0)) 34, type := 4, pos := "law.go:69", after := #[{ on := 13, ground := Go.Ground.data }, { on := 12, ground := Go.Ground.guard }], guard := some (12, false) }) (v := (.bool false)) rfl (by kernel_rfl) (by kernel_rfl) (by kernel_rfl) (fun _ _ _ h => h) (Or.inl ⟨by rfl, ?ay14⟩) hHeld ?_
          case ay14 => (intro w hSw; (obtain ⟨k1, k2⟩ := View.xs hSw; have k3 := View.p0 hSw; have k4 := View.p1 hSw; have k5 := View.p2 hSw; have k6 := View.q0 hSw; have k7 := View.q1 hSw; have k8 := View.q2 hSw); go_simp)
          try simp only [Act.put, List.setIfInBounds_toArray, List.set_cons_zero, List.set_cons_succ]
          refine wpAnyH_take (i := 15) (oi := { dst := some 161, op := Go.Op.move (Go.Operand.tmp 160), type := 4, pos := "law.go:69", after := #[{ on := 14, ground := Go.Ground.data }, { on := 12, ground := Go.Ground.chain }, { on := 12, ground := Go.Ground.guard }], guard := some (12, false) }) (v := (.bool false)) rfl (by kernel_rfl) (by kernel_rfl) (by kernel_rfl) (fun _ _ _ h => h) (Or.inl ⟨by rfl, ?ay15⟩) hHeld ?_
          case ay15 => (intro w hSw; (obtain ⟨k1, k2⟩ := View.xs hSw; have k3 := View.p0 hSw; have k4 := View.p1 hSw; have k5 := View.p2 hSw; have k6 := View.q0 hSw; have k7 := View.q1 hSw; have k8 := View.q2 hSw); go_simp)
          try simp only [Act.put, List.setIfInBounds_toArray, List.set_cons_zero, List.set_cons_succ]
          refine wpAnyH_take (i := 16) (oi := { dst := some 162, op := Go.Op.move (Go.Operand.tmp 16), type := 34, pos := "law.go:69", after := #[{ on := 15, ground := Go.Ground.guard }], guard := some (15, true) }) (v := undef) rfl (by kernel_rfl) (by kernel_rfl) (by kernel_rfl) (fun _ _ _ h => h) (Or.inr ⟨by rfl, rfl⟩) hHeld ?_
          try simp only [Act.put, List.setIfInBounds_toArray, List.set_cons_zero, List.set_cons_succ]
          refine wpAnyH_take (i := 17) (oi := { dst := some 163, op := Go.Op.binOp Go.BinOp.neq 34 (Go.Operand.tmp 162) (Go.Operand.const (Go.Value.int Go.IntKind.i64 10)) 34, type := 4, pos := "law.go:69", after := #[{ on := 16, ground := Go.Ground.data }, { on := 15, ground := Go.Ground.guard }], guard := some (15, true) }) (v := undef) rfl (by kernel_rfl) (by kernel_rfl) (by kernel_rfl) (fun _ _ _ h => h) (Or.inr ⟨by rfl, rfl⟩) hHeld ?_
          try simp only [Act.put, List.setIfInBounds_toArray, List.set_cons_zero, List.set_cons_succ]
          refine wpAnyH_take (i := 18) (oi := { dst := some 164, op := Go.Op.pick (Go.Operand.tmp 161) (Go.Operand.tmp 163) (Go.Operand.const (Go.Value.bool false)), type := 4, pos := "law.go:69", after := #[{ on := 15, ground := Go.Ground.data }, { on := 17, ground := Go.Ground.data }, { on := 12, ground := Go.Ground.guard }], guard := some (12, false) }) (v := (.bool false)) rfl (by kernel_rfl) (by kernel_rfl) (by kernel_rfl) (fun _ _ _ h => h) (Or.inl ⟨by rfl, ?ay18⟩) hHeld ?_
          case ay18 => (intro w hSw; (obtain ⟨k1, k2⟩ := View.xs hSw; have k3 := View.p0 hSw; have k4 := View.p1 hSw; have k5 := View.p2 hSw; have k6 := View.q0 hSw; have k7 := View.q1 hSw; have k8 := View.q2 hSw); go_simp)
          try simp only [Act.put, List.setIfInBounds_toArray, List.set_cons_zero, List.set_cons_succ]
          refine wpAnyH_take (i := 19) (oi := { dst := some 165, op := Go.Op.pick (Go.Operand.tmp 158) (Go.Operand.const (Go.Value.bool true)) (Go.Operand.tmp 164), type := 4, pos := "law.go:69", after := #[{ on := 12, ground := Go.Ground.data }, { on := 18, ground := Go.Ground.data }], guard := none }) (v := (.bool false)) rfl (by kernel_rfl) (by kernel_rfl) (by kernel_rfl) (fun _ _ _ h => h) (Or.inl ⟨by rfl, ?ay19⟩) hHeld ?_
          case ay19 => (intro w hSw; (obtain ⟨k1, k2⟩ := View.xs hSw; have k3 := View.p0 hSw; have k4 := View.p1 hSw; have k5 := View.p2 hSw; have k6 := View.q0 hSw; have k7 := View.q1 hSw; have k8 := View.q2 hSw); go_simp)
          try simp only [Act.put, List.setIfInBounds_toArray, List.set_cons_zero, List.set_cons_succ]
          refine wpAnyH_take (i := 20) (oi := { dst := some 166, op := Go.Op.move (Go.Operand.tmp 165), type := 4, pos := "law.go:69", after := #[{ on := 19, ground := Go.Ground.data }, { on := 15, ground := Go.Ground.chain }], guard := none }) (v := (.bool false)) rfl (by kernel_rfl) (by kernel_rfl) (by kernel_rfl) (fun _ _ _ h => h) (Or.inl ⟨by rfl, ?ay20⟩) hHeld ?_
          case ay20 => (intro w hSw; (obtain ⟨k1, k2⟩ := View.xs hSw; have k3 := View.p0 hSw; have k4 := View.p1 hSw; have k5 := View.p2 hSw; have k6 := View.q0 hSw; have k7 := View.q1 hSw; have k8 := View.q2 hSw); go_simp)
          try simp only [Act.put, List.setIfInBounds_toArray, List.set_cons_zero, List.set_cons_succ]
          refine wpAnyH_take (i := 21) (oi := { dst := some 167, op := Go.Op.move (Go.Operand.tmp 18), type := 44, pos := "law.go:69", after := #[{ on := 20, ground := Go.Ground.guard }], guard := some (20, false) }) (v := v) rfl (by kernel_rfl) (by kernel_rfl) (by kernel_rfl) (fun _ _ _ h => h) (Or.inl ⟨by rfl, ?ay21⟩) hHeld ?_
          case ay21 => (intro w hSw; (obtain ⟨k1, k2⟩ := View.xs hSw; have k3 := View.p0 hSw; have k4 := View.p1 hSw; have k5 := View.p2 hSw; have k6 := View.q0 hSw; have k7 := View.q1 hSw; have k8 := View.q2 hSw); go_simp)
          try simp only [Act.put, List.setIfInBounds_toArray, List.set_cons_zero, List.set_cons_succ]
          refine wpAnyH_take (i := 22) (oi := { dst := some 168, op := Go.Op.move (Go.Operand.tmp 4), type := 26, pos := "law.go:69", after := #[{ on := 20, ground := Go.Ground.guard }], guard := some (20, false) }) (v := (.pointer (some ⟨w1.heap.size, 0, none⟩))) rfl (by kernel_rfl) (by kernel_rfl) (by kernel_rfl) (fun _ _ _ h => h) (Or.inl ⟨by rfl, ?ay22⟩) hHeld ?_
          case ay22 => (intro w hSw; (obtain ⟨k1, k2⟩ := View.xs hSw; have k3 := View.p0 hSw; have k4 := View.p1 hSw; have k5 := View.p2 hSw; have k6 := View.q0 hSw; have k7 := View.q1 hSw; have k8 := View.q2 hSw); go_simp)
          try simp only [Act.put, List.setIfInBounds_toArray, List.set_cons_zero, List.set_cons_succ]
          refine wpAnyH_ready (rs := [23]) (by kernel_rfl) (by simp) (AllReadyH.cons (o := { dst := some 169, op := Go.Op.call { callee := Go.Callee.value (Go.Operand.func 18), args := #[Go.Operand.tmp 168], argTypes := #[26] }, type := 44, pos := "law.go:69", after := #[{ on := 22, ground := Go.Ground.data }, { on := 20, ground := Go.Ground.chain }, { on := 20, ground := Go.Ground.guard }], guard := some (20, false) }) rfl (fun K hK => ?_) AllReadyH.nil)
          go_simp
          (with_reducible refine (rlist_v hHeld).mono ?_)
          rintro e w' ⟨v2, rfl, hi, hV⟩
          refine hK.out _ _ hV (fun hHeld => ?_)
          clear hK K
          try simp only [Act.put, List.setIfInBounds_toArray, List.set_cons_zero, List.set_cons_succ]
          refine wpAnyH_ready (rs := [24]) (by kernel_rfl) (by simp) (AllReadyH.cons (o := { dst := some 170, op := Go.Op.call { callee := Go.Callee.value (Go.Operand.func 17), args := #[Go.Operand.tmp 167, Go.Operand.tmp 169], argTypes := #[44, 44] }, type := 4, pos := "law.go:69", after := #[{ on := 21, ground := Go.Ground.data }, { on := 23, ground := Go.Ground.data }, { on := 23, ground := Go.Ground.chain }, { on := 20, ground := Go.Ground.guard }], guard := some (20, false) }) rfl (fun K hK => ?_) AllReadyH.nil)
          go_simp
          (with_reducible refine (same_v hHeld hi).mono ?_)
          rintro e w' ⟨rfl, hV⟩
          refine hK.out _ _ hV (fun hHeld => ?_)
          clear hK K
          try simp only [Act.put, List.setIfInBounds_toArray, List.set_cons_zero, List.set_cons_succ]
          refine wpAnyH_take (i := 25) (oi := { dst := some 171, op := Go.Op.unOp Go.UnOp.not 4 (Go.Operand.tmp 170), type := 4, pos := "law.go:69", after := #[{ on := 24, ground := Go.Ground.data }, { on := 20, ground := Go.Ground.guard }], guard := some (20, false) }) (v := (.bool false)) rfl (by kernel_rfl) (by kernel_rfl) (by kernel_rfl) (fun _ _ _ h => h) (Or.inl ⟨by rfl, ?ay25⟩) hHeld ?_
          case ay25 => (intro w hSw; (obtain ⟨k1, k2⟩ := View.xs hSw; have k3 := View.p0 hSw; have k4 := View.p1 hSw; have k5 := View.p2 hSw; have k6 := View.q0 hSw; have k7 := View.q1 hSw; have k8 := View.q2 hSw); go_simp)
          try simp only [Act.put, List.setIfInBounds_toArray, List.set_cons_zero, List.set_cons_succ]
          refine wpAnyH_take (i := 26) (oi := { dst := some 172, op := Go.Op.pick (Go.Operand.tmp 166) (Go.Operand.const (Go.Value.bool true)) (Go.Operand.tmp 171), type := 4, pos := "law.go:69", after := #[{ on := 20, ground := Go.Ground.data }, { on := 25, ground := Go.Ground.data }], guard := none }) (v := (.bool false)) rfl (by kernel_rfl) (by kernel_rfl) (by kernel_rfl) (fun _ _ _ h => h) (Or.inl ⟨by rfl, ?ay26⟩) hHeld ?_
          case ay26 => (intro w hSw; (obtain ⟨k1, k2⟩ := View.xs hSw; have k3 := View.p0 hSw; have k4 := View.p1 hSw; have k5 := View.p2 hSw; have k6 := View.q0 hSw; have k7 := View.q1 hSw; have k8 := View.q2 hSw); go_simp)
          try simp only [Act.put, List.setIfInBounds_toArray, List.set_cons_zero, List.set_cons_succ]
          refine wpAnyH_take (i := 27) (oi := { dst := some 173, op := Go.Op.move (Go.Operand.tmp 172), type := 4, pos := "law.go:69", after := #[{ on := 26, ground := Go.Ground.data }, { on := 24, ground := Go.Ground.chain }], guard := none }) (v := (.bool false)) rfl (by kernel_rfl) (by kernel_rfl) (by kernel_rfl) (fun _ _ _ h => h) (Or.inl ⟨by rfl, ?ay27⟩) hHeld ?_
          case ay27 => (intro w hSw; (obtain ⟨k1, k2⟩ := View.xs hSw; have k3 := View.p0 hSw; have k4 := View.p1 hSw; have k5 := View.p2 hSw; have k6 := View.q0 hSw; have k7 := View.q1 hSw; have k8 := View.q2 hSw); go_simp)
          try simp only [Act.put, List.setIfInBounds_toArray, List.set_cons_zero, List.set_cons_succ]
          refine wpAnyH_take (i := 28) (oi := { dst := some 174, op := Go.Op.move (Go.Operand.tmp 3), type := 24, pos := "law.go:69", after := #[{ on := 27, ground := Go.Ground.guard }], guard := some (27, false) }) (v := (.pointer (some ⟨w.heap.size, 0, none⟩))) rfl (by kernel_rfl) (by kernel_rfl) (by kernel_rfl) (fun _ _ _ h => h) (Or.inl ⟨by rfl, ?ay28⟩) hHeld ?_
          case ay28 => (intro w hSw; (obtain ⟨k1, k2⟩ := View.xs hSw; have k3 := View.p0 hSw; have k4 := View.p1 hSw; have k5 := View.p2 hSw; have k6 := View.q0 hSw; have k7 := View.q1 hSw; have k8 := View.q2 hSw); go_simp)
          try simp only [Act.put, List.setIfInBounds_toArray, List.set_cons_zero, List.set_cons_succ]
          refine wpAnyH_take (i := 29) (oi := { dst := some 175, op := Go.Op.fieldAddr 33 (Go.Operand.tmp 6) 2, type := 0, pos := "law.go:69", after := #[{ on := 27, ground := Go.Ground.guard }], guard := some (27, false) }) (v := (.pointer (some ⟨wr.heap.size, 2, none⟩))) rfl (by kernel_rfl) (by kernel_rfl) (by kernel_rfl) (fun _ _ _ h => h) (Or.inl ⟨by rfl, ?ay29⟩) hHeld ?_
          case ay29 => (intro w hSw; (obtain ⟨k1, k2⟩ := View.xs hSw; have k3 := View.p0 hSw; have k4 := View.p1 hSw; have k5 := View.p2 hSw; have k6 := View.q0 hSw; have k7 := View.q1 hSw; have k8 := View.q2 hSw); go_simp)
          try simp only [Act.put, List.setIfInBounds_toArray, List.set_cons_zero, List.set_cons_succ]
          refine wpAnyH_take (i := 30) (oi := { dst := some 176, op := Go.Op.load 3 (Go.Operand.tmp 175), type := 3, pos := "law.go:69", after := #[{ on := 29, ground := Go.Ground.data }, { on := 27, ground := Go.Ground.guard }], guard := some (27, false) }) (v := (.int .i64 xn)) rfl (by kernel_rfl) (by kernel_rfl) (by kernel_rfl) (fun _ _ _ h => h) (Or.inl ⟨by rfl, ?ay30⟩) hHeld ?_
          case ay30 => (intro w hSw; (obtain ⟨k1, k2⟩ := View.xs hSw; have k3 := View.p0 hSw; have k4 := View.p1 hSw; have k5 := View.p2 hSw; have k6 := View.q0 hSw; have k7 := View.q1 hSw; have k8 := View.q2 hSw); go_simp)
          try simp only [Act.put, List.setIfInBounds_toArray, List.set_cons_zero, List.set_cons_succ]
          refine wpAnyH_take (i := 32) (oi := { dst := some 178, op := Go.Op.move (Go.Operand.tmp 4), type := 26, pos := "law.go:69", after := #[{ on := 27, ground := Go.Ground.guard }], guard := some (27, false) }) (v := (.pointer (some ⟨w1.heap.size, 0, none⟩))) rfl (by kernel_rfl) (by kernel_rfl) (by kernel_rfl) (fun _ _ _ h => h) (Or.inl ⟨by rfl, ?ay32⟩) hHeld ?_
          case ay32 => (intro w hSw; (obtain ⟨k1, k2⟩ := View.xs hSw; have k3 := View.p0 hSw; have k4 := View.p1 hSw; have k5 := View.p2 hSw; have k6 := View.q0 hSw; have k7 := View.q1 hSw; have k8 := View.q2 hSw); go_simp)
          try simp only [Act.put, List.setIfInBounds_toArray, List.set_cons_zero, List.set_cons_succ]
          refine wpAnyH_take (i := 33) (oi := { dst := some 179, op := Go.Op.fieldAddr 33 (Go.Operand.tmp 6) 2, type := 0, pos := "law.go:69", after := #[{ on := 27, ground := Go.Ground.guard }], guard := some (27, false) }) (v := (.pointer (some ⟨wr.heap.size, 2, none⟩))) rfl (by kernel_rfl) (by kernel_rfl) (by kernel_rfl) (fun _ _ _ h => h) (Or.inl ⟨by rfl, ?ay33⟩) hHeld ?_
          case ay33 => (intro w hSw; (obtain ⟨k1, k2⟩ := View.xs hSw; have k3 := View.p0 hSw; have k4 := View.p1 hSw; have k5 := View.p2 hSw; have k6 := View.q0 hSw; have k7 := View.q1 hSw; have k8 := View.q2 hSw); go_simp)
          try simp only [Act.put, List.setIfInBounds_toArray, List.set_cons_zero, List.set_cons_succ]
          refine wpAnyH_take (i := 34) (oi := { dst := some 180, op := Go.Op.load 3 (Go.Operand.tmp 179), type := 3, pos := "law.go:69", after := #[{ on := 33, ground := Go.Ground.data }, { on := 27, ground := Go.Ground.guard }], guard := some (27, false) }) (v := (.int .i64 xn)) rfl (by kernel_rfl) (by kernel_rfl) (by kernel_rfl) (fun _ _ _ h => h) (Or.inl ⟨by rfl, ?ay34⟩) hHeld ?_
          case ay34 => (intro w hSw; (obtain ⟨k1, k2⟩ := View.xs hSw; have k3 := View.p0 hSw; have k4 := View.p1 hSw; have k5 := View.p2 hSw; have k6 := View.q0 hSw; have k7 := View.q1 hSw; have k8 := View.q2 hSw); go_simp)
          try simp only [Act.put, List.setIfInBounds_toArray, List.set_cons_zero, List.set_cons_succ]
          refine wpAnyH_ready (rs := [31]) (by kernel_rfl) (by simp) (AllReadyH.cons (o := { dst := some 177, op := Go.Op.call { callee := Go.Callee.value (Go.Operand.func 19), args := #[Go.Operand.tmp 174, Go.Operand.tmp 176], argTypes := #[24, 3] }, type := 4, pos := "law.go:69", after := #[{ on := 28, ground := Go.Ground.data }, { on := 30, ground := Go.Ground.data }, { on := 27, ground := Go.Ground.chain }, { on := 27, ground := Go.Ground.guard }], guard := some (27, false) }) rfl (fun K hK => ?_) AllReadyH.nil)
          go_simp
          (with_reducible refine (holds_v hHeld).mono ?_)
          rintro e w' ⟨rfl, hV⟩
          refine hK.out _ _ hV (fun hHeld => ?_)
          clear hK K
          try simp only [Act.put, List.setIfInBounds_toArray, List.set_cons_zero, List.set_cons_succ]
          refine wpAnyH_ready (rs := [35]) (by kernel_rfl) (by simp) (AllReadyH.cons (o := { dst := some 181, op := Go.Op.call { callee := Go.Callee.value (Go.Operand.func 20), args := #[Go.Operand.tmp 178, Go.Operand.tmp 180], argTypes := #[26, 3] }, type := 4, pos := "law.go:69", after := #[{ on := 32, ground := Go.Ground.data }, { on := 34, ground := Go.Ground.data }, { on := 31, ground := Go.Ground.chain }, { on := 27, ground := Go.Ground.guard }], guard := some (27, false) }) rfl (fun K hK => ?_) AllReadyH.nil)
          go_simp
          (with_reducible refine (rholds_v hHeld).mono ?_)
          rintro e w' ⟨rfl, hV⟩
          refine hK.out _ _ hV (fun hHeld => ?_)
          clear hK K
          try simp only [Act.put, List.setIfInBounds_toArray, List.set_cons_zero, List.set_cons_succ]
          refine wpAnyH_take (i := 36) (oi := { dst := some 182, op := Go.Op.binOp Go.BinOp.neq 4 (Go.Operand.tmp 177) (Go.Operand.tmp 181) 4, type := 4, pos := "law.go:69", after := #[{ on := 31, ground := Go.Ground.data }, { on := 35, ground := Go.Ground.data }, { on := 27, ground := Go.Ground.guard }], guard := some (27, false) }) (v := (.bool false)) rfl (by kernel_rfl) (by kernel_rfl) (by kernel_rfl) (fun _ _ _ h => h) (Or.inl ⟨by rfl, ?ay36⟩) hHeld ?_
          case ay36 => (intro w hSw; (obtain ⟨k1, k2⟩ := View.xs hSw; have k3 := View.p0 hSw; have k4 := View.p1 hSw; have k5 := View.p2 hSw; have k6 := View.q0 hSw; have k7 := View.q1 hSw; have k8 := View.q2 hSw); go_simp)
          try simp only [Act.put, List.setIfInBounds_toArray, List.set_cons_zero, List.set_cons_succ]
          refine wpAnyH_take (i := 37) (oi := { dst := some 183, op := Go.Op.pick (Go.Operand.tmp 173) (Go.Operand.const (Go.Value.bool true)) (Go.Operand.tmp 182), type := 4, pos := "law.go:69", after := #[{ on := 27, ground := Go.Ground.data }, { on := 36, ground := Go.Ground.data }], guard := none }) (v := (.bool false)) rfl (by kernel_rfl) (by kernel_rfl) (by kernel_rfl) (fun _ _ _ h => h) (Or.inl ⟨by rfl, ?ay37⟩) hHeld ?_
          case ay37 => (intro w hSw; (obtain ⟨k1, k2⟩ := View.xs hSw; have k3 := View.p0 hSw; have k4 := View.p1 hSw; have k5 := View.p2 hSw; have k6 := View.q0 hSw; have k7 := View.q1 hSw; have k8 := View.q2 hSw); go_simp)
          try simp only [Act.put, List.setIfInBounds_toArray, List.set_cons_zero, List.set_cons_succ]
          refine wpAnyH_done (by kernel_rfl) ?_ _
          have HV := Lib.hid hHeld
          clear hHeld hV0 hi hop
          go_wp2_with fail
          (with_reducible refine (over_v HV.out L).mono ?_)
          rintro e w9 ⟨rfl, hsc⟩
          have HS := Lib.hid hsc; clear hsc
          go_wp2
          go_roundw
          case rel => exact ⟨k + 1, by omega, by go_num, HS.out⟩
          case measure => simp [intOf]; omega
        · have Hno := Lib.hid ho; clear ho
          go_wp2_with fail
          (with_reducible refine (get_no R1.out.tt Hno.out).mono ?_)
          rintro e w2 ⟨rfl, hb⟩
          have h2 := R1.out.bstep hb
          have H2 := Lib.hid h2
          have lt1 : wr.heap.size < w2.heap.size := h2.xx.lt
          have lt2 : w1.heap.size < w2.heap.size := h2.rr.lt
          obtain ⟨y0, y1, y2, y3⟩ := h2.xx.cells
          have R2 := Lib.hid ((h2.alloc (.cells #[.int .i64 0, .int .i64 0, .int .i64 0] 40)).alloc (.cells #[.int .i64 0, .int .i64 0, .int .i64 0] 40)); clear h2 hb
          have hth := there_any _ _ _ xf R2.out.rr
          have hop := isOpenB_not Hno.out
          rw [hop] at hth
          have HTh := Lib.hid hth; clear hth
          have Hop := Lib.hid hop; clear hop
          clear x0 x1 x2 x3
          go_wp2_with fail
          (with_reducible refine HTh.out.mono ?_)
          rintro e w3 ⟨rfl, rfl⟩
          go_wp2_with fail
          (with_reducible refine (list_any _ _ u R2.out.tt).mono ?_)
          rintro e w4 ⟨v, rfl, hown, hb⟩
          have H4 := Lib.hid (R2.out.bstep hb)
          have Own := Lib.hid hown; clear hown
          have c0 : ∀ j, w4.cell? ⟨w2.heap.size, j, none⟩ = #[Value.int .i64 0, .int .i64 0, .int .i64 0][j]? := fun j => by
            rw [hb.cell (p := ⟨w2.heap.size, j, none⟩) (by simp; omega)]
            exact cell_of_row _ _ _ _ _ _ (heap_alloc2_old w2 _ _)
          have c1 : ∀ j, w4.cell? ⟨w2.heap.size + 1, j, none⟩ = #[Value.int .i64 0, .int .i64 0, .int .i64 0][j]? := fun j => by
            rw [hb.cell (p := ⟨w2.heap.size + 1, j, none⟩) (by simp)]
            exact cell_of_row _ _ _ _ _ _ (heap_alloc2_new w2 _ _)
          have hV0 : View w w.heap.size w1.heap.size wr.heap.size w2.heap.size (w2.heap.size + 1) (w2.heap.size + 1 + 1) u xd xf xn xg 0 0 0 0 0 0 v w4 :=
            ⟨H4.out, c0 0, c0 1, c0 2, c1 0, c1 1, c1 2, by simpa using Own.out, by omega, by have := hb.size; simpa using this⟩
          clear c0 c1 hb y0 y1 y2 y3
          have hop := Hop.out
          clear Own H4 R2 H2 R1
          go_wp2_with fail
          refine wp_region_held_drew (S := View w w.heap.size w1.heap.size wr.heap.size w2.heap.size (w2.heap.size + 1) (w2.heap.size + 1 + 1) u xd xf xn xg 0 0 0 0 0 0 v) (by kernel_rfl) (hV0.drew) (fun hHeld => ?_)
          refine wpAnyH_take (i := 0) (oi := { dst := some 146, op := Go.Op.load 40 (Go.Operand.tmp 15), type := 40, pos := "law.go:69", after := #[], guard := none }) (v := (.agg #[.int .i64 0, .int .i64 0, .int .i64 0])) rfl (by kernel_rfl) (by kernel_rfl) (by kernel_rfl) (fun _ _ _ h => h) (Or.inl ⟨by rfl, ?by0⟩) hHeld ?_
          case by0 => (intro w hSw; (obtain ⟨k1, k2⟩ := View.xs hSw; have k3 := View.p0 hSw; have k4 := View.p1 hSw; have k5 := View.p2 hSw; have k6 := View.q0 hSw; have k7 := View.q1 hSw; have k8 := View.q2 hSw); go_simp)
          try simp only [Act.put, List.setIfInBounds_toArray, List.set_cons_zero, List.set_cons_succ]
          refine wpAnyH_take (i := 1) (oi := { dst := some 147, op := Go.Op.load 40 (Go.Operand.tmp 17), type := 40, pos := "law.go:69", after := #[], guard := none }) (v := (.agg #[.int .i64 0, .int .i64 0, .int .i64 0])) rfl (by kernel_rfl) (by kernel_rfl) (by kernel_rfl) (fun _ _ _ h => h) (Or.inl ⟨by rfl, ?by1⟩) hHeld ?_
          case by1 => (intro w hSw; (obtain ⟨k1, k2⟩ := View.xs hSw; have k3 := View.p0 hSw; have k4 := View.p1 hSw; have k5 := View.p2 hSw; have k6 := View.q0 hSw; have k7 := View.q1 hSw; have k8 := View.q2 hSw); go_simp)
          try simp only [Act.put, List.setIfInBounds_toArray, List.set_cons_zero, List.set_cons_succ]
          refine wpAnyH_take (i := 2) (oi := { dst := some 148, op := Go.Op.binOp Go.BinOp.neq 40 (Go.Operand.tmp 146) (Go.Operand.tmp 147) 40, type := 4, pos := "law.go:69", after := #[{ on := 0, ground := Go.Ground.data }, { on := 1, ground := Go.Ground.data }], guard := none }) (v := (.bool false)) rfl (by kernel_rfl) (by kernel_rfl) (by kernel_rfl) (fun _ _ _ h => h) (Or.inl ⟨by rfl, ?by2⟩) hHeld ?_
          case by2 => (intro w hSw; (obtain ⟨k1, k2⟩ := View.xs hSw; have k3 := View.p0 hSw; have k4 := View.p1 hSw; have k5 := View.p2 hSw; have k6 := View.q0 hSw; have k7 := View.q1 hSw; have k8 := View.q2 hSw); go_simp)
          try simp only [Act.put, List.setIfInBounds_toArray, List.set_cons_zero, List.set_cons_succ]
          refine wpAnyH_take (i := 3) (oi := { dst := some 149, op := Go.Op.move (Go.Operand.tmp 148), type := 4, pos := "law.go:69", after := #[{ on := 2, ground := Go.Ground.data }], guard := none }) (v := (.bool false)) rfl (by kernel_rfl) (by kernel_rfl) (by kernel_rfl) (fun _ _ _ h => h) (Or.inl ⟨by rfl, ?by3⟩) hHeld ?_
          case by3 => (intro w hSw; (obtain ⟨k1, k2⟩ := View.xs hSw; have k3 := View.p0 hSw; have k4 := View.p1 hSw; have k5 := View.p2 hSw; have k6 := View.q0 hSw; have k7 := View.q1 hSw; have k8 := View.q2 hSw); go_simp)
          try simp only [Act.put, List.setIfInBounds_toArray, List.set_cons_zero, List.set_cons_succ]
          refine wpAnyH_take (i := 4) (oi := { dst := some 150, op := Go.Op.move (Go.Operand.tmp 16), type := 34, pos := "law.go:69", after := #[{ on := 3, ground := Go.Ground.guard }], guard := some (3, false) }) (v := (.int .i64 10)) rfl (by kernel_rfl) (by kernel_rfl) (by kernel_rfl) (fun _ _ _ h => h) (Or.inl ⟨by rfl, ?by4⟩) hHeld ?_
          case by4 => (intro w hSw; (obtain ⟨k1, k2⟩ := View.xs hSw; have k3 := View.p0 hSw; have k4 := View.p1 hSw; have k5 := View.p2 hSw; have k6 := View.q0 hSw; have k7 := View.q1 hSw; have k8 := View.q2 hSw); go_simp)
          try simp only [Act.put, List.setIfInBounds_toArray, List.set_cons_zero, List.set_cons_succ]
          refine wpAnyH_take (i := 5) (oi := { dst := some 151, op := Go.Op.binOp Go.BinOp.eql 34 (Go.Operand.tmp 150) (Go.Operand.const (Go.Value.int Go.IntKind.i64 0)) 34, type := 4, pos := "law.go:69", after := #[{ on := 4, ground := Go.Ground.data }, { on := 3, ground := Go.Ground.guard }], guard := some (3, false) }) (v := (.bool false)) rfl (by kernel_rfl) (by kernel_rfl) (by kernel_rfl) (fun _ _ _ h => h) (Or.inl ⟨by rfl, ?by5⟩) hHeld ?_
          case by5 => (intro w hSw; (obtain ⟨k1, k2⟩ := View.xs hSw; have k3 := View.p0 hSw; have k4 := View.p1 hSw; have k5 := View.p2 hSw; have k6 := View.q0 hSw; have k7 := View.q1 hSw; have k8 := View.q2 hSw); go_simp)
          try simp only [Act.put, List.setIfInBounds_toArray, List.set_cons_zero, List.set_cons_succ]
          refine wpAnyH_take (i := 6) (oi := { dst := some 152, op := Go.Op.move (Go.Operand.tmp 4), type := 26, pos := "law.go:69", after := #[{ on := 3, ground := Go.Ground.guard }], guard := some (3, false) }) (v := (.pointer (some ⟨w1.heap.size, 0, none⟩))) rfl (by kernel_rfl) (by kernel_rfl) (by kernel_rfl) (fun _ _ _ h => h) (Or.inl ⟨by rfl, ?by6⟩) hHeld ?_
          case by6 => (intro w hSw; (obtain ⟨k1, k2⟩ := View.xs hSw; have k3 := View.p0 hSw; have k4 := View.p1 hSw; have k5 := View.p2 hSw; have k6 := View.q0 hSw; have k7 := View.q1 hSw; have k8 := View.q2 hSw); go_simp)
          try simp only [Act.put, List.setIfInBounds_toArray, List.set_cons_zero, List.set_cons_succ]
          refine wpAnyH_take (i := 7) (oi := { dst := some 153, op := Go.Op.fieldAddr 33 (Go.Operand.tmp 6) 1, type := 0, pos := "law.go:69", after := #[{ on := 3, ground := Go.Ground.guard }], guard := some (3, false) }) (v := (.pointer (some ⟨wr.heap.size, 1, none⟩))) rfl (by kernel_rfl) (by kernel_rfl) (by kernel_rfl) (fun _ _ _ h => h) (Or.inl ⟨by rfl, ?by7⟩) hHeld ?_
          case by7 => (intro w hSw; (obtain ⟨k1, k2⟩ := View.xs hSw; have k3 := View.p0 hSw; have k4 := View.p1 hSw; have k5 := View.p2 hSw; have k6 := View.q0 hSw; have k7 := View.q1 hSw; have k8 := View.q2 hSw); go_simp)
          try simp only [Act.put, List.setIfInBounds_toArray, List.set_cons_zero, List.set_cons_succ]
          refine wpAnyH_take (i := 8) (oi := { dst := some 154, op := Go.Op.load 3 (Go.Operand.tmp 153), type := 3, pos := "law.go:69", after := #[{ on := 7, ground := Go.Ground.data }, { on := 3, ground := Go.Ground.guard }], guard := some (3, false) }) (v := (.int .i64 xf)) rfl (by kernel_rfl) (by kernel_rfl) (by kernel_rfl) (fun _ _ _ h => h) (Or.inl ⟨by rfl, ?by8⟩) hHeld ?_
          case by8 => (intro w hSw; (obtain ⟨k1, k2⟩ := View.xs hSw; have k3 := View.p0 hSw; have k4 := View.p1 hSw; have k5 := View.p2 hSw; have k6 := View.q0 hSw; have k7 := View.q1 hSw; have k8 := View.q2 hSw); go_simp)
          try simp only [Act.put, List.setIfInBounds_toArray, List.set_cons_zero, List.set_cons_succ]
          refine wpAnyH_ready (rs := [9]) (by kernel_rfl) (by simp) (AllReadyH.cons (o := { dst := some 155, op := Go.Op.call { callee := Go.Callee.value (Go.Operand.func 15), args := #[Go.Operand.tmp 152, Go.Operand.tmp 154], argTypes := #[26, 3] }, type := 4, pos := "law.go:69", after := #[{ on := 6, ground := Go.Ground.data }, { on := 8, ground := Go.Ground.data }, { on := 3, ground := Go.Ground.chain }, { on := 3, ground := Go.Ground.guard }], guard := some (3, false) }) rfl (fun K hK => ?_) AllReadyH.nil)
          go_simp
          (with_reducible refine (there_v hHeld).mono ?_)
          rintro e w' ⟨rfl, hV⟩
          rw [hop]
          refine hK.out _ _ hV (fun hHeld => ?_)
          clear hK K
          try simp only [Act.put, List.setIfInBounds_toArray, List.set_cons_zero, List.set_cons_succ]
          refine wpAnyH_take (i := 10) (oi := { dst := some 156, op := Go.Op.binOp Go.BinOp.neq 4 (Go.Operand.tmp 151) (Go.Operand.tmp 155) 4, type := 4, pos := "law.go:69", after := #[{ on := 5, ground := Go.Ground.data }, { on := 9, ground := Go.Ground.data }, { on := 3, ground := Go.Ground.guard }], guard := some (3, false) }) (v := (.bool false)) rfl (by kernel_rfl) (by kernel_rfl) (by kernel_rfl) (fun _ _ _ h => h) (Or.inl ⟨by rfl, ?by10⟩) hHeld ?_
          case by10 => (intro w hSw; (obtain ⟨k1, k2⟩ := View.xs hSw; have k3 := View.p0 hSw; have k4 := View.p1 hSw; have k5 := View.p2 hSw; have k6 := View.q0 hSw; have k7 := View.q1 hSw; have k8 := View.q2 hSw); go_simp)
          try simp only [Act.put, List.setIfInBounds_toArray, List.set_cons_zero, List.set_cons_succ]
          refine wpAnyH_take (i := 11) (oi := { dst := some 157, op := Go.Op.pick (Go.Operand.tmp 149) (Go.Operand.const (Go.Value.bool true)) (Go.Operand.tmp 156), type := 4, pos := "law.go:69", after := #[{ on := 3, ground := Go.Ground.data }, { on := 10, ground := Go.Ground.data }], guard := none }) (v := (.bool false)) rfl (by kernel_rfl) (by kernel_rfl) (by kernel_rfl) (fun _ _ _ h => h) (Or.inl ⟨by rfl, ?by11⟩) hHeld ?_
          case by11 => (intro w hSw; (obtain ⟨k1, k2⟩ := View.xs hSw; have k3 := View.p0 hSw; have k4 := View.p1 hSw; have k5 := View.p2 hSw; have k6 := View.q0 hSw; have k7 := View.q1 hSw; have k8 := View.q2 hSw); go_simp)
          try simp only [Act.put, List.setIfInBounds_toArray, List.set_cons_zero, List.set_cons_succ]
          refine wpAnyH_take (i := 12) (oi := { dst := some 158, op := Go.Op.move (Go.Operand.tmp 157), type := 4, pos := "law.go:69", after := #[{ on := 11, ground := Go.Ground.data }, { on := 9, ground := Go.Ground.chain }], guard := none }) (v := (.bool false)) rfl (by kernel_rfl) (by kernel_rfl) (by kernel_rfl) (fun _ _ _ h => h) (Or.inl ⟨by rfl, ?by12⟩) hHeld ?_
          case by12 => (intro w hSw; (obtain ⟨k1, k2⟩ := View.xs hSw; have k3 := View.p0 hSw; have k4 := View.p1 hSw; have k5 := View.p2 hSw; have k6 := View.q0 hSw; have k7 := View.q1 hSw; have k8 := View.q2 hSw); go_simp)
          try simp only [Act.put, List.setIfInBounds_toArray, List.set_cons_zero, List.set_cons_succ]
          refine wpAnyH_take (i := 13) (oi := { dst := some 159, op := Go.Op.move (Go.Operand.tmp 16), type := 34, pos := "law.go:69", after := #[{ on := 12, ground := Go.Ground.guard }], guard := some (12, false) }) (v := (.int .i64 10)) rfl (by kernel_rfl) (by kernel_rfl) (by kernel_rfl) (fun _ _ _ h => h) (Or.inl ⟨by rfl, ?by13⟩) hHeld ?_
          case by13 => (intro w hSw; (obtain ⟨k1, k2⟩ := View.xs hSw; have k3 := View.p0 hSw; have k4 := View.p1 hSw; have k5 := View.p2 hSw; have k6 := View.q0 hSw; have k7 := View.q1 hSw; have k8 := View.q2 hSw); go_simp)
          try simp only [Act.put, List.setIfInBounds_toArray, List.set_cons_zero, List.set_cons_succ]
          refine wpAnyH_take (i := 14) (oi := { dst := some 160, op := Go.Op.binOp Go.BinOp.neq 34 (Go.Operand.tmp 159) (Go.Operand.const (Go.Value.int Go.IntKind.i64 0)) 34, type := 4, pos := "law.go:69", after := #[{ on := 13, ground := Go.Ground.data }, { on := 12, ground := Go.Ground.guard }], guard := some (12, false) }) (v := (.bool true)) rfl (by kernel_rfl) (by kernel_rfl) (by kernel_rfl) (fun _ _ _ h => h) (Or.inl ⟨by rfl, ?by14⟩) hHeld ?_
          case by14 => (intro w hSw; (obtain ⟨k1, k2⟩ := View.xs hSw; have k3 := View.p0 hSw; have k4 := View.p1 hSw; have k5 := View.p2 hSw; have k6 := View.q0 hSw; have k7 := View.q1 hSw; have k8 := View.q2 hSw); go_simp)
          try simp only [Act.put, List.setIfInBounds_toArray, List.set_cons_zero, List.set_cons_succ]
          refine wpAnyH_take (i := 15) (oi := { dst := some 161, op := Go.Op.move (Go.Operand.tmp 160), type := 4, pos := "law.go:69", after := #[{ on := 14, ground := Go.Ground.data }, { on := 12, ground := Go.Ground.chain }, { on := 12, ground := Go.Ground.guard }], guard := some (12, false) }) (v := (.bool true)) rfl (by kernel_rfl) (by kernel_rfl) (by kernel_rfl) (fun _ _ _ h => h) (Or.inl ⟨by rfl, ?by15⟩) hHeld ?_
          case by15 => (intro w hSw; (obtain ⟨k1, k2⟩ := View.xs hSw; have k3 := View.p0 hSw; have k4 := View.p1 hSw; have k5 := View.p2 hSw; have k6 := View.q0 hSw; have k7 := View.q1 hSw; have k8 := View.q2 hSw); go_simp)
          try simp only [Act.put, List.setIfInBounds_toArray, List.set_cons_zero, List.set_cons_succ]
          refine wpAnyH_take (i := 16) (oi := { dst := some 162, op := Go.Op.move (Go.Operand.tmp 16), type := 34, pos := "law.go:69", after := #[{ on := 15, ground := Go.Ground.guard }], guard := some (15, true) }) (v := (.int .i64 10)) rfl (by kernel_rfl) (by kernel_rfl) (by kernel_rfl) (fun _ _ _ h => h) (Or.inl ⟨by rfl, ?by16⟩) hHeld ?_
          case by16 => (intro w hSw; (obtain ⟨k1, k2⟩ := View.xs hSw; have k3 := View.p0 hSw; have k4 := View.p1 hSw; have k5 := View.p2 hSw; have k6 := View.q0 hSw; have k7 := View.q1 hSw; have k8 := View.q2 hSw); go_simp)
          try simp only [Act.put, List.setIfInBounds_toArray, List.set_cons_zero, List.set_cons_succ]
          refine wpAnyH_take (i := 17) (oi := { dst := some 163, op := Go.Op.binOp Go.BinOp.neq 34 (Go.Operand.tmp 162) (Go.Operand.const (Go.Value.int Go.IntKind.i64 10)) 34, type := 4, pos := "law.go:69", after := #[{ on := 16, ground := Go.Ground.data }, { on := 15, ground := Go.Ground.guard }], guard := some (15, true) }) (v := (.bool false)) rfl (by kernel_rfl) (by kernel_rfl) (by kernel_rfl) (fun _ _ _ h => h) (Or.inl ⟨by rfl, ?by17⟩) hHeld ?_
          case by17 => (intro w hSw; (obtain ⟨k1, k2⟩ := View.xs hSw; have k3 := View.p0 hSw; have k4 := View.p1 hSw; have k5 := View.p2 hSw; have k6 := View.q0 hSw; have k7 := View.q1 hSw; have k8 := View.q2 hSw); go_simp)
          try simp only [Act.put, List.setIfInBounds_toArray, List.set_cons_zero, List.set_cons_succ]
          refine wpAnyH_take (i := 18) (oi := { dst := some 164, op := Go.Op.pick (Go.Operand.tmp 161) (Go.Operand.tmp 163) (Go.Operand.const (Go.Value.bool false)), type := 4, pos := "law.go:69", after := #[{ on := 15, ground := Go.Ground.data }, { on := 17, ground := Go.Ground.data }, { on := 12, ground := Go.Ground.guard }], guard := some (12, false) }) (v := (.bool false)) rfl (by kernel_rfl) (by kernel_rfl) (by kernel_rfl) (fun _ _ _ h => h) (Or.inl ⟨by rfl, ?by18⟩) hHeld ?_
          case by18 => (intro w hSw; (obtain ⟨k1, k2⟩ := View.xs hSw; have k3 := View.p0 hSw; have k4 := View.p1 hSw; have k5 := View.p2 hSw; have k6 := View.q0 hSw; have k7 := View.q1 hSw; have k8 := View.q2 hSw); go_simp)
          try simp only [Act.put, List.setIfInBounds_toArray, List.set_cons_zero, List.set_cons_succ]
          refine wpAnyH_take (i := 19) (oi := { dst := some 165, op := Go.Op.pick (Go.Operand.tmp 158) (Go.Operand.const (Go.Value.bool true)) (Go.Operand.tmp 164), type := 4, pos := "law.go:69", after := #[{ on := 12, ground := Go.Ground.data }, { on := 18, ground := Go.Ground.data }], guard := none }) (v := (.bool false)) rfl (by kernel_rfl) (by kernel_rfl) (by kernel_rfl) (fun _ _ _ h => h) (Or.inl ⟨by rfl, ?by19⟩) hHeld ?_
          case by19 => (intro w hSw; (obtain ⟨k1, k2⟩ := View.xs hSw; have k3 := View.p0 hSw; have k4 := View.p1 hSw; have k5 := View.p2 hSw; have k6 := View.q0 hSw; have k7 := View.q1 hSw; have k8 := View.q2 hSw); go_simp)
          try simp only [Act.put, List.setIfInBounds_toArray, List.set_cons_zero, List.set_cons_succ]
          refine wpAnyH_take (i := 20) (oi := { dst := some 166, op := Go.Op.move (Go.Operand.tmp 165), type := 4, pos := "law.go:69", after := #[{ on := 19, ground := Go.Ground.data }, { on := 15, ground := Go.Ground.chain }], guard := none }) (v := (.bool false)) rfl (by kernel_rfl) (by kernel_rfl) (by kernel_rfl) (fun _ _ _ h => h) (Or.inl ⟨by rfl, ?by20⟩) hHeld ?_
          case by20 => (intro w hSw; (obtain ⟨k1, k2⟩ := View.xs hSw; have k3 := View.p0 hSw; have k4 := View.p1 hSw; have k5 := View.p2 hSw; have k6 := View.q0 hSw; have k7 := View.q1 hSw; have k8 := View.q2 hSw); go_simp)
          try simp only [Act.put, List.setIfInBounds_toArray, List.set_cons_zero, List.set_cons_succ]
          refine wpAnyH_take (i := 21) (oi := { dst := some 167, op := Go.Op.move (Go.Operand.tmp 18), type := 44, pos := "law.go:69", after := #[{ on := 20, ground := Go.Ground.guard }], guard := some (20, false) }) (v := v) rfl (by kernel_rfl) (by kernel_rfl) (by kernel_rfl) (fun _ _ _ h => h) (Or.inl ⟨by rfl, ?by21⟩) hHeld ?_
          case by21 => (intro w hSw; (obtain ⟨k1, k2⟩ := View.xs hSw; have k3 := View.p0 hSw; have k4 := View.p1 hSw; have k5 := View.p2 hSw; have k6 := View.q0 hSw; have k7 := View.q1 hSw; have k8 := View.q2 hSw); go_simp)
          try simp only [Act.put, List.setIfInBounds_toArray, List.set_cons_zero, List.set_cons_succ]
          refine wpAnyH_take (i := 22) (oi := { dst := some 168, op := Go.Op.move (Go.Operand.tmp 4), type := 26, pos := "law.go:69", after := #[{ on := 20, ground := Go.Ground.guard }], guard := some (20, false) }) (v := (.pointer (some ⟨w1.heap.size, 0, none⟩))) rfl (by kernel_rfl) (by kernel_rfl) (by kernel_rfl) (fun _ _ _ h => h) (Or.inl ⟨by rfl, ?by22⟩) hHeld ?_
          case by22 => (intro w hSw; (obtain ⟨k1, k2⟩ := View.xs hSw; have k3 := View.p0 hSw; have k4 := View.p1 hSw; have k5 := View.p2 hSw; have k6 := View.q0 hSw; have k7 := View.q1 hSw; have k8 := View.q2 hSw); go_simp)
          try simp only [Act.put, List.setIfInBounds_toArray, List.set_cons_zero, List.set_cons_succ]
          refine wpAnyH_ready (rs := [23]) (by kernel_rfl) (by simp) (AllReadyH.cons (o := { dst := some 169, op := Go.Op.call { callee := Go.Callee.value (Go.Operand.func 18), args := #[Go.Operand.tmp 168], argTypes := #[26] }, type := 44, pos := "law.go:69", after := #[{ on := 22, ground := Go.Ground.data }, { on := 20, ground := Go.Ground.chain }, { on := 20, ground := Go.Ground.guard }], guard := some (20, false) }) rfl (fun K hK => ?_) AllReadyH.nil)
          go_simp
          (with_reducible refine (rlist_v hHeld).mono ?_)
          rintro e w' ⟨v2, rfl, hi, hV⟩
          refine hK.out _ _ hV (fun hHeld => ?_)
          clear hK K
          try simp only [Act.put, List.setIfInBounds_toArray, List.set_cons_zero, List.set_cons_succ]
          refine wpAnyH_ready (rs := [24]) (by kernel_rfl) (by simp) (AllReadyH.cons (o := { dst := some 170, op := Go.Op.call { callee := Go.Callee.value (Go.Operand.func 17), args := #[Go.Operand.tmp 167, Go.Operand.tmp 169], argTypes := #[44, 44] }, type := 4, pos := "law.go:69", after := #[{ on := 21, ground := Go.Ground.data }, { on := 23, ground := Go.Ground.data }, { on := 23, ground := Go.Ground.chain }, { on := 20, ground := Go.Ground.guard }], guard := some (20, false) }) rfl (fun K hK => ?_) AllReadyH.nil)
          go_simp
          (with_reducible refine (same_v hHeld hi).mono ?_)
          rintro e w' ⟨rfl, hV⟩
          refine hK.out _ _ hV (fun hHeld => ?_)
          clear hK K
          try simp only [Act.put, List.setIfInBounds_toArray, List.set_cons_zero, List.set_cons_succ]
          refine wpAnyH_take (i := 25) (oi := { dst := some 171, op := Go.Op.unOp Go.UnOp.not 4 (Go.Operand.tmp 170), type := 4, pos := "law.go:69", after := #[{ on := 24, ground := Go.Ground.data }, { on := 20, ground := Go.Ground.guard }], guard := some (20, false) }) (v := (.bool false)) rfl (by kernel_rfl) (by kernel_rfl) (by kernel_rfl) (fun _ _ _ h => h) (Or.inl ⟨by rfl, ?by25⟩) hHeld ?_
          case by25 => (intro w hSw; (obtain ⟨k1, k2⟩ := View.xs hSw; have k3 := View.p0 hSw; have k4 := View.p1 hSw; have k5 := View.p2 hSw; have k6 := View.q0 hSw; have k7 := View.q1 hSw; have k8 := View.q2 hSw); go_simp)
          try simp only [Act.put, List.setIfInBounds_toArray, List.set_cons_zero, List.set_cons_succ]
          refine wpAnyH_take (i := 26) (oi := { dst := some 172, op := Go.Op.pick (Go.Operand.tmp 166) (Go.Operand.const (Go.Value.bool true)) (Go.Operand.tmp 171), type := 4, pos := "law.go:69", after := #[{ on := 20, ground := Go.Ground.data }, { on := 25, ground := Go.Ground.data }], guard := none }) (v := (.bool false)) rfl (by kernel_rfl) (by kernel_rfl) (by kernel_rfl) (fun _ _ _ h => h) (Or.inl ⟨by rfl, ?by26⟩) hHeld ?_
          case by26 => (intro w hSw; (obtain ⟨k1, k2⟩ := View.xs hSw; have k3 := View.p0 hSw; have k4 := View.p1 hSw; have k5 := View.p2 hSw; have k6 := View.q0 hSw; have k7 := View.q1 hSw; have k8 := View.q2 hSw); go_simp)
          try simp only [Act.put, List.setIfInBounds_toArray, List.set_cons_zero, List.set_cons_succ]
          refine wpAnyH_take (i := 27) (oi := { dst := some 173, op := Go.Op.move (Go.Operand.tmp 172), type := 4, pos := "law.go:69", after := #[{ on := 26, ground := Go.Ground.data }, { on := 24, ground := Go.Ground.chain }], guard := none }) (v := (.bool false)) rfl (by kernel_rfl) (by kernel_rfl) (by kernel_rfl) (fun _ _ _ h => h) (Or.inl ⟨by rfl, ?by27⟩) hHeld ?_
          case by27 => (intro w hSw; (obtain ⟨k1, k2⟩ := View.xs hSw; have k3 := View.p0 hSw; have k4 := View.p1 hSw; have k5 := View.p2 hSw; have k6 := View.q0 hSw; have k7 := View.q1 hSw; have k8 := View.q2 hSw); go_simp)
          try simp only [Act.put, List.setIfInBounds_toArray, List.set_cons_zero, List.set_cons_succ]
          refine wpAnyH_take (i := 28) (oi := { dst := some 174, op := Go.Op.move (Go.Operand.tmp 3), type := 24, pos := "law.go:69", after := #[{ on := 27, ground := Go.Ground.guard }], guard := some (27, false) }) (v := (.pointer (some ⟨w.heap.size, 0, none⟩))) rfl (by kernel_rfl) (by kernel_rfl) (by kernel_rfl) (fun _ _ _ h => h) (Or.inl ⟨by rfl, ?by28⟩) hHeld ?_
          case by28 => (intro w hSw; (obtain ⟨k1, k2⟩ := View.xs hSw; have k3 := View.p0 hSw; have k4 := View.p1 hSw; have k5 := View.p2 hSw; have k6 := View.q0 hSw; have k7 := View.q1 hSw; have k8 := View.q2 hSw); go_simp)
          try simp only [Act.put, List.setIfInBounds_toArray, List.set_cons_zero, List.set_cons_succ]
          refine wpAnyH_take (i := 29) (oi := { dst := some 175, op := Go.Op.fieldAddr 33 (Go.Operand.tmp 6) 2, type := 0, pos := "law.go:69", after := #[{ on := 27, ground := Go.Ground.guard }], guard := some (27, false) }) (v := (.pointer (some ⟨wr.heap.size, 2, none⟩))) rfl (by kernel_rfl) (by kernel_rfl) (by kernel_rfl) (fun _ _ _ h => h) (Or.inl ⟨by rfl, ?by29⟩) hHeld ?_
          case by29 => (intro w hSw; (obtain ⟨k1, k2⟩ := View.xs hSw; have k3 := View.p0 hSw; have k4 := View.p1 hSw; have k5 := View.p2 hSw; have k6 := View.q0 hSw; have k7 := View.q1 hSw; have k8 := View.q2 hSw); go_simp)
          try simp only [Act.put, List.setIfInBounds_toArray, List.set_cons_zero, List.set_cons_succ]
          refine wpAnyH_take (i := 30) (oi := { dst := some 176, op := Go.Op.load 3 (Go.Operand.tmp 175), type := 3, pos := "law.go:69", after := #[{ on := 29, ground := Go.Ground.data }, { on := 27, ground := Go.Ground.guard }], guard := some (27, false) }) (v := (.int .i64 xn)) rfl (by kernel_rfl) (by kernel_rfl) (by kernel_rfl) (fun _ _ _ h => h) (Or.inl ⟨by rfl, ?by30⟩) hHeld ?_
          case by30 => (intro w hSw; (obtain ⟨k1, k2⟩ := View.xs hSw; have k3 := View.p0 hSw; have k4 := View.p1 hSw; have k5 := View.p2 hSw; have k6 := View.q0 hSw; have k7 := View.q1 hSw; have k8 := View.q2 hSw); go_simp)
          try simp only [Act.put, List.setIfInBounds_toArray, List.set_cons_zero, List.set_cons_succ]
          refine wpAnyH_take (i := 32) (oi := { dst := some 178, op := Go.Op.move (Go.Operand.tmp 4), type := 26, pos := "law.go:69", after := #[{ on := 27, ground := Go.Ground.guard }], guard := some (27, false) }) (v := (.pointer (some ⟨w1.heap.size, 0, none⟩))) rfl (by kernel_rfl) (by kernel_rfl) (by kernel_rfl) (fun _ _ _ h => h) (Or.inl ⟨by rfl, ?by32⟩) hHeld ?_
          case by32 => (intro w hSw; (obtain ⟨k1, k2⟩ := View.xs hSw; have k3 := View.p0 hSw; have k4 := View.p1 hSw; have k5 := View.p2 hSw; have k6 := View.q0 hSw; have k7 := View.q1 hSw; have k8 := View.q2 hSw); go_simp)
          try simp only [Act.put, List.setIfInBounds_toArray, List.set_cons_zero, List.set_cons_succ]
          refine wpAnyH_take (i := 33) (oi := { dst := some 179, op := Go.Op.fieldAddr 33 (Go.Operand.tmp 6) 2, type := 0, pos := "law.go:69", after := #[{ on := 27, ground := Go.Ground.guard }], guard := some (27, false) }) (v := (.pointer (some ⟨wr.heap.size, 2, none⟩))) rfl (by kernel_rfl) (by kernel_rfl) (by kernel_rfl) (fun _ _ _ h => h) (Or.inl ⟨by rfl, ?by33⟩) hHeld ?_
          case by33 => (intro w hSw; (obtain ⟨k1, k2⟩ := View.xs hSw; have k3 := View.p0 hSw; have k4 := View.p1 hSw; have k5 := View.p2 hSw; have k6 := View.q0 hSw; have k7 := View.q1 hSw; have k8 := View.q2 hSw); go_simp)
          try simp only [Act.put, List.setIfInBounds_toArray, List.set_cons_zero, List.set_cons_succ]
          refine wpAnyH_take (i := 34) (oi := { dst := some 180, op := Go.Op.load 3 (Go.Operand.tmp 179), type := 3, pos := "law.go:69", after := #[{ on := 33, ground := Go.Ground.data }, { on := 27, ground := Go.Ground.guard }], guard := some (27, false) }) (v := (.int .i64 xn)) rfl (by kernel_rfl) (by kernel_rfl) (by kernel_rfl) (fun _ _ _ h => h) (Or.inl ⟨by rfl, ?by34⟩) hHeld ?_
          case by34 => (intro w hSw; (obtain ⟨k1, k2⟩ := View.xs hSw; have k3 := View.p0 hSw; have k4 := View.p1 hSw; have k5 := View.p2 hSw; have k6 := View.q0 hSw; have k7 := View.q1 hSw; have k8 := View.q2 hSw); go_simp)
          try simp only [Act.put, List.setIfInBounds_toArray, List.set_cons_zero, List.set_cons_succ]
          refine wpAnyH_ready (rs := [31]) (by kernel_rfl) (by simp) (AllReadyH.cons (o := { dst := some 177, op := Go.Op.call { callee := Go.Callee.value (Go.Operand.func 19), args := #[Go.Operand.tmp 174, Go.Operand.tmp 176], argTypes := #[24, 3] }, type := 4, pos := "law.go:69", after := #[{ on := 28, ground := Go.Ground.data }, { on := 30, ground := Go.Ground.data }, { on := 27, ground := Go.Ground.chain }, { on := 27, ground := Go.Ground.guard }], guard := some (27, false) }) rfl (fun K hK => ?_) AllReadyH.nil)
          go_simp
          (with_reducible refine (holds_v hHeld).mono ?_)
          rintro e w' ⟨rfl, hV⟩
          refine hK.out _ _ hV (fun hHeld => ?_)
          clear hK K
          try simp only [Act.put, List.setIfInBounds_toArray, List.set_cons_zero, List.set_cons_succ]
          refine wpAnyH_ready (rs := [35]) (by kernel_rfl) (by simp) (AllReadyH.cons (o := { dst := some 181, op := Go.Op.call { callee := Go.Callee.value (Go.Operand.func 20), args := #[Go.Operand.tmp 178, Go.Operand.tmp 180], argTypes := #[26, 3] }, type := 4, pos := "law.go:69", after := #[{ on := 32, ground := Go.Ground.data }, { on := 34, ground := Go.Ground.data }, { on := 31, ground := Go.Ground.chain }, { on := 27, ground := Go.Ground.guard }], guard := some (27, false) }) rfl (fun K hK => ?_) AllReadyH.nil)
          go_simp
          (with_reducible refine (rholds_v hHeld).mono ?_)
          rintro e w' ⟨rfl, hV⟩
          refine hK.out _ _ hV (fun hHeld => ?_)
          clear hK K
          try simp only [Act.put, List.setIfInBounds_toArray, List.set_cons_zero, List.set_cons_succ]
          refine wpAnyH_take (i := 36) (oi := { dst := some 182, op := Go.Op.binOp Go.BinOp.neq 4 (Go.Operand.tmp 177) (Go.Operand.tmp 181) 4, type := 4, pos := "law.go:69", after := #[{ on := 31, ground := Go.Ground.data }, { on := 35, ground := Go.Ground.data }, { on := 27, ground := Go.Ground.guard }], guard := some (27, false) }) (v := (.bool false)) rfl (by kernel_rfl) (by kernel_rfl) (by kernel_rfl) (fun _ _ _ h => h) (Or.inl ⟨by rfl, ?by36⟩) hHeld ?_
          case by36 => (intro w hSw; (obtain ⟨k1, k2⟩ := View.xs hSw; have k3 := View.p0 hSw; have k4 := View.p1 hSw; have k5 := View.p2 hSw; have k6 := View.q0 hSw; have k7 := View.q1 hSw; have k8 := View.q2 hSw); go_simp)
          try simp only [Act.put, List.setIfInBounds_toArray, List.set_cons_zero, List.set_cons_succ]
          refine wpAnyH_take (i := 37) (oi := { dst := some 183, op := Go.Op.pick (Go.Operand.tmp 173) (Go.Operand.const (Go.Value.bool true)) (Go.Operand.tmp 182), type := 4, pos := "law.go:69", after := #[{ on := 27, ground := Go.Ground.data }, { on := 36, ground := Go.Ground.data }], guard := none }) (v := (.bool false)) rfl (by kernel_rfl) (by kernel_rfl) (by kernel_rfl) (fun _ _ _ h => h) (Or.inl ⟨by rfl, ?by37⟩) hHeld ?_
          case by37 => (intro w hSw; (obtain ⟨k1, k2⟩ := View.xs hSw; have k3 := View.p0 hSw; have k4 := View.p1 hSw; have k5 := View.p2 hSw; have k6 := View.q0 hSw; have k7 := View.q1 hSw; have k8 := View.q2 hSw); go_simp)
          try simp only [Act.put, List.setIfInBounds_toArray, List.set_cons_zero, List.set_cons_succ]
          refine wpAnyH_done (by kernel_rfl) ?_ _
          have HV := Lib.hid hHeld
          clear hHeld hV0 hi hop
          go_wp2_with fail
          (with_reducible refine (over_v HV.out L).mono ?_)
          rintro e w9 ⟨rfl, hsc⟩
          have HS := Lib.hid hsc; clear hsc
          go_wp2
          go_roundw
          case rel => exact ⟨k + 1, by omega, by go_num, HS.out⟩
          case measure => simp [intOf]; omega
    · go_wp2_with fail
      (with_reducible refine (awake_any _).mono ?_)
      rintro e w9 ⟨rfl, hb⟩
      have B9 := Lib.hid (B1.out.trans (hb.mono B1.out.size)); clear hb
      go_wp2
      go_ret
      exact ⟨rfl, B9.out⟩

set_option maxRecDepth 100000 in
set_option maxHeartbeats 2000000 in
theorem script_zero (p : Option Addr) (c : Nat) (w : World) :
    Calls Try.prog 3 #[.slice p 0 c] w fun e w' => e = .returned (.bool true) ∧ Below w.heap.size w w' := by
  go_enter Try.func3, Try.ntmps3
  go_wp2_with fail
  (with_reducible refine (new_any _).mono ?_)
  rintro e w1 ⟨rfl, ht, hb⟩
  have B1 := Lib.hid hb; clear hb ht
  go_wp2_with fail
  go_loopw [5] (fun i wr => i = .int .i64 0 ∧ Below w.heap.size w wr) (fun _ _ => 0)
  case atStart => exact ⟨rfl, B1.out.alloc B1.out.size _⟩
  case round =>
    obtain ⟨rfl, hbel⟩ := hrel
    have B2 := Lib.hid hbel; clear hbel
    go_wp2_with fail
    (with_reducible refine (awake_any _).mono ?_)
    rintro e w9 ⟨rfl, hb⟩
    have B9 := Lib.hid (B2.out.trans (hb.mono B2.out.size)); clear hb
    go_wp2
    go_ret
    exact ⟨rfl, B9.out⟩

set_option maxRecDepth 100000 in
set_option maxHeartbeats 2000000 in
theorem script_long (p : Option Addr) (c n : Nat) (w : World) (h : 80 < n) (hn : n ≤ 9223372036854775807) :
    Calls Try.prog 3 #[.slice p n c] w fun e w' => e = .returned (.bool true) ∧ Below w.heap.size w w' := by
  go_enter Try.func3, Try.ntmps3
  go_wp2_with fail
  (with_reducible refine (awake_any _).mono ?_)
  rintro e w9 ⟨rfl, hb⟩
  go_wp2
  go_ret
  exact ⟨rfl, hb⟩

theorem script_walk (v : Value) (l : List (Int × Int × Int × Int)) (w : World) (h : ActsArg w v l) (hl : l.length ≤ 9223372036854775807) :
    Calls Try.prog 3 #[v] w fun e w' => e = .returned (.bool true) ∧ Below w.heap.size w w' := by
  rcases h with ⟨p, c, rfl, rfl⟩ | ⟨b, o, c, rfl, hc⟩
  · exact script_zero p c w
  · by_cases hn : l.length ≤ 80
    · exact script_some b o c _ l w hn (Lib.hid rfl) (Lib.hid hc)
    · exact script_long _ c _ w (by omega) hl

end Go.Proofs.Ytdngpndkhbjedaa
