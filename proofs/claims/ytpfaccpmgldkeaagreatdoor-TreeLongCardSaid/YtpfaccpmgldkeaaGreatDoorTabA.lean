/- The contracts of the table's own functions: where blocks lie, what each call leaves. -/
import Derived.Test.YtpfaccpmgldkeaaGreatDoorRows
import Derived.Test.YtpfaccpmgldkeaaGreatDoorMap
import Derived.WalkKit
import Derived.WalkSpells
import Derived.WalkLawsBesides
import Derived.BigQuiet
import Derived.Lib.Hide
set_option linter.unusedVariables false
set_option linter.unusedSimpArgs false
namespace Go.Proofs.YtpfaccpmgldkeaaGreatDoor
open Go.RowKit

/-- A descriptor. -/
abbrev Slot := M.Sl

abbrev Tab := Nat → Slot

def M.Sl.agg (s : Slot) : Value := .agg #[.int .i64 s.node, .int .i64 s.off, .int .i64 s.flags, .bool s.opn]
def M.Sl.obj (s : Slot) : Obj := .cells #[.int .i64 s.node, .int .i64 s.off, .int .i64 s.flags, .bool s.opn] 92
def M.Sl.cell (s : Slot) (o : Nat) : Value :=
  if o = 0 then .int .i64 s.node else if o = 1 then .int .i64 s.off else if o = 2 then .int .i64 s.flags else .bool s.opn
def zeroSlot : Slot := ⟨0, 0, 0, false⟩
def tset (t : Tab) (i : Nat) (s : Slot) : Tab := fun j => if j = i then s else t j

def tcells (t : Tab) : Array Value := Array.ofFn (n := 64) fun o => (t (o.val / 4)).cell (o.val % 4)

/-- The four cells of one slot, at its place in a block. -/
structure SlotAt (w : World) (b i : Nat) (s : Slot) : Prop where
  c0 : w.cell? ⟨b, i * 4, none⟩ = some (.int .i64 s.node)
  c1 : w.cell? ⟨b, i * 4 + 1, none⟩ = some (.int .i64 s.off)
  c2 : w.cell? ⟨b, i * 4 + 2, none⟩ = some (.int .i64 s.flags)
  c3 : w.cell? ⟨b, i * 4 + 3, none⟩ = some (.bool s.opn)
  f0 : w.frozen? ⟨b, i * 4, none⟩ = false
  f1 : w.frozen? ⟨b, i * 4 + 1, none⟩ = false
  f2 : w.frozen? ⟨b, i * 4 + 2, none⟩ = false
  f3 : w.frozen? ⟨b, i * 4 + 3, none⟩ = false

def TabAt (w : World) (b : Nat) (t : Tab) : Prop := ∃ ty, w.heap[b]? = some (.cells (tcells t) ty (0, 0))

theorem TabAt.lt {w : World} {b : Nat} {t : Tab} (h : TabAt w b t) : b < w.heap.size := by
  obtain ⟨ty, h⟩ := h
  rcases Nat.lt_or_ge b w.heap.size with h' | h'
  · exact h'
  · rw [Array.getElem?_eq_none h'] at h; cases h

theorem tcells_get (t : Tab) (o : Nat) (h : o < 64) : (tcells t)[o]? = some ((t (o / 4)).cell (o % 4)) := by
  unfold tcells
  simp [h]

theorem TabAt.cell {w : World} {b : Nat} {t : Tab} (h : TabAt w b t) (i k : Nat) (hi : i < 16) (hk : k < 4) : w.cell? ⟨b, i * 4 + k, none⟩ = some ((t i).cell k) := by
  obtain ⟨ty, h⟩ := h
  rw [cell_of_row w b _ _ _ _ h, tcells_get _ _ (by omega)]
  rw [show (i * 4 + k) / 4 = i by omega, show (i * 4 + k) % 4 = k by omega]

theorem TabAt.free {w : World} {b : Nat} {t : Tab} (h : TabAt w b t) (o : Nat) : w.frozen? ⟨b, o, none⟩ = false := by
  obtain ⟨ty, h⟩ := h
  exact frozen_of_row w b _ _ _ h

theorem TabAt.slot {w : World} {b : Nat} {t : Tab} (h : TabAt w b t) (i : Nat) (hi : i < 16) : SlotAt w b i (t i) :=
  ⟨h.cell i 0 hi (by omega), h.cell i 1 hi (by omega), h.cell i 2 hi (by omega), h.cell i 3 hi (by omega), h.free _, h.free _, h.free _, h.free _⟩

theorem TabAt.same {w w' : World} {b : Nat} {t : Tab} (h : TabAt w b t) (hb : w'.heap[b]? = w.heap[b]?) : TabAt w' b t := by
  obtain ⟨ty, h⟩ := h
  exact ⟨ty, hb.trans h⟩

theorem TabAt.below {w w' : World} {b B : Nat} {t : Tab} (h : TabAt w b t) (hb : Below B w w') (hB : b < B) : TabAt w' b t :=
  h.same (hb.block b hB)

theorem TabAt.tch {w w' : World} {b : Nat} {t : Tab} {S : Nat → Prop} (h : TabAt w b t) (hb : Tch S w w') (hS : ¬ S b) : TabAt w' b t :=
  h.same (hb.block b h.lt hS)

theorem tcells_set (t : Tab) (i k : Nat) (hi : i < 16) (hk : k < 4) (s : Slot) (hs : ∀ j, j < 4 → j ≠ k → s.cell j = (t i).cell j) :
    (tcells t).setIfInBounds (i * 4 + k) (s.cell k) = tcells (tset t i s) := by
  have hz : (tcells t).size = 64 := by simp [tcells]
  have hz' : (tcells (tset t i s)).size = 64 := by simp [tcells]
  apply Array.ext_getElem?
  intro o
  rw [Array.getElem?_setIfInBounds]
  by_cases ho : o < 64
  · rw [tcells_get _ _ ho, tcells_get _ _ ho]
    by_cases he : i * 4 + k = o
    · subst he
      rw [if_pos rfl, if_pos (by omega), show (i * 4 + k) / 4 = i by omega, show (i * 4 + k) % 4 = k by omega]
      simp [tset]
    · rw [if_neg he]
      by_cases hi2 : o / 4 = i
      · rw [hi2]
        simp only [tset, if_true]
        rw [hs (o % 4) (Nat.mod_lt _ (by omega)) (by omega)]
      · simp [tset, hi2]
  · rw [if_neg (by omega), Array.getElem?_eq_none (by omega), Array.getElem?_eq_none (by omega)]

theorem TabAt.set {w : World} {b : Nat} {t : Tab} (h : TabAt w b t) (i k : Nat) (hi : i < 16) (hk : k < 4) (s : Slot) (hs : ∀ j, j < 4 → j ≠ k → s.cell j = (t i).cell j) :
    TabAt (w.setCell ⟨b, i * 4 + k, none⟩ (s.cell k)) b (tset t i s) := by
  obtain ⟨ty, h⟩ := h
  exact ⟨ty, by rw [heap_setCell_same w b _ _ ty _ h, tcells_set t i k hi hk s hs]⟩

theorem tset_tset (t : Tab) (i : Nat) (s s' : Slot) : tset (tset t i s) i s' = tset t i s' := by
  funext j; simp only [tset]; split <;> rfl

theorem TabAt.store {w : World} {b : Nat} {t : Tab} (h : TabAt w b t) (i : Nat) (hi : i < 16) (n o f : Int) (p : Bool) :
    TabAt ((((w.setCell ⟨b, i * 4, none⟩ (.int .i64 n)).setCell ⟨b, i * 4 + 1, none⟩ (.int .i64 o)).setCell ⟨b, i * 4 + 2, none⟩ (.int .i64 f)).setCell ⟨b, i * 4 + 3, none⟩ (.bool p)) b (tset t i ⟨n, o, f, p⟩) := by
  have small : ∀ j, j < 4 → j = 0 ∨ j = 1 ∨ j = 2 ∨ j = 3 := fun j hj => by omega
  have h0 := h.set i 0 hi (by omega) ⟨n, (t i).off, (t i).flags, (t i).opn⟩ (by intro j hj hn; rcases small j hj with rfl | rfl | rfl | rfl <;> simp [M.Sl.cell] at hn ⊢)
  have h1 := h0.set i 1 hi (by omega) ⟨n, o, (t i).flags, (t i).opn⟩ (by intro j hj hn; rcases small j hj with rfl | rfl | rfl | rfl <;> simp [M.Sl.cell, tset] at hn ⊢)
  have h2 := h1.set i 2 hi (by omega) ⟨n, o, f, (t i).opn⟩ (by intro j hj hn; rcases small j hj with rfl | rfl | rfl | rfl <;> simp [M.Sl.cell, tset] at hn ⊢)
  have h3 := h2.set i 3 hi (by omega) ⟨n, o, f, p⟩ (by intro j hj hn; rcases small j hj with rfl | rfl | rfl | rfl <;> simp [M.Sl.cell, tset] at hn ⊢)
  simp only [tset_tset] at h3
  exact h3

theorem Tch.store {S : Nat → Prop} {a w : World} (h : Tch S a w) {b : Nat} (hb : S b) (i j k l : Nat) (x y z u : Value) :
    Tch S a ((((w.setCell ⟨b, i, none⟩ x).setCell ⟨b, j, none⟩ y).setCell ⟨b, k, none⟩ z).setCell ⟨b, l, none⟩ u) :=
  (((h.setCell (p := ⟨b, i, none⟩) hb x).setCell (p := ⟨b, j, none⟩) hb y).setCell (p := ⟨b, k, none⟩) hb z).setCell (p := ⟨b, l, none⟩) hb u

set_option maxHeartbeats 400000 in
theorem openlit_any (s : Slot) (w : World) :
    Calls Tryz.prog 166 #[s.agg] w fun e w' => e = .returned (.bool (!s.opn)) ∧ w' = w.alloc s.obj := by
  unfold M.Sl.agg M.Sl.obj
  go_enter Tryz.func166, Tryz.ntmps166
  go_wp2
  go_ret
  exact ⟨rfl, rfl⟩

theorem cell_new {w : World} {o : Obj} {b k : Nat} (h : b < w.heap.size) : (w.alloc o).cell? ⟨b, k, none⟩ = w.cell? ⟨b, k, none⟩ :=
  World.cell?_of_block (w := w) (Below.heap_alloc _ _ _ h)

set_option maxHeartbeats 400000 in
theorem holdslit_yes (s : Slot) (w : World) (nb : Nat) (n : Int) (hn : w.cell? ⟨nb, 0, none⟩ = some (.int .i64 n)) (hnb : nb < w.heap.size) (ho : s.opn = true) :
    Calls Tryz.prog 189 #[s.agg, .pointer (some ⟨nb, 0, none⟩)] w fun e w' => e = .returned (.bool (s.node == n)) ∧ Below w.heap.size w w' := by
  unfold M.Sl.agg
  have hz := cell_new (o := .cells #[.int .i64 s.node, .int .i64 s.off, .int .i64 s.flags, .bool true] 92) (k := 0) hnb
  rw [hn] at hz
  go_enter Tryz.func189, Tryz.ntmps189
  go_wp2
  go_ret
  exact ⟨rfl, (Below.refl _ _).alloc (Nat.le_refl _) _⟩

set_option maxHeartbeats 400000 in
theorem holdslit_no (s : Slot) (w : World) (nb : Nat) (ho : s.opn = false) :
    Calls Tryz.prog 189 #[s.agg, .pointer (some ⟨nb, 0, none⟩)] w fun e w' => e = .returned (.bool false) ∧ Below w.heap.size w w' := by
  unfold M.Sl.agg
  go_enter Tryz.func189, Tryz.ntmps189
  go_wp2
  go_ret
  exact ⟨rfl, (Below.refl _ _).alloc (Nat.le_refl _) _⟩

def HoldsB (s : Slot) (n : Int) : Bool := s.opn && (s.node == n)

theorem holdslit_any (s : Slot) (w : World) (nb : Nat) (n : Int) (hn : w.cell? ⟨nb, 0, none⟩ = some (.int .i64 n)) (hnb : nb < w.heap.size) :
    Calls Tryz.prog 189 #[s.agg, .pointer (some ⟨nb, 0, none⟩)] w fun e w' => e = .returned (.bool (HoldsB s n)) ∧ Below w.heap.size w w' := by
  cases ho : s.opn
  · exact (holdslit_no s w nb ho).mono fun e w' h => ⟨by rw [h.1]; simp [HoldsB, ho], h.2⟩
  · exact (holdslit_yes s w nb n hn hnb ho).mono fun e w' h => ⟨by rw [h.1]; simp [HoldsB, ho], h.2⟩

theorem openlit_below (s : Slot) (w : World) :
    Calls Tryz.prog 166 #[s.agg] w fun e w' => e = .returned (.bool (!s.opn)) ∧ Below w.heap.size w w' :=
  (openlit_any s w).mono fun e w' h => ⟨h.1, by rw [h.2]; exact (Below.refl _ _).alloc (Nat.le_refl _) _⟩

/-- What IndexFunc does over the sixteen slots with any function value that tells p of a slot and makes new memory alone. -/
def IdxPost (t : Tab) (p : Slot → Bool) (w : World) (e : Ending) (w' : World) : Prop :=
  Below w.heap.size w w' ∧
      ((∃ k : Nat, k < 16 ∧ e = .returned (.int .i64 k) ∧ p (t k) = true ∧ ∀ j, j < k → p (t j) = false) ∨ (e = .returned (.int .i64 (-1)) ∧ ∀ j, j < 16 → p (t j) = false))

def NoneBelow (t : Tab) (p : Slot → Bool) (k : Nat) : Prop := ∀ j, j < k → p (t j) = false

theorem cell_below {w w' : World} {nb : Nat} {v : Value} (h : Below w.heap.size w w') (hc : w.cell? ⟨nb, 0, none⟩ = some v) (hnb : nb < w.heap.size) : w'.cell? ⟨nb, 0, none⟩ = some v :=
  (h.cell (p := ⟨nb, 0, none⟩) hnb).trans hc

theorem noneBelow_succ {t : Tab} {p : Slot → Bool} {k : Nat} (h : NoneBelow t p k) (hk : p (t k) = false) : NoneBelow t p (k + 1) := by
  intro j hj
  by_cases e : j = k
  · rw [e]; exact hk
  · exact h j (by omega)

set_option maxHeartbeats 1000000 in
theorem idx_open (w : World) (b : Nat) (t : Tab) (h : TabAt w b t) :
    Calls Tryz.prog 165 #[.slice (some ⟨b, 0, none⟩) 16 16, .func (.func 166) #[] #[]] w (IdxPost t (fun s => !s.opn) w) := by
  have H := Lib.hid h; clear h
  have HL := Lib.hid H.out.lt
  go_enter Tryz.func165, Tryz.ntmps165
  go_wp2
  go_loopw [5, 8] (fun _ i wr => ∃ k : Nat, k ≤ 16 ∧ i = .int .i64 k ∧ NoneBelow t (fun s => !s.opn) k ∧ Below w.heap.size w wr) (fun _ i _ => 16 - (intOf i).toNat)
  case atStart => exact ⟨0, by omega, rfl, fun j hj => by omega, Below.refl _ _⟩
  case round =>
    obtain ⟨k, hk, rfl, hnone, hbel⟩ := hrel
    have Hb := Lib.hid hbel; clear hbel
    have Hn := Lib.hid hnone; clear hnone
    by_cases hlt : k < 16
    · obtain ⟨c0, c1, c2, c3, f0, f1, f2, f3⟩ := (H.out.below Hb.out HL.out).slot k hlt
      clear f0 f1 f2 f3
      go_wp2_with fail
      refine (openlit_below (t k) _).mono ?_
      rintro e w1 ⟨rfl, hb1⟩
      have Hb1 := Lib.hid (Hb.out.trans (hb1.mono Hb.out.size)); clear hb1
      cases ho : (fun s => !s.opn) (t k)
      · have Hn1 := Lib.hid (noneBelow_succ Hn.out ho)
        try dsimp only at ho
        try rw [ho]
        clear ho
        go_wp2
        go_roundw
        case rel => exact ⟨k + 1, by omega, by go_num, Hn1.out, Hb1.out⟩
        case measure => simp [intOf]; omega
      · have Ho := Lib.hid ho
        try dsimp only at ho
        try rw [ho]
        clear ho
        go_wp2
        go_ret
        exact ⟨Hb1.out, Or.inl ⟨k, hlt, rfl, Ho.out, Hn.out⟩⟩
    · go_wp2_with fail
      go_ret
      exact ⟨Hb.out, Or.inr ⟨rfl, fun j hj => Hn.out j (by omega)⟩⟩

set_option maxHeartbeats 1000000 in
theorem idx_holds (w : World) (b : Nat) (t : Tab) (h : TabAt w b t) (nb : Nat) (n : Int) (hn : w.cell? ⟨nb, 0, none⟩ = some (.int .i64 n)) (hnb : nb < w.heap.size) :
    Calls Tryz.prog 165 #[.slice (some ⟨b, 0, none⟩) 16 16, .func (.func 189) #[] #[.pointer (some ⟨nb, 0, none⟩)]] w (IdxPost t (fun s => HoldsB s n) w) := by
  have H := Lib.hid h; clear h
  have HL := Lib.hid H.out.lt
  have HC := Lib.hid hn; clear hn
  have HN := Lib.hid hnb; clear hnb
  go_enter Tryz.func165, Tryz.ntmps165
  go_wp2
  go_loopw [5, 8] (fun _ i wr => ∃ k : Nat, k ≤ 16 ∧ i = .int .i64 k ∧ NoneBelow t (fun s => HoldsB s n) k ∧ Below w.heap.size w wr) (fun _ i _ => 16 - (intOf i).toNat)
  case atStart => exact ⟨0, by omega, rfl, fun j hj => by omega, Below.refl _ _⟩
  case round =>
    obtain ⟨k, hk, rfl, hnone, hbel⟩ := hrel
    have Hb := Lib.hid hbel; clear hbel
    have Hn := Lib.hid hnone; clear hnone
    by_cases hlt : k < 16
    · obtain ⟨c0, c1, c2, c3, f0, f1, f2, f3⟩ := (H.out.below Hb.out HL.out).slot k hlt
      clear f0 f1 f2 f3
      go_wp2_with fail
      refine (holdslit_any (t k) _ nb n (cell_below Hb.out HC.out HN.out) (Nat.lt_of_lt_of_le HN.out Hb.out.size)).mono ?_
      rintro e w1 ⟨rfl, hb1⟩
      have Hb1 := Lib.hid (Hb.out.trans (hb1.mono Hb.out.size)); clear hb1
      cases ho : (fun s => HoldsB s n) (t k)
      · have Hn1 := Lib.hid (noneBelow_succ Hn.out ho)
        try dsimp only at ho
        try rw [ho]
        clear ho
        go_wp2
        go_roundw
        case rel => exact ⟨k + 1, by omega, by go_num, Hn1.out, Hb1.out⟩
        case measure => simp [intOf]; omega
      · have Ho := Lib.hid ho
        try dsimp only at ho
        try rw [ho]
        clear ho
        go_wp2
        go_ret
        exact ⟨Hb1.out, Or.inl ⟨k, hlt, rfl, Ho.out, Hn.out⟩⟩
    · go_wp2_with fail
      go_ret
      exact ⟨Hb.out, Or.inr ⟨rfl, fun j hj => Hn.out j (by omega)⟩⟩

set_option maxHeartbeats 400000 in
theorem at_nil (fd : Int) (w : World) :
    Calls Tryz.prog 167 #[.pointer none, .int .i64 fd] w fun e w' => e = .returned (.tuple #[.pointer none, .int .i64 1]) ∧ w' = w := by
  go_enter Tryz.func167, Tryz.ntmps167
  go_wp2
  go_ret2
  exact ⟨rfl, rfl⟩

set_option maxHeartbeats 400000 in
theorem at_bad (fd : Int) (w : World) (b : Nat) (h : fd < 0 ∨ 16 ≤ fd) :
    Calls Tryz.prog 167 #[.pointer (some ⟨b, 0, none⟩), .int .i64 fd] w fun e w' => e = .returned (.tuple #[.pointer none, .int .i64 10]) ∧ w' = w := by
  by_cases h1 : fd < 0
  · go_enter Tryz.func167, Tryz.ntmps167
    go_wp2
    go_ret2
    exact ⟨rfl, rfl⟩
  · have h2 : 16 ≤ fd := by omega
    clear h
    go_enter Tryz.func167, Tryz.ntmps167
    go_wp2
    go_ret2
    exact ⟨rfl, rfl⟩

set_option maxHeartbeats 400000 in
theorem at_in (fd : Nat) (w : World) (b : Nat) (o : Bool) (h : fd < 16) (hc : w.cell? ⟨b, fd * 4 + 3, none⟩ = some (.bool true)) :
    Calls Tryz.prog 167 #[.pointer (some ⟨b, 0, none⟩), .int .i64 fd] w fun e w' => e = .returned (.tuple #[.pointer (some ⟨b, fd * 4, none⟩), .int .i64 0]) ∧ w' = w := by
  go_enter Tryz.func167, Tryz.ntmps167
  go_wp2
  go_ret2
  exact ⟨rfl, rfl⟩

set_option maxHeartbeats 400000 in
theorem at_shut (fd : Nat) (w : World) (b : Nat) (o : Bool) (h : fd < 16) (hc : w.cell? ⟨b, fd * 4 + 3, none⟩ = some (.bool false)) :
    Calls Tryz.prog 167 #[.pointer (some ⟨b, 0, none⟩), .int .i64 fd] w fun e w' => e = .returned (.tuple #[.pointer none, .int .i64 10]) ∧ w' = w := by
  go_enter Tryz.func167, Tryz.ntmps167
  go_wp2
  go_ret2
  exact ⟨rfl, rfl⟩

end Go.Proofs.YtpfaccpmgldkeaaGreatDoor
