/- The contracts of the table's exported methods. -/
import Derived.Test.YtpfaccpmgldkeaaGreatDoorTabA
set_option linter.unusedVariables false
set_option linter.unusedSimpArgs false
namespace Go.Proofs.YtpfaccpmgldkeaaGreatDoor
open Go.RowKit

def One (b k : Nat) : Prop := k = b
theorem one_self (b : Nat) : One b b := rfl

theorem tab_zero {w : World} {b : Nat} {ty : TypeId} {f : Array Value} (h : w.heap[b]? = some (.cells f ty (0, 0))) (hf : f = tcells (fun _ => zeroSlot)) : TabAt w b (fun _ => zeroSlot) := ⟨ty, by rw [h, hf]⟩

set_option maxHeartbeats 400000 in
theorem new_any (w : World) :
    Calls Tryz.prog 42 #[] w fun e w' => e = .returned (.pointer (some ⟨w.heap.size, 0, none⟩)) ∧ TabAt w' w.heap.size (fun _ => zeroSlot) ∧ Below w.heap.size w w' := by
  go_enter Tryz.func42, Tryz.ntmps42
  go_wp2
  go_ret
  exact ⟨rfl, tab_zero (heap_alloc_new w _) (by kernel_rfl), (Below.refl _ _).alloc (Nat.le_refl _) _⟩

def OpenPost (b : Nat) (t : Tab) (node flags : Int) (w : World) (e : Ending) (w' : World) : Prop :=
  Tch (One b) w w' ∧
   ((∃ k : Nat, k < 16 ∧ e = .returned (.tuple #[.int .i64 k, .int .i64 0]) ∧ (t k).opn = false ∧ (∀ j, j < k → (t j).opn = true) ∧ TabAt w' b (tset t k ⟨node, 0, flags, true⟩)) ∨
    (e = .returned (.tuple #[.int .i64 0, .int .i64 14]) ∧ (∀ j, j < 16 → (t j).opn = true) ∧ TabAt w' b t))

set_option maxHeartbeats 1000000 in
theorem open_any (w : World) (b : Nat) (t : Tab) (node flags : Int) (h : TabAt w b t) :
    Calls Tryz.prog 113 #[.pointer (some ⟨b, 0, none⟩), .int .i64 node, .int .i64 flags] w (OpenPost b t node flags w) := by
  have H := Lib.hid h; clear h
  go_enter Tryz.func113, Tryz.ntmps113
  go_wp2_with fail
  refine (idx_open _ b t H.out).mono ?_
  rintro e w1 ⟨hb, hp⟩
  have Hb := Lib.hid hb; clear hb
  have H1 := Lib.hid (H.out.below Hb.out H.out.lt)
  rcases hp with ⟨k, hk, rfl, hf, hmin⟩ | ⟨rfl, hfull⟩
  · have Hf := Lib.hid hf; clear hf
    have Hm := Lib.hid hmin; clear hmin
    obtain ⟨c0, c1, c2, c3, f0, f1, f2, f3⟩ := H1.out.slot k hk
    go_wp2
    go_ret2
    exact ⟨(Tch.ofBelow (S := One b) Hb.out).store (one_self b) _ _ _ _ _ _ _ _, Or.inl ⟨k, hk, rfl, by simpa using Hf.out, fun j hj => by simpa using Hm.out j hj, H1.out.store k hk _ _ _ _⟩⟩
  · have Hf := Lib.hid hfull; clear hfull
    go_wp2
    go_ret2
    exact ⟨Tch.ofBelow Hb.out, Or.inr ⟨rfl, fun j hj => by simpa using Hf.out j hj, H1.out⟩⟩

theorem open_nil (w : World) (node flags : Int) :
    Calls Tryz.prog 113 #[.pointer none, .int .i64 node, .int .i64 flags] w fun e w' => e = .returned (.tuple #[.int .i64 0, .int .i64 1]) ∧ w' = w := by
  go_enter Tryz.func113, Tryz.ntmps113
  go_wp2
  go_ret2
  exact ⟨rfl, rfl⟩

/-- Is a descriptor open? -/
def IsOpen (t : Tab) (fd : Int) : Prop := 0 ≤ fd ∧ fd < 16 ∧ (t fd.toNat).opn = true

/-- at: told in one word. -/
def AtPost (b : Nat) (t : Tab) (fd : Int) (w : World) (e : Ending) (w' : World) : Prop :=
  w' = w ∧ ((∃ k : Nat, k < 16 ∧ fd = k ∧ (t k).opn = true ∧ e = .returned (.tuple #[.pointer (some ⟨b, k * 4, none⟩), .int .i64 0])) ∨
    (¬ IsOpen t fd ∧ e = .returned (.tuple #[.pointer none, .int .i64 10])))

theorem at_any (w : World) (b : Nat) (t : Tab) (fd : Int) (h : TabAt w b t) :
    Calls Tryz.prog 167 #[.pointer (some ⟨b, 0, none⟩), .int .i64 fd] w (AtPost b t fd w) := by
  by_cases hr : fd < 0 ∨ 16 ≤ fd
  · refine (at_bad fd w b hr).mono fun e w' h' => ⟨h'.2, Or.inr ⟨fun ho => ?_, h'.1⟩⟩
    have := ho.1; have := ho.2.1; omega
  · obtain ⟨k, rfl⟩ := Int.eq_ofNat_of_zero_le (show 0 ≤ fd by omega)
    have hk : k < 16 := by omega
    have hc := (h.slot k hk).c3
    cases ho : (t k).opn
    · rw [ho] at hc
      refine (at_shut k w b false hk hc).mono fun e w' h' => ⟨h'.2, Or.inr ⟨fun hi => ?_, h'.1⟩⟩
      have := hi.2.2
      rw [Int.toNat_natCast, ho] at this
      cases this
    · rw [ho] at hc
      exact (at_in k w b true hk hc).mono fun e w' h' => ⟨h'.2, Or.inl ⟨k, hk, rfl, ho, h'.1⟩⟩

def ClosePost (b : Nat) (t : Tab) (fd : Int) (w : World) (e : Ending) (w' : World) : Prop :=
  Tch (One b) w w' ∧ ((∃ k : Nat, k < 16 ∧ fd = k ∧ (t k).opn = true ∧ e = .returned (.tuple #[.int .i64 (t k).node, .int .i64 0]) ∧ TabAt w' b (tset t k zeroSlot)) ∨
    (¬ IsOpen t fd ∧ e = .returned (.tuple #[.int .i64 0, .int .i64 10]) ∧ TabAt w' b t))

set_option maxHeartbeats 1000000 in
theorem close_any (w : World) (b : Nat) (t : Tab) (fd : Int) (h : TabAt w b t) :
    Calls Tryz.prog 114 #[.pointer (some ⟨b, 0, none⟩), .int .i64 fd] w (ClosePost b t fd w) := by
  have H := Lib.hid h; clear h
  go_enter Tryz.func114, Tryz.ntmps114
  go_wp2_with fail
  refine (at_any _ b t fd H.out).mono ?_
  rintro e w1 ⟨rfl, hp⟩
  rcases hp with ⟨k, hk, hfd, ho, rfl⟩ | ⟨hno, rfl⟩
  · have Ho := Lib.hid ho; clear ho
    have Hfd := Lib.hid hfd; clear hfd
    obtain ⟨c0, c1, c2, c3, f0, f1, f2, f3⟩ := H.out.slot k hk
    go_wp2
    go_ret2
    exact ⟨(Tch.refl (One b) _).store (one_self b) _ _ _ _ _ _ _ _, Or.inl ⟨k, hk, Hfd.out, Ho.out, rfl, H.out.store k hk _ _ _ _⟩⟩
  · have Hn := Lib.hid hno; clear hno
    go_wp2
    go_ret2
    exact ⟨Tch.refl _ _, Or.inr ⟨Hn.out, rfl, H.out⟩⟩

def MovePost (b : Nat) (t : Tab) (fd off : Int) (w : World) (e : Ending) (w' : World) : Prop :=
  Tch (One b) w w' ∧ ((∃ k : Nat, k < 16 ∧ fd = k ∧ (t k).opn = true ∧ ((off < 0 ∧ e = .returned (.int .i64 2) ∧ TabAt w' b t) ∨ (0 ≤ off ∧ e = .returned (.int .i64 0) ∧ TabAt w' b (tset t k { t k with off := off })))) ∨
    (¬ IsOpen t fd ∧ e = .returned (.int .i64 10) ∧ TabAt w' b t))

theorem cell_off {s : Slot} {off : Int} (j : Nat) (hj : j < 4) (hn : j ≠ 1) : (({ s with off := off } : Slot)).cell j = s.cell j := by
  have : j = 0 ∨ j = 2 ∨ j = 3 := by omega
  rcases this with rfl | rfl | rfl <;> rfl

set_option maxHeartbeats 1000000 in
theorem move_any (w : World) (b : Nat) (t : Tab) (fd off : Int) (h : TabAt w b t) :
    Calls Tryz.prog 117 #[.pointer (some ⟨b, 0, none⟩), .int .i64 fd, .int .i64 off] w (MovePost b t fd off w) := by
  have H := Lib.hid h; clear h
  by_cases hoff : off < 0
  all_goals
    go_enter Tryz.func117, Tryz.ntmps117
    go_wp2_with fail
    refine (at_any _ b t fd H.out).mono ?_
    rintro e w1 ⟨rfl, hp⟩
    rcases hp with ⟨k, hk, hfd, ho, rfl⟩ | ⟨hno, rfl⟩
    · have Ho := Lib.hid ho; clear ho
      have Hfd := Lib.hid hfd; clear hfd
      obtain ⟨c0, c1, c2, c3, f0, f1, f2, f3⟩ := H.out.slot k hk
      go_wp2
      go_ret
      first
        | exact ⟨Tch.refl _ _, Or.inl ⟨k, hk, Hfd.out, Ho.out, Or.inl ⟨hoff, rfl, H.out⟩⟩⟩
        | exact ⟨(Tch.refl (One b) _).setCell (p := ⟨b, k * 4 + 1, none⟩) (one_self b) _, Or.inl ⟨k, hk, Hfd.out, Ho.out, Or.inr ⟨by omega, rfl, H.out.set k 1 hk (by omega) { t k with off := off } cell_off⟩⟩⟩
    · have Hn := Lib.hid hno; clear hno
      go_wp2
      go_ret
      exact ⟨Tch.refl _ _, Or.inr ⟨Hn.out, rfl, H.out⟩⟩

def GetPost (t : Tab) (fd : Int) (w : World) (e : Ending) (w' : World) : Prop :=
  Below w.heap.size w w' ∧ ((∃ k : Nat, k < 16 ∧ fd = k ∧ (t k).opn = true ∧ e = .returned (.tuple #[.agg #[.int .i64 (t k).node, .int .i64 (t k).off, .int .i64 (t k).flags], .int .i64 0])) ∨
    (¬ IsOpen t fd ∧ e = .returned (.tuple #[.agg #[.int .i64 0, .int .i64 0, .int .i64 0], .int .i64 10])))

set_option maxHeartbeats 1000000 in
theorem get_any (w : World) (b : Nat) (t : Tab) (fd : Int) (h : TabAt w b t) :
    Calls Tryz.prog 128 #[.pointer (some ⟨b, 0, none⟩), .int .i64 fd] w (GetPost t fd w) := by
  have H := Lib.hid h; clear h
  have HL := Lib.hid H.out.lt
  go_enter Tryz.func128, Tryz.ntmps128
  go_wp2_with fail
  refine (at_any _ b t fd (H.out.below ((Below.refl w.heap.size _).alloc (Nat.le_refl _) _) HL.out)).mono ?_
  rintro e w1 ⟨rfl, hp⟩
  rcases hp with ⟨k, hk, hfd, ho, rfl⟩ | ⟨hno, rfl⟩
  · have Ho := Lib.hid ho; clear ho
    have Hfd := Lib.hid hfd; clear hfd
    obtain ⟨c0, c1, c2, c3, f0, f1, f2, f3⟩ := H.out.slot k hk
    have hl := HL.out
    go_wp2
    exact bodyPost_ret (v := .tuple #[.agg #[.int .i64 (t k).node, .int .i64 (t k).off, .int .i64 (t k).flags], .int .i64 0]) (by simp [results, Tryz.results128, go_sem]) rfl
      ⟨(Below.refl _ _).alloc (Nat.le_refl _) _, Or.inl ⟨k, hk, Hfd.out, Ho.out, rfl⟩⟩
  · have Hn := Lib.hid hno; clear hno
    go_wp2
    exact bodyPost_ret (v := .tuple #[.agg #[.int .i64 0, .int .i64 0, .int .i64 0], .int .i64 10]) (by simp [results, Tryz.results128, go_sem]) rfl
      ⟨(Below.refl _ _).alloc (Nat.le_refl _) _, Or.inr ⟨Hn.out, rfl⟩⟩

theorem nil3 (w : World) (fd off : Int) :
    Calls Tryz.prog 117 #[.pointer none, .int .i64 fd, .int .i64 off] w fun e w' => e = .returned (.int .i64 1) ∧ w' = w := by
  go_enter Tryz.func117, Tryz.ntmps117
  go_wp2
  go_ret
  exact ⟨rfl, rfl⟩

theorem get_nil (w : World) (fd : Int) :
    Calls Tryz.prog 128 #[.pointer none, .int .i64 fd] w fun e w' => e = .returned (.tuple #[.agg #[.int .i64 0, .int .i64 0, .int .i64 0], .int .i64 1]) ∧ Below w.heap.size w w' := by
  go_enter Tryz.func128, Tryz.ntmps128
  go_wp2
  exact bodyPost_ret (v := .tuple #[.agg #[.int .i64 0, .int .i64 0, .int .i64 0], .int .i64 1]) (by simp [results, Tryz.results128, go_sem]) rfl
      ⟨rfl, (Below.refl _ _).alloc (Nat.le_refl _) _⟩

theorem holds_nil (w : World) (n : Int) :
    Calls Tryz.prog 168 #[.pointer none, .int .i64 n] w fun e w' => e = .returned (.bool false) ∧ Below w.heap.size w w' := by
  go_enter Tryz.func168, Tryz.ntmps168
  go_wp2
  go_ret
  exact ⟨rfl, (Below.refl _ _).alloc (Nat.le_refl _) _⟩

theorem list_nil (w : World) :
    Calls Tryz.prog 111 #[.pointer none] w fun e w' => e = .returned (.slice none 0 0) ∧ w' = w := by
  go_enter Tryz.func111, Tryz.ntmps111
  go_wp2
  go_ret
  exact ⟨rfl, rfl⟩

/-- Does some slot have a node? -/
def holdsB (t : Tab) (n : Int) : Bool := (List.range 16).any fun i => HoldsB (t i) n

theorem holdsB_yes {t : Tab} {n : Int} {k : Nat} (hk : k < 16) (h : HoldsB (t k) n = true) : holdsB t n = true := by
  unfold holdsB; rw [List.any_eq_true]; exact ⟨k, by simpa using hk, h⟩
theorem holdsB_no {t : Tab} {n : Int} (h : ∀ j, j < 16 → HoldsB (t j) n = false) : holdsB t n = false := by
  unfold holdsB; rw [List.any_eq_false]; intro x hx; rw [h x (by simpa using hx)]; exact Bool.false_ne_true

set_option maxHeartbeats 1000000 in
theorem contains_any (w : World) (b : Nat) (t : Tab) (nb : Nat) (n : Int) (h : TabAt w b t) (hn : w.cell? ⟨nb, 0, none⟩ = some (.int .i64 n)) (hnb : nb < w.heap.size) :
    Calls Tryz.prog 188 #[.slice (some ⟨b, 0, none⟩) 16 16, .func (.func 189) #[] #[.pointer (some ⟨nb, 0, none⟩)]] w fun e w' => e = .returned (.bool (holdsB t n)) ∧ Below w.heap.size w w' := by
  have H := Lib.hid h; clear h
  have HC := Lib.hid hn; clear hn
  go_enter Tryz.func188, Tryz.ntmps188
  go_wp2_with fail
  refine (idx_holds _ b t H.out nb n HC.out hnb).mono ?_
  rintro e w1 ⟨hb, hp⟩
  have Hb := Lib.hid hb; clear hb
  rcases hp with ⟨k, hk, rfl, hf, hmin⟩ | ⟨rfl, hfull⟩
  · have Hf := Lib.hid (holdsB_yes hk hf); clear hf hmin
    go_wp2
    go_ret
    exact ⟨by rw [Hf.out]; simp, Hb.out⟩
  · have Hf := Lib.hid (holdsB_no hfull); clear hfull
    go_wp2
    go_ret
    exact ⟨by rw [Hf.out]; simp, Hb.out⟩

set_option maxHeartbeats 1000000 in
theorem holds_any (w : World) (b : Nat) (t : Tab) (n : Int) (h : TabAt w b t) :
    Calls Tryz.prog 168 #[.pointer (some ⟨b, 0, none⟩), .int .i64 n] w fun e w' => e = .returned (.bool (holdsB t n)) ∧ Below w.heap.size w w' := by
  have H := Lib.hid h; clear h
  have HL := Lib.hid H.out.lt
  go_enter Tryz.func168, Tryz.ntmps168
  go_wp2_with fail
  refine (contains_any _ b t w.heap.size n (H.out.below ((Below.refl w.heap.size _).alloc (Nat.le_refl _) _) HL.out) ?_ (by simp)).mono ?_
  · simp [go_sem]
  rintro e w1 ⟨rfl, hb⟩
  have Hb := Lib.hid (((Below.refl w.heap.size w).alloc (Nat.le_refl _) _).trans (hb.mono (by simp))); clear hb
  go_wp2
  go_ret
  exact ⟨rfl, Hb.out⟩

theorem size53 : (Tryz.prog.info? 92).map (fun i => i.size) = some 4 := by kernel_rfl

theorem run_index_tab (t : Tab) (k : Nat) (hk : k < 16) (w : World) :
    (Instr.index 93 (.agg (tcells t)) (.int .i64 k)).run Tryz.prog w = .ok (.agg #[.int .i64 (t k).node, .int .i64 (t k).off, .int .i64 (t k).flags, .bool (t k).opn]) w := by
  have hs := size53
  cases hq : Tryz.prog.info? 92 with
  | none => simp [hq] at hs
  | some i =>
    have hs' : i.size = 4 := by simpa [hq] using hs
    have hx : (tcells t).extract (k * 4) (k * 4 + 4) = #[.int .i64 (t k).node, .int .i64 (t k).off, .int .i64 (t k).flags, .bool (t k).opn] := by
      apply Array.ext_getElem?
      intro o
      rw [Array.getElem?_extract]
      have hz : (tcells t).size = 64 := by simp [tcells]
      by_cases ho : o < 4
      · rw [if_pos (by omega), tcells_get _ _ (by omega), show (k * 4 + o) / 4 = k by omega, show (k * 4 + o) % 4 = o by omega]
        have : o = 0 ∨ o = 1 ∨ o = 2 ∨ o = 3 := by omega
        rcases this with rfl | rfl | rfl | rfl <;> rfl
      · rw [if_neg (by omega)]
        simp
        omega
    simp [Instr.index, asIntOf, Sem.run_bind, run_underlying Tryz.underlying93, run_underlying Tryz.underlying92, part, isAgg, sizeOf, typeInfo, hq, hs', hx, hk]

end Go.Proofs.YtpfaccpmgldkeaaGreatDoor
