/- The contracts of List, of the lists' helpers and of the document's own table. -/
import Derived.Test.YtdngpndkhbjedaaB
namespace Go.Proofs.Ytdngpndkhbjedaa
open Go.RowKit

def opensTo (t : Tab) (k : Nat) : List Nat := (List.range k).filter fun i => (t i).opn
def ints (l : List Nat) : List Value := l.map fun i => .int .i64 (i : Nat)

theorem opensTo_yes {t : Tab} {k : Nat} (h : (t k).opn = true) : opensTo t (k + 1) = opensTo t k ++ [k] := by
  simp [opensTo, List.range_succ, h]
theorem opensTo_no {t : Tab} {k : Nat} (h : (t k).opn = false) : opensTo t (k + 1) = opensTo t k := by
  simp [opensTo, List.range_succ, h]
theorem opensTo_len (t : Tab) (k : Nat) : (opensTo t k).length ≤ k := by
  have := List.length_filter_le (fun i => (t i).opn) (List.range k)
  simpa [opensTo] using this
theorem ints_snoc (l : List Nat) (k : Nat) : ints (l ++ [k]) = ints l ++ [.int .i64 (k : Nat)] := by simp [ints]

/-- A slice of ints that lies in memory from base on. -/
def Owned (base : Nat) (w : World) (v : Value) (l : List Nat) : Prop := w.ownsRow base 3 1 v l.length (ints l)

theorem infoOf3 : (Try.prog.info? 3).map (fun i => (i.zero, i.size, i.bytes)) = some (some (.int .i64 0), 1, 8) := by kernel_rfl

def ListRel (b : Nat) (t : Tab) (w : World) (k : Nat) (v : Value) (wr : World) : Prop := Owned w.heap.size wr v (opensTo t k) ∧ Below w.heap.size w wr ∧ TabAt wr b t

theorem listRel_no {b : Nat} {t : Tab} {w wr w1 : World} {k : Nat} {v : Value} (h : ListRel b t w k v wr) (hw : Below wr.heap.size wr w1) (ho : (t k).opn = false) (hb : b < w.heap.size) : ListRel b t w (k + 1) v w1 := by
  obtain ⟨h1, h2, h3⟩ := h
  refine ⟨?_, h2.trans (hw.mono h2.size), h3.below hw (Nat.lt_of_lt_of_le hb h2.size)⟩
  unfold Owned at *
  rw [opensTo_no ho]
  exact h1.kept (row := none) ⟨hw.os, hw.tape, hw.output, hw.size, fun k hk _ => hw.block k hk⟩ (by cases v.ownBlock <;> simp)

theorem listRel_yes {b : Nat} {t : Tab} {w wr w1 w2 : World} {k : Nat} {v v1 : Value} (h : ListRel b t w k v wr) (hw : Below wr.heap.size wr w1) (ho : (t k).opn = true) (hb : b < w.heap.size)
    (hown : w2.ownsRow w.heap.size 3 1 v1 ((opensTo t k).length + 1) (ints (opensTo t k) ++ [.int .i64 (k : Nat)])) (hg : w1.grownBy w2 v.ownBlock) : ListRel b t w (k + 1) v1 w2 := by
  obtain ⟨h1, h2, h3⟩ := h
  have hlt := h1.lt
  have hB : Below w.heap.size w w2 := (h2.trans (hw.mono h2.size)).grown hg (Nat.le_trans h2.size hw.size) (fun k hk => (hlt k hk).1)
  refine ⟨?_, hB, ?_⟩
  · unfold Owned
    rw [opensTo_yes ho, ints_snoc]
    simpa using hown
  · refine (h3.below hw (Nat.lt_of_lt_of_le hb h2.size)).same (hg.block b ?_ ?_)
    · exact Nat.lt_of_lt_of_le hb (Nat.le_trans h2.size hw.size)
    · intro e
      have := (hlt b e.symm).1
      omega

theorem size54 (t : Tab) : (Try.prog.info? 54).map (fun i => i.size) = some (tcells t).size := by
  rw [show (tcells t).size = 64 by simp [tcells]]
  kernel_rfl

theorem cell_app {w : World} {n : Nat} (h : n = w.heap.size) (v : Value) {e : TypeId} : ∀ j u, [v][j]? = some u → (w.alloc (.cells #[v] e)).cell? ((⟨n, 0, none⟩ : Addr).add j) = some u := by
  subst h
  intro j u hj
  cases j with
  | zero =>
    simp at hj
    subst hj
    rw [Addr.add_lit, cell_of_row _ _ _ _ _ _ (heap_alloc_new w _)]
    simp
  | succ j => simp at hj

def ListPost (t : Tab) (w : World) (e : Ending) (w' : World) : Prop := ∃ v, e = .returned v ∧ Owned w.heap.size w' v (opensTo t 16) ∧ Below w.heap.size w w'

set_option maxHeartbeats 1000000 in
theorem list_any (w : World) (b : Nat) (t : Tab) (h : TabAt w b t) :
    Calls Try.prog 16 #[.pointer (some ⟨b, 0, none⟩)] w (ListPost t w) := by
  have H := Lib.hid h; clear h
  have HL := Lib.hid H.out.lt
  obtain ⟨i0, hi, hz0, hz1, hz2⟩ := info_parts infoOf3
  have HI := Lib.hid hi; clear hi
  have Z0 := Lib.hid hz0; clear hz0
  have Z1 := Lib.hid hz1; clear hz1
  have Z2 := Lib.hid hz2; clear hz2
  obtain ⟨ty, hty⟩ := H.out
  have HT := Lib.hid hty; clear hty
  have H54 := Lib.hid (size54 t)
  go_enter Try.func16, Try.ntmps16
  go_wp2_with (refine wpList_load_row rfl 54 (.tmp 10) rfl b rfl ty (tcells t) (0, 0) (.array 16 53) HT.out Try.underlying54 rfl H54.out ?_)
  go_loopw [3, 4, 5, 12] (fun v _ _ i wr => ∃ k : Nat, k ≤ 16 ∧ i = .int .i64 k ∧ ListRel b t w k v wr) (fun _ _ _ i _ => 16 - (intOf i).toNat)
  case atStart => exact ⟨0, by omega, rfl, ⟨World.ownsRow_nil _ _ _ _, Below.refl _ _, H.out⟩⟩
  case round =>
    obtain ⟨k, hk, rfl, hrel⟩ := hrel
    have HR := Lib.hid hrel; clear hrel
    by_cases hlt : k < 16
    · have hix := run_index_tab t k hlt
      cases ho : (t k).opn
      · have Ho := Lib.hid ho
        rw [ho] at hix
        clear ho
        go_wp2
        go_roundw
        case rel => exact ⟨k + 1, by omega, by go_num, listRel_no HR.out (by first | exact (Below.refl _ _).alloc (Nat.le_refl _) _ | skip) Ho.out HL.out⟩
        case measure => simp [intOf]; omega
      · have Ho := Lib.hid ho
        rw [ho] at hix
        clear ho
        have hown := HR.out.1
        have HO := Lib.hid hown; clear hown
        have hlen := opensTo_len t k
        go_wp2_with (at_builtin; refine wpList_append_own _ rfl _ _ 44 rfl w.heap.size 3 i0 (.int .i64 0) 1 8 Try.underlying44 HI.out Z0.out Z1.out Z2.out rfl (by decide) _ _ _ rfl (World.ownsRow.alloc (World.ownsRow.alloc HO.out _) _) ⟨wr.heap.size + 1, 0, none⟩ 1 1 [.int .i64 (k : Nat)] rfl rfl ?c1 ?c2 ?c3 ?c4 ?c5 ?_)
        case c1 => exact cell_app (by simp) _
        case c2 => simp [Value.oneCell']
        case c3 => unfold maxLen; omega
        case c4 => omega
        case c5 => have := HR.out.2.1.size; simp; omega
        intro v1 w2 hown hgrow _
        have HW := Lib.hid (listRel_yes HR.out ((Below.refl _ _).alloc (Nat.le_refl _) _ |>.alloc (by simp) _) Ho.out HL.out hown hgrow)
        clear hown hgrow
        go_wp2
        go_roundw
        case rel => exact ⟨k + 1, by omega, by go_num, HW.out⟩
        case measure => simp [intOf]; omega
    · go_wp2
      go_ret
      obtain ⟨h1, h2, h3⟩ := HR.out
      have : k = 16 := by omega
      subst this
      exact ⟨_, rfl, h1, h2⟩

/- THE DOCUMENT's OWN TABLE -/

def isOpenB (t : Tab) (fd : Int) : Bool := decide (0 ≤ fd) && decide (fd < 16) && (t fd.toNat).opn
theorem isOpenB_iff {t : Tab} {fd : Int} : isOpenB t fd = true ↔ IsOpen t fd := by
  unfold isOpenB IsOpen
  simp only [Bool.and_eq_true, decide_eq_true_eq, and_assoc]

set_option maxHeartbeats 400000 in
theorem there_bad (fd : Int) (w : World) (b : Nat) (h : fd < 0 ∨ 16 ≤ fd) :
    Calls Try.prog 15 #[.pointer (some ⟨b, 0, none⟩), .int .i64 fd] w fun e w' => e = .returned (.bool false) ∧ w' = w := by
  by_cases h1 : fd < 0
  · go_enter Try.func15, Try.ntmps15
    go_wp2
    go_ret
    exact ⟨rfl, rfl⟩
  · have h2 : 16 ≤ fd := by omega
    clear h
    go_enter Try.func15, Try.ntmps15
    go_wp2
    go_ret
    exact ⟨rfl, rfl⟩

set_option maxHeartbeats 400000 in
theorem there_in (fd : Nat) (w : World) (b : Nat) (o : Bool) (h : fd < 16) (hc : w.cell? ⟨b, fd * 4 + 3, none⟩ = some (.bool o)) :
    Calls Try.prog 15 #[.pointer (some ⟨b, 0, none⟩), .int .i64 fd] w fun e w' => e = .returned (.bool o) ∧ w' = w := by
  go_enter Try.func15, Try.ntmps15
  go_wp2
  go_ret
  exact ⟨rfl, rfl⟩

theorem there_any (w : World) (b : Nat) (t : Tab) (fd : Int) (h : TabAt w b t) :
    Calls Try.prog 15 #[.pointer (some ⟨b, 0, none⟩), .int .i64 fd] w fun e w' => e = .returned (.bool (isOpenB t fd)) ∧ w' = w := by
  by_cases hr : fd < 0 ∨ 16 ≤ fd
  · refine (there_bad fd w b hr).mono fun e w' h' => ⟨by rw [h'.1]; congr 2; unfold isOpenB; rcases hr with hr | hr <;> simp <;> omega, h'.2⟩
  · obtain ⟨k, rfl⟩ := Int.eq_ofNat_of_zero_le (show 0 ≤ fd by omega)
    have hk : k < 16 := by omega
    refine (there_in k w b _ hk (h.slot k hk).c3).mono fun e w' h' => ⟨by rw [h'.1]; congr 2; unfold isOpenB; rw [Int.toNat_natCast]; simp; omega, h'.2⟩

set_option maxHeartbeats 1000000 in
theorem rclose_any (w : World) (b : Nat) (t : Tab) (fd : Int) (h : TabAt w b t) :
    Calls Try.prog 11 #[.pointer (some ⟨b, 0, none⟩), .int .i64 fd] w (ClosePost b t fd w) := by
  have H := Lib.hid h; clear h
  by_cases ho : IsOpen t fd
  · obtain ⟨h1, h2, h3⟩ := ho
    obtain ⟨k, rfl⟩ := Int.eq_ofNat_of_zero_le h1
    have hk : k < 16 := by omega
    rw [Int.toNat_natCast] at h3
    have Ho := Lib.hid h3; clear h3 h1 h2
    have hth := there_any w b t k H.out
    rw [isOpenB_iff.2 ⟨by omega, by omega, by rw [Int.toNat_natCast]; exact Ho.out⟩] at hth
    have HT := Lib.hid hth; clear hth
    obtain ⟨c0, c1, c2, c3, f0, f1, f2, f3⟩ := H.out.slot k hk
    go_enter Try.func11, Try.ntmps11
    go_wp2_with fail
    refine HT.out.mono ?_
    rintro e w1 ⟨rfl, rfl⟩
    go_wp2
    go_ret2
    exact ⟨(Tch.refl (One b) _).store (one_self b) _ _ _ _ _ _ _ _, Or.inl ⟨k, hk, rfl, Ho.out, rfl, H.out.store k hk _ _ _ _⟩⟩
  · have Ho := Lib.hid ho; clear ho
    have hth := there_any w b t fd H.out
    rw [Bool.eq_false_iff.2 (fun h => Ho.out (isOpenB_iff.1 h))] at hth
    have HT := Lib.hid hth; clear hth
    go_enter Try.func11, Try.ntmps11
    go_wp2_with fail
    refine HT.out.mono ?_
    rintro e w1 ⟨rfl, rfl⟩
    go_wp2
    go_ret2
    exact ⟨Tch.refl _ _, Or.inr ⟨Ho.out, rfl, H.out⟩⟩

set_option maxHeartbeats 1000000 in
theorem rmove_any (w : World) (b : Nat) (t : Tab) (fd off : Int) (h : TabAt w b t) :
    Calls Try.prog 13 #[.pointer (some ⟨b, 0, none⟩), .int .i64 fd, .int .i64 off] w (MovePost b t fd off w) := by
  have H := Lib.hid h; clear h
  by_cases ho : IsOpen t fd
  · obtain ⟨h1, h2, h3⟩ := ho
    obtain ⟨k, rfl⟩ := Int.eq_ofNat_of_zero_le h1
    have hk : k < 16 := by omega
    rw [Int.toNat_natCast] at h3
    have Ho := Lib.hid h3; clear h3 h1 h2
    have hth := there_any w b t k H.out
    rw [isOpenB_iff.2 ⟨by omega, by omega, by rw [Int.toNat_natCast]; exact Ho.out⟩] at hth
    have HT := Lib.hid hth; clear hth
    obtain ⟨c0, c1, c2, c3, f0, f1, f2, f3⟩ := H.out.slot k hk
    by_cases hoff : off < 0
    all_goals
      go_enter Try.func13, Try.ntmps13
      go_wp2_with fail
      refine HT.out.mono ?_
      rintro e w1 ⟨rfl, rfl⟩
      go_wp2
      go_ret
      first
        | exact ⟨Tch.refl _ _, Or.inl ⟨k, hk, rfl, Ho.out, Or.inl ⟨hoff, rfl, H.out⟩⟩⟩
        | exact ⟨(Tch.refl (One b) _).setCell (p := ⟨b, k * 4 + 1, none⟩) (one_self b) _, Or.inl ⟨k, hk, rfl, Ho.out, Or.inr ⟨by omega, rfl, H.out.set k 1 hk (by omega) { t k with off := off } cell_off⟩⟩⟩
  · have Ho := Lib.hid ho; clear ho
    have hth := there_any w b t fd H.out
    rw [Bool.eq_false_iff.2 (fun h => Ho.out (isOpenB_iff.1 h))] at hth
    have HT := Lib.hid hth; clear hth
    go_enter Try.func13, Try.ntmps13
    go_wp2_with fail
    refine HT.out.mono ?_
    rintro e w1 ⟨rfl, rfl⟩
    go_wp2
    go_ret
    exact ⟨Tch.refl _ _, Or.inr ⟨Ho.out, rfl, H.out⟩⟩

set_option maxHeartbeats 1000000 in
theorem ropen_any (w : World) (b : Nat) (t : Tab) (node flags : Int) (h : TabAt w b t) :
    Calls Try.prog 9 #[.pointer (some ⟨b, 0, none⟩), .int .i64 node, .int .i64 flags] w (OpenPost b t node flags w) := by
  have H := Lib.hid h; clear h
  go_enter Try.func9, Try.ntmps9
  go_wp2
  go_loop [8] (fun i => ∃ k : Nat, k ≤ 16 ∧ i = .int .i64 k ∧ NoneBelow t (fun s => !s.opn) k) (fun i => 16 - (intOf i).toNat)
  case atStart => exact ⟨0, by omega, rfl, fun j hj => by omega⟩
  case round =>
    obtain ⟨k, hk, rfl, hnone⟩ := hrel
    have Hn := Lib.hid hnone; clear hnone
    by_cases hlt : k < 16
    · obtain ⟨c0, c1, c2, c3, f0, f1, f2, f3⟩ := H.out.slot k hlt
      cases ho : (t k).opn
      · have Ho := Lib.hid ho
        rw [ho] at c3
        clear ho
        go_wp2
        go_ret2
        exact ⟨(Tch.refl (One b) _).store (one_self b) _ _ _ _ _ _ _ _, Or.inl ⟨k, hlt, rfl, Ho.out, fun j hj => by simpa using Hn.out j hj, H.out.store k hlt _ _ _ _⟩⟩
      · have Hn1 := Lib.hid (noneBelow_succ (p := fun s => !s.opn) Hn.out (by simp [ho]))
        rw [ho] at c3
        clear ho
        go_wp2
        go_round
        case rel => exact ⟨k + 1, by omega, by go_num, Hn1.out⟩
        case measure => simp [intOf]; omega
    · go_wp2
      go_ret2
      exact ⟨Tch.refl _ _, Or.inr ⟨rfl, fun j hj => by simpa using Hn.out j (by omega), H.out⟩⟩

set_option maxHeartbeats 1000000 in
theorem rholds_any (w : World) (b : Nat) (t : Tab) (n : Int) (h : TabAt w b t) :
    Calls Try.prog 20 #[.pointer (some ⟨b, 0, none⟩), .int .i64 n] w fun e w' => e = .returned (.bool (holdsB t n)) ∧ w' = w := by
  have H := Lib.hid h; clear h
  go_enter Try.func20, Try.ntmps20
  go_wp2
  go_loop [5] (fun i => ∃ k : Nat, k ≤ 16 ∧ i = .int .i64 k ∧ NoneBelow t (fun s => HoldsB s n) k) (fun i => 16 - (intOf i).toNat)
  case atStart => exact ⟨0, by omega, rfl, fun j hj => by omega⟩
  case round =>
    obtain ⟨k, hk, rfl, hnone⟩ := hrel
    have Hn := Lib.hid hnone; clear hnone
    by_cases hlt : k < 16
    · obtain ⟨c0, c1, c2, c3, f0, f1, f2, f3⟩ := H.out.slot k hlt
      clear f0 f1 f2 f3 c1 c2
      cases ho : (t k).opn
      · have Hn1 := Lib.hid (noneBelow_succ (p := fun s => HoldsB s n) Hn.out (by simp [HoldsB, ho]))
        rw [ho] at c3
        clear ho
        go_wp2
        go_round
        case rel => exact ⟨k + 1, by omega, by go_num, Hn1.out⟩
        case measure => simp [intOf]; omega
      · rw [ho] at c3
        by_cases hq : (t k).node = n
        · have Hy := Lib.hid (holdsB_yes hlt (by simp [HoldsB, ho, hq] : HoldsB (t k) n = true))
          rw [hq] at c0
          clear ho hq
          go_wp2
          go_ret
          exact ⟨by rw [Hy.out]; rfl, rfl⟩
        · have Hn1 := Lib.hid (noneBelow_succ (p := fun s => HoldsB s n) Hn.out (by simp [HoldsB, ho, hq]))
          have hq' : ((t k).node == n) = false := by simpa using hq
          clear ho hq
          go_wp2
          go_round
          case rel => exact ⟨k + 1, by omega, by go_num, Hn1.out⟩
          case measure => simp [intOf]; omega
    · have Hf := Lib.hid (holdsB_no (n := n) fun j hj => Hn.out j (by omega))
      go_wp2
      go_ret
      exact ⟨by rw [Hf.out]; rfl, rfl⟩

set_option maxHeartbeats 1000000 in
theorem rlist_any (w : World) (b : Nat) (t : Tab) (h : TabAt w b t) :
    Calls Try.prog 18 #[.pointer (some ⟨b, 0, none⟩)] w (ListPost t w) := by
  have H := Lib.hid h; clear h
  have HL := Lib.hid H.out.lt
  obtain ⟨i0, hi, hz0, hz1, hz2⟩ := info_parts infoOf3
  have HI := Lib.hid hi; clear hi
  have Z0 := Lib.hid hz0; clear hz0
  have Z1 := Lib.hid hz1; clear hz1
  have Z2 := Lib.hid hz2; clear hz2
  go_enter Try.func18, Try.ntmps18
  go_wp2
  go_loopw [3, 4] (fun v i wr => ∃ k : Nat, k ≤ 16 ∧ i = .int .i64 k ∧ ListRel b t w k v wr) (fun _ i _ => 16 - (intOf i).toNat)
  case atStart => exact ⟨0, by omega, rfl, ⟨World.ownsRow_nil _ _ _ _, Below.refl _ _, H.out⟩⟩
  case round =>
    obtain ⟨k, hk, rfl, hrel⟩ := hrel
    have HR := Lib.hid hrel; clear hrel
    by_cases hlt : k < 16
    · have c3 := (HR.out.2.2.slot k hlt).c3
      cases ho : (t k).opn
      · have Ho := Lib.hid ho
        rw [ho] at c3
        clear ho
        go_wp2
        go_roundw
        case rel => exact ⟨k + 1, by omega, by go_num, listRel_no HR.out (Below.refl _ _) Ho.out HL.out⟩
        case measure => simp [intOf]; omega
      · have Ho := Lib.hid ho
        rw [ho] at c3
        clear ho
        have hown := HR.out.1
        have HO := Lib.hid hown; clear hown
        have hlen := opensTo_len t k
        go_wp2_with (at_builtin; refine wpList_append_own _ rfl _ _ 44 rfl w.heap.size 3 i0 (.int .i64 0) 1 8 Try.underlying44 HI.out Z0.out Z1.out Z2.out rfl (by decide) _ _ _ rfl (World.ownsRow.alloc HO.out _) ⟨wr.heap.size, 0, none⟩ 1 1 [.int .i64 (k : Nat)] rfl rfl ?c1 ?c2 ?c3 ?c4 ?c5 ?_)
        case c1 => exact cell_app rfl _
        case c2 => simp [Value.oneCell']
        case c3 => unfold maxLen; omega
        case c4 => omega
        case c5 => have := HR.out.2.1.size; simp; omega
        intro v1 w2 hown hgrow _
        have HW := Lib.hid (listRel_yes HR.out ((Below.refl _ _).alloc (Nat.le_refl _) _) Ho.out HL.out hown hgrow)
        clear hown hgrow
        go_wp2
        go_roundw
        case rel => exact ⟨k + 1, by omega, by go_num, HW.out⟩
        case measure => simp [intOf]; omega
    · go_wp2
      go_ret
      obtain ⟨h1, h2, h3⟩ := HR.out
      have : k = 16 := by omega
      subst this
      exact ⟨_, rfl, h1, h2⟩

end Go.Proofs.Ytdngpndkhbjedaa
