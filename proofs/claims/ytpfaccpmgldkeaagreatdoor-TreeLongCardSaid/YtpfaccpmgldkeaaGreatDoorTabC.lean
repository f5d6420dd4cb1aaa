/- The contracts of List, of the lists' helpers and of the document's own table. -/
import Derived.Test.YtpfaccpmgldkeaaGreatDoorTabB
import Derived.Test.YtpfaccpmgldkeaaGreatDoorPath
set_option linter.unusedVariables false
set_option linter.unusedSimpArgs false
namespace Go.Proofs.YtpfaccpmgldkeaaGreatDoor
open Go.RowKit
set_option maxRecDepth 100000

def opensTo (t : Tab) (k : Nat) : List Nat := (List.range k).filter fun i => (t i).opn
def ints (l : List Nat) : List Value := l.map fun i => .int .i64 (i : Nat)

theorem opensTo_yes {t : Tab} {k : Nat} (h : (t k).opn = true) : opensTo t (k + 1) = opensTo t k ++ [k] := by
  simp [opensTo, List.range_succ, h]
theorem opensTo_no {t : Tab} {k : Nat} (h : (t k).opn = false) : opensTo t (k + 1) = opensTo t k := by
  simp [opensTo, List.range_succ, h]
theorem opensTo_len (t : Tab) (k : Nat) : (opensTo t k).length ≤ k := by
  have := List.length_filter_le (fun i => (t i).opn) (List.range k)
  simpa [opensTo] using this
theorem ints_snoc (l : List Nat) (k : Nat) : ints (l ++ [k]) = ints l ++ [.int .i64 (k : Nat)] := by simp [ints]

/-- A slice of ints that lies in memory from base on. -/
def IntsIn (base : Nat) (w : World) (v : Value) (l : List Nat) : Prop := w.ownsRow base 3 1 v l.length (ints l)

theorem infoOf3 : (Tryz.prog.info? 3).map (fun i => (i.zero, i.size, i.bytes)) = some (some (.int .i64 0), 1, 8) := by kernel_rfl

def ListRel (b : Nat) (t : Tab) (w : World) (k : Nat) (v : Value) (wr : World) : Prop := IntsIn w.heap.size wr v (opensTo t k) ∧ Below w.heap.size w wr ∧ TabAt wr b t

theorem listRel_no {b : Nat} {t : Tab} {w wr w1 : World} {k : Nat} {v : Value} (h : ListRel b t w k v wr) (hw : Below wr.heap.size wr w1) (ho : (t k).opn = false) (hb : b < w.heap.size) : ListRel b t w (k + 1) v w1 := by
  obtain ⟨h1, h2, h3⟩ := h
  refine ⟨?_, h2.trans (hw.mono h2.size), h3.below hw (Nat.lt_of_lt_of_le hb h2.size)⟩
  unfold IntsIn at *
  rw [opensTo_no ho]
  exact h1.kept (row := none) ⟨hw.os, hw.tape, hw.output, hw.size, fun k hk _ => hw.block k hk⟩ (by cases v.ownBlock <;> simp)

theorem listRel_yes {b : Nat} {t : Tab} {w wr w1 w2 : World} {k : Nat} {v v1 : Value} (h : ListRel b t w k v wr) (hw : Below wr.heap.size wr w1) (ho : (t k).opn = true) (hb : b < w.heap.size)
    (hown : w2.ownsRow w.heap.size 3 1 v1 ((opensTo t k).length + 1) (ints (opensTo t k) ++ [.int .i64 (k : Nat)])) (hg : w1.grownBy w2 v.ownBlock) : ListRel b t w (k + 1) v1 w2 := by
  obtain ⟨h1, h2, h3⟩ := h
  have hlt := h1.lt
  have hB : Below w.heap.size w w2 := (h2.trans (hw.mono h2.size)).grown hg (Nat.le_trans h2.size hw.size) (fun k hk => (hlt k hk).1)
  refine ⟨?_, hB, ?_⟩
  · unfold IntsIn
    rw [opensTo_yes ho, ints_snoc]
    simpa using hown
  · refine (h3.below hw (Nat.lt_of_lt_of_le hb h2.size)).same (hg.block b ?_ ?_)
    · exact Nat.lt_of_lt_of_le hb (Nat.le_trans h2.size hw.size)
    · intro e
      have := (hlt b e.symm).1
      omega

theorem size54 (t : Tab) : (Tryz.prog.info? 93).map (fun i => i.size) = some (tcells t).size := by
  rw [show (tcells t).size = 64 by simp [tcells]]
  kernel_rfl

def ListPost (t : Tab) (w : World) (e : Ending) (w' : World) : Prop := ∃ v, e = .returned v ∧ IntsIn w.heap.size w' v (opensTo t 16) ∧ Below w.heap.size w w'

set_option maxHeartbeats 1000000 in
theorem list_any (w : World) (b : Nat) (t : Tab) (h : TabAt w b t) :
    Calls Tryz.prog 111 #[.pointer (some ⟨b, 0, none⟩)] w (ListPost t w) := by
  have H := Lib.hid h; clear h
  have HL := Lib.hid H.out.lt
  obtain ⟨i0, hi, hz0, hz1, hz2⟩ := info_parts infoOf3
  have HI := Lib.hid hi; clear hi
  have Z0 := Lib.hid hz0; clear hz0
  have Z1 := Lib.hid hz1; clear hz1
  have Z2 := Lib.hid hz2; clear hz2
  obtain ⟨ty, hty⟩ := H.out
  have HT := Lib.hid hty; clear hty
  have H54 := Lib.hid (size54 t)
  go_enter Tryz.func111, Tryz.ntmps111
  go_wp2_with (refine wpList_load_row rfl 93 (.tmp 10) rfl b rfl ty (tcells t) (0, 0) (.array 16 92) HT.out Tryz.underlying93 rfl H54.out ?_)
  go_loopw [3, 4, 5, 12] (fun v _ _ i wr => ∃ k : Nat, k ≤ 16 ∧ i = .int .i64 k ∧ ListRel b t w k v wr) (fun _ _ _ i _ => 16 - (intOf i).toNat)
  case atStart => exact ⟨0, by omega, rfl, ⟨World.ownsRow_nil _ _ _ _, Below.refl _ _, H.out⟩⟩
  case round =>
    obtain ⟨k, hk, rfl, hrel⟩ := hrel
    have HR := Lib.hid hrel; clear hrel
    by_cases hlt : k < 16
    · have hix := run_index_tab t k hlt
      cases ho : (t k).opn
      · have Ho := Lib.hid ho
        rw [ho] at hix
        clear ho
        go_wp2
        go_roundw
        case rel => exact ⟨k + 1, by omega, by go_num, listRel_no HR.out (by first | exact (Below.refl _ _).alloc (Nat.le_refl _) _ | skip) Ho.out HL.out⟩
        case measure => simp [intOf]; omega
      · have Ho := Lib.hid ho
        rw [ho] at hix
        clear ho
        have hown := HR.out.1
        have HO := Lib.hid hown; clear hown
        have hlen := opensTo_len t k
        go_wp2_with (at_builtin; refine wpList_append_own _ rfl _ _ 39 rfl w.heap.size 3 i0 (.int .i64 0) 1 8 Tryz.underlying39 HI.out Z0.out Z1.out Z2.out rfl (by decide) _ _ _ rfl (World.ownsRow.alloc (World.ownsRow.alloc HO.out _) _) ⟨wr.heap.size + 1, 0, none⟩ 1 1 [.int .i64 (k : Nat)] rfl rfl ?c1 ?c2 ?c3 ?c4 ?c5 ?_)
        case c1 => exact cell_app (by simp) _
        case c2 => simp [Value.oneCell']
        case c3 => unfold maxLen; omega
        case c4 => omega
        case c5 => have := HR.out.2.1.size; simp; omega
        intro v1 w2 hown hgrow _
        have HW := Lib.hid (listRel_yes HR.out ((Below.refl _ _).alloc (Nat.le_refl _) _ |>.alloc (by simp) _) Ho.out HL.out hown hgrow)
        clear hown hgrow
        go_wp2
        go_roundw
        case rel => exact ⟨k + 1, by omega, by go_num, HW.out⟩
        case measure => simp [intOf]; omega
    · go_wp2
      go_ret
      obtain ⟨h1, h2, h3⟩ := HR.out
      have : k = 16 := by omega
      subst this
      exact ⟨_, rfl, h1, h2⟩

end Go.Proofs.YtpfaccpmgldkeaaGreatDoor
