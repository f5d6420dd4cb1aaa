/- slices.Reverse at strings, of a row of one's own. -/
import Derived.Test.YtpfaccpmgldkeaaGreatDoorAid
import Derived.Test.YtpfaccpmgldkeaaGreatDoorFind
namespace Go.Proofs.YtpfaccpmgldkeaaGreatDoor
open Go.RowKit Go.MapKept Go.ChangeMaps
set_option maxRecDepth 100000

theorem holds_strs {base : Nat} {w : World} {g cap : Nat} {l : List M.Bs} (h : Strs base w (.slice (some ⟨g, 0, none⟩) l.length cap) l) : Go.Sort.Holds encStr w g 0 l.toArray := by
  intro j hj
  rcases h.2 with ⟨h1, _⟩ | ⟨g', cap', cur, h1, h2, h3, h4, _⟩
  · cases h1
  · cases h1
    have hj' : j < l.length := by simpa using hj
    rw [Nat.zero_add]
    refine ⟨?_, frozen_of_row w g _ _ _ h3⟩
    have := World.ownsRow.cells h (g := g) rfl j (S l[j]) (by simp [hj'])
    rw [Addr.add_lit, Nat.zero_add] at this
    rw [this]
    simp [encStr, S, hj']

theorem putRow_strs {base : Nat} {w : World} {g cap : Nat} {l l' : List M.Bs} (h : Strs base w (.slice (some ⟨g, 0, none⟩) l.length cap) l) (hl : l'.length = l.length) (n : Nat) :
    Strs base (Go.Sort.putRow encStr (Go.Sort.ahead w n) g 0 l'.toArray) (.slice (some ⟨g, 0, none⟩) l.length cap) l' ∧ w.grownBy (Go.Sort.putRow encStr (Go.Sort.ahead w n) g 0 l'.toArray) (some g) := by
  rcases h.2 with ⟨h1, _⟩ | ⟨g', cap', cur, h1, h2, h3, h4, h5, h6, h7⟩
  · cases h1
  cases h1
  constructor
  · refine ⟨by simp, Or.inr ⟨g, cap, Go.Sort.putCells encStr 0 l'.toArray cur, by rw [hl], h2, ?_, by omega, h5, by simp [Go.Sort.putCells, h6], ?_⟩⟩
    · show (w.heap.modify g _)[g]? = _
      rw [Array.getElem?_modify, if_pos rfl, h3]
      rfl
    · apply List.ext_getElem?
      intro j
      simp only [List.length_map, Nat.mul_one] at h7 h6 ⊢
      by_cases hj : j < l'.length
      · rw [List.getElem?_take, if_pos hj, Array.getElem?_toList]
        have : j < cur.size := by omega
        simp [Go.Sort.putCells, this, hj, encStr, S]
      · rw [List.getElem?_eq_none (by simp; omega), List.getElem?_eq_none (by simp; omega)]
  · refine ⟨rfl, rfl, rfl, by simp [Go.Sort.putRow, Go.Sort.mapBlock, Go.Sort.ahead], fun k _ hne => ?_⟩
    show (w.heap.modify g _)[k]? = _
    rw [Array.getElem?_modify, if_neg (fun e => hne (by rw [e]))]

def RevPost (base : Nat) (v : Value) (l : List M.Bs) (w : World) (e : Ending) (w' : World) : Prop := e = .returned (.tuple #[]) ∧ Strs base w' v l ∧ w.grownBy w' v.ownBlock

theorem reverse_any (base : Nat) (v : Value) (l : List M.Bs) (w : World) (h : Strs base w v l) (hl : l.length ≤ 1000000) :
    Calls Tryz.prog 174 #[v] w (RevPost base v l.reverse w) := by
  rcases strs_form h with ⟨rfl, rfl⟩ | ⟨g, c, rfl⟩
  · refine (Tryz.slices_Reverse_string_empty none 0 w).mono ?_
    rintro e w' ⟨rfl, rfl⟩
    exact ⟨rfl, h, ⟨rfl, rfl, rfl, Nat.le_refl _, fun _ _ _ => rfl⟩⟩
  · refine (Tryz.slices_Reverse_string g 0 c l w (holds_strs h) (by omega)).mono ?_
    rintro e w' ⟨rfl, n, rfl⟩
    obtain ⟨h1, h2⟩ := putRow_strs h (l' := l.reverse) (by simp) n
    exact ⟨rfl, h1, h2⟩
end Go.Proofs.YtpfaccpmgldkeaaGreatDoor
