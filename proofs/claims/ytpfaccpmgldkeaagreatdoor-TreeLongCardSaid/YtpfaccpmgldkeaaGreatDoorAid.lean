/- Small lemmas: owned rows beside loops over maps. -/
import Derived.Test.YtpfaccpmgldkeaaGreatDoorRep
import Derived.Test.YtpfaccpmgldkeaaGreatDoorIter
import Derived.Maps.RangeWalk
set_option linter.unusedVariables false
set_option linter.unusedSimpArgs false
namespace Go.Proofs.YtpfaccpmgldkeaaGreatDoor
open Go.RowKit Go.MapKept Go.ChangeMaps

theorem IterAt.left_eq {κ ν : Type} {kv : κ → Value} {vv : ν → Value} {w : World} {b r : Nat} {l left : List (κ × ν)} (h : IterAt kv vv w r b l left) : w.rangeLeft b r = left.length := by
  obtain ⟨es, clock, since, seen, c0, h1, _, _, h4, _, _, _, h8⟩ := h
  have := h8.length_eq
  simp only [List.length_map, Array.length_toList] at this
  simp only [World.rangeLeft, h1, h4]
  exact this

section
variable {w w' : World} {base n sz : Nat} {e : TypeId} {v : Value} {xs : List Value}
theorem row_block (h : w.ownsRow base e sz v n xs) {k : Nat} (hk : v.ownBlock = some k) : ∃ cs, w.heap[k]? = some (.cells cs e (0, 0)) := by
  rcases h.2 with ⟨rfl, _⟩ | ⟨g, cap, cur, rfl, _, h3, _⟩
  · cases hk
  · cases hk
    exact ⟨cur, h3⟩
theorem row_form (h : w.ownsRow base e sz v n xs) : ∃ p c, v = .slice p n c ∧ n ≤ c := by
  rcases h.2 with ⟨rfl, rfl⟩ | ⟨g, cap, cur, rfl, _, _, h4, _⟩
  · exact ⟨none, 0, rfl, Nat.le_refl _⟩
  · exact ⟨_, cap, rfl, h4⟩
theorem row_same (h : w.ownsRow base e sz v n xs) (hb : ∀ k, v.ownBlock = some k → w'.heap[k]? = w.heap[k]?) : w'.ownsRow base e sz v n xs := by
  refine ⟨h.1, ?_⟩
  rcases h.2 with hn | ⟨g, cap, cur, rfl, hbb, hgg, rest⟩
  · exact .inl hn
  · exact .inr ⟨g, cap, cur, rfl, hbb, (hb g rfl).trans hgg, rest⟩
theorem row_below (h : w.ownsRow base e sz v n xs) (hb : Below w.heap.size w w') : w'.ownsRow base e sz v n xs :=
  row_same h fun k hk => hb.block k (h.lt k hk).2
theorem Below.toGrown {B : Nat} {a b c : World} (h : Below B a b) (hg : b.grownBy c none) (hB : B ≤ b.heap.size) : Below B a c := h.grown hg hB (fun q hq => by cases hq)
theorem Below.iter {κ ν : Type} {kv : κ → Value} {vv : ν → Value} {b r : Nat} {l left : List (κ × ν)} {B : Nat} {a c : World} (h : Below B a w) (_hi : IterAt kv vv w r b l left) (hr : B ≤ r) (hB : B ≤ w.heap.size) (hg : w.grownBy c (some r)) : Below B a c :=
  h.grown hg hB (fun q hq => by cases hq; exact hr)
/-- A step of a loop over a map leaves a row as it is. -/
theorem row_iter {κ ν : Type} {kv : κ → Value} {vv : ν → Value} {b r : Nat} {l left : List (κ × ν)} (h : w.ownsRow base e sz v n xs) (hi : IterAt kv vv w r b l left) (hg : w.grownBy w' (some r)) : w'.ownsRow base e sz v n xs :=
  row_same h fun k hk => hg.block k (h.lt k hk).2 (by
    obtain ⟨es, clock, since, seen, c0, _, _, _, h4, _⟩ := hi
    obtain ⟨cs, h5⟩ := row_block h hk
    intro e
    cases e
    rw [h4] at h5
    cases h5)
/-- An append to a row leaves a loop over a map as it is. -/
theorem IterAt.append {κ ν : Type} {kv : κ → Value} {vv : ν → Value} {b r : Nat} {l left : List (κ × ν)} (hi : IterAt kv vv w r b l left) (h : w.ownsRow base e sz v n xs) (hg : w.grownBy w' v.ownBlock) : IterAt kv vv w' r b l left := by
  obtain ⟨es, clock, since, seen, c0, h1, _, _, h4, _⟩ := id hi
  refine hi.same (hg.block r hi.lt (fun hk => ?_)) (hg.block b hi.ltMap (fun hk => ?_))
  · obtain ⟨cs, h5⟩ := row_block h hk.symm
    rw [h4] at h5; cases h5
  · obtain ⟨cs, h5⟩ := row_block h hk.symm
    rw [h1] at h5; cases h5
theorem IterAt.below {κ ν : Type} {kv : κ → Value} {vv : ν → Value} {b r : Nat} {l left : List (κ × ν)} (hi : IterAt kv vv w r b l left) (h : Below w.heap.size w w') : IterAt kv vv w' r b l left :=
  hi.same (h.block r hi.lt) (h.block b hi.ltMap)
end

theorem strsAt_one (w : World) (x : M.Bs) (T : TypeId) : StrsAt (w.alloc (.cells #[S x] T)) (.slice (some ⟨w.heap.size, 0, none⟩) 1 1) [x] := by
  refine Or.inr ⟨w.heap.size, 0, 1, rfl, Nat.le_refl _, by simp, fun j y hy => ?_⟩
  rw [cell_of_row _ _ _ _ _ _ (heap_alloc_new w _)]
  cases j with
  | zero => cases hy; rfl
  | succ j => simp at hy
end Go.Proofs.YtpfaccpmgldkeaaGreatDoor
