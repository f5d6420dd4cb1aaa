/- slices.Clone at bytes and bools, at whatever slice that reads as a list. -/
import Derived.Test.YtpfaccpmgldkeaaGreatDoorNode
set_option linter.unusedVariables false
set_option linter.unusedSimpArgs false
namespace Go.Proofs
open Go.Shelf
def Tryz.laysSlE041_by_ren : Go.Shelf.Ren := ⟨fun | 41 => 48 | n => n, fun | 22 => 22 | 23 => 5 | 4 => 4 | n => n, fun | n => n⟩
theorem Tryz.laysSlE041_by : Go.Proofs.SlLaysE0.n41 Tryz.prog Tryz.laysSlE041_by_ren := {
  mixed := by kernel_rfl
  f41 := ⟨Tryz.f48.name, by decide, Tryz.func48.trans (congrArg some (by kernel_rfl))⟩
  t4 := Tryz.underlying4
  a4 := Tryz.isAgg4
  z4 := Tryz.sizeOf4
  v4 := Tryz.zeroValue4
  t22 := Tryz.underlying22
  a22 := Tryz.isAgg22
  z22 := Tryz.sizeOf22
  v22 := Tryz.zeroValue22 }
end Go.Proofs
namespace Go.Proofs.YtpfaccpmgldkeaaGreatDoor
open Go.RowKit Go.MapKept Go.ChangeMaps
set_option maxRecDepth 100000

/-- A slice that reads as a list. -/
def ListAt {α : Type} (f : α → Value) (w : World) (v : Value) (l : List α) : Prop :=
  (∃ c, v = .slice none 0 c ∧ l = []) ∨ ∃ b o c, v = .slice (some ⟨b, o, none⟩) l.length c ∧ l.length ≤ c ∧ b < w.heap.size ∧ ∀ j x, l[j]? = some x → w.cell? ⟨b, o + j, none⟩ = some (f x)

theorem ListAt.below {α : Type} {f : α → Value} {w w' : World} {v : Value} {l : List α} (h : ListAt f w v l) (hb : Below w.heap.size w w') : ListAt f w' v l := by
  rcases h with h | ⟨b, o, c, h1, h2, h3, h4⟩
  · exact Or.inl h
  · exact Or.inr ⟨b, o, c, h1, h2, Nat.lt_of_lt_of_le h3 hb.size, fun j x hx => by rw [← h4 j x hx]; exact hb.cell (p := ⟨b, o + j, none⟩) h3⟩

theorem ListAt.form {α : Type} {f : α → Value} {w : World} {v : Value} {l : List α} (h : ListAt f w v l) : ∃ p c, v = .slice p l.length c := by
  rcases h with ⟨c, h1, h2⟩ | ⟨b, o, c, h1, _⟩
  · exact ⟨none, c, by rw [h1, h2]; rfl⟩
  · exact ⟨_, c, h1⟩

theorem ListAt.len {α : Type} {f : α → Value} {w : World} {p : Option Addr} {n c : Nat} {l : List α} (h : ListAt f w (.slice p n c) l) : n = l.length := by
  obtain ⟨p', c', h'⟩ := h.form
  cases h'; rfl

theorem ListAt.cap {α : Type} {f : α → Value} {w : World} {p : Option Addr} {n c : Nat} {l : List α} (h : ListAt f w (.slice p n c) l) : n ≤ c := by
  rcases h with ⟨c', h1, h2⟩ | ⟨b, o, c', h1, h2, _⟩
  · cases h1; omega
  · cases h1; exact h2

theorem ListAt.take {α : Type} {f : α → Value} {w : World} {p : Option Addr} {n c : Nat} {l : List α} (h : ListAt f w (.slice p n c) l) (m : Nat) (hm : m ≤ n) : ListAt f w (.slice p m c) (l.take m) := by
  rcases h with ⟨c', h1, h2⟩ | ⟨b, o, c', h1, h2, h3, h4⟩
  · cases h1
    have : m = 0 := by omega
    subst this
    exact Or.inl ⟨_, rfl, by simp⟩
  · cases h1
    refine Or.inr ⟨b, o, c, ?_, by simp; omega, h3, fun j x hx => ?_⟩
    · rw [List.length_take, Nat.min_eq_left hm]
    · rw [List.getElem?_take] at hx
      split at hx
      · exact h4 j x hx
      · cases hx

theorem Row.list {α : Type} {f : α → Value} {w : World} {ow : Nat → Option Own} {o : Own} {e : TypeId} {v : Value} {l : List α} (h : Row w ow o e v (l.map f)) : ListAt f w v l := by
  rcases h.form with ⟨h1, h2⟩ | ⟨g, c, h1, hg, _, h3, _, _, h4⟩
  · exact Or.inl ⟨0, h1, by simpa using h2⟩
  · rw [List.length_map] at h1 h3
    refine Or.inr ⟨g, 0, c, h1, h3, hg, fun j x hx => ?_⟩
    rw [Nat.zero_add]
    exact h4 j _ (by simp [hx])

theorem DataAt.list {w : World} {ow : Nat → Option Own} {n : Int} {v : Value} {x : M.Nd} (h : DataAt w ow n v x) : ListAt U8 w v x.data := by
  rcases h with ⟨_, h⟩ | ⟨_, g, c, h2, _, h4, h5, h6⟩
  · exact h.list
  · rw [List.length_map] at h2 h5
    refine Or.inr ⟨g, 0, c, h2, h5, h4, fun j x hx => ?_⟩
    rw [Nat.zero_add]
    exact h6 j _ (by simp [hx])

def ClonePost (e0 : TypeId) (l : List Value) (w : World) (e : Ending) (w' : World) : Prop := ∃ v', e = .returned v' ∧ w'.ownsRow w.heap.size e0 1 v' l.length l ∧ Below w.heap.size w w'

theorem infoU8 : (Tryz.prog.info? 5).map (fun i => (i.zero, i.size, i.bytes)) = some (some (.int .u8 0), 1, 1) := by kernel_rfl
theorem infoBool : (Tryz.prog.info? 4).map (fun i => (i.zero, i.size, i.bytes)) = some (some (.bool false), 1, 1) := by kernel_rfl

theorem clone_bytes (v : Value) (l : M.Bs) (w : World) (h : ListAt U8 w v l) (hl : l.length ≤ 1000000) :
    Calls Tryz.prog 48 #[v] w (ClonePost 5 (l.map U8) w) := by
  rcases h with ⟨c, rfl, rfl⟩ | ⟨b, o, c, rfl, h2, h3, h4⟩
  · refine (AnyE.slices_Clone_nil Tryz.laysSlE041_by 0 c w).mono ?_
    rintro e w' ⟨rfl, rfl⟩
    exact ⟨_, rfl, World.ownsRow_nil _ _ _ _, Below.refl _ _⟩
  · obtain ⟨i0, hi, hz0, hz1, hz2⟩ := info_parts infoU8
    refine (AnyE.slices_Clone Tryz.laysSlE041_by i0 (.int .u8 0) 1 1 hi hz0 hz1 hz2 rfl (by decide) (fun w => Tryz.sizeOf5 w) b o l.length c (l.map U8) w (by simp) (by unfold maxLen; omega) (by omega) ?_ ?_).mono ?_
    · intro j u hu
      rw [List.getElem?_map] at hu
      cases hx : l[j]? with
      | none => simp [hx] at hu
      | some x =>
        rw [hx] at hu
        cases hu
        exact h4 j x hx
    · intro u hu
      obtain ⟨x, _, rfl⟩ := List.mem_map.1 hu
      rfl
    · rintro e w' ⟨v', rfl, h1, _, h5⟩
      exact ⟨_, rfl, by rw [List.length_map]; exact h1, h5⟩

theorem clone_bools (v : Value) (l : List Bool) (w : World) (h : ListAt Value.bool w v l) (hl : l.length ≤ 1000000) :
    Calls Tryz.prog 53 #[v] w (ClonePost 4 (l.map Value.bool) w) := by
  rcases h with ⟨c, rfl, rfl⟩ | ⟨b, o, c, rfl, h2, h3, h4⟩
  · refine (Tryz.slices_Clone_nil_f53 0 c w).mono ?_
    rintro e w' ⟨rfl, rfl⟩
    exact ⟨_, rfl, World.ownsRow_nil _ _ _ _, Below.refl _ _⟩
  · obtain ⟨i0, hi, hz0, hz1, hz2⟩ := info_parts infoBool
    refine (Tryz.slices_Clone_f53 i0 (.bool false) 1 1 hi hz0 hz1 hz2 rfl (by decide) (fun w => Tryz.sizeOf4 w) b o l.length c (l.map Value.bool) w (by simp) (by unfold maxLen; omega) (by omega) ?_ ?_).mono ?_
    · intro j u hu
      rw [List.getElem?_map] at hu
      cases hx : l[j]? with
      | none => simp [hx] at hu
      | some x =>
        rw [hx] at hu
        cases hu
        exact h4 j x hx
    · intro u hu
      obtain ⟨x, _, rfl⟩ := List.mem_map.1 hu
      rfl
    · rintro e w' ⟨v', rfl, h1, _, h5⟩
      exact ⟨_, rfl, by rw [List.length_map]; exact h1, h5⟩
end Go.Proofs.YtpfaccpmgldkeaaGreatDoor
