/- A list of files as they are seen, in memory; what the walk through a tree leaves behind; cmp.Or. -/
import Derived.Test.YtpfaccpmgldkeaaGreatDoorSee
import Derived.Test.YtpfaccpmgldkeaaGreatDoorClone
import Derived.Test.YtpfaccpmgldkeaaGreatDoorAid
set_option linter.unusedVariables false
set_option linter.unusedSimpArgs false
namespace Go.Proofs.YtpfaccpmgldkeaaGreatDoor
open Go.RowKit Go.MapKept Go.ChangeMaps
set_option maxRecDepth 100000

/-- The cells of a file as it is seen; dv: its bytes. -/
def encN (x : M.Seen × Value) : List Value := [S x.1.path, I x.1.number, I x.1.kind, I x.1.links, x.2]
theorem encN_len (x : M.Seen × Value) : (encN x).length = 5 := rfl
def cellsN (l : List (M.Seen × Value)) : List Value := l.flatMap encN
theorem cellsN_len : ∀ l : List (M.Seen × Value), (cellsN l).length = l.length * 5
  | [] => rfl
  | x :: l => by
    have := cellsN_len l
    unfold cellsN at this ⊢
    rw [List.flatMap_cons, List.length_append, this, encN_len, List.length_cons]
    omega
theorem cellsN_app (l m : List (M.Seen × Value)) : cellsN (l ++ m) = cellsN l ++ cellsN m := by simp [cellsN]

theorem infoNode : (Tryz.prog.info? 44).map (fun i => (i.zero, i.size, i.bytes)) = some (some (.agg #[.string ⟨#[]⟩, .int .i64 0, .int .i64 0, .int .i64 0, .slice none 0 0]), 5, 64) := by kernel_rfl

/-- What may turn while files are gathered: the box, and rows of files that are the call's own. -/
def Gath (B bo : Nat) (w : World) (k : Nat) : Prop := k = bo ∨ (B ≤ k ∧ ∃ cs, w.heap[k]? = some (.cells cs 44 (0, 0)))
def TS (B bo : Nat) (w w' : World) : Prop := Tch (Gath B bo w) w w'
theorem TS.refl (B bo : Nat) (w : World) : TS B bo w w := Tch.refl _ _
theorem TS.trans {B bo : Nat} {a b c : World} (h : TS B bo a b) (k : TS B bo b c) : TS B bo a c := by
  refine ⟨k.os.trans h.os, k.tape.trans h.tape, k.output.trans h.output, Nat.le_trans h.size k.size, fun i hi hS => ?_⟩
  have h1 := h.block i hi hS
  refine (k.block i (Nat.lt_of_lt_of_le hi h.size) ?_).trans h1
  rintro (e | ⟨e1, cs, e2⟩)
  · exact hS (Or.inl e)
  · exact hS (Or.inr ⟨e1, cs, h1 ▸ e2⟩)
theorem TS.below {B bo : Nat} {a b c : World} (h : TS B bo a b) (hb : Below b.heap.size b c) : TS B bo a c := h.trans (Tch.ofBelow hb)
theorem TS.setBo {B bo : Nat} {a b : World} (h : TS B bo a b) (v : Value) : TS B bo a (b.setCell ⟨bo, 0, none⟩ v) := h.trans ((Tch.refl _ b).setCell (p := ⟨bo, 0, none⟩) (Or.inl rfl) v)
theorem TS.grown {B bo : Nat} {a b c : World} (h : TS B bo a b) {v : Value} {n : Nat} {xs : List Value} (hr : b.ownsRow B 44 5 v n xs) (hg : b.grownBy c v.ownBlock) : TS B bo a c := by
  refine h.trans ((Tch.refl _ b).grown hg fun k hk => ?_)
  obtain ⟨cs, hc⟩ := row_block hr hk
  exact Or.inr ⟨(World.ownsRow.lt hr k hk).1, cs, hc⟩
theorem TS.low {B bo : Nat} {a b : World} (h : TS B bo a b) {k : Nat} (hk : k < a.heap.size) (h1 : k < B) (h2 : k ≠ bo) : b.heap[k]? = a.heap[k]? := h.block k hk (by
  rintro (e | ⟨e, -⟩)
  · exact h2 e
  · omega)

/-- The state while files are gathered. -/
structure SeeW (B : Nat) (tb : Nat) (L : Lay) (s : M.St) (bt bo bs : Nat) (w : World) (v : Value) (out : List (M.Seen × Value)) : Prop where
  tree : TreeAt w tb L s
  low : ∀ k o, L.ow k = some o → k < B
  hbt : bt < B ∧ w.heap[bt]? = some (.cells #[Pt tb] 24 (0, 0))
  hbs : bs < B ∧ w.heap[bs]? = some (.cells #[.func (.func 46) #[] #[Pt bt, Pt bo, Pt bs]] 79 (0, 0))
  hbo : bo < B ∧ w.heap[bo]? = some (.cells #[v] 33 (0, 0))
  ow : L.ow bo = none
  ne : bo ≠ bt ∧ bo ≠ bs
  size : B ≤ w.heap.size
  row : w.ownsRow B 44 5 v out.length (cellsN out)
  data : ∀ x ∈ out, w.ownsRow B 5 1 x.2 x.1.data.length (x.1.data.map U8)

section
variable {B tb : Nat} {L : Lay} {s : M.St} {bt bo bs : Nat} {w w' : World} {v : Value} {out : List (M.Seen × Value)}
theorem SeeW.keep (h : SeeW B tb L s bt bo bs w v out) (hb : Below w.heap.size w w') : SeeW B tb L s bt bo bs w' v out := by
  have hk : ∀ k, k < B → w'.heap[k]? = w.heap[k]? := fun k hk => hb.block k (Nat.lt_of_lt_of_le hk h.size)
  exact ⟨h.tree.below hb, h.low, ⟨h.hbt.1, (hk _ h.hbt.1).trans h.hbt.2⟩, ⟨h.hbs.1, (hk _ h.hbs.1).trans h.hbs.2⟩, ⟨h.hbo.1, (hk _ h.hbo.1).trans h.hbo.2⟩, h.ow, h.ne, Nat.le_trans h.size hb.size, row_below h.row hb, fun x hx => row_below (h.data x hx) hb⟩
/-- One file more. -/
theorem SeeW.push (h : SeeW B tb L s bt bo bs w v out) {x : M.Seen} {dv v' : Value} (hd : w.ownsRow B 5 1 dv x.data.length (x.data.map U8)) (hr : w'.ownsRow B 44 5 v' (out.length + 1) (cellsN out ++ encN (x, dv))) (hg : w.grownBy w' v.ownBlock) :
    SeeW B tb L s bt bo bs (w'.setCell ⟨bo, 0, none⟩ v') v' (out ++ [(x, dv)]) := by
  have hvl : ∀ k, v.ownBlock = some k → B ≤ k := fun k hk => (World.ownsRow.lt h.row k hk).1
  have hk : ∀ k, k < B → w'.heap[k]? = w.heap[k]? := fun k hk => hg.block k (Nat.lt_of_lt_of_le hk h.size) (fun e => by have := hvl k e.symm; omega)
  have hk2 : ∀ k, k < B → k ≠ bo → (w'.setCell ⟨bo, 0, none⟩ v').heap[k]? = w.heap[k]? := fun k h1 h2 => (Below.heap_setCell _ _ _ _ h2).trans (hk k h1)
  have hsz : w.heap.size ≤ w'.heap.size := hg.size
  have hrow : ∀ {e : TypeId} {sz : Nat} {u : Value} {n : Nat} {xs : List Value}, w'.ownsRow B e sz u n xs → (w'.setCell ⟨bo, 0, none⟩ v').ownsRow B e sz u n xs := by
    intro e sz u n xs hu
    refine row_same hu fun k hk => Below.heap_setCell _ _ _ _ (fun e => ?_)
    have e' : k = bo := e
    have h1 := (World.ownsRow.lt hu k hk).1
    have h2 := h.hbo.1
    omega
  have hdata : ∀ {u : Value} {n : Nat} {xs : List Value}, w.ownsRow B 5 1 u n xs → w'.ownsRow B 5 1 u n xs := by
    intro u n xs hu
    refine row_same hu fun k hk => hg.block k (World.ownsRow.lt hu k hk).2 (fun e => ?_)
    obtain ⟨c1, e1⟩ := row_block hu hk
    obtain ⟨c2, e2⟩ := row_block h.row e.symm
    rw [e1] at e2
    simp at e2
  refine ⟨h.tree.keep ((Tch.setCell (((Tch.refl (fun k => L.ow k = none) w).grown hg fun k hk => ?_)) (p := ⟨bo, 0, none⟩) h.ow v')), h.low, ⟨h.hbt.1, (hk2 _ h.hbt.1 h.ne.1.symm).trans h.hbt.2⟩, ⟨h.hbs.1, (hk2 _ h.hbs.1 h.ne.2.symm).trans h.hbs.2⟩, ⟨h.hbo.1, ?_⟩, h.ow, h.ne, by simp [World.setCell]; exact Nat.le_trans h.size hsz, ?_, fun y hy => ?_⟩
  · cases ho : L.ow k with
    | none => rfl
    | some o => have := h.low k o ho; have := hvl k hk; omega
  · rw [heap_setCell_same w' bo 0 #[v] _ v' ((hk _ h.hbo.1).trans h.hbo.2)]
    rfl
  · rw [cellsN_app, List.length_append]
    have : cellsN [(x, dv)] = encN (x, dv) := by simp [cellsN]
    rw [this]
    exact hrow hr
  · rcases List.mem_append.1 hy with hy | hy
    · exact hrow (hdata (h.data y hy))
    · have e : y = (x, dv) := by simpa using hy
      rw [e]
      exact hrow (hdata hd)
theorem SeeW.boAt (h : SeeW B tb L s bt bo bs w v out) : w.cell? ⟨bo, 0, none⟩ = some v ∧ w.frozen? ⟨bo, 0, none⟩ = false ∧ bo < w.heap.size := by
  refine ⟨by rw [cell_of_row _ _ _ _ _ _ h.hbo.2]; rfl, frozen_of_row _ _ _ _ _ h.hbo.2, Nat.lt_of_lt_of_le h.hbo.1 h.size⟩
theorem SeeW.btAt (h : SeeW B tb L s bt bo bs w v out) : w.cell? ⟨bt, 0, none⟩ = some (Pt tb) := by rw [cell_of_row _ _ _ _ _ _ h.hbt.2]; rfl
theorem SeeW.bsAt (h : SeeW B tb L s bt bo bs w v out) : w.cell? ⟨bs, 0, none⟩ = some (.func (.func 46) #[] #[Pt bt, Pt bo, Pt bs]) := by rw [cell_of_row _ _ _ _ _ _ h.hbs.2]; rfl
theorem SeeW.form (h : SeeW B tb L s bt bo bs w v out) : ∃ p c, v = .slice p out.length c := by
  obtain ⟨p, c, hv, _⟩ := row_form h.row
  exact ⟨p, c, hv⟩
theorem SeeW.iter (h : SeeW B tb L s bt bo bs w v out) {r b : Nat} {l left : List (M.Bs × Int)} (hi : IterAt S I w r b l left) (hr : B ≤ r) (hg : w.grownBy w' (some r)) : SeeW B tb L s bt bo bs w' v out := by
  have hk : ∀ k, k < B → w'.heap[k]? = w.heap[k]? := fun k hk => hg.block k (Nat.lt_of_lt_of_le hk h.size) (fun e => by simp at e; omega)
  exact ⟨h.tree.keep ⟨hg.os, hg.tape, hg.output, hg.size, fun k hk' hS => hg.block k hk' (fun e => by
    have e' : k = r := by simpa using e
    exact hS (by
      cases ho : L.ow k with
      | none => rfl
      | some o => have := h.low k o ho; omega))⟩, h.low, ⟨h.hbt.1, (hk _ h.hbt.1).trans h.hbt.2⟩, ⟨h.hbs.1, (hk _ h.hbs.1).trans h.hbs.2⟩, ⟨h.hbo.1, (hk _ h.hbo.1).trans h.hbo.2⟩, h.ow, h.ne, Nat.le_trans h.size hg.size, row_iter h.row hi hg, fun x hx => row_iter (h.data x hx) hi hg⟩
/-- An iterator over a map stands while files are gathered. -/
theorem IterAt.gath {κ ν : Type} {kv : κ → Value} {vv : ν → Value} {r b : Nat} {l left : List (κ × ν)} (hi : IterAt kv vv w r b l left) (h : TS B bo w w') (hr : r ≠ bo) (hb : b ≠ bo) : IterAt kv vv w' r b l left := by
  have hi0 := hi
  obtain ⟨es, clock, since, seen, c0, h1, h2, h3, h4, h5, h6, h7, h8⟩ := hi
  refine hi0.same (h.block r hi0.lt ?_) (h.block b hi0.ltMap ?_)
  · rintro (e | ⟨_, cs, e⟩)
    · exact hr e
    · rw [h4] at e; cases e
  · rintro (e | ⟨_, cs, e⟩)
    · exact hb e
    · rw [h1] at e; cases e
end

theorem or_any (g c : Nat) (p : M.Bs) (w : World) (h0 : w.cell? ⟨g, 0, none⟩ = some (S p)) (h1 : w.cell? ⟨g, 1, none⟩ = some (S [47])) :
    Calls Tryz.prog 47 #[.slice (some ⟨g, 0, none⟩) 2 c] w fun e w' => e = .returned (S (told p)) ∧ w = w' := by
  by_cases hp : p = []
  · subst hp
    have HT := Lib.hid (show told [] = [47] from rfl)
    go_enter Tryz.func47, Tryz.ntmps47
    go_wp2
    go_loop [5, 8] (fun _ i => ∃ k : Nat, k ≤ 1 ∧ i = .int .i64 k) (fun _ i => 2 - (intOf i).toNat)
    case atStart => exact ⟨0, by omega, rfl⟩
    case round =>
      obtain ⟨k, hk, rfl⟩ := hrel
      by_cases e : k = 0
      · subst e
        go_wp2
        go_round
        case rel => exact ⟨1, by omega, by go_num⟩
        case measure => simp [intOf]
      · obtain rfl : k = 1 := by omega
        go_wp2
        go_ret
        exact ⟨by rw [HT.out]; rfl, rfl⟩
  · have HT := Lib.hid (show told p = p by unfold told; rw [if_neg hp])
    have e0 : p.isEmpty = false := by cases p <;> simp_all
    have HP := Lib.hid hp; clear hp
    go_enter Tryz.func47, Tryz.ntmps47
    go_wp2
    go_loop [5, 8] (fun _ i => ∃ k : Nat, k = 0 ∧ i = .int .i64 k) (fun _ i => 2 - (intOf i).toNat)
    case atStart => exact ⟨0, rfl, rfl⟩
    case round =>
      obtain ⟨k, rfl, rfl⟩ := hrel
      go_wp2
      go_ret
      exact ⟨by rw [HT.out]; rfl, rfl⟩
end Go.Proofs.YtpfaccpmgldkeaaGreatDoor
