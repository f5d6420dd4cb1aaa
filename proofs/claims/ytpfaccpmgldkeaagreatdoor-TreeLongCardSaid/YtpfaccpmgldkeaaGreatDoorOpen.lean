/- Contract of open. -/
import Derived.Test.YtpfaccpmgldkeaaGreatDoorWrite
import Derived.Test.YtpfaccpmgldkeaaGreatDoorMake
import Derived.Test.YtpfaccpmgldkeaaGreatDoorMark
import Derived.Test.YtpfaccpmgldkeaaGreatDoorDirs
set_option linter.unusedVariables false
set_option linter.unusedSimpArgs false
namespace Go.Proofs.YtpfaccpmgldkeaaGreatDoor
open Go.RowKit Go.MapKept Go.ChangeMaps
set_option maxRecDepth 100000

def oBad (f : Int) : Prop := f < 0 ∨ 64 ≤ f ∨ (M.bit f 4 || M.bit f 8) = true ∧ M.bit f 32 = false
def oS0 (s : M.St) (o : M.Op) : M.Spot := if M.bit o.flags 1 then (s.place o.path).1 else {}
def oLook (sp : M.Spot) : Bool := decide (sp.node ≠ 0) || decide (sp.dir = 0)
def oSp (s : M.St) (o : M.Op) : M.Spot := if oLook (oS0 s o) then (s.find o.path true).1 else oS0 s o
def oDir (s : M.St) (o : M.Op) (sp : M.Spot) : Bool := decide (sp.node ≠ 0) && decide ((s.nd sp.node).kind = 2) && M.bit o.flags 32
def oEnd (s : M.St) (o : M.Op) (sp : M.Spot) : M.Ans × M.St :=
  let s1 := if sp.node = 0 then s.make sp 1 [] else s
  let n := if sp.node = 0 then s1.last else sp.node
  let s2 := if M.bit o.flags 4 then s1.set n ((s1.nd n).resize 0) else s1
  match (List.range 16).find? (fun i => !(s2.fds i).opn) with
  | some fd => ({ n := fd }, s2.fdSet fd { node := n, flags := o.flags, opn := true })
  | none => (M.code 14, s2)

section
variable {s : M.St} {o : M.Op}
theorem open_bad (h : oBad o.flags) : s.openS o = (M.code 2, s) := by unfold M.St.openS; simp only; unfold oBad at h; rw [if_pos h]
theorem open_place (h : ¬ oBad o.flags) (h1 : M.bit o.flags 1 = true) (h2 : (s.place o.path).2 ≠ 0) : s.openS o = (M.code (s.place o.path).2, s) := by
  unfold M.St.openS; simp only; unfold oBad at h; rw [if_neg h, if_pos ⟨h1, h2⟩]
theorem open_excl (h : ¬ oBad o.flags) (h1 : ¬ (M.bit o.flags 1 = true ∧ (s.place o.path).2 ≠ 0)) (h2 : M.bit o.flags 1 = true ∧ (s.place o.path).1.node ≠ 0 ∧ M.bit o.flags 2 = true) : s.openS o = (M.code 6, s) := by
  unfold M.St.openS; simp only; unfold oBad at h; rw [if_neg h, if_neg h1, if_pos h2]
theorem open_find (h : ¬ oBad o.flags) (h1 : ¬ (M.bit o.flags 1 = true ∧ (s.place o.path).2 ≠ 0)) (h2 : ¬ (M.bit o.flags 1 = true ∧ (s.place o.path).1.node ≠ 0 ∧ M.bit o.flags 2 = true)) (h3 : oLook (oS0 s o) = true ∧ (s.find o.path true).2 ≠ 0) : s.openS o = (M.code (s.find o.path true).2, s) := by
  unfold M.St.openS; simp only; unfold oBad at h; rw [if_neg h, if_neg h1, if_neg h2]; unfold oLook oS0 at h3; rw [if_pos h3]
theorem open_dir (h : ¬ oBad o.flags) (h1 : ¬ (M.bit o.flags 1 = true ∧ (s.place o.path).2 ≠ 0)) (h2 : ¬ (M.bit o.flags 1 = true ∧ (s.place o.path).1.node ≠ 0 ∧ M.bit o.flags 2 = true)) (h3 : ¬ (oLook (oS0 s o) = true ∧ (s.find o.path true).2 ≠ 0))
    (h4 : (oSp s o).node ≠ 0 ∧ (s.nd (oSp s o).node).kind = 2 ∧ M.bit o.flags 32 = true) : s.openS o = (M.code 8, s) := by
  unfold M.St.openS; simp only; unfold oBad at h; rw [if_neg h, if_neg h1, if_neg h2]; unfold oSp oLook oS0 at *; rw [if_neg h3, if_pos h4]
theorem open_full (h : ¬ oBad o.flags) (h1 : ¬ (M.bit o.flags 1 = true ∧ (s.place o.path).2 ≠ 0)) (h2 : ¬ (M.bit o.flags 1 = true ∧ (s.place o.path).1.node ≠ 0 ∧ M.bit o.flags 2 = true)) (h3 : ¬ (oLook (oS0 s o) = true ∧ (s.find o.path true).2 ≠ 0))
    (h4 : ¬ ((oSp s o).node ≠ 0 ∧ (s.nd (oSp s o).node).kind = 2 ∧ M.bit o.flags 32 = true)) (h5 : 16 ≤ s.opens.length) : s.openS o = (M.code 14, s) := by
  unfold M.St.openS; simp only; unfold oBad at h; rw [if_neg h, if_neg h1, if_neg h2]; unfold oSp oLook oS0 at *; rw [if_neg h3, if_neg h4, if_pos h5]
theorem open_end (h : ¬ oBad o.flags) (h1 : ¬ (M.bit o.flags 1 = true ∧ (s.place o.path).2 ≠ 0)) (h2 : ¬ (M.bit o.flags 1 = true ∧ (s.place o.path).1.node ≠ 0 ∧ M.bit o.flags 2 = true)) (h3 : ¬ (oLook (oS0 s o) = true ∧ (s.find o.path true).2 ≠ 0))
    (h4 : ¬ ((oSp s o).node ≠ 0 ∧ (s.nd (oSp s o).node).kind = 2 ∧ M.bit o.flags 32 = true)) (h5 : ¬ 16 ≤ s.opens.length) : s.openS o = oEnd s o (oSp s o) := by
  unfold M.St.openS oEnd; simp only; unfold oBad at h; rw [if_neg h, if_neg h1, if_neg h2]; unfold oSp oLook oS0 at *; rw [if_neg h3, if_neg h4, if_neg h5]
  rfl
end

theorem oSp_in {k : Int} {s : M.St} {o : M.Op} (hwf : Wf k s) (h1 : ¬ (M.bit o.flags 1 = true ∧ (s.place o.path).2 ≠ 0)) (h2 : ¬ (oLook (oS0 s o) = true ∧ (s.find o.path true).2 ≠ 0)) (h : (oSp s o).node ≠ 0) : s.has (oSp s o).node = true := by
  unfold oSp at h ⊢
  cases hl : oLook (oS0 s o)
  · rw [hl] at h
    exfalso
    unfold oLook at hl
    rw [Bool.or_eq_false_iff] at hl
    have := hl.1
    simp at this
    exact h this
  · rw [if_pos rfl]
    refine find_has hwf.cl ?_
    by_cases h3 : (s.find o.path true).2 = 0
    · exact h3
    · exact absurd ⟨hl, h3⟩ h2

theorem oSp_no {k : Int} {s : M.St} {o : M.Op} (hwf : Wf k s) (h1 : ¬ (M.bit o.flags 1 = true ∧ (s.place o.path).2 ≠ 0)) (h2 : ¬ (oLook (oS0 s o) = true ∧ (s.find o.path true).2 ≠ 0)) (h : (oSp s o).node = 0) :
    s.has (oSp s o).dir = true ∧ (s.nd (oSp s o).dir).kind = 2 ∧ (oSp s o).name.length ≤ 24 := by
  unfold oSp at h ⊢
  cases hl : oLook (oS0 s o)
  · simp only [Bool.false_eq_true, if_false]
    have hb : M.bit o.flags 1 = true := by
      cases hb : M.bit o.flags 1
      · unfold oLook oS0 at hl
        rw [hb] at hl
        simp at hl
      · rfl
    unfold oS0
    rw [hb, if_pos rfl]
    obtain ⟨a, b, c, _⟩ := place_dir (p := o.path) hwf.cl (by
      by_cases h3 : (s.place o.path).2 = 0
      · exact h3
      · exact absurd ⟨hb, h3⟩ h1)
    exact ⟨a, b, c⟩
  · rw [hl, if_pos rfl] at h
    exfalso
    have h3 : (s.find o.path true).2 = 0 := by
      by_cases h3 : (s.find o.path true).2 = 0
      · exact h3
      · exact absurd ⟨hl, h3⟩ h2
    have := find_has hwf.cl h3
    rw [h] at this
    have := hwf.num _ this
    omega

theorem oSp_kind {k : Int} {s : M.St} {o : M.Op} (hwf : Wf k s) (h2 : ¬ (oLook (oS0 s o) = true ∧ (s.find o.path true).2 ≠ 0)) (h : (oSp s o).node ≠ 0) : (s.nd (oSp s o).node).kind ≠ 3 := by
  unfold oSp at h ⊢
  cases hl : oLook (oS0 s o)
  · rw [hl] at h
    exfalso
    unfold oLook at hl
    rw [Bool.or_eq_false_iff] at hl
    have := hl.1
    simp at this
    exact h this
  · rw [if_pos rfl]
    refine find_kind hwf ?_
    by_cases h3 : (s.find o.path true).2 = 0
    · exact h3
    · exact absurd ⟨hl, h3⟩ h2

/-- The new file of make. -/
theorem make_nd {s : M.St} {sp : M.Spot} (hd : sp.dir ≠ s.last + 1) : (s.make sp 1 []).nd (s.last + 1) = { kind := 1, links := 1 } := by
  have hd' : s.last + 1 ≠ sp.dir := fun e => hd e.symm
  unfold M.St.make M.St.add
  simp only
  have e1 : ∀ (a : M.St) (l : Int) (n : Int), ({ a with last := l } : M.St).nd n = a.nd n := fun _ _ _ => rfl
  simp [set_nd, hd', e1]
theorem make_has {s : M.St} {sp : M.Spot} (hd : sp.dir ≠ s.last + 1) : (s.make sp 1 []).has (s.last + 1) = true := by
  unfold M.St.make M.St.add
  simp only
  have hi : ∀ (c : Prop) [Decidable c] (a b : M.St), a.has (s.last + 1) = true → b.has (s.last + 1) = true → (if c then a else b).has (s.last + 1) = true := fun c _ a b ha hb => by split; exact ha; exact hb
  refine hi _ _ _ ?_ ?_ <;> (rw [set_has]; simp)
theorem make_last (s : M.St) (sp : M.Spot) (kind : Int) (d : M.Bs) : (s.make sp kind d).last = s.last + 1 := by
  unfold M.St.make
  rw [add_last]
theorem add_fds (s : M.St) (d : Int) (m : M.Bs) (n : Int) : (s.add d m n).fds = s.fds := by
  unfold M.St.add
  simp only
  split <;> rfl
theorem make_fds (s : M.St) (sp : M.Spot) (kind : Int) (d : M.Bs) : (s.make sp kind d).fds = s.fds := by
  unfold M.St.make
  rw [add_fds]
  rfl

/-- An opening under way. -/
structure OS (w : World) (tb : Nat) (L : Lay) (o : M.Op) (dv : Value) (b5 : Nat) (wc : World) (s1 : M.St) (sp : M.Spot) (L1 : Lay) : Prop where
  tree : TreeAt wc tb L1 s1
  op : OpAt wc w.heap.size o dv
  ans : AnsAt wc (w.heap.size + 1) {} NilS NilS
  spot : SpotAt wc b5 sp
  ext : Ext w wc L L1
  tch : Tch (Owned L) w wc
  n0 : L1.ow w.heap.size = none
  n1 : L1.ow (w.heap.size + 1) = none
  n5 : L1.ow b5 = none

theorem OS.resized {w : World} {tb : Nat} {L : Lay} {o : M.Op} {dv : Value} {b5 : Nat} {wc w' : World} {s1 s2 : M.St} {sp : M.Spot} {L1 : Lay} (h : OS w tb L o dv b5 wc s1 sp L1) {n : Int} {ow' : Nat → Option Own} (ht : TreeAt w' tb { L1 with ow := ow' } s2) (hc : Tch (OfN L1 n) wc w') (ho : ∀ k, k < wc.heap.size → ow' k = L1.ow k) :
    OS w tb L o dv b5 w' s2 sp { L1 with ow := ow' } := by
  have hq : ∀ k, L1.ow k = none → ¬ OfN L1 n k := fun k hk ⟨j, e⟩ => by rw [hk] at e; cases e
  refine ⟨ht, h.op.tch hc (hq _ h.n0), h.ans.tch hc (hq _ h.n1), ?_, ⟨h.ext.mb, h.ext.fb, fun k hk => (ho k (Nat.lt_of_lt_of_le hk h.tch.size)).trans (h.ext.old k hk)⟩, h.tch.andNew hc (fun i hi ⟨j, e⟩ => by
    rw [h.ext.old i hi] at e; unfold Owned; rw [e]; simp), (ho _ h.op.cells.lt).trans h.n0, (ho _ h.ans.cells.lt).trans h.n1, (ho _ h.spot.cells.2.2.2.2).trans h.n5⟩
  have := h.spot
  unfold SpotAt at this ⊢
  rw [hc.block b5 (Array.getElem?_eq_some_iff.1 this).1 (hq _ h.n5)]
  exact this

theorem oEnd_eq {s S1 S2 : M.St} {o : M.Op} {Q : M.Spot} {n : Int} (hn : n = if Q.node = 0 then s.last + 1 else Q.node) (h1 : S1 = if Q.node = 0 then s.make Q 1 [] else s) (h2 : S2 = if M.bit o.flags 4 = true then S1.set n ((S1.nd n).resize 0) else S1) :
    oEnd s o Q = match (List.range 16).find? (fun i => !(S2.fds i).opn) with
      | some fd => ({ n := fd }, S2.fdSet fd { node := n, flags := o.flags, opn := true })
      | none => (M.code 14, S2) := by
  subst hn h1 h2
  unfold oEnd
  by_cases h : Q.node = 0
  · simp only [h, if_true, make_last]
  · simp only [h, if_false]

theorem find_first {p : Nat → Bool} {k : Nat} (hk : k < 16) (h : p k = true) (hj : ∀ j, j < k → p j = false) : (List.range 16).find? p = some k := by
  rw [List.find?_range_eq_some]
  exact ⟨h, by simpa using hk, fun j hj' => by simp [hj j hj']⟩
theorem find_noone {p : Nat → Bool} (hj : ∀ j, j < 16 → p j = false) : (List.range 16).find? p = none := by
  rw [List.find?_eq_none]
  intro x hx
  rw [hj x (List.mem_range.1 hx)]
  simp

/-- What Open does to a table. -/
def openFn (t : Tab) (n f : Int) : (Int × Int) × Tab :=
  match (List.range 16).find? (fun i => !(t i).opn) with
  | some k => (((k : Int), 0), tset t k { node := n, flags := f, opn := true })
  | none => ((0, 14), t)
theorem open_fn (w : World) (b : Nat) (t : Tab) (n f : Int) (h : TabAt w b t) :
    Calls Tryz.prog 113 #[Pt b, I n, I f] w fun e w' => e = .returned (.tuple #[I (openFn t n f).1.1, I (openFn t n f).1.2]) ∧ TabAt w' b (openFn t n f).2 ∧ Tch (One b) w w' := by
  refine (open_any w b t n f h).mono ?_
  rintro e w' ⟨ht, ⟨q, hq, rfl, hfr, hmin, hf⟩ | ⟨rfl, hfull, hf⟩⟩
  · have : (List.range 16).find? (fun i => !(t i).opn) = some q := find_first hq (by rw [hfr]; rfl) (fun j hj => by rw [hmin j hj]; rfl)
    unfold openFn
    rw [this]
    exact ⟨rfl, hf, ht⟩
  · have : (List.range 16).find? (fun i => !(t i).opn) = none := find_noone (fun j hj => by rw [hfull j hj]; rfl)
    unfold openFn
    rw [this]
    exact ⟨rfl, hf, ht⟩

/-- The spot's node is told. -/
theorem OS.spot0 {w : World} {tb : Nat} {L : Lay} {o : M.Op} {dv : Value} {b5 : Nat} {wc : World} {s1 : M.St} {sp : M.Spot} {L1 : Lay} (h : OS w tb L o dv b5 wc s1 sp L1) (hb : w.heap.size + 1 < b5) (hL : L1.ow b5 = Option.none) {n : Int} : OS w tb L o dv b5 (wc.setCell ⟨b5, 0, Option.none⟩ (I n)) s1 { sp with node := n } L1 := by
  have hk : ∀ k, k ≠ b5 → (wc.setCell ⟨b5, 0, Option.none⟩ (I n)).heap[k]? = wc.heap[k]? := fun k hk => Below.heap_setCell _ _ _ _ hk
  refine ⟨h.tree.keep ((Tch.refl (fun k => L1.ow k = Option.none) wc).setCell (p := ⟨b5, 0, Option.none⟩) hL _), (hk _ (by omega)).trans h.op, (hk _ (by omega)).trans h.ans, ?_, ⟨h.ext.mb, h.ext.fb, h.ext.old⟩, h.tch.setNew (p := ⟨b5, 0, Option.none⟩) (by show w.heap.size ≤ b5; omega) _, h.n0, h.n1, h.n5⟩
  have := h.spot
  unfold SpotAt at this ⊢
  rw [heap_setCell_same wc b5 0 _ _ (I n) this]
  rfl

theorem Base.put3 {w W : World} {o : M.Op} {dv : Value} (h : Base w W o dv) {b : Nat} (hb : w.heap.size + 1 < b) (x y z : Value) : Base w (((W.setCell ⟨b, 0, none⟩ x).setCell ⟨b, 1, none⟩ y).setCell ⟨b, 2, none⟩ z) o dv := by
  have hk : ∀ k, k ≠ b → (((W.setCell ⟨b, 0, none⟩ x).setCell ⟨b, 1, none⟩ y).setCell ⟨b, 2, none⟩ z).heap[k]? = W.heap[k]? := fun k hk => by
    rw [Below.heap_setCell _ _ _ _ hk, Below.heap_setCell _ _ _ _ hk, Below.heap_setCell _ _ _ _ hk]
  exact ⟨(hk _ (by omega)).trans h.op, (hk _ (by omega)).trans h.ans, Below.store3 h.below b (by omega) _ _ _⟩

set_option maxHeartbeats 8000000 in
theorem open_tree (tb : Nat) (L : Lay) (k : Int) (s : M.St) (o : M.Op) (dp : Option Addr) (dn dc : Nat) (w : World) (h : TreeAt w tb L s) (hwf : Wf k s) (hk : k ≤ 9999) (hl : o.path.length ≤ 1000000) (hm : GMax w) :
    Calls Tryz.prog 70 #[Pt tb, o.val (.slice dp dn dc)] w (OpPost tb L (s.openS o) w) := by
  have H := Lib.hid h; clear h
  unfold M.Op.val
  have HM := Lib.hid hm; clear hm
  have HBS := Lib.hid (Base.start w o (.slice dp dn dc))
  have HX1 := Lib.hid (open_bad (s := s) (o := o))
  by_cases hbad : oBad o.flags
  · have HR := Lib.hid (HX1.out hbad)
    have hw3 : (o.flags < 0) ∨ (¬ o.flags < 0 ∧ 64 ≤ o.flags) ∨ (¬ o.flags < 0 ∧ ¬ 64 ≤ o.flags ∧ (bits BinOp.and IntKind.i64 o.flags 12 != 0) = true ∧ (bits BinOp.and IntKind.i64 o.flags 32 == 0) = true) := by
      by_cases h1 : o.flags < 0
      · exact Or.inl h1
      · by_cases h2 : 64 ≤ o.flags
        · exact Or.inr (Or.inl ⟨h1, h2⟩)
        · refine Or.inr (Or.inr ⟨h1, h2, ?_⟩)
          have e12 := bits_eq2 (f := o.flags) (by omega) (by omega)
          have e32 := bits_eq (f := o.flags) (b := 32) (by omega) (by omega) (by decide)
          unfold oBad at hbad
          rcases hbad with h | h | ⟨h, h'⟩
          · exact absurd h h1
          · exact absurd h h2
          · rw [h] at e12
            rw [h'] at e32
            exact ⟨by simpa using e12, e32⟩
    clear hbad HX1
    obtain ⟨o0, o1, o2, o3, o4, o5, o6, o7, of, olt⟩ := HBS.out.op.cells
    rcases hw3 with h1 | ⟨h1, h2⟩ | ⟨h1, h2, h3, h4⟩
    all_goals
      go_enter Tryz.func70, Tryz.ntmps70
      go_wp2_with fail
      (with_reducible refine (code_any (2) _).mono ?_)
      rintro e wc ⟨rfl, hbc⟩
      have HBC := Lib.hid (HBS.out.below' hbc); clear hbc
      obtain ⟨z0, z1, z2, z3, z4, z5, zf, zlt⟩ := HBC.out.ans.cells
      unfold NilS at z4 z5
      unfold M.Ans.val
      go_wp2_with fail
      have hb6 := Below.put6 HBC.out.below (w.heap.size + 1) (Nat.le_succ _) (I (M.code (2)).code) (I (M.code (2)).n) (I (M.code (2)).kind) (I (M.code (2)).links) NilS NilS
      obtain ⟨r0, r1, r2, r3, r4, r5, -, -⟩ := (HBC.out.ans.store (M.code (2)) NilS NilS).cells
      unfold put6 NilS at r0 r1 r2 r3 r4 r5
      refine bodyPost_ret (v := M.Ans.val (M.code (2)) NilS NilS) (by simp [results, Tryz.results70, go_sem, M.Ans.val, NilS, r0, r1, r2, r3, r4, r5]) rfl ?_
      exact ⟨_, L, rfl, by rw [HR.out]; exact AnsIn.plain rfl rfl, by rw [HR.out]; exact H.out.below hb6, Ext.same _ _ L, Tch.ofBelow hb6⟩
  · have hf0 : 0 ≤ o.flags := by unfold oBad at hbad; omega
    have hf1 : o.flags < 64 := by unfold oBad at hbad; omega
    have hb1 := bits_eq hf0 hf1 (b := 1) (by decide)
    have hb2 := bits_eq hf0 hf1 (b := 2) (by decide)
    have hb4 := bits_eq hf0 hf1 (b := 4) (by decide)
    have hb32 := bits_eq hf0 hf1 (b := 32) (by decide)
    have hb12 := bits_eq2 hf0 hf1
    have HB1 := Lib.hid hb1; clear hb1
    have HB2 := Lib.hid hb2; clear hb2
    have HB4 := Lib.hid hb4; clear hb4
    have HB32 := Lib.hid hb32; clear hb32
    have htest : (bits BinOp.and IntKind.i64 o.flags 12 != 0) = false ∨ ((bits BinOp.and IntKind.i64 o.flags 12 != 0) = true ∧ (bits BinOp.and IntKind.i64 o.flags 32 == 0) = false) := by
      unfold oBad at hbad
      have h2 := HB32.out
      cases h8 : (M.bit o.flags 4 || M.bit o.flags 8)
      · left; rw [h8] at hb12; simpa using hb12
      · right
        rw [h8] at hb12
        refine ⟨by simpa using hb12, ?_⟩
        rw [h2]
        cases h9 : M.bit o.flags 32
        · exact absurd (Or.inr (Or.inr ⟨h8, h9⟩)) hbad
        · rfl
    clear hb12
    have HBAD := Lib.hid hbad; clear hbad
    go_enter Tryz.func70, Tryz.ntmps70
    go_upto_region 1 with fail
    change Code.wp _ _ _ _ (base2 w o (.slice dp dn dc))
    generalize hW0 : base2 w o (.slice dp dn dc) = W0 at *
    have hz0 : W0.heap.size = w.heap.size + 2 := by rw [← hW0]; simp [base2]
    have HZ0 := Lib.hid hz0; clear hz0 hW0
    obtain ⟨o0, o1, o2, o3, o4, o5, o6, o7, of, olt⟩ := HBS.out.op.cells
    go_cut [31] (fun v wc => v = .bool false ∧ W0 = wc)
    case first =>
      rcases htest with h12 | ⟨h12, h32⟩
      all_goals
        go_wp2_with fail
        go_meet
        exact ⟨by rw [decide_eq_false (by omega : ¬ o.flags < 0), decide_eq_false (by omega : ¬ 64 ≤ o.flags)]; rfl, rfl⟩
    obtain ⟨rfl, rfl⟩ := hcut
    clear htest
    go_upto_if 37 with fail
    have HSP := Lib.hid (spot_zero W0)
    have HBS := Lib.hid (HBS.out.below' ((Below.refl _ _).alloc (Nat.le_refl _) (.cells #[I 0, I 0, S []] 86)))
    have hgt : w.heap.size + 1 < W0.heap.size := by have := HZ0.out; omega
    clear o0 o1 o2 o3 o4 o5 o6 o7 of olt
    generalize hW1 : W0.alloc (.cells #[I 0, I 0, S []] 86) = W1 at *
    clear hW1
    generalize W0.heap.size = b5 at *
    have HGT2 := Lib.hid hgt; clear hgt
    have HX2 := Lib.hid (open_place (s := s) (o := o) HBAD.out)
    have HX3 := Lib.hid (open_excl (s := s) (o := o) HBAD.out)
    have HX4 := Lib.hid (open_find (s := s) (o := o) HBAD.out)
    have HX5 := Lib.hid (open_dir (s := s) (o := o) HBAD.out)
    have HX6 := Lib.hid (open_full (s := s) (o := o) HBAD.out)
    have HX7 := Lib.hid (open_end (s := s) (o := o) HBAD.out)
    obtain ⟨o0, o1, o2, o3, o4, o5, o6, o7, of, olt⟩ := HBS.out.op.cells
    go_cut [] (fun wc => Base w wc o (.slice dp dn dc) ∧ SpotAt wc b5 (oS0 s o) ∧ ¬ (M.bit o.flags 1 = true ∧ (s.place o.path).2 ≠ 0) ∧ ¬ (M.bit o.flags 1 = true ∧ (s.place o.path).1.node ≠ 0 ∧ M.bit o.flags 2 = true))
    case first =>
      cases hq : M.bit o.flags 1
      · have hb1 : (bits BinOp.and IntKind.i64 o.flags 1 != 0) = false := by have := HB1.out; rw [hq] at this; simpa using this
        go_wp2_with fail
        go_meet
        exact ⟨HBS.out, by unfold oS0; rw [hq]; exact HSP.out, (by rw [hq]; exact fun h => Bool.noConfusion h.1), (by rw [hq]; exact fun h => Bool.noConfusion h.1)⟩
      · have hb1 : (bits BinOp.and IntKind.i64 o.flags 1 != 0) = true := by have := HB1.out; rw [hq] at this; simpa using this
        go_wp2_with fail
        (with_reducible refine (spot_any tb L k s o.path W1 (H.out.below HBS.out.below) hwf hl (HM.out.below HBS.out.below)).mono ?_)
        rintro e w1 ⟨rfl, hb⟩
        have HQ := Lib.hid hq; clear hq
        have HSP1 := Lib.hid (HSP.out.below hb)
        have HBS1 := Lib.hid (HBS.out.below' hb); clear hb
        have ho0 : M.bit o.flags 1 = true → oS0 s o = (s.place o.path).1 := fun h => by unfold oS0; rw [h]; rfl
        have HO0 := Lib.hid (ho0 HQ.out); clear ho0
        have HBS := Lib.hid (HBS1.out.below' ((Below.refl _ _).alloc (Nat.le_refl _) (.cells #[I (s.place o.path).1.node, I (s.place o.path).1.dir, S (s.place o.path).1.name] 86)))
        clear o0 o1 o2 o3 o4 o5 o6 o7 of olt
        obtain ⟨o0, o1, o2, o3, o4, o5, o6, o7, of, olt⟩ := HBS1.out.op.cells
        obtain ⟨a0, a1, a2, af, alt⟩ := HSP1.out.cells
        generalize hP : s.place o.path = P at *
        have HPP := Lib.hid hP; clear hP
        unfold M.Spot.val
        by_cases hc : P.2 = 0
        · have b1 : (P.2 != 0) = false := by simpa using hc
          have HC := Lib.hid hc; clear hc
          by_cases hx : P.1.node ≠ 0 ∧ M.bit o.flags 2 = true
          · have HR := Lib.hid (HX3.out (fun h => h.2 HC.out) ⟨HQ.out, hx.1, hx.2⟩)
            obtain ⟨hx1, hx2⟩ := hx
            have b2 : (P.1.node != 0) = true := by simpa using hx1
            have b3 : (bits BinOp.and IntKind.i64 o.flags 2 != 0) = true := by have := HB2.out; rw [hx2] at this; simpa using this
            clear hx1 hx2
            go_wp2_with fail
            (with_reducible refine (code_any (6) _).mono ?_)
            rintro e wc ⟨rfl, hbc⟩
            have HBC := Lib.hid (HBS.out.below' hbc); clear hbc
            obtain ⟨z0, z1, z2, z3, z4, z5, zf, zlt⟩ := HBC.out.ans.cells
            unfold NilS at z4 z5
            unfold M.Ans.val
            go_wp2_with fail
            have hb6 := Below.put6 HBC.out.below (w.heap.size + 1) (Nat.le_succ _) (I (M.code (6)).code) (I (M.code (6)).n) (I (M.code (6)).kind) (I (M.code (6)).links) NilS NilS
            obtain ⟨r0, r1, r2, r3, r4, r5, -, -⟩ := (HBC.out.ans.store (M.code (6)) NilS NilS).cells
            unfold put6 NilS at r0 r1 r2 r3 r4 r5
            refine bodyPost_ret (v := M.Ans.val (M.code (6)) NilS NilS) (by simp [results, Tryz.results70, go_sem, M.Ans.val, NilS, r0, r1, r2, r3, r4, r5]) rfl ?_
            exact ⟨_, L, rfl, by rw [HR.out]; exact AnsIn.plain rfl rfl, by rw [HR.out]; exact H.out.below hb6, Ext.same _ _ L, Tch.ofBelow hb6⟩
          · have hx' : (P.1.node != 0) = false ∨ ((P.1.node != 0) = true ∧ (bits BinOp.and IntKind.i64 o.flags 2 != 0) = false) := by
              by_cases hx1 : P.1.node = 0
              · left; simpa using hx1
              · right
                refine ⟨by simpa using hx1, ?_⟩
                have h2 : M.bit o.flags 2 = false := by
                  cases h : M.bit o.flags 2
                  · rfl
                  · exact absurd ⟨hx1, h⟩ hx
                have := HB2.out; rw [h2] at this; simpa using this
            have HXN := Lib.hid hx; clear hx
            have HST := Lib.hid ((HSP1.out.store P.1).below ((Below.refl _ _).alloc (Nat.le_refl _) (.cells #[I P.1.node, I P.1.dir, S P.1.name] 86)))
            rcases hx' with b2 | ⟨b2, b3⟩
            all_goals
              go_wp2_with fail
              go_meet
              exact ⟨(HBS1.out.put3 HGT2.out _ _ _).below' ((Below.refl _ _).alloc (Nat.le_refl _) _), by rw [HO0.out]; exact HST.out, fun h => h.2 HC.out, fun h => HXN.out ⟨h.2.1, h.2.2⟩⟩
        · have b1 : (P.2 != 0) = true := by simpa using hc
          have HR := Lib.hid (HX2.out HQ.out hc)
          clear hc
          go_wp2_with fail
          (with_reducible refine (code_any (P.2) _).mono ?_)
          rintro e wc ⟨rfl, hbc⟩
          have HBC := Lib.hid (HBS.out.below' hbc); clear hbc
          obtain ⟨z0, z1, z2, z3, z4, z5, zf, zlt⟩ := HBC.out.ans.cells
          unfold NilS at z4 z5
          unfold M.Ans.val
          go_wp2_with fail
          have hb6 := Below.put6 HBC.out.below (w.heap.size + 1) (Nat.le_succ _) (I (M.code (P.2)).code) (I (M.code (P.2)).n) (I (M.code (P.2)).kind) (I (M.code (P.2)).links) NilS NilS
          obtain ⟨r0, r1, r2, r3, r4, r5, -, -⟩ := (HBC.out.ans.store (M.code (P.2)) NilS NilS).cells
          unfold put6 NilS at r0 r1 r2 r3 r4 r5
          refine bodyPost_ret (v := M.Ans.val (M.code (P.2)) NilS NilS) (by simp [results, Tryz.results70, go_sem, M.Ans.val, NilS, r0, r1, r2, r3, r4, r5]) rfl ?_
          exact ⟨_, L, rfl, by rw [HR.out]; exact AnsIn.plain rfl rfl, by rw [HR.out]; exact H.out.below hb6, Ext.same _ _ L, Tch.ofBelow hb6⟩
    obtain ⟨hbs, hsp, hn1, hn2⟩ := hcut
    clear HBS HSP o0 o1 o2 o3 o4 o5 o6 o7 of olt
    have HBS := Lib.hid hbs; clear hbs
    have HSP := Lib.hid hsp; clear hsp
    have HN1 := Lib.hid hn1; clear hn1
    have HN2 := Lib.hid hn2; clear hn2
    obtain ⟨wa, rfl⟩ : ∃ wa : World, wa = wc := ⟨_, rfl⟩
    obtain ⟨o0, o1, o2, o3, o4, o5, o6, o7, of, olt⟩ := HBS.out.op.cells
    obtain ⟨a0, a1, a2, af, alt⟩ := HSP.out.cells
    generalize hS0 : oS0 s o = S0 at *
    have HS0 := Lib.hid hS0; clear hS0
    go_upto_region 11 with fail
    go_cut [69] (fun v wc => v = .bool (oLook S0) ∧ wa = wc)
    case first =>
      by_cases h1 : S0.node = 0
      · have b1 : (S0.node != 0) = false := by simpa using h1
        have HV := Lib.hid (show oLook S0 = (S0.dir == 0) by unfold oLook; rw [h1]; rfl)
        clear h1
        go_wp2_with fail
        go_meet
        exact ⟨by rw [HV.out], rfl⟩
      · have b1 : (S0.node != 0) = true := by simpa using h1
        have HV := Lib.hid (show oLook S0 = true by unfold oLook; rw [decide_eq_true h1]; rfl)
        clear h1
        go_wp2_with fail
        go_meet
        exact ⟨by rw [HV.out], rfl⟩
    obtain ⟨rfl, rfl⟩ := hcut
    go_upto_if 69 with fail
    go_cut [] (fun wc => Base w wc o (.slice dp dn dc) ∧ SpotAt wc b5 (oSp s o) ∧ ¬ (oLook S0 = true ∧ (s.find o.path true).2 ≠ 0))
    case first =>
      cases hlk : oLook S0
      · go_wp2_with fail
        go_meet
        exact ⟨HBS.out, by unfold oSp; rw [HS0.out, hlk]; exact HSP.out, (fun h => by rw [hlk] at h; cases h.1)⟩
      · have HLK := Lib.hid hlk
        go_wp2_with fail
        (with_reducible refine (find_any tb L s o.path true wa (H.out.below HBS.out.below) hwf.cl hl (HM.out.below HBS.out.below)).mono ?_)
        rintro e w1 ⟨rfl, hb⟩
        have HSP1 := Lib.hid (HSP.out.below hb)
        have HBS1 := Lib.hid (HBS.out.below' hb); clear hb
        have HO1 := Lib.hid (show oSp s o = (s.find o.path true).1 by unfold oSp; rw [HS0.out, HLK.out]; rfl)
        have HBS := Lib.hid (HBS1.out.below' ((Below.refl _ _).alloc (Nat.le_refl _) (.cells #[I (s.find o.path true).1.node, I (s.find o.path true).1.dir, S (s.find o.path true).1.name] 86)))
        clear o0 o1 o2 o3 o4 o5 o6 o7 of olt a0 a1 a2 af alt
        obtain ⟨a0, a1, a2, af, alt⟩ := HSP1.out.cells
        generalize hF : s.find o.path true = F at *
        have HFF := Lib.hid hF; clear hF
        unfold M.Spot.val
        by_cases hc : F.2 = 0
        · have b1 : (F.2 != 0) = false := by simpa using hc
          have HC := Lib.hid hc; clear hc
          have HST := Lib.hid ((HSP1.out.store F.1).below ((Below.refl _ _).alloc (Nat.le_refl _) (.cells #[I F.1.node, I F.1.dir, S F.1.name] 86)))
          go_wp2_with fail
          go_meet
          exact ⟨(HBS1.out.put3 HGT2.out _ _ _).below' ((Below.refl _ _).alloc (Nat.le_refl _) _), by rw [HO1.out]; exact HST.out, fun h => h.2 HC.out⟩
        · have b1 : (F.2 != 0) = true := by simpa using hc
          have HR := Lib.hid (HX4.out HN1.out HN2.out ⟨HLK.out, hc⟩)
          clear hc
          go_wp2_with fail
          (with_reducible refine (code_any (F.2) _).mono ?_)
          rintro e wc ⟨rfl, hbc⟩
          have HBC := Lib.hid (HBS.out.below' hbc); clear hbc
          obtain ⟨z0, z1, z2, z3, z4, z5, zf, zlt⟩ := HBC.out.ans.cells
          unfold NilS at z4 z5
          unfold M.Ans.val
          go_wp2_with fail
          have hb6 := Below.put6 HBC.out.below (w.heap.size + 1) (Nat.le_succ _) (I (M.code (F.2)).code) (I (M.code (F.2)).n) (I (M.code (F.2)).kind) (I (M.code (F.2)).links) NilS NilS
          obtain ⟨r0, r1, r2, r3, r4, r5, -, -⟩ := (HBC.out.ans.store (M.code (F.2)) NilS NilS).cells
          unfold put6 NilS at r0 r1 r2 r3 r4 r5
          refine bodyPost_ret (v := M.Ans.val (M.code (F.2)) NilS NilS) (by simp [results, Tryz.results70, go_sem, M.Ans.val, NilS, r0, r1, r2, r3, r4, r5]) rfl ?_
          exact ⟨_, L, rfl, by rw [HR.out]; exact AnsIn.plain rfl rfl, by rw [HR.out]; exact H.out.below hb6, Ext.same _ _ L, Tch.ofBelow hb6⟩
    obtain ⟨hbs, hsp, hn3⟩ := hcut
    clear HBS HSP o0 o1 o2 o3 o4 o5 o6 o7 of olt a0 a1 a2 af alt
    have HBS := Lib.hid hbs; clear hbs
    have HSP := Lib.hid hsp; clear hsp
    have HN3 := Lib.hid hn3; clear hn3
    obtain ⟨wb, rfl⟩ : ∃ wb : World, wb = wc := ⟨_, rfl⟩
    have hin := fun h => oSp_in hwf (s := s) (o := o) (fun h' => HN1.out h') (fun h' => by have := HN3.out; rw [← HS0.out] at this; exact this h') h
    have hno := oSp_no hwf (s := s) (o := o) (fun h' => HN1.out h') (fun h' => by have := HN3.out; rw [← HS0.out] at this; exact this h')
    have HIN := Lib.hid hin; clear hin
    have HNO := Lib.hid hno; clear hno
    have hkn := fun h => oSp_kind hwf (s := s) (o := o) (fun h' => by have := HN3.out; rw [← HS0.out] at this; exact this h') h
    have HKN := Lib.hid hkn; clear hkn
    have hX5 := HX5.out HN1.out HN2.out HN3.out
    have hX6 := HX6.out HN1.out HN2.out HN3.out
    have hX7 := HX7.out HN1.out HN2.out HN3.out
    generalize hSQ : oSp s o = Q at *
    have HSQ := Lib.hid hSQ; clear hSQ
    have HY5 := Lib.hid hX5; clear hX5
    have HY6 := Lib.hid hX6; clear hX6
    have HY7 := Lib.hid hX7; clear hX7
    clear HX1 HX2 HX3 HX4 HX5 HX6 HX7
    go_wp2_with fail
    have HTB := Lib.hid (H.out.below HBS.out.below)
    obtain ⟨o0, o1, o2, o3, o4, o5, o6, o7, of, olt⟩ := HBS.out.op.cells
    obtain ⟨a0, a1, a2, af, alt⟩ := HSP.out.cells
    go_cut [82] (fun v wc => v = .bool (oDir s o Q) ∧ ∃ n, wc = wb.drewN n)
    case first =>
      by_cases h1 : Q.node = 0
      · have b1 : (Q.node != 0) = false := by simpa using h1
        have HV := Lib.hid (show oDir s o Q = false by unfold oDir; rw [h1]; rfl)
        clear h1
        go_quiet (fail)
        go_wp2_with fail
        go_meet
        exact ⟨by rw [HV.out], nq, rfl⟩
      · have hhas := HIN.out h1
        have b1 : (Q.node != 0) = true := by simpa using h1
        have hlk := fun m : Nat => (HTB.out.keep ((Tch.refl _ wb).drewN m)).look hhas
        obtain ⟨t0, -, -, -, -, tf, htb⟩ := HTB.out.cells5
        obtain ⟨dv, wv, mv, hnode⟩ := HTB.out.nodeOf hhas
        obtain ⟨n0, -, -, -, -, -, -, -, nf, hnb⟩ := hnode.cells8
        have HND := Lib.hid hnode; clear hnode
        have H1 := Lib.hid h1; clear h1
        by_cases hkd : (s.nd Q.node).kind = 2
        · have b2 : ((s.nd Q.node).kind == 2) = true := by simpa using hkd
          have HKD := Lib.hid hkd; clear hkd
          cases h32 : M.bit o.flags 32
          · have b3 : (bits BinOp.and IntKind.i64 o.flags 32 != 0) = false := by have := HB32.out; rw [h32] at this; simpa using this
            have HV := Lib.hid (show oDir s o Q = false by unfold oDir; rw [h32, Bool.and_false])
            clear h32
            go_quiet (fail)
            go_wp2_with fail
            go_meet
            exact ⟨by rw [HV.out], nq, rfl⟩
          · have b3 : (bits BinOp.and IntKind.i64 o.flags 32 != 0) = true := by have := HB32.out; rw [h32] at this; simpa using this
            have HV := Lib.hid (show oDir s o Q = true by unfold oDir; rw [h32, decide_eq_true H1.out, decide_eq_true HKD.out]; rfl)
            clear h32
            go_quiet (fail)
            go_wp2_with fail
            go_meet
            exact ⟨by rw [HV.out], nq, rfl⟩
        · have b2 : ((s.nd Q.node).kind == 2) = false := by simpa using hkd
          have HV := Lib.hid (show oDir s o Q = false by unfold oDir; rw [decide_eq_false hkd, Bool.and_false, Bool.false_and])
          clear hkd
          go_quiet (fail)
          go_wp2_with fail
          go_meet
          exact ⟨by rw [HV.out], nq, rfl⟩
    obtain ⟨rfl, nq, rfl⟩ := hcut
    have HBT := Lib.hid (HBS.out.below' (below_drewN (Below.refl _ _) nq))
    have HST := Lib.hid (show SpotAt (wb.drewN nq) b5 Q from HSP.out)
    clear HBS HSP HTB o0 o1 o2 o3 o4 o5 o6 o7 of olt a0 a1 a2 af alt
    have HBS := HBT; clear HBT
    have HSP := HST; clear HST
    generalize hwd : wb.drewN nq = wd at *
    clear hwd
    cases hod : oDir s o Q
    · have hnod : ¬ (Q.node ≠ 0 ∧ (s.nd Q.node).kind = 2 ∧ M.bit o.flags 32 = true) := fun ⟨h1, h2, h3⟩ => by
        unfold oDir at hod
        rw [decide_eq_true h1, decide_eq_true h2, h3] at hod
        cases hod
      have HNOD := Lib.hid hnod; clear hnod hod
      have HTD := Lib.hid (H.out.below HBS.out.below)
      obtain ⟨t0, -, t2, -, -, tf, htb⟩ := HTD.out.cells5
      go_wp2_with fail
      (with_reducible refine (list_any wd L.fb s.fds HTD.out.fds).mono ?_)
      rintro e w5 ⟨v5, rfl, hi5, hb5⟩
      obtain ⟨p5, c5, hv5, -⟩ := row_form hi5
      subst hv5
      clear hi5 t0 t2 tf htb
      have HBS5 := Lib.hid (HBS.out.below' hb5)
      have HSP5 := Lib.hid (HSP.out.below hb5); clear hb5
      clear HBS HSP HTD
      have HBS := HBS5; clear HBS5
      have HSP := HSP5; clear HSP5
      have hol : (opensTo s.fds 16).length = s.opens.length := rfl
      have hol2 := opensTo_len s.fds 16
      generalize hON : (opensTo s.fds 16).length = on at *
      have HON := Lib.hid hON; clear hON
      by_cases hfull : 16 ≤ on
      · have HR := Lib.hid (HY6.out HNOD.out (by rw [← hol]; exact hfull))
        clear hol
        go_wp2_with fail
        (with_reducible refine (code_any (14) _).mono ?_)
        rintro e wc ⟨rfl, hbc⟩
        have HBC := Lib.hid (HBS.out.below' hbc); clear hbc
        obtain ⟨z0, z1, z2, z3, z4, z5, zf, zlt⟩ := HBC.out.ans.cells
        unfold NilS at z4 z5
        unfold M.Ans.val
        go_wp2_with fail
        have hb6 := Below.put6 HBC.out.below (w.heap.size + 1) (Nat.le_succ _) (I (M.code (14)).code) (I (M.code (14)).n) (I (M.code (14)).kind) (I (M.code (14)).links) NilS NilS
        obtain ⟨r0, r1, r2, r3, r4, r5, -, -⟩ := (HBC.out.ans.store (M.code (14)) NilS NilS).cells
        unfold put6 NilS at r0 r1 r2 r3 r4 r5
        refine bodyPost_ret (v := M.Ans.val (M.code (14)) NilS NilS) (by simp [results, Tryz.results70, go_sem, M.Ans.val, NilS, r0, r1, r2, r3, r4, r5]) rfl ?_
        exact ⟨_, L, rfl, by rw [HR.out]; exact AnsIn.plain rfl rfl, by rw [HR.out]; exact H.out.below hb6, Ext.same _ _ L, Tch.ofBelow hb6⟩
      · have HR := Lib.hid (HY7.out HNOD.out (by rw [← hol]; exact hfull))
        have HOL := Lib.hid hol; clear hol
        obtain ⟨a0, a1, a2, af, alt⟩ := HSP.out.cells
        go_upto_if 117 with fail
        go_cut [] (fun wc => ∃ L1, OS w tb L o (.slice dp dn dc) b5 wc (if Q.node = 0 then s.make Q 1 [] else s) { Q with node := if Q.node = 0 then s.last + 1 else Q.node } L1)
        case first =>
          by_cases h1 : Q.node = 0
          · have b1 : (Q.node == 0) = true := by simpa using h1
            obtain ⟨hd1, hd2, hd3⟩ := HNO.out h1
            have H1 := Lib.hid h1; clear h1
            go_wp2_with fail
            have hmk := make_any tb L s Q 1 [] w5 (H.out.below HBS.out.below) hd1 hwf.free hd2 (hwf.small (by omega) hd1) (hwf.smallT (by omega)) (Or.inl rfl) (by simp)
            unfold M.Spot.val at hmk
            refine hmk.mono ?_
            rintro e w6 ⟨rfl, L1, ht6, hx6, hc6⟩
            have hnn : ∀ k, w.heap.size ≤ k → ¬ Owned L k := fun k hk' h => h (H.out.none hk')
            have HSP6 := Lib.hid (show SpotAt w6 b5 Q from by
              have := HSP.out
              unfold SpotAt at this ⊢
              rw [hc6.block b5 (Array.getElem?_eq_some_iff.1 this).1 (hnn _ (by have := HGT2.out; omega))]
              exact this)
            have HOS := Lib.hid (show OS w tb L o (.slice dp dn dc) b5 w6 (s.make Q 1 []) Q L1 from
              ⟨ht6, HBS.out.op.tch hc6 (hnn _ (Nat.le_refl _)), HBS.out.ans.tch hc6 (hnn _ (Nat.le_succ _)), HSP6.out,
                ⟨hx6.mb, hx6.fb, fun k hk' => hx6.old k (Nat.lt_of_lt_of_le hk' HBS.out.below.size)⟩, (Tch.ofBelow (S := Owned L) HBS.out.below).trans hc6, (hx6.old _ HBS.out.op.cells.lt).trans (H.out.none (Nat.le_refl _)), (hx6.old _ HBS.out.ans.cells.lt).trans (H.out.none (Nat.le_succ _)), (hx6.old _ HSP.out.cells.2.2.2.2).trans (H.out.none (by have := HGT2.out; omega))⟩)
            have HL5 := Lib.hid ((hx6.old _ HSP.out.cells.2.2.2.2).trans (H.out.none (by have := HGT2.out; omega)))
            clear hmk ht6 hx6 hc6 hnn a0 a1 a2 af alt
            obtain ⟨a0, a1, a2, af, alt⟩ := HSP6.out.cells
            go_wp2_with fail
            go_meet
            refine ⟨L1, ?_⟩
            rw [if_pos H1.out, if_pos H1.out]
            exact HOS.out.spot0 HGT2.out HL5.out
          · have b1 : (Q.node == 0) = false := by simpa using h1
            have H1 := Lib.hid h1; clear h1
            go_wp2_with fail
            go_meet
            refine ⟨L, ?_⟩
            rw [if_neg H1.out, if_neg H1.out]
            exact ⟨H.out.below HBS.out.below, HBS.out.op, HBS.out.ans, HSP.out, Ext.same _ _ L, Tch.ofBelow HBS.out.below, H.out.none (Nat.le_refl _), H.out.none (Nat.le_succ _), H.out.none (by have := HGT2.out; omega)⟩
        obtain ⟨L1, hos⟩ := hcut
        have HOS := Lib.hid hos; clear hos
        obtain ⟨S1, hS1⟩ : ∃ S1, S1 = if Q.node = 0 then s.make Q 1 [] else s := ⟨_, rfl⟩
        obtain ⟨n, hn⟩ : ∃ n, n = if Q.node = 0 then s.last + 1 else Q.node := ⟨_, rfl⟩
        have hfd : S1.fds = s.fds := by rw [hS1]; split; exact make_fds _ _ _ _; rfl
        have hnd : S1.has n = true ∧ (S1.nd n).kind ≠ 3 ∧ Small (S1.nd n) := by
          by_cases h1 : Q.node = 0
          · rw [if_pos h1] at hS1 hn
            have hd := HNO.out h1
            have hne : Q.dir ≠ s.last + 1 := fun e => by have := hwf.free; rw [← e, hd.1] at this; cases this
            rw [hS1, hn]
            refine ⟨make_has hne, by rw [make_nd hne]; decide, by rw [make_nd hne]; exact ⟨by simp, by simp, by simp, by simp, by simp, by simp⟩⟩
          · rw [if_neg h1] at hS1 hn
            rw [hS1, hn]
            exact ⟨HIN.out h1, HKN.out h1, hwf.small (by omega) (HIN.out h1)⟩
        rw [← hS1, ← hn] at HOS
        have HSS := Lib.hid hS1; clear hS1
        have HNS := Lib.hid hn; clear hn
        have HFD := Lib.hid hfd; clear hfd
        obtain ⟨hn1, hn2, hn3⟩ := hnd
        clear HBS HSP a0 a1 a2 af alt
        obtain ⟨wg, rfl⟩ : ∃ wg : World, wg = wc := ⟨_, rfl⟩
        obtain ⟨o0, o1, o2, o3, o4, o5, o6, o7, of, olt⟩ := HOS.out.op.cells
        obtain ⟨a0, a1, a2, af, alt⟩ := HOS.out.spot.cells
        go_upto_if 125 with fail
        go_cut [] (fun wc => ∃ L2, OS w tb L o (.slice dp dn dc) b5 wc (if M.bit o.flags 4 = true then S1.set n ((S1.nd n).resize 0) else S1) { Q with node := n } L2)
        case first =>
          cases h4 : M.bit o.flags 4
          · have b4 : (bits BinOp.and IntKind.i64 o.flags 4 != 0) = false := by have := HB4.out; rw [h4] at this; simpa using this
            have H4 := Lib.hid h4; clear h4
            go_wp2_with fail
            go_meet
            exact ⟨L1, by simp only [H4.out, Bool.false_eq_true, if_false]; exact HOS.out⟩
          · have b4 : (bits BinOp.and IntKind.i64 o.flags 4 != 0) = true := by have := HB4.out; rw [h4] at this; simpa using this
            have H4 := Lib.hid h4; clear h4
            have HRZ := Lib.hid (resize_any tb L1 S1 n 0 wg HOS.out.tree hn1 hn2 hn3 (by omega))
            go_wp2_with fail
            refine HRZ.out.mono ?_
            rintro e w6 ⟨rfl, ow6, ht6, hc6, ho6⟩
            have HOS6 := Lib.hid (HOS.out.resized ht6 hc6 ho6); clear ht6 hc6 ho6
            go_wp2_with fail
            go_meet
            exact ⟨_, by simp only [H4.out, if_true]; exact HOS6.out⟩
        obtain ⟨L2, hos⟩ := hcut
        have HOS2 := Lib.hid hos; clear hos
        obtain ⟨S2, hS2⟩ : ∃ S2, S2 = if M.bit o.flags 4 = true then S1.set n ((S1.nd n).resize 0) else S1 := ⟨_, rfl⟩
        have hfd2 : S2.fds = s.fds := by rw [hS2]; split; exact HFD.out; exact HFD.out
        rw [← hS2] at HOS2
        have HEQ := Lib.hid (oEnd_eq HNS.out HSS.out hS2)
        have HFD2 := Lib.hid hfd2; clear hfd2 hS2
        clear HOS hn1 hn2 hn3 o0 o1 o2 o3 o4 o5 o6 o7 of olt a0 a1 a2 af alt
        obtain ⟨wh, rfl⟩ : ∃ wh : World, wh = wc := ⟨_, rfl⟩
        go_wp2_with fail
        have HOX := Lib.hid (HOS2.out.resized (n := 0) (ow' := L2.ow) (HOS2.out.tree.below (Below.refl _ _).drew) (Tch.ofBelow (Below.refl _ _).drew) (fun _ _ => rfl))
        obtain ⟨o0, o1, o2, o3, o4, o5, o6, o7, of, olt⟩ := HOS2.out.op.cells
        obtain ⟨a0, a1, a2, af, alt⟩ := HOS2.out.spot.cells
        obtain ⟨t0, -, t2, -, -, tf, htb⟩ := HOS2.out.tree.cells5
        have HOP := Lib.hid (open_fn wh.drew L2.fb S2.fds n o.flags HOX.out.tree.fds)
        generalize hRF : openFn S2.fds n o.flags = RF at *
        have HRF := Lib.hid hRF; clear hRF
        go_region_with (first | (go_at_call 113; (with_reducible refine HOP.out.mono ?_); rintro e w7 ⟨rfl, hf, ht⟩; have HF := Lib.hid hf; clear hf; have HT := Lib.hid ht; clear ht))
        all_goals
          have hne2 : ¬ One L2.fb (w.heap.size + 1) := fun e => by
            have e' : w.heap.size + 1 = L2.fb := e
            have h1 := HOX.out.tree.ownf
            rw [← e', HOX.out.n1] at h1; cases h1
          have HA7 := Lib.hid (HOX.out.ans.tch HT.out hne2)
          have HTC := Lib.hid (HOX.out.tch.andNew HT.out (fun i _ hT => by
            have e : i = L2.fb := hT
            rw [e, HOX.out.ext.fb]; unfold Owned; rw [H.out.ownf]; simp))
          have HT7 := Lib.hid (HOX.out.tree.newFds HT.out HF.out)
          clear hne2 o0 o1 o2 o3 o4 o5 o6 o7 of olt a0 a1 a2 af alt t0 t2 tf htb
          obtain ⟨z0, z1, z2, z3, z4, z5, zf, zlt⟩ := HA7.out.cells
          unfold NilS at z4 z5
          go_wp2_with fail
          have hb6 := Tch.put6 HTC.out (w.heap.size + 1) (Nat.le_succ _) (I RF.1.2) (I RF.1.1) (I 0) (I 0) NilS NilS
          have ht6 := HT7.out.put6 (w.heap.size + 1) HOX.out.n1 (I RF.1.2) (I RF.1.1) (I 0) (I 0) NilS NilS
          obtain ⟨r0, r1, r2, r3, r4, r5, -, -⟩ := (HA7.out.store { code := RF.1.2, n := RF.1.1 } NilS NilS).cells
          unfold put6 NilS at r0 r1 r2 r3 r4 r5
          refine bodyPost_ret (v := M.Ans.val { code := RF.1.2, n := RF.1.1 } NilS NilS) (by simp [results, Tryz.results70, go_sem, M.Ans.val, NilS, r0, r1, r2, r3, r4, r5]) rfl ?_
          have hfin : s.openS o = ({ code := RF.1.2, n := RF.1.1 }, { S2 with fds := RF.2 }) := by
            rw [HR.out, HEQ.out, ← HRF.out]
            unfold openFn
            cases (List.range 16).find? (fun i => !(S2.fds i).opn) <;> rfl
          exact ⟨_, L2, rfl, by rw [hfin]; exact AnsIn.plain rfl rfl, by rw [hfin]; exact ht6, ⟨HOX.out.ext.mb, HOX.out.ext.fb, HOX.out.ext.old⟩, hb6⟩
    · have hR : s.openS o = (M.code 8, s) := HY5.out (by
        unfold oDir at hod
        simp only [Bool.and_eq_true, decide_eq_true_eq] at hod
        exact ⟨hod.1.1, hod.1.2, hod.2⟩)
      have HR := Lib.hid hR; clear hR hod
      go_wp2_with fail
      (with_reducible refine (code_any (8) _).mono ?_)
      rintro e wc ⟨rfl, hbc⟩
      have HBC := Lib.hid (HBS.out.below' hbc); clear hbc
      obtain ⟨z0, z1, z2, z3, z4, z5, zf, zlt⟩ := HBC.out.ans.cells
      unfold NilS at z4 z5
      unfold M.Ans.val
      go_wp2_with fail
      have hb6 := Below.put6 HBC.out.below (w.heap.size + 1) (Nat.le_succ _) (I (M.code (8)).code) (I (M.code (8)).n) (I (M.code (8)).kind) (I (M.code (8)).links) NilS NilS
      obtain ⟨r0, r1, r2, r3, r4, r5, -, -⟩ := (HBC.out.ans.store (M.code (8)) NilS NilS).cells
      unfold put6 NilS at r0 r1 r2 r3 r4 r5
      refine bodyPost_ret (v := M.Ans.val (M.code (8)) NilS NilS) (by simp [results, Tryz.results70, go_sem, M.Ans.val, NilS, r0, r1, r2, r3, r4, r5]) rfl ?_
      exact ⟨_, L, rfl, by rw [HR.out]; exact AnsIn.plain rfl rfl, by rw [HR.out]; exact H.out.below hb6, Ext.same _ _ L, Tch.ofBelow hb6⟩
end Go.Proofs.YtpfaccpmgldkeaaGreatDoor
