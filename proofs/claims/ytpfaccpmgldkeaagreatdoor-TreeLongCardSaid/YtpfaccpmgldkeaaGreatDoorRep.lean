/- A tree in memory: where its blocks lie, and what they hold. -/
import Derived.Test.YtpfaccpmgldkeaaGreatDoorIter
import Derived.Test.YtpfaccpmgldkeaaGreatDoorTabB
import Derived.Test.YtpfaccpmgldkeaaGreatDoorPath
set_option linter.unusedVariables false
set_option linter.unusedSimpArgs false
namespace Go.Proofs.YtpfaccpmgldkeaaGreatDoor
open Go.RowKit Go.MapKept Go.ChangeMaps

/-- Whose a block is: the tree's, its map's, its table's; or a node's: itself (0), its data (1), what was written (2), its names (3). -/
inductive Own where
  | tree | nodes | fds
  | of (n : Int) (part : Nat)

/-- Where a tree lies. -/
structure Lay where
  mb : Nat
  fb : Nat
  pn : Int → Nat
  ow : Nat → Option Own

abbrev I (n : Int) : Value := .int .i64 n
abbrev U8 (b : UInt8) : Value := .int .u8 b.toNat
abbrev Pt (b : Nat) : Value := .pointer (some ⟨b, 0, none⟩)

theorem strKeys : Keys .string S := ⟨fun a b h => by
  simp only [S, Value.string.injEq, ByteArray.mk.injEq] at h
  simpa using h, fun _ => trivial⟩
theorem intKeys : Keys (.int .i64) I := ⟨fun a b h => by simpa [I] using h, fun _ => rfl⟩

theorem ltI_ok : LtOk M.ltI := ⟨fun a => by simp [M.ltI], fun a b c h k => by simp only [M.ltI, decide_eq_true_eq] at *; omega, fun a b h => by simp only [M.ltI, decide_eq_true_eq]; omega⟩
theorem ltB_irr : ∀ a : M.Bs, M.ltB a a = false
  | [] => rfl
  | c :: l => by simp [M.ltB, ltB_irr l]
theorem ltB_trans : ∀ a b c : M.Bs, M.ltB a b = true → M.ltB b c = true → M.ltB a c = true
  | [], [], _, h, _ => by simp [M.ltB] at h
  | [], _ :: _, [], _, h => by simp [M.ltB] at h
  | [], _ :: _, _ :: _, _, _ => rfl
  | _ :: _, [], _, h, _ => by simp [M.ltB] at h
  | _ :: _, _ :: _, [], _, h => by simp [M.ltB] at h
  | x :: l, y :: m, z :: n, h, k => by
    simp only [M.ltB] at h k ⊢
    have e1 : ∀ p q : UInt8, p < q ↔ p.toNat < q.toNat := fun p q => UInt8.lt_iff_toNat_lt
    simp only [e1] at h k ⊢
    by_cases h1 : x.toNat < y.toNat
    · by_cases h2 : y.toNat < z.toNat
      · rw [if_pos (by omega)]
      · rw [if_neg h2] at k
        by_cases h3 : z.toNat < y.toNat
        · simp [h3] at k
        · rw [if_pos (by omega)]
    · rw [if_neg h1] at h
      by_cases h3 : y.toNat < x.toNat
      · simp [h3] at h
      · rw [if_neg h3] at h
        by_cases h2 : y.toNat < z.toNat
        · rw [if_pos (by omega)]
        · rw [if_neg h2] at k
          by_cases h4 : z.toNat < y.toNat
          · simp [h4] at k
          · rw [if_neg h4] at k
            rw [if_neg (by omega), if_neg (by omega)]
            exact ltB_trans l m n h k
theorem ltB_tot : ∀ a b : M.Bs, a ≠ b → M.ltB a b = true ∨ M.ltB b a = true
  | [], [], h => absurd rfl h
  | [], _ :: _, _ => Or.inl rfl
  | _ :: _, [], _ => Or.inr rfl
  | x :: l, y :: m, h => by
    simp only [M.ltB]
    have e1 : ∀ p q : UInt8, p < q ↔ p.toNat < q.toNat := fun p q => UInt8.lt_iff_toNat_lt
    simp only [e1]
    by_cases h1 : x.toNat < y.toNat
    · left; rw [if_pos h1]
    · by_cases h2 : y.toNat < x.toNat
      · right; rw [if_pos h2]
      · have hxy : x = y := UInt8.toNat_inj.1 (by omega)
        rcases ltB_tot l m (fun e => h (by rw [hxy, e])) with h3 | h3
        · left; rw [if_neg h1, if_neg h2]; exact h3
        · right; rw [if_neg h2, if_neg h1]; exact h3
theorem ltB_ok : LtOk M.ltB := ⟨ltB_irr, ltB_trans, ltB_tot⟩

/-- A slice that is somebody's alone. -/
structure Row (w : World) (ow : Nat → Option Own) (o : Own) (e : TypeId) (v : Value) (xs : List Value) : Prop where
  row : w.ownsRow 0 e 1 v xs.length xs
  own : ∀ k, v.ownBlock = some k → ow k = some o

theorem Row.keep {w w' : World} {ow ow' : Nat → Option Own} {o : Own} {e : TypeId} {v : Value} {xs : List Value} (h : Row w ow o e v xs)
    (hb : ∀ k, ow k = some o → w'.heap[k]? = w.heap[k]?) (ho : ∀ k o, ow k = some o → ow' k = some o) : Row w' ow' o e v xs := by
  refine ⟨⟨h.row.1, ?_⟩, fun k hk => ho k _ (h.own k hk)⟩
  rcases h.row.2 with hn | ⟨g, cap, cur, rfl, hbb, hgg, rest⟩
  · exact .inl hn
  · exact .inr ⟨g, cap, cur, rfl, hbb, (hb g (h.own g rfl)).trans hgg, rest⟩

theorem Row.nil (w : World) (ow : Nat → Option Own) (o : Own) (e : TypeId) : Row w ow o e (.slice none 0 0) [] := ⟨World.ownsRow_nil _ _ _ _, fun k hk => by simp [Value.ownBlock] at hk⟩

/-- A directory's names. -/
def NamesAt (w : World) (ow : Nat → Option Own) (n : Int) (v : Value) (x : M.Nd) : Prop :=
  (x.kind = 2 ∧ Srt M.ltB x.names ∧ ∃ b, v = .map (some b) ∧ ow b = some (.of n 3) ∧ MapAt .string S I w b x.names) ∨ (x.kind ≠ 2 ∧ v = .map none ∧ x.names = [])

/-- A slice that is only read: it may bear a mark. -/
def ReadRow (w : World) (ow : Nat → Option Own) (o : Own) (v : Value) (xs : List Value) : Prop :=
  ∃ g c, v = .slice (some ⟨g, 0, none⟩) xs.length c ∧ ow g = some o ∧ g < w.heap.size ∧ xs.length ≤ c ∧ ∀ j u, xs[j]? = some u → w.cell? ⟨g, j, none⟩ = some u

/-- A node's bytes: a link's are only read. -/
def DataAt (w : World) (ow : Nat → Option Own) (n : Int) (v : Value) (x : M.Nd) : Prop :=
  (x.kind ≠ 3 ∧ Row w ow (.of n 1) 5 v (x.data.map U8)) ∨ (x.kind = 3 ∧ ReadRow w ow (.of n 1) v (x.data.map U8))

theorem DataAt.keep {w w' : World} {ow ow' : Nat → Option Own} {n : Int} {v : Value} {x : M.Nd} (h : DataAt w ow n v x)
    (hb : ∀ k, ow k = some (.of n 1) → w'.heap[k]? = w.heap[k]?) (ho : ∀ k o, ow k = some o → ow' k = some o) : DataAt w' ow' n v x := by
  rcases h with ⟨h1, h2⟩ | ⟨h1, g, c, h2, h3, h4, h5, h6⟩
  · exact Or.inl ⟨h1, h2.keep hb ho⟩
  · refine Or.inr ⟨h1, g, c, h2, ho g _ h3, ?_, h5, fun j u hu => (World.cell?_of_block (a := ⟨g, j, none⟩) (hb g h3)).trans (h6 j u hu)⟩
    have := hb g h3
    rcases Nat.lt_or_ge g w'.heap.size with h | h
    · exact h
    · rw [Array.getElem?_eq_none h, Array.getElem?_eq_getElem h4] at this
      cases this

/-- A node in memory. -/
structure NodeAt (w : World) (b : Nat) (ow : Nat → Option Own) (n : Int) (x : M.Nd) (dv wv mv : Value) : Prop where
  cells : w.heap[b]? = some (.cells #[I x.kind, dv, wv, mv, I x.most, I x.links, I x.above, I x.high] 72 (0, 0))
  own : ow b = some (.of n 0)
  data : DataAt w ow n dv x
  writ : Row w ow (.of n 2) 4 wv (x.written.map Value.bool)
  nams : NamesAt w ow n mv x

def NodeIn (w : World) (b : Nat) (ow : Nat → Option Own) (n : Int) (x : M.Nd) : Prop := ∃ dv wv mv, NodeAt w b ow n x dv wv mv

theorem NodeAt.keep {w w' : World} {b : Nat} {ow ow' : Nat → Option Own} {n : Int} {x : M.Nd} {dv wv mv : Value} (h : NodeAt w b ow n x dv wv mv)
    (hb : ∀ k j, ow k = some (.of n j) → w'.heap[k]? = w.heap[k]?) (ho : ∀ k o, ow k = some o → ow' k = some o) : NodeAt w' b ow' n x dv wv mv := by
  refine ⟨(hb b 0 h.own).trans h.cells, ho b _ h.own, h.data.keep (fun k hk => hb k _ hk) ho, h.writ.keep (fun k hk => hb k _ hk) ho, ?_⟩
  rcases h.nams with ⟨h1, h2, m, h3, h4, h5⟩ | h1
  · exact Or.inl ⟨h1, h2, m, h3, ho m _ h4, h5.same (hb m _ h4)⟩
  · exact Or.inr h1

/-- The cells of a node, for the walk. -/
structure Cells8 (w : World) (b : Nat) (x : M.Nd) (dv wv mv : Value) : Prop where
  c0 : w.cell? ⟨b, 0, none⟩ = some (I x.kind)
  c1 : w.cell? ⟨b, 1, none⟩ = some dv
  c2 : w.cell? ⟨b, 2, none⟩ = some wv
  c3 : w.cell? ⟨b, 3, none⟩ = some mv
  c4 : w.cell? ⟨b, 4, none⟩ = some (I x.most)
  c5 : w.cell? ⟨b, 5, none⟩ = some (I x.links)
  c6 : w.cell? ⟨b, 6, none⟩ = some (I x.above)
  c7 : w.cell? ⟨b, 7, none⟩ = some (I x.high)
  f : ∀ j, w.frozen? ⟨b, j, none⟩ = false
  lt : b < w.heap.size

theorem NodeAt.cells8 {w : World} {b : Nat} {ow : Nat → Option Own} {n : Int} {x : M.Nd} {dv wv mv : Value} (h : NodeAt w b ow n x dv wv mv) : Cells8 w b x dv wv mv := by
  have hc := h.cells
  refine ⟨?_, ?_, ?_, ?_, ?_, ?_, ?_, ?_, fun j => frozen_of_row w b _ _ _ hc, (Array.getElem?_eq_some_iff.1 hc).1⟩ <;> (rw [cell_of_row w b _ _ _ _ hc]; rfl)

/-- A tree in memory. -/
structure TreeAt (w : World) (tb : Nat) (L : Lay) (s : M.St) : Prop where
  cells : w.heap[tb]? = some (.cells #[.map (some L.mb), I s.last, Pt L.fb, I s.past, I s.went] 77 (0, 0))
  own : L.ow tb = some .tree
  ownm : L.ow L.mb = some .nodes
  ownf : L.ow L.fb = some .fds
  nodes : MapAt (.int .i64) I Pt w L.mb (s.nodes.map fun p => (p.1, L.pn p.1))
  srt : Srt M.ltI s.nodes
  fds : TabAt w L.fb s.fds
  node : ∀ n x, M.get s.nodes n = some x → NodeIn w (L.pn n) L.ow n x
  low : ∀ k o, L.ow k = some o → k < w.heap.size

/-- One layout follows another one: what was owned is owned by the same; new ones are new. -/
structure Ext (w w' : World) (L L' : Lay) : Prop where
  mb : L'.mb = L.mb
  fb : L'.fb = L.fb
  old : ∀ k, k < w.heap.size → L'.ow k = L.ow k

def Owned (L : Lay) (k : Nat) : Prop := L.ow k ≠ none

theorem Ext.refl (w : World) (L : Lay) : Ext w w L L := ⟨rfl, rfl, fun _ _ => rfl⟩
theorem Ext.trans {a b c : World} {L M N : Lay} (h : Ext a b L M) (k : Ext b c M N) (hs : a.heap.size ≤ b.heap.size) : Ext a c L N :=
  ⟨k.mb.trans h.mb, k.fb.trans h.fb, fun i hi => (k.old i (Nat.lt_of_lt_of_le hi hs)).trans (h.old i hi)⟩

section
variable {w w' : World} {tb : Nat} {L L' : Lay} {s : M.St}

theorem TreeAt.lt (h : TreeAt w tb L s) : tb < w.heap.size := h.low _ _ h.own

/-- Nothing of the tree's has turned. -/
theorem TreeAt.keep (h : TreeAt w tb L s) (ht : Tch (fun k => L.ow k = none) w w') : TreeAt w' tb L s := by
  have hk : ∀ k o, L.ow k = some o → w'.heap[k]? = w.heap[k]? := fun k o ho => ht.block k (h.low k o ho) (by simp [ho])
  refine ⟨(hk _ _ h.own).trans h.cells, h.own, h.ownm, h.ownf, h.nodes.same (hk _ _ h.ownm), h.srt, h.fds.same (hk _ _ h.ownf), fun n x hx => ?_, fun k o ho => Nat.lt_of_lt_of_le (h.low k o ho) ht.size⟩
  obtain ⟨dv, wv, mv, hn⟩ := h.node n x hx
  exact ⟨dv, wv, mv, hn.keep (fun k j hj => hk k _ hj) (fun _ _ h => h)⟩

theorem TreeAt.below (h : TreeAt w tb L s) (ht : Below w.heap.size w w') : TreeAt w' tb L s := h.keep (Tch.ofBelow ht)

/-- The cells of a tree, for the walk. -/
structure Cells5 (w : World) (tb : Nat) (L : Lay) (s : M.St) : Prop where
  c0 : w.cell? ⟨tb, 0, none⟩ = some (.map (some L.mb))
  c1 : w.cell? ⟨tb, 1, none⟩ = some (I s.last)
  c2 : w.cell? ⟨tb, 2, none⟩ = some (Pt L.fb)
  c3 : w.cell? ⟨tb, 3, none⟩ = some (I s.past)
  c4 : w.cell? ⟨tb, 4, none⟩ = some (I s.went)
  f : ∀ j, w.frozen? ⟨tb, j, none⟩ = false
  lt : tb < w.heap.size

theorem TreeAt.cells5 (h : TreeAt w tb L s) : Cells5 w tb L s := by
  have hc := h.cells
  refine ⟨?_, ?_, ?_, ?_, ?_, fun j => frozen_of_row w tb _ _ _ hc, h.lt⟩ <;> (rw [cell_of_row w tb _ _ _ _ hc]; rfl)

theorem get_map {ν μ : Type} (f : Int → μ) : ∀ (l : List (Int × ν)) (k : Int), M.get (l.map fun p => (p.1, f p.1)) k = (M.get l k).map fun _ => f k := by
  intro l k
  unfold M.get
  induction l with
  | nil => rfl
  | cons p l ih =>
    by_cases h : p.1 = k
    · simp [h]
    · simp [h] at ih ⊢
      exact ih

theorem get_of_has {n : Int} (h : s.has n = true) : M.get s.nodes n = some (s.nd n) := by
  unfold M.St.has at h
  unfold M.St.nd
  cases hg : M.get s.nodes n with
  | none => simp [hg] at h
  | some x => rfl

theorem run_zero {P : Program} {t : TypeId} {z : Value} (h : (P.info? t).map (fun i => i.zero) = some (some z)) (w : World) : (zeroValue t).run P w = .ok z w := by
  cases hi : P.info? t with
  | none => simp [hi] at h
  | some i =>
    simp [hi] at h
    simp [zeroValue, typeInfo, Sem.run_bind, Sem.run, hi, h, Result.andThen]
theorem zeroNode (w : World) : (zeroValue 68).run Tryz.prog w = .ok (.pointer none) w := run_zero (by kernel_rfl) w
theorem zeroInt (w : World) : (zeroValue 3).run Tryz.prog w = .ok (.int .i64 0) w := run_zero (by kernel_rfl) w

/-- A look for a node that is there. -/
theorem TreeAt.look (h : TreeAt w tb L s) {n : Int} (hn : s.has n = true) :
    (Instr.lookup 73 (.map (some L.mb)) (.int .i64 n) false).run Tryz.prog w = .ok (Pt (L.pn n)) w :=
  run_lookup_some intKeys Tryz.underlying73 Tryz.underlying3 h.nodes (k := n) (v := L.pn n) (by rw [get_map, get_of_has hn]; rfl) false

/-- A look for one that is not. -/
theorem TreeAt.lookNone (h : TreeAt w tb L s) {n : Int} (hn : s.has n = false) :
    (Instr.lookup 73 (.map (some L.mb)) (.int .i64 n) false).run Tryz.prog w = .ok (.pointer none) w := by
  refine run_lookup_none intKeys Tryz.underlying73 Tryz.underlying3 h.nodes (k := n) ?_ (zeroNode w) false
  unfold M.St.has at hn
  rw [get_map]
  cases hg : M.get s.nodes n with
  | none => rfl
  | some x => simp [hg] at hn

theorem TreeAt.nodeOf (h : TreeAt w tb L s) {n : Int} (hn : s.has n = true) : NodeIn w (L.pn n) L.ow n (s.nd n) := h.node n _ (get_of_has hn)

theorem get_put {κ ν : Type} [DecidableEq κ] (lt : κ → κ → Bool) (k : κ) (v : ν) (k' : κ) : ∀ l : List (κ × ν), M.get (M.put lt k v l) k' = if k' = k then some v else M.get l k'
  | [] => by
    unfold M.put M.get
    by_cases h : k = k'
    · subst h; simp
    · simp [h, Ne.symm h]
  | p :: l => by
    have ih := get_put lt k v k' l
    unfold M.put
    by_cases h1 : p.1 = k
    · rw [if_pos h1]
      unfold M.get
      by_cases h2 : k' = k
      · subst h2; simp
      · have : ¬ k = k' := fun e => h2 e.symm
        simp [this, h1, h2]
    · rw [if_neg h1]
      by_cases h3 : lt k p.1 = true
      · rw [if_pos h3]
        unfold M.get
        by_cases h2 : k' = k
        · subst h2; simp
        · have : ¬ k = k' := fun e => h2 e.symm
          simp [this, h2]
      · rw [if_neg h3]
        unfold M.get at ih ⊢
        by_cases h2 : p.1 = k'
        · have : ¬ k' = k := fun e => h1 (h2.trans e)
          simp [h2, this]
        · simp [h2] at ih ⊢
          exact ih

theorem put_keys {ν μ : Type} (f : Int → μ) (k : Int) (v v0 : ν) {l : List (Int × ν)} (hs : Srt M.ltI l) (h : M.get l k = some v0) : (M.put M.ltI k v l).map (fun p => (p.1, f p.1)) = l.map fun p => (p.1, f p.1) := by
  rw [put_old ltI_ok k v l hs v0 h, List.map_map]
  apply List.map_congr_left
  intro p _
  simp only [Function.comp_apply]
  split
  · rename_i e; rw [e]
  · rfl

/-- One node has turned. -/
theorem TreeAt.turn (h : TreeAt w tb L s) {n : Int} (hn : s.has n = true) {y : M.Nd} (ht : Tch (fun k => L.ow k = none ∨ ∃ j, L.ow k = some (.of n j)) w w') (ow' : Nat → Option Own) (ho : ∀ k, k < w.heap.size → ow' k = L.ow k) (hl : ∀ k o, ow' k = some o → k < w'.heap.size)
    (hx : NodeIn w' (L.pn n) ow' n y) : TreeAt w' tb { L with ow := ow' } (s.set n y) := by
  have hk : ∀ k o, L.ow k = some o → (∀ j, o ≠ .of n j) → w'.heap[k]? = w.heap[k]? := fun k o hko hne => ht.block k (h.low k o hko) (by
    rintro (h1 | ⟨j, h1⟩)
    · rw [hko] at h1; cases h1
    · rw [hko] at h1; cases h1; exact hne j rfl)
  have hg := get_of_has hn
  refine ⟨(hk _ _ h.own (by simp)).trans h.cells, (ho _ h.lt).trans h.own, (ho _ (h.low _ _ h.ownm)).trans h.ownm, (ho _ (h.low _ _ h.ownf)).trans h.ownf, ?_, put_srt ltI_ok _ _ _ h.srt, h.fds.same (hk _ _ h.ownf (by simp)), fun m x hx' => ?_, hl⟩
  · show MapAt _ _ _ _ _ ((M.put M.ltI n y s.nodes).map fun p => (p.1, L.pn p.1))
    rw [put_keys L.pn n y _ h.srt hg]
    exact h.nodes.same (hk _ _ h.ownm (by simp))
  · have hx'' : M.get (M.put M.ltI n y s.nodes) m = some x := hx'
    rw [get_put] at hx''
    by_cases e : m = n
    · rw [if_pos e] at hx''
      cases hx''
      rw [e]; exact hx
    · rw [if_neg e] at hx''
      obtain ⟨dv, wv, mv, hm⟩ := h.node m x hx''
      exact ⟨dv, wv, mv, hm.keep (fun k j hj => hk k _ hj (by intro i hi; cases hi; exact e rfl)) (fun k o hko => (ho k (h.low k o hko)).trans hko)⟩

/-- A node has come. -/
theorem TreeAt.insert (h : TreeAt w tb L s) {n : Int} (b : Nat) {x : M.Nd} (ow' : Nat → Option Own) (ho : ∀ k o, L.ow k = some o → ow' k = some o) (hl : ∀ k o, ow' k = some o → k < w.heap.size) (hx : NodeIn w b ow' n x) (ob : Obj) (hno : s.has n = false)
    (hat : MapAt (.int .i64) I Pt (setBlock w L.mb ob) L.mb (M.put M.ltI n b (s.nodes.map fun p => (p.1, L.pn p.1)))) : TreeAt (setBlock w L.mb ob) tb { L with pn := fun k => if k = n then b else L.pn k, ow := ow' } (s.set n x) := by
  have hk : ∀ k o, ow' k = some o → o ≠ .nodes → (setBlock w L.mb ob).heap[k]? = w.heap[k]? := fun k o hko hne => by
    have : L.mb ≠ k := fun e => by
      rw [← e, ho _ _ h.ownm] at hko
      exact hne (by cases hko; rfl)
    simp [setBlock, this]
  refine ⟨(hk _ _ (ho _ _ h.own) (by simp)).trans h.cells, ho _ _ h.own, ho _ _ h.ownm, ho _ _ h.ownf, ?_, put_srt ltI_ok _ _ _ h.srt, h.fds.same (hk _ _ (ho _ _ h.ownf) (by simp)), fun m y hy => ?_, fun k o hko => by have := hl k o hko; simpa [setBlock] using this⟩
  · have : ∀ l : List (Int × M.Nd), M.get l n = none → (M.put M.ltI n x l).map (fun p => (p.1, if p.1 = n then b else L.pn p.1)) = M.put M.ltI n b (l.map fun p => (p.1, L.pn p.1)) := by
      intro l
      induction l with
      | nil => intro _; simp [M.put]
      | cons p l ih =>
        intro hg
        have hne : p.1 ≠ n := fun e => by simp [M.get, e] at hg
        have hg' : M.get l n = none := by simpa [M.get, hne] using hg
        have hall : ∀ l : List (Int × M.Nd), M.get l n = none → l.map (fun p => (p.1, if p.1 = n then b else L.pn p.1)) = l.map fun p => (p.1, L.pn p.1) := by
          intro l hl
          apply List.map_congr_left
          intro q hq
          have : q.1 ≠ n := fun e => by
            unfold M.get at hl
            rw [Option.map_eq_none_iff, List.find?_eq_none] at hl
            exact hl q hq (by simpa using e)
          simp [this]
        by_cases h3 : M.ltI n p.1 = true
        · simp only [M.put, hne, h3, if_false, if_true, List.map_cons, hall l hg']
        · simp only [M.put, hne, h3, if_false, List.map_cons, ih hg', Bool.false_eq_true]
    show MapAt _ _ _ _ _ ((M.put M.ltI n x s.nodes).map fun p => (p.1, if p.1 = n then b else L.pn p.1))
    rw [this _ (by unfold M.St.has at hno; cases hg : M.get s.nodes n <;> simp_all)]
    exact hat
  · have hy' : M.get (M.put M.ltI n x s.nodes) m = some y := hy
    rw [get_put] at hy'
    by_cases e : m = n
    · rw [if_pos e] at hy'
      cases hy'
      obtain ⟨dv, wv, mv, hm⟩ := hx
      subst e
      simp only [if_true]
      exact ⟨dv, wv, mv, hm.keep (fun k j hj => hk k _ hj (by simp)) (fun _ _ h => h)⟩
    · rw [if_neg e] at hy'
      obtain ⟨dv, wv, mv, hm⟩ := h.node m y hy'
      simp only [e, if_false]
      exact ⟨dv, wv, mv, hm.keep (fun k j hj => hk k _ (ho _ _ hj) (by simp)) ho⟩

/-- One node has turned; no block is new of it. -/
theorem TreeAt.turn0 (h : TreeAt w tb L s) {n : Int} (hn : s.has n = true) {y : M.Nd} (ht : Tch (fun k => L.ow k = none ∨ ∃ j, L.ow k = some (.of n j)) w w') (hx : NodeIn w' (L.pn n) L.ow n y) : TreeAt w' tb L (s.set n y) :=
  h.turn hn ht L.ow (fun _ _ => rfl) (fun k o ho => Nat.lt_of_lt_of_le (h.low k o ho) ht.size) hx

end

section
variable {w : World} {b : Nat} {ow : Nat → Option Own} {n : Int} {x : M.Nd} {dv wv mv : Value}

/-- A store into a node's cell leaves the rows as they are. -/
theorem NodeAt.cell (h : NodeAt w b ow n x dv wv mv) (j : Nat) (v : Value) (y : M.Nd) (dv' wv' mv' : Value)
    (hc : (#[I x.kind, dv, wv, mv, I x.most, I x.links, I x.above, I x.high] : Array Value).setIfInBounds j v = #[I y.kind, dv', wv', mv', I y.most, I y.links, I y.above, I y.high])
    (hd : DataAt w ow n dv' y) (hw : Row w ow (.of n 2) 4 wv' (y.written.map Value.bool)) (hm : NamesAt w ow n mv' y) : NodeAt (w.setCell ⟨b, j, none⟩ v) b ow n y dv' wv' mv' := by
  have hb : ∀ k i, i ≠ 0 → ow k = some (.of n i) → (w.setCell ⟨b, j, none⟩ v).heap[k]? = w.heap[k]? := fun k i hi hk => Below.heap_setCell _ _ _ _ (fun e => by
    have e' : k = b := e
    rw [e', h.own] at hk
    simp at hk
    exact hi hk.symm)
  refine ⟨by rw [heap_setCell_same w b _ _ _ _ h.cells, hc], h.own, hd.keep (fun k hk => hb k 1 (by decide) hk) (fun _ _ h => h), hw.keep (fun k hk => hb k 2 (by decide) hk) (fun _ _ h => h), ?_⟩
  rcases hm with ⟨h1, h2, m, h3, h4, h5⟩ | h1
  · exact Or.inl ⟨h1, h2, m, h3, h4, h5.same (hb m 3 (by decide) h4)⟩
  · exact Or.inr h1

theorem NodeAt.setMost (h : NodeAt w b ow n x dv wv mv) (v : Int) : NodeAt (w.setCell ⟨b, 4, none⟩ (I v)) b ow n { x with most := v } dv wv mv := h.cell 4 _ _ _ _ _ rfl h.data h.writ h.nams
theorem NodeAt.setLinks (h : NodeAt w b ow n x dv wv mv) (v : Int) : NodeAt (w.setCell ⟨b, 5, none⟩ (I v)) b ow n { x with links := v } dv wv mv := h.cell 5 _ _ _ _ _ rfl h.data h.writ h.nams
theorem NodeAt.setAbove (h : NodeAt w b ow n x dv wv mv) (v : Int) : NodeAt (w.setCell ⟨b, 6, none⟩ (I v)) b ow n { x with above := v } dv wv mv := h.cell 6 _ _ _ _ _ rfl h.data h.writ h.nams
theorem NodeAt.setHigh (h : NodeAt w b ow n x dv wv mv) (v : Int) : NodeAt (w.setCell ⟨b, 7, none⟩ (I v)) b ow n { x with high := v } dv wv mv := h.cell 7 _ _ _ _ _ rfl h.data h.writ h.nams
theorem NodeAt.setData (h : NodeAt w b ow n x dv wv mv) (v : Value) (l : M.Bs) (hv : DataAt w ow n v { x with data := l }) : NodeAt (w.setCell ⟨b, 1, none⟩ v) b ow n { x with data := l } v wv mv := h.cell 1 _ _ _ _ _ rfl hv h.writ h.nams
theorem NodeAt.setWritten (h : NodeAt w b ow n x dv wv mv) (v : Value) (l : List Bool) (hv : Row w ow (.of n 2) 4 v (l.map Value.bool)) : NodeAt (w.setCell ⟨b, 2, none⟩ v) b ow n { x with written := l } dv v mv := h.cell 2 _ _ _ _ _ rfl h.data hv h.nams

/-- The names have turned. -/
theorem NodeAt.setNames (h : NodeAt w b ow n x dv wv mv) {m : Nat} (hm : mv = .map (some m)) (ho : ow m = some (.of n 3)) (hk : x.kind = 2) (l : List (M.Bs × Int)) (hs : Srt M.ltB l) (ob : Obj) (hat : MapAt .string S I (setBlock w m ob) m l) :
    NodeAt (setBlock w m ob) b ow n { x with names := l } dv wv mv := by
  have hb : ∀ k i, i ≠ 3 → ow k = some (.of n i) → (setBlock w m ob).heap[k]? = w.heap[k]? := fun k i hi hk => by
    have : m ≠ k := fun e => by
      rw [← e, ho] at hk
      simp at hk
      exact hi hk.symm
    simp [setBlock, this]
  exact ⟨(hb b 0 (by decide) h.own).trans h.cells, h.own, h.data.keep (fun k hk => hb k 1 (by decide) hk) (fun _ _ h => h), h.writ.keep (fun k hk => hb k 2 (by decide) hk) (fun _ _ h => h), Or.inl ⟨hk, hs, m, hm, ho, hat⟩⟩
end

end Go.Proofs.YtpfaccpmgldkeaaGreatDoor
