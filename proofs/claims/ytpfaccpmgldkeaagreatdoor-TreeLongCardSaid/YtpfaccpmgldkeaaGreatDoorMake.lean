/- Contracts of make and New. -/
import Derived.Test.YtpfaccpmgldkeaaGreatDoorFor
import Derived.Laws.IdiomStrings
import Derived.Carry
set_option linter.unusedVariables false
set_option linter.unusedSimpArgs false
namespace Go.Proofs.YtpfaccpmgldkeaaGreatDoor
open Go.RowKit Go.MapKept Go.ChangeMaps
set_option maxRecDepth 100000

/-- What an operation leaves: the tree, perhaps elsewhere. -/
def Went (w w' : World) (tb : Nat) (L : Lay) (s' : M.St) : Prop := ∃ L', TreeAt w' tb L' s' ∧ Ext w w' L L' ∧ Tch (Owned L) w w'

def M.Spot.val (sp : M.Spot) : Value := .agg #[I sp.node, I sp.dir, S sp.name]

/-- The new node of make. -/
def mkNd (kind : Int) (data : M.Bs) : M.Nd := { kind := kind, data := if kind = 3 then data else [] }

/-- What stands ready ahead of the store of a new node. -/
structure Ready (w W : World) (tb : Nat) (L : Lay) (s1 : M.St) (sp : M.Spot) (n : Int) (x : M.Nd) (ow' : Nat → Option Own) : Prop where
  tree : TreeAt W tb L s1
  tch : Tch (Owned L) w W
  old : ∀ k, k < w.heap.size → ow' k = L.ow k
  low : ∀ k o, ow' k = some o → k < W.heap.size
  node : NodeIn W (w.heap.size + 1) ow' n x
  c1 : W.cell? ⟨w.heap.size, 1, none⟩ = some (I sp.dir)
  c2 : W.cell? ⟨w.heap.size, 2, none⟩ = some (S sp.name)

section
variable {w : World} {tb : Nat} {L : Lay} {s : M.St} {sp : M.Spot}

/-- The world behind the count and the spot. -/
def base (w : World) (tb : Nat) (s : M.St) (sp : M.Spot) : World := (w.setCell ⟨tb, 1, none⟩ (I (s.last + 1))).alloc (.cells #[I sp.node, I sp.dir, S sp.name] 86)
theorem base_tree (h : TreeAt w tb L s) : TreeAt (base w tb s sp) tb L { s with last := s.last + 1 } := (h.setLast (s.last + 1)).below ((Below.refl _ _).alloc (Nat.le_refl _) _)
theorem base_size : (base w tb s sp).heap.size = w.heap.size + 1 := by simp [base, World.setCell]
theorem base_tch (h : TreeAt w tb L s) : Tch (Owned L) w (base w tb s sp) := (((Tch.refl _ w).setCell (p := ⟨tb, 1, none⟩) (by simp [Owned, h.own]) _).alloc _)
theorem base_spot (j : Nat) (v : Value) (hv : (#[I sp.node, I sp.dir, S sp.name] : Array Value)[j]? = some v) : (base w tb s sp).cell? ⟨w.heap.size, j, none⟩ = some v := by
  have hz : (w.setCell ⟨tb, 1, none⟩ (I (s.last + 1))).heap.size = w.heap.size := by simp [World.setCell]
  have := heap_alloc_new (w.setCell ⟨tb, 1, none⟩ (I (s.last + 1))) (.cells #[I sp.node, I sp.dir, S sp.name] 86)
  rw [hz] at this
  unfold base
  rw [cell_of_row _ _ _ _ _ _ this]
  exact hv

def ndObj (kind : Int) (dv mv : Value) : Obj := .cells #[I kind, dv, .slice none 0 0, mv, I 0, I 0, I 0, I 0] 72 (0, 0)

theorem ready_of (h : TreeAt w tb L s) (W : World) (hW : Below (base w tb s sp).heap.size (base w tb s sp) W) (n : Int) (x : M.Nd) (ow' : Nat → Option Own) (ho : ∀ k, k < w.heap.size → ow' k = L.ow k) (hl : ∀ k o, ow' k = some o → k < W.heap.size) (hx : NodeIn W (w.heap.size + 1) ow' n x) :
    Ready w W tb L { s with last := s.last + 1 } sp n x ow' :=
  ⟨(base_tree h).below hW, (base_tch h).trans (Tch.ofBelow hW), ho, hl, hx, cell_later hW (base_spot 1 _ rfl), cell_later hW (base_spot 2 _ rfl)⟩

theorem ready1 (h : TreeAt w tb L s) (n : Int) (data : M.Bs) : ∃ ow', Ready w ((base w tb s sp).alloc (ndObj 1 (.slice none 0 0) (.map none))) tb L { s with last := s.last + 1 } sp n (mkNd 1 data) ow' := by
  have hz := base_size (w := w) (tb := tb) (s := s) (sp := sp)
  refine ⟨fun k => if k = w.heap.size + 1 then some (.of n 0) else L.ow k, ready_of h _ ((Below.refl _ _).alloc (Nat.le_refl _) _) n _ _ (fun k hk => by simp; omega) (fun k o hk => ?_) ⟨.slice none 0 0, .slice none 0 0, .map none, ?_, by simp, Or.inl ⟨by simp [mkNd], Row.nil _ _ _ _⟩, Row.nil _ _ _ _, Or.inr ⟨by simp [mkNd], rfl, rfl⟩⟩⟩
  · split at hk
    · simp [hz]; omega
    · have := h.low k o hk; simp [hz]; omega
  · have := heap_alloc_new (base w tb s sp) (ndObj 1 (.slice none 0 0) (.map none))
    rw [hz] at this
    exact this

theorem ready2 (h : TreeAt w tb L s) (n : Int) (data : M.Bs) : ∃ ow', Ready w (((base w tb s sp).alloc (ndObj 2 (.slice none 0 0) (.map (some (w.heap.size + 1 + 1))))).alloc (.map #[] 0)) tb L { s with last := s.last + 1 } sp n (mkNd 2 data) ow' := by
  have hz := base_size (w := w) (tb := tb) (s := s) (sp := sp)
  refine ⟨fun k => if k = w.heap.size + 1 then some (.of n 0) else if k = w.heap.size + 1 + 1 then some (.of n 3) else L.ow k, ready_of h _ (((Below.refl _ _).alloc (Nat.le_refl _) _).alloc (by simp) _) n _ _ (fun k hk => ?_) (fun k o hk => ?_) ⟨.slice none 0 0, .slice none 0 0, .map (some (w.heap.size + 1 + 1)), ?_, by simp, Or.inl ⟨by simp [mkNd], Row.nil _ _ _ _⟩, Row.nil _ _ _ _, Or.inl ⟨rfl, List.Pairwise.nil, w.heap.size + 1 + 1, rfl, by simp, ?_⟩⟩⟩
  · rw [if_neg (by omega), if_neg (by omega)]
  · split at hk
    · simp [hz]; omega
    · split at hk
      · simp [hz]; omega
      · have := h.low k o hk; simp [hz]; omega
  · have := heap_alloc_new (base w tb s sp) (ndObj 2 (.slice none 0 0) (.map (some (w.heap.size + 1 + 1))))
    rw [hz] at this
    rw [heap_alloc_old _ _ (by simp [hz])]
    exact this
  · have := MapAt.new (κ := M.Bs) (ν := Int) .string S I ((base w tb s sp).alloc (ndObj 2 (.slice none 0 0) (.map (some (w.heap.size + 1 + 1)))))
    have e : ((base w tb s sp).alloc (ndObj 2 (.slice none 0 0) (.map (some (w.heap.size + 1 + 1))))).heap.size = w.heap.size + 1 + 1 := by simp [hz]
    rw [e] at this
    exact this

theorem ready3 (h : TreeAt w tb L s) (n : Int) (data : M.Bs) (cap : Nat) (hc : data.length ≤ cap) (fr : Nat × Nat) :
    ∃ ow', Ready w (((base w tb s sp).alloc (ndObj 3 (.slice (some ⟨w.heap.size + 1 + 1, 0, none⟩) data.length cap) (.map none))).alloc (.cells (bytesRow ⟨data.toArray⟩ cap) 5 fr)).drew tb L { s with last := s.last + 1 } sp n (mkNd 3 data) ow' := by
  have hz := base_size (w := w) (tb := tb) (s := s) (sp := sp)
  refine ⟨fun k => if k = w.heap.size + 1 then some (.of n 0) else if k = w.heap.size + 1 + 1 then some (.of n 1) else L.ow k, ready_of h _ ((((Below.refl _ _).alloc (Nat.le_refl _) _).alloc (by simp) _).drew) n _ _ (fun k hk => ?_) (fun k o hk => ?_) ⟨.slice (some ⟨w.heap.size + 1 + 1, 0, none⟩) data.length cap, .slice none 0 0, .map none, ?_, by simp, Or.inr ⟨by simp [mkNd], w.heap.size + 1 + 1, cap, ?_, by simp, by simp [hz], by simpa [mkNd] using hc, ?_⟩, Row.nil _ _ _ _, Or.inr ⟨by simp [mkNd], rfl, rfl⟩⟩⟩
  · rw [if_neg (by omega), if_neg (by omega)]
  · split at hk
    · simp [hz]; omega
    · split at hk
      · simp [hz]; omega
      · have := h.low k o hk; simp [hz]; omega
  · have := heap_alloc_new (base w tb s sp) (ndObj 3 (.slice (some ⟨w.heap.size + 1 + 1, 0, none⟩) data.length cap) (.map none))
    rw [hz] at this
    show (((base w tb s sp).alloc _).alloc _).heap[_]? = _
    rw [heap_alloc_old _ _ (by simp [hz])]
    exact this
  · simp [mkNd]
  · intro j u hu
    have e : ((base w tb s sp).alloc (ndObj 3 (.slice (some ⟨w.heap.size + 1 + 1, 0, none⟩) data.length cap) (.map none))).heap.size = w.heap.size + 1 + 1 := by simp [hz]
    have := World.cell?_alloc_mark ((base w tb s sp).alloc (ndObj 3 (.slice (some ⟨w.heap.size + 1 + 1, 0, none⟩) data.length cap) (.map none))) (bytesRow ⟨data.toArray⟩ cap) 5 fr j
    rw [e] at this
    show (((base w tb s sp).alloc _).alloc _).cell? _ = _
    rw [this]
    have hu' : (data.map U8)[j]? = some u := by simpa [mkNd] using hu
    have hj : j < data.length := by
      have := (List.getElem?_eq_some_iff.1 hu').1
      simpa using this
    rw [bytesRow_at _ _ _ (by simpa using hj), ← hu']
    simp [hj]
end

theorem add_last (s : M.St) (d : Int) (m : M.Bs) (n : Int) : (s.add d m n).last = s.last := by
  unfold M.St.add
  simp only
  split <;> rfl
theorem mkNd_small (kind : Int) (data : M.Bs) (h : data.length ≤ 20736) : Small (mkNd kind data) := by
  refine ⟨by simp [mkNd], by simp [mkNd], by simp [mkNd], ?_, by simp [mkNd], by simp [mkNd]⟩
  unfold mkNd
  simp only
  split
  · exact h
  · simp
theorem srt_map {ν μ : Type} (f : Int → μ) {l : List (Int × ν)} (h : Srt M.ltI l) : Srt M.ltI (l.map fun p => (p.1, f p.1)) := by
  unfold Srt at *
  rw [List.pairwise_map]
  exact h
theorem cell_setBlock (w : World) (b : Nat) (o : Obj) (a : Addr) (h : b ≠ a.block) : (setBlock w b o).cell? a = w.cell? a := World.cell?_of_block (by simp [setBlock, h])

def MakePost (tb : Nat) (L : Lay) (s : M.St) (sp : M.Spot) (kind : Int) (data : M.Bs) (w : World) (e : Ending) (w' : World) : Prop :=
  e = .returned (I (s.last + 1)) ∧ Went w w' tb L (s.make sp kind data)

theorem make_any (tb : Nat) (L : Lay) (s : M.St) (sp : M.Spot) (kind : Int) (data : M.Bs) (w : World) (h : TreeAt w tb L s) (hd : s.has sp.dir = true) (hno : s.has (s.last + 1) = false) (hk : (s.nd sp.dir).kind = 2) (hs1 : Small (s.nd sp.dir)) (ht : SmallT s) (hkind : kind = 1 ∨ kind = 2 ∨ kind = 3) (hdl : data.length ≤ 20736) :
    Calls Tryz.prog 77 #[Pt tb, sp.val, I kind, S data] w (MakePost tb L s sp kind data w) := by
  obtain ⟨t0, t1, -, -, -, tf, htb⟩ := h.cells5
  obtain ⟨hl1, hl2⟩ := ht.last
  have H := Lib.hid h; clear h
  have hmk := fun w' : World => run_makeMap (P := Tryz.prog) 69 w'
  have hcv := fun w' : World => run_bytes_of_string (P := Tryz.prog) w' 9 22 5 ⟨data.toArray⟩ Tryz.underlying9 Tryz.underlying22 Tryz.underlying5
  unfold M.Spot.val
  rcases hkind with rfl | rfl | rfl
  all_goals
    go_enter Tryz.func77, Tryz.ntmps77
    go_wp2_with fail
    clear hmk hcv t0 t1 tf
    first
      | (obtain ⟨ow', hr⟩ := ready1 (sp := sp) H.out (s.last + 1) data
         have HR := Lib.hid hr; clear hr
         change Code.wp _ _ _ _ ((base w tb s sp).alloc (ndObj 1 (.slice none 0 0) (.map none)))
         generalize (base w tb s sp).alloc (ndObj 1 (.slice none 0 0) (.map none)) = W at *)
      | (obtain ⟨ow', hr⟩ := ready2 (sp := sp) H.out (s.last + 1) data
         have HR := Lib.hid hr; clear hr
         change Code.wp _ _ _ _ (((base w tb s sp).alloc (ndObj 2 (.slice none 0 0) (.map (some (w.heap.size + 1 + 1))))).alloc (.map #[] 0))
         generalize ((base w tb s sp).alloc (ndObj 2 (.slice none 0 0) (.map (some (w.heap.size + 1 + 1))))).alloc (.map #[] 0) = W at *)
      | (generalize hcap : grownCap _ data.length 0 5 = cap
         have hcl : data.length ≤ cap := by rw [← hcap]; exact grownCap_ge _ _ _ _
         clear hcap
         generalize ((bytesRow ⟨data.toArray⟩ cap).size, (bytesRow ⟨data.toArray⟩ cap).size + 1) = fr
         obtain ⟨ow', hr⟩ := ready3 (sp := sp) H.out (s.last + 1) data cap hcl fr
         have HR := Lib.hid hr; clear hr
         change Code.wp _ _ _ _ (((base w tb s sp).alloc (ndObj 3 (.slice (some ⟨w.heap.size + 1 + 1, 0, none⟩) data.length cap) (.map none))).alloc (.cells (bytesRow ⟨data.toArray⟩ cap) 5 fr)).drew
         generalize (((base w tb s sp).alloc (ndObj 3 (.slice (some ⟨w.heap.size + 1 + 1, 0, none⟩) data.length cap) (.map none))).alloc (.cells (bytesRow ⟨data.toArray⟩ cap) 5 fr)).drew = W at *)
    have HT := Lib.hid (HR.out.tree.keep (Tch.refl _ W).drew)
    have hc1 := HR.out.c1
    have hc2 := HR.out.c2
    have HNO := Lib.hid hno
    have HE := Lib.hid (show ∀ k o, L.ow k = some o → ow' k = some o from fun k o ho => by rw [HR.out.old k (H.out.low k o ho)]; exact ho)
    have HND := Lib.hid (show NodeIn W.drew (w.heap.size + 1) ow' (s.last + 1) (mkNd _ data) from by
      obtain ⟨a, b, c, hx⟩ := HR.out.node
      exact ⟨a, b, c, hx.keep (fun _ _ _ => rfl) (fun _ _ h => h)⟩)
    have HLW := Lib.hid (show ∀ k o, ow' k = some o → k < W.drew.heap.size from HR.out.low)
    have HTC := Lib.hid (HR.out.tch.drew)
    refine wp_region_still_tail 9 (by kernel_rfl) (by kernel_rfl) ?_
    change wpStill _ _ (World.drew W) _ _ _
    simp only [List.take_succ_cons, List.take_zero, List.drop_succ_cons, List.drop_zero]
    obtain ⟨t0, t1, -, -, -, tf, htb⟩ := HT.out.cells5
    repeat still_step
    refine wpStill_nil ?_
    change wpList _ _ _ _ _ (World.drew W)
    change (W.drew).cell? _ = _ at hc1
    change (W.drew).cell? _ = _ at hc2
    generalize hW1 : W.drew = W1 at *
    clear hW1
    go_wp2_with (first | (at_mapUpdate; refine wpList_update_mine ltI_ok intKeys rfl _ _ _ _ rfl _ _ Tryz.underlying73 Tryz.underlying3 L.mb _ (s.last + 1) (w.heap.size + 1) rfl rfl rfl HT.out.nodes (srt_map _ HT.out.srt) ?_; intro ob hmap) | fail)
    have HT2 := Lib.hid (HT.out.insert (w.heap.size + 1) ow' HE.out HLW.out HND.out ob HNO.out hmap)
    have HTC2 := Lib.hid (HTC.out.setBlock (b := L.mb) (by simp [Owned, H.out.ownm]) ob)
    have hmbl : L.mb ≠ w.heap.size := by have := H.out.low _ _ H.out.ownm; omega
    have hd1 : (setBlock W1 L.mb ob).cell? ⟨w.heap.size, 1, none⟩ = some (I sp.dir) := by rw [cell_setBlock _ _ _ _ (by simpa using hmbl)]; exact hc1
    have hd2 : (setBlock W1 L.mb ob).cell? ⟨w.heap.size, 2, none⟩ = some (S sp.name) := by rw [cell_setBlock _ _ _ _ (by simpa using hmbl)]; exact hc2
    clear hmap t0 t1 tf hc1 hc2
    generalize hW2 : setBlock W1 L.mb ob = W2 at *
    clear hW2
    have HT3 := Lib.hid (HT2.out.keep (Tch.refl _ W2).drew)
    have HTC3 := Lib.hid HTC2.out.drew
    refine wp_region_still_tail 9 (by kernel_rfl) (by kernel_rfl) ?_
    change wpStill _ _ (World.drew W2) _ _ _
    simp only [List.take_succ_cons, List.take_zero, List.drop_succ_cons, List.drop_zero]
    obtain ⟨t0, t1, -, -, -, tf, -⟩ := HT3.out.cells5
    change W2.drew.cell? ⟨tb, 1, none⟩ = some (I (s.last + 1)) at t1
    repeat still_step
    refine wpStill_nil ?_
    change wpList _ _ _ _ _ (World.drew W2)
    generalize hW3 : W2.drew = W3 at *
    clear hW3
    go_wp2_with fail
    have hne : s.last + 1 ≠ sp.dir := fun e => by rw [← e, HNO.out] at hd; cases hd
    have hne' : sp.dir ≠ s.last + 1 := fun e => hne e.symm
    (with_reducible refine (add_any tb _ _ sp.dir sp.name (s.last + 1) W3 HT3.out ?_ ?_ ?_ ?_ ?_ hne).mono ?_)
    · rw [set_has]; simp only [Bool.or_eq_true, decide_eq_true_eq]; exact Or.inr hd
    · rw [set_has]; simp
    · rw [set_nd, if_neg hne']; exact hk
    · rw [set_nd, if_neg hne']; exact hs1
    · rw [set_nd, if_pos rfl]; exact mkNd_small _ _ hdl
    rintro e w' ⟨rfl, ht', hc'⟩
    have HTC4 := Lib.hid (HTC3.out.andNew hc' (fun i hi hT => by
      obtain ⟨j, hT⟩ := hT
      have e := HR.out.old i hi
      unfold Owned
      rw [← e]
      rcases hT with hT | hT <;> (simp only at hT; rw [hT]; simp)))
    have HT4 := Lib.hid ht'; clear ht' hc' t0 t1 tf
    have t1 := HT4.out.cells5.c1
    rw [add_last] at t1
    change w'.cell? ⟨tb, 1, none⟩ = some (I (s.last + 1)) at t1
    go_wp2_with fail
    go_ret
    exact ⟨rfl, _, HT4.out, ⟨rfl, rfl, HR.out.old⟩, HTC4.out⟩

end Go.Proofs.YtpfaccpmgldkeaaGreatDoor
