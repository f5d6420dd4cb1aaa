/- Contract of Nodes. -/
import Derived.Test.YtpfaccpmgldkeaaGreatDoorNod
import Derived.Test.YtpfaccpmgldkeaaGreatDoorShelfc
import Derived.Test.YtpfaccpmgldkeaaGreatDoorOp
import Derived.Test.YtpfaccpmgldkeaaGreatDoorInx
import Derived.Laws.EntriesVeiled
import Derived.Shelf.SlSortCmp.WholeK
set_option linter.unusedVariables false
set_option linter.unusedSimpArgs false
namespace Go.Proofs.YtpfaccpmgldkeaaGreatDoor
open Go.RowKit Go.MapKept Go.ChangeMaps Go.Shelf
set_option maxRecDepth 100000

abbrev Sq := M.Seen × (Option Addr × Nat × Nat)
instance : Inhabited M.Seen := ⟨⟨[], 0, 0, 0, []⟩⟩
def conv (x : Sq) : M.Seen × Value := (x.1, .slice x.2.1 x.2.2.1 x.2.2.2)
def enc5 (x : Sq) : List Value := encN (conv x)
def cfN (x y : Sq) : Int := Lib.compareBytes x.1.path y.1.path

theorem cmp_lt : ∀ a b : M.Bs, decide (Lib.compareBytes a b < 0) = M.ltB a b
  | [], [] => rfl
  | [], _ :: _ => rfl
  | _ :: _, [] => rfl
  | a :: l, b :: m => by
    unfold Lib.compareBytes M.ltB
    by_cases h1 : a < b
    · rw [if_pos h1, if_pos h1]; rfl
    · rw [if_neg h1, if_neg h1]
      by_cases h2 : b < a
      · rw [if_pos h2, if_pos h2]; rfl
      · rw [if_neg h2, if_neg h2]; exact cmp_lt l m
theorem ltOf_cfN (x y : Sq) : Go.Proofs.ltOf cfN x y = M.ltB x.1.path y.1.path := cmp_lt _ _
theorem swoN : Go.Sort.SWO (Go.Proofs.ltOf cfN) where
  irrefl x := by rw [ltOf_cfN]; exact ltB_irr _
  trans x y z h1 h2 := by rw [ltOf_cfN] at *; exact ltB_trans _ _ _ h1 h2
  ntrans x y z h1 h2 := by
    rw [ltOf_cfN] at *
    cases h3 : M.ltB x.1.path z.1.path with
    | false => rfl
    | true =>
      by_cases e : x.1.path = y.1.path
      · rw [e, h2] at h3; cases h3
      · rcases ltB_tot _ _ e with h | h
        · rw [h1] at h; cases h
        · rw [ltB_trans _ _ _ h h3] at h2; cases h2

theorem cellsN_get : ∀ (l : List (M.Seen × Value)) (t : Nat), (cellsN l)[t]? = (l[t / 5]?).bind fun x => (encN x)[t % 5]?
  | [], t => by simp [cellsN]
  | x :: l, t => by
    have ih := cellsN_get l (t - 5)
    unfold cellsN at ih ⊢
    rw [List.flatMap_cons]
    by_cases h : t < 5
    · rw [List.getElem?_append_left (by rw [encN_len]; exact h), Nat.div_eq_of_lt h, Nat.mod_eq_of_lt h]
      rfl
    · rw [List.getElem?_append_right (by rw [encN_len]; omega), encN_len, ih]
      have h1 : t / 5 = (t - 5) / 5 + 1 := by omega
      have h2 : t % 5 = (t - 5) % 5 := by omega
      rw [h1, h2, List.getElem?_cons_succ]
theorem flat_cells (d : Array Sq) : (Go.Sort.flatK enc5 5 d).toList = cellsN (d.toList.map conv) := by
  apply List.ext_getElem?
  intro t
  rw [cellsN_get, List.getElem?_map]
  by_cases h : t < d.size * 5
  · have h5 : t / 5 < d.size := by omega
    have h6 := Go.Sort.get_flatK enc5 5 d t h
    rw [Array.getElem?_toList, Array.getElem?_eq_getElem (by simpa using h), ← getElem!_pos (Go.Sort.flatK enc5 5 d) t (by simpa using h), h6]
    have h7 : d.toList[t / 5]? = some d[t / 5]! := by
      rw [Array.getElem?_toList, Array.getElem?_eq_getElem h5, getElem!_pos d _ h5]
    rw [h7]
    have h8 : t % 5 < (enc5 d[t / 5]!).length := by have : t % 5 < 5 := Nat.mod_lt _ (by decide); exact this
    show some _ = (enc5 d[t / 5]!)[t % 5]?
    rw [List.getElem?_eq_getElem h8, getElem!_pos (enc5 d[t / 5]!) _ h8]
  · rw [Array.getElem?_toList, Array.getElem?_eq_none (by simpa using h)]
    have : d.toList[t / 5]? = none := by rw [List.getElem?_eq_none]; simp; omega
    rw [this]
    rfl

theorem unconv : ∀ l : List (M.Seen × Value), (∀ x ∈ l, ∃ p n c, x.2 = .slice p n c) → ∃ d : List Sq, l = d.map conv
  | [], _ => ⟨[], rfl⟩
  | x :: l, h => by
    obtain ⟨d, rfl⟩ := unconv l (fun y hy => h y (List.mem_cons_of_mem _ hy))
    obtain ⟨p, n, c, hx⟩ := h x List.mem_cons_self
    exact ⟨(x.1, p, n, c) :: d, by rw [List.map_cons]; congr 1; unfold conv; rw [← hx]⟩

theorem holds_nodes {B : Nat} {w : World} {g cap : Nat} {d : Array Sq} (h : w.ownsRow B 44 5 (.slice (some ⟨g, 0, none⟩) d.size cap) d.size (cellsN (d.toList.map conv))) : Go.Sort.HoldsK enc5 5 w g 0 d := by
  intro j hj
  rcases h.2 with ⟨h1, _⟩ | ⟨g', cap', cur, h1, h2, h3, h4, _⟩
  · cases h1
  · cases h1
    rw [Nat.zero_add]
    refine ⟨?_, frozen_of_row w g _ _ _ h3⟩
    have hF : (cellsN (d.toList.map conv))[j]? = some (Go.Sort.flatK enc5 5 d)[j]! := by
      rw [← flat_cells, Array.getElem?_toList, Array.getElem?_eq_getElem hj, getElem!_pos (Go.Sort.flatK enc5 5 d) _ hj]
    have := World.ownsRow.cells h (g := g) rfl j _ hF
    rw [Addr.add_lit, Nat.zero_add] at this
    exact this

theorem grow_old (w : World) (os : Array Obj) (k : Nat) (h : k < w.heap.size) : (Go.Sort.grow w os).heap[k]? = w.heap[k]? := by
  show (w.heap ++ os)[k]? = _
  rw [Array.getElem?_append_left h]

theorem sorted_nodes {B : Nat} {w : World} {g cap : Nat} {d d' : Array Sq} (h : w.ownsRow B 44 5 (.slice (some ⟨g, 0, none⟩) d.size cap) d.size (cellsN (d.toList.map conv))) (hs : d'.size = d.size) (n : Nat) (os : Array Obj) :
    (sortWorldK enc5 5 w g 0 n d' os).ownsRow B 44 5 (.slice (some ⟨g, 0, none⟩) d.size cap) d.size (cellsN (d'.toList.map conv)) ∧ w.grownBy (sortWorldK enc5 5 w g 0 n d' os) (some g) := by
  have hg : g < w.heap.size := (World.ownsRow.lt h g rfl).2
  rcases h.2 with ⟨h1, _⟩ | ⟨g', cap', cur, h1, h2, h3, h4, h5, h6, h7⟩
  · cases h1
  cases h1
  have hsz : (Go.Sort.putRowK enc5 5 (Go.Sort.ahead w n) g 0 d').heap.size = w.heap.size := by simp [Go.Sort.putRowK, Go.Sort.putRow, Go.Sort.mapBlock, Go.Sort.ahead]
  have hcs : cur.size = cap * 5 := h6
  constructor
  · refine ⟨by rw [cellsN_len, List.length_map, Array.length_toList, hs], Or.inr ⟨g, cap, Go.Sort.putCells id 0 (Go.Sort.flatK enc5 5 d') cur, rfl, h2, ?_, h4, h5, by simp [Go.Sort.putCells, h6], ?_⟩⟩
    · unfold sortWorldK
      rw [grow_old _ _ _ (by rw [hsz]; exact hg)]
      show (w.heap.modify g _)[g]? = _
      rw [Array.getElem?_modify, if_pos rfl, h3]
      rfl
    · rw [← flat_cells]
      apply List.ext_getElem?
      intro j
      by_cases hj : j < d.size * 5
      · rw [List.getElem?_take, if_pos hj, Array.getElem?_toList, Array.getElem?_toList]
        have hj2 : j < cur.size := by rw [hcs]; omega
        have hj3 : j < (Go.Sort.flatK enc5 5 d').size := by simp [hs]; exact hj
        simp [Go.Sort.putCells, hj2, hj3]
        have : j < d'.size * 5 := by rw [hs]; exact hj
        simp [this, Go.Sort.flatK]
      · rw [List.getElem?_eq_none (by simp; omega), List.getElem?_eq_none (by simp [hs]; omega)]
  · refine ⟨rfl, rfl, rfl, ?_, fun k hk hne => ?_⟩
    · unfold sortWorldK
      show w.heap.size ≤ ((Go.Sort.putRowK enc5 5 (Go.Sort.ahead w n) g 0 d').heap ++ os).size
      rw [Array.size_append, hsz]; omega
    · unfold sortWorldK
      rw [grow_old _ _ _ (by rw [hsz]; exact hk)]
      show (w.heap.modify g _)[k]? = _
      rw [Array.getElem?_modify, if_neg (fun e => hne (by rw [e]))]

set_option maxHeartbeats 1000000 in
theorem cmp_walk (x y : Sq) (W : World) : Calls Tryz.prog 50 #[.agg (enc5 x).toArray, .agg (enc5 y).toArray] W fun e w' => e = .returned (.int .i64 (cfN x y)) ∧ ∃ q os', w' = Go.Sort.grow (W.drewN q) os' := by
  have hcon : ∀ W', Calls Tryz.prog 51 #[S x.1.path, S y.1.path] W' fun e w' => e = .returned (.int .i64 (cfN x y)) ∧ w' = W' := fun W' => by
    have h := Tryz.strings_Compare ⟨x.1.path.toArray⟩ ⟨y.1.path.toArray⟩ W'
    simpa [S, cfN] using h
  unfold enc5 encN conv
  generalize cfN x y = r at hcon ⊢
  generalize x.1.path = px at *
  generalize y.1.path = py at *
  have HC := Lib.hid hcon; clear hcon
  go_enter Tryz.func50, Tryz.ntmps50
  go_wp2_with fail
  (with_reducible refine (HC.out _).mono ?_)
  rintro e w' ⟨rfl, rfl⟩
  go_wp2_with fail
  go_ret
  exact ⟨rfl, 0, _, by rw [Go.Sort.alloc_eq_grow, Go.Sort.alloc_eq_grow, Go.Sort.grow_grow]; rfl⟩

/-- What Nodes leaves: the files by rising paths, in memory of the caller's own. -/
def NodesPost (s : M.St) (w : World) (e : Ending) (w' : World) : Prop :=
  ∃ v l, e = .returned v ∧ w'.ownsRow w.heap.size 44 5 v l.length (cellsN l) ∧ (∀ x ∈ l, w'.ownsRow w.heap.size 5 1 x.2 x.1.data.length (x.1.data.map U8)) ∧
    (l.map (·.1)).Perm (s.see 22 1 []) ∧ (l.map (·.1)).Pairwise (fun x y => M.ltB y.path x.path = false) ∧ Below w.heap.size w w'

theorem perm_out {d d' : Array Sq} (h : Go.Sort.PermIn 0 d.size d d') : d'.size = d.size ∧ d'.toList.Perm d.toList := by
  obtain ⟨h1, _, h3⟩ := h
  refine ⟨h1, ?_⟩
  have e1 : d'.extract 0 d.size = d' := by rw [← h1]; simp
  have e2 : d.extract 0 d.size = d := by simp
  rw [e1, e2] at h3
  exact h3
theorem sorted_out {d : Array Sq} (h : Go.Sort.SortedIn (Go.Proofs.ltOf cfN) 0 d.size d) : (d.toList.map (·.1)).Pairwise (fun x y => M.ltB y.path x.path = false) := by
  rw [List.pairwise_map, List.pairwise_iff_getElem]
  intro i j hi hj hij
  have hi' : i < d.size := by simpa using hi
  have hj' : j < d.size := by simpa using hj
  have := h i j (Nat.zero_le _) hij hj'
  rw [ltOf_cfN, getElem!_pos d i hi', getElem!_pos d j hj'] at this
  simpa using this

theorem isAggN : ∀ w, (isAgg 44).run Tryz.prog w = .ok true w := fun _ => by kernel_rfl
theorem sizeOfN : ∀ w, (Go.sizeOf 44).run Tryz.prog w = .ok 5 w := fun _ => by kernel_rfl

/-- slices.SortFunc at files. -/
theorem sort_nodes (g cap : Nat) (d : Array Sq) (w : World) (hH : Go.Sort.HoldsK enc5 5 w g 0 d) (hg : g < w.heap.size) (hsz : d.size ≤ 1000000000) :
    Calls Tryz.prog 49 #[.slice (some ⟨g, 0, none⟩) d.size cap, .func (.func 50) #[] #[]] w fun e w' =>
      e = .returned (.tuple #[]) ∧ ∃ d' n os, Go.Sort.PermIn 0 d.size d d' ∧ Go.Sort.SortedIn (Go.Proofs.ltOf cfN) 0 d.size d' ∧ w' = sortWorldK enc5 5 w g 0 n d' os :=
  AnyQ.slices_SortFunc Tryz.sortNodes 5 isAggN sizeOfN enc5 (fun _ => rfl) (fun x v hv => by
    simp only [enc5, encN, conv, List.mem_cons, List.mem_nil_iff, or_false] at hv
    rcases hv with rfl | rfl | rfl | rfl | rfl <;> rfl) cfN swoN 50 #[] g 0 cap d w (enters_of Tryz.func50 (by kernel_rfl) rfl) (fun _ _ _ _ x y => cmp_walk x y _) hH hg (by omega)

def boxes (w : World) (tb : Nat) : World := ((w.alloc (.cells #[Pt tb] 24)).alloc (.cells #[.slice none 0 0] 33)).alloc (.cells #[.func (.func 46) #[] #[Pt w.heap.size, Pt (w.heap.size + 1), Pt (w.heap.size + 1 + 1)]] 79)
theorem boxes_see {w : World} {tb : Nat} {L : Lay} {s : M.St} (h : TreeAt w tb L s) : SeeW (w.heap.size + 3) tb L s w.heap.size (w.heap.size + 1) (w.heap.size + 1 + 1) (boxes w tb) (.slice none 0 0) [] := by
  have hsz : (boxes w tb).heap.size = w.heap.size + 3 := by simp [boxes]
  refine ⟨h.below ((((Below.refl _ _).alloc (Nat.le_refl _) _).alloc (by simp) _).alloc (by simp; omega) _), fun k o ho => by have := h.low k o ho; omega, ⟨by omega, ?_⟩, ⟨by omega, ?_⟩, ⟨by omega, ?_⟩, h.none (by omega), ⟨by omega, by omega⟩, by omega, World.ownsRow_nil _ _ _ _, fun x hx => by cases hx⟩
  · unfold boxes
    rw [heap_alloc_old _ _ (by simp; omega), heap_alloc_old _ _ (by simp)]
    exact heap_alloc_new _ _
  · unfold boxes
    have := heap_alloc_new ((w.alloc (.cells #[Pt tb] 24)).alloc (.cells #[.slice none 0 0] 33)) (.cells #[.func (.func 46) #[] #[Pt w.heap.size, Pt (w.heap.size + 1), Pt (w.heap.size + 1 + 1)]] 79)
    simpa using this
  · unfold boxes
    rw [heap_alloc_old _ _ (by simp)]
    have := heap_alloc_new (w.alloc (.cells #[Pt tb] 24)) (.cells #[.slice none 0 0] 33)
    simpa using this

set_option maxHeartbeats 2000000 in
theorem Nodes_any (k : Int) (tb : Nat) (L : Lay) (s : M.St) (w : World) (h : TreeAt w tb L s) (hi : Inv k s) (hk : k ≤ 9000) :
    Calls Tryz.prog 18 #[Pt tb] w (NodesPost s w) := by
  obtain ⟨d, hwf⟩ := hi
  have hmf : ∀ (fn : Fn) (first cap : Array Value) (w : World), (Instr.makeFunc fn first cap).run Tryz.prog w = .ok (.func fn first cap) w := fun _ _ _ _ => rfl
  have hfew := see_few hwf hk 22
  have hsee := see_walk k d tb L s hwf (w.heap.size + 3) w.heap.size (w.heap.size + 1) (w.heap.size + 1 + 1) 22 1 [] (.slice none 0 0) [] (boxes w tb) (boxes_see h) hwf.root (fun _ => by have := hwf.droot; omega) (by omega) (by simp) (by simpa using hfew)
  have HSEE := Lib.hid hsee; clear hsee
  have HFEW := Lib.hid hfew; clear hfew
  have HWF := Lib.hid hwf; clear hwf
  have HB3 : Hid (Below w.heap.size w (boxes w tb)) := Lib.hid ((((Below.refl _ _).alloc (Nat.le_refl _) _).alloc (by simp) _).alloc (by simp; omega) _)
  have HSZ : Hid ((boxes w tb).heap.size = w.heap.size + 3) := Lib.hid (by simp [boxes])
  clear h
  go_enter Tryz.func18, Tryz.ntmps18
  go_wp2_with fail
  change Calls _ _ _ (boxes w tb) _
  (with_reducible refine HSEE.out.mono ?_)
  rintro e w1 ⟨rfl, v1, out, hs1, hp1, ht1⟩
  rw [List.nil_append] at hs1
  obtain ⟨d1, rfl⟩ := unconv out (fun x hx => by
    obtain ⟨p, c, hv, _⟩ := row_form (hs1.data x hx)
    exact ⟨p, _, c, hv⟩)
  have hlen : d1.length ≤ 1000000000 ∧ 0 < d1.length := by
    have h1 := hp1.length_eq
    have h2 := HFEW.out
    have h3 : 0 < (s.see 22 1 []).length := by rw [see_succ]; simp
    simp only [List.length_map] at h1
    omega
  have hrow := hs1.row
  obtain ⟨g, cap, rfl⟩ : ∃ g cap, v1 = .slice (some ⟨g, 0, none⟩) d1.length cap := by
    rcases hrow.2 with ⟨_, h0⟩ | ⟨g, cap, cur, hv, _⟩
    · rw [List.length_map] at h0; omega
    · exact ⟨g, cap, by rw [hv, List.length_map]⟩
  have hrow2 : w1.ownsRow (w.heap.size + 3) 44 5 (.slice (some ⟨g, 0, none⟩) d1.toArray.size cap) d1.toArray.size (cellsN (d1.toArray.toList.map conv)) := by simpa using hrow
  have hgl := World.ownsRow.lt hrow2 g rfl
  have hsort := sort_nodes g cap d1.toArray w1 (holds_nodes hrow2) hgl.2 (by simpa using hlen.1)
  rw [show d1.toArray.size = d1.length by simp] at hsort
  have HSORT := Lib.hid hsort; clear hsort
  have HROW := Lib.hid hrow2; clear hrow2 hrow
  have HP1 := Lib.hid hp1; clear hp1
  have HT1 := Lib.hid ht1; clear ht1
  obtain ⟨hbo, -, -⟩ := hs1.boAt
  have HS1 := Lib.hid hs1; clear hs1
  have HGL := Lib.hid hgl; clear hgl
  have HLEN := Lib.hid hlen; clear hlen
  go_wp2_with fail
  (with_reducible refine HSORT.out.mono ?_)
  rintro e w2 ⟨rfl, d2, n2, os2, hpi, hsi, rfl⟩
  obtain ⟨hsz2, hperm2⟩ := perm_out (d := d1.toArray) (by simpa using hpi)
  have hsorted := sorted_out (d := d2) (by rw [hsz2]; simpa using hsi)
  obtain ⟨hr2, hg2⟩ := sorted_nodes HROW.out hsz2 n2 os2
  have HR2 := Lib.hid hr2; clear hr2
  have HG2 := Lib.hid hg2
  have hbl : (w.heap.size + 1) < w.heap.size + 3 := by omega
  have hbo2 : (sortWorldK enc5 5 w1 g 0 n2 d2 os2).cell? ⟨w.heap.size + 1, 0, none⟩ = some (.slice (some ⟨g, 0, none⟩) d1.length cap) :=
    (World.cell?_of_block (a := ⟨w.heap.size + 1, 0, none⟩) (hg2.block _ (Nat.lt_of_lt_of_le hbl HS1.out.size) (fun e => by have := HGL.out.1; simp at e; omega))).trans hbo
  have HPI := Lib.hid hperm2; clear hpi hperm2
  have HSI := Lib.hid hsorted; clear hsi hsorted
  have HS2 := Lib.hid hsz2; clear hsz2
  clear hg2 hbl hbo
  generalize sortWorldK enc5 5 w1 g 0 n2 d2 os2 = w3 at *
  go_wp2_with fail
  go_ret
  have hbel1 : Below w.heap.size w w1 := HB3.out.trans (Tch.below HT1.out (by have := HSZ.out; omega) (fun k hk hG => by rcases hG with e | ⟨e, _⟩ <;> omega))
  have hbel2 : Below w.heap.size w w3 := hbel1.grown HG2.out hbel1.size (fun q e => by have := HGL.out.1; cases e; omega)
  have hl2 : (d2.toList.map conv).length = d1.length := by rw [List.length_map, Array.length_toList, HS2.out]; simp
  refine ⟨_, d2.toList.map conv, rfl, ?_, fun x hx => ?_, ?_, ?_, hbel2⟩
  · have := row_lower HR2.out (show w.heap.size ≤ w.heap.size + 3 by omega)
    rw [hl2]
    simpa using this
  · obtain ⟨y, hy, rfl⟩ := List.mem_map.1 hx
    have hm : conv y ∈ d1.map conv := List.mem_map.2 ⟨y, by have := HPI.out.mem_iff.1 hy; simpa using this, rfl⟩
    have hd := HS1.out.data _ hm
    refine row_lower (row_same hd fun k hk => HG2.out.block k (World.ownsRow.lt hd k hk).2 (fun e => ?_)) (show w.heap.size ≤ w.heap.size + 3 by omega)
    obtain ⟨c1, e1⟩ := row_block hd hk
    obtain ⟨c2, e2⟩ := row_block HROW.out (k := g) rfl
    cases e
    rw [e1] at e2
    simp at e2
  · have h1 := HPI.out
    have h2 := HP1.out
    rw [List.map_map] at h2 ⊢
    exact (h1.map _).trans (by simpa using h2)
  · rw [List.map_map]
    have := HSI.out
    exact this
end Go.Proofs.YtpfaccpmgldkeaaGreatDoor
