/- Contracts of a node's and an entry's functions. -/
import Derived.Test.YtpfaccpmgldkeaaGreatDoorRep
import Derived.Test.YtpfaccpmgldkeaaGreatDoorTabC
import Derived.Test.YtpfaccpmgldkeaaGreatDoorPatl
import Derived.Deep.RegionHeld3
import Derived.Deep.DeepCutAuto
set_option linter.unusedVariables false
set_option linter.unusedSimpArgs false
namespace Go.Proofs.YtpfaccpmgldkeaaGreatDoor
open Go.RowKit Go.MapKept Go.ChangeMaps
set_option maxRecDepth 100000

theorem need_any (n : Int) (w : World) (h1 : -1000000000 ≤ n) (h2 : n ≤ 1000000000) :
    Calls Tryz.prog 118 #[I n] w fun e w' => e = .returned (I (M.need n)) ∧ w' = w := by
  unfold M.need
  by_cases g1 : n < 1
  · rw [if_pos g1]
    go_enter Tryz.func118, Tryz.ntmps118
    go_wp2
    go_ret
    exact ⟨rfl, rfl⟩
  · rw [if_neg g1]
    by_cases g2 : 20736 ≤ n
    · rw [if_pos g2]
      go_enter Tryz.func118, Tryz.ntmps118
      go_wp2
      go_ret
      exact ⟨rfl, rfl⟩
    · rw [if_neg g2]
      go_enter Tryz.func118, Tryz.ntmps118
      go_wp2
      go_ret
      exact ⟨by simp; omega, rfl⟩

set_option maxRecDepth 100000 in
theorem above_any (tb : Nat) (L : Lay) (s : M.St) (n : Int) (w : World) (h : TreeAt w tb L s) (hn : s.has n = true) :
    Calls Tryz.prog 143 #[Pt tb, I n] w fun e w' => e = .returned (I (s.above n)) ∧ w' = w := by
  obtain ⟨t0, -, -, -, -, -, htb⟩ := h.cells5
  obtain ⟨dv, wv, mv, hnode⟩ := h.nodeOf hn
  obtain ⟨-, -, -, -, -, -, n6, -, -, hnb⟩ := hnode.cells8
  have hl := h.look hn
  have H := Lib.hid h; clear h
  have HN := Lib.hid hnode; clear hnode
  unfold M.St.above
  generalize (s.nd n) = x at *
  by_cases ha : x.above = 0
  all_goals
    go_enter Tryz.func143, Tryz.ntmps143
    go_wp2
    go_ret
    exact ⟨by simp [ha], rfl⟩

/- BLOCKS -/
theorem place_any (k : Nat) (w : World) (h : k < 1000000) :
    Calls Tryz.prog 91 #[I k] w fun e w' => w' = w ∧ ∃ l a c : Int, e = .returned (.tuple #[I l, I a, I c]) ∧ (l = 1 ↔ 6 ≤ k ∧ k < 18) ∧ (l = 2 ↔ 18 ≤ k ∧ k < 162) ∧ (l = 2 → a = M.secondOf k) := by
  by_cases h1 : 162 ≤ k
  · go_enter Tryz.func91, Tryz.ntmps91
    go_wp2
    go_ret3
    exact ⟨rfl, -1, -1, -1, rfl, by omega, by omega, by omega⟩
  · by_cases h2 : k < 6
    · go_enter Tryz.func91, Tryz.ntmps91
      go_wp2
      go_ret3
      exact ⟨rfl, _, _, _, rfl, by omega, by omega, by omega⟩
    · by_cases h3 : k < 18
      · go_enter Tryz.func91, Tryz.ntmps91
        go_wp2
        go_ret3
        exact ⟨rfl, _, _, _, rfl, by omega, by omega, by omega⟩
      · go_enter Tryz.func91, Tryz.ntmps91
        go_wp2
        go_ret3
        exact ⟨rfl, _, _, _, rfl, by omega, by omega, fun _ => by unfold M.secondOf; omega⟩

theorem Row.form {w : World} {ow : Nat → Option Own} {o : Own} {e : TypeId} {v : Value} {xs : List Value} (h : Row w ow o e v xs) :
    (v = .slice none 0 0 ∧ xs = []) ∨ ∃ g c, v = .slice (some ⟨g, 0, none⟩) xs.length c ∧ g < w.heap.size ∧ ow g = some o ∧ xs.length ≤ c ∧ c ≤ maxLen ∧ (∀ j, w.frozen? ⟨g, j, none⟩ = false) ∧ ∀ j u, xs[j]? = some u → w.cell? ⟨g, j, none⟩ = some u := by
  rcases h.row.2 with ⟨h1, h2⟩ | ⟨g, cap, cur, h1, h2, h3, h4, h5, _⟩
  · exact Or.inl ⟨h1, List.eq_nil_of_length_eq_zero h2⟩
  · subst h1
    refine Or.inr ⟨g, cap, rfl, (Array.getElem?_eq_some_iff.1 h3).1, h.own g rfl, h4, h5, fun j => frozen_of_row w g _ _ _ h3, fun j u hu => ?_⟩
    have := h.row.cells rfl j u hu
    rwa [Addr.add_lit, Nat.zero_add] at this

def cntB (w : List Bool) (k : Nat) : Nat := ((w.take k).filter id).length
def oneB (w : List Bool) (k : Nat) : Bool := (List.range k).any fun j => w.getD j false && decide (6 ≤ j ∧ j < 18)
def twoB (w : List Bool) (k : Nat) : Bool := (List.range k).any fun j => w.getD j false && decide (18 ≤ j ∧ j < 162)
def secB (w : List Bool) (k a : Nat) : Bool := (List.range k).any fun j => w.getD j false && decide (18 ≤ j ∧ j < 162) && decide (M.secondOf j = a)
def secC (w : List Bool) (k : Nat) : Array Value := Array.ofFn (n := 12) fun a => .bool (secB w k a)

theorem cntB_yes {w : List Bool} {k : Nat} (h : w[k]? = some true) : cntB w (k + 1) = cntB w k + 1 := by
  unfold cntB
  rw [List.take_add_one, h]
  simp
theorem cntB_no {w : List Bool} {k : Nat} (h : w[k]? = some false) : cntB w (k + 1) = cntB w k := by
  unfold cntB
  rw [List.take_add_one, h]
  simp
theorem oneB_succ (w : List Bool) (k : Nat) : oneB w (k + 1) = (oneB w k || (w.getD k false && decide (6 ≤ k ∧ k < 18))) := by simp [oneB, List.range_succ]
theorem twoB_succ (w : List Bool) (k : Nat) : twoB w (k + 1) = (twoB w k || (w.getD k false && decide (18 ≤ k ∧ k < 162))) := by simp [twoB, List.range_succ]
theorem secB_succ (w : List Bool) (k a : Nat) : secB w (k + 1) a = (secB w k a || (w.getD k false && decide (18 ≤ k ∧ k < 162) && decide (M.secondOf k = a))) := by simp [secB, List.range_succ]
theorem cntB_le (w : List Bool) (k : Nat) : cntB w k ≤ k := by
  unfold cntB
  have := List.length_filter_le id (w.take k)
  simp at this ⊢
  omega

def b01 (b : Bool) : Int := if b then 1 else 0
def secN (w : List Bool) (j : Nat) : Nat := ((List.range j).filter fun a => secB w w.length a).length
theorem secN_succ (w : List Bool) (j : Nat) : (secN w (j + 1) : Int) = secN w j + b01 (secB w w.length j) := by
  unfold secN b01
  rw [List.range_succ, List.filter_append, List.length_append]
  cases h : secB w w.length j <;> simp [h]
theorem secN_le (w : List Bool) (j : Nat) : secN w j ≤ j := by
  have := List.length_filter_le (fun a => secB w w.length a) (List.range j)
  simpa [secN] using this
theorem fileBlocks_eq (w : List Bool) : M.Nd.fileBlocks w = cntB w w.length + secN w 12 + b01 (oneB w w.length) + b01 (twoB w w.length) := by
  unfold M.Nd.fileBlocks cntB secN oneB twoB secB b01
  simp

theorem size132 (c : Array Value) (h : c.size = 12) : (Tryz.prog.info? 132).map (fun i => i.size) = some c.size := by
  rw [h]
  kernel_rfl
theorem secC_size (w : List Bool) (k : Nat) : (secC w k).size = 12 := by simp [secC]
theorem secC_get (w : List Bool) (k a : Nat) (h : a < 12) : (secC w k)[a]? = some (.bool (secB w k a)) := by simp [secC, h]
theorem size4 : (Tryz.prog.info? 4).map (fun i => i.size) = some 1 := by kernel_rfl
theorem run_index_sec (l : List Bool) (m k : Nat) (hk : k < 12) (w : World) :
    (Instr.index 132 (.agg (secC l m)) (.int .i64 k)).run Tryz.prog w = .ok (.bool (secB l m k)) w := by
  have hs := size4
  cases hq : Tryz.prog.info? 4 with
  | none => simp [hq] at hs
  | some i =>
    have hs' : i.size = 1 := by simpa [hq] using hs
    have hx := secC_get l m k hk
    simp [Instr.index, asIntOf, Sem.run_bind, run_underlying Tryz.underlying132, run_underlying Tryz.underlying4, part, isAgg, sizeOf, typeInfo, hq, hs', hx, hk]

theorem secC_no {w : List Bool} {k : Nat} (h : w.getD k false = false ∨ ¬ (18 ≤ k ∧ k < 162)) : secC w (k + 1) = secC w k := by
  unfold secC
  congr 1
  funext a
  rw [secB_succ]
  rcases h with h | h
  · rw [h]; simp
  · rw [decide_eq_false h]; simp
theorem secC_yes {w : List Bool} {k : Nat} (h : w.getD k false = true) (hk : 18 ≤ k ∧ k < 162) : secC w (k + 1) = (secC w k).setIfInBounds (M.secondOf k) (.bool true) := by
  apply Array.ext_getElem?
  intro a
  rw [Array.getElem?_setIfInBounds, secC_size]
  have h2 : M.secondOf k < 12 := by unfold M.secondOf; omega
  by_cases ha : a < 12
  · rw [secC_get _ _ _ ha, secB_succ, h]
    by_cases e : M.secondOf k = a
    · subst e
      rw [if_pos rfl, if_pos h2]
      simp [hk.1, hk.2]
    · rw [if_neg e, secC_get _ _ _ ha]
      simp [e]
  · rw [if_neg (by omega), Array.getElem?_eq_none (by rw [secC_size]; omega), Array.getElem?_eq_none (by rw [secC_size]; omega)]

theorem nd_blocks {x : M.Nd} (h2 : x.kind ≠ 2) (h3 : x.kind ≠ 3) : x.blocks = M.Nd.fileBlocks x.written := by simp [M.Nd.blocks, h2, h3]

theorem blocks_any (b : Nat) (ow : Nat → Option Own) (n : Int) (x : M.Nd) (w : World) (h : NodeIn w b ow n x) (hw : x.written.length ≤ 1000) (hm : 0 ≤ x.most ∧ x.most ≤ 1000000) :
    Calls Tryz.prog 56 #[Pt b] w fun e w' => e = .returned (I x.blocks) ∧ Below w.heap.size w w' := by
  obtain ⟨dv, wv, mv, hnode⟩ := h
  obtain ⟨n0, -, n2, -, n4, -, -, -, -, hnb⟩ := hnode.cells8
  by_cases h2 : x.kind = 2
  · have HN := Lib.hid hnode; clear hnode
    obtain ⟨hm1, hm2⟩ := hm
    have e : x.blocks = (x.most + 3) / 4 := by unfold M.Nd.blocks; rw [if_pos h2]
    rw [e]
    go_enter Tryz.func56, Tryz.ntmps56
    go_wp2
    go_ret
    exact ⟨by simp; omega, Below.refl _ _⟩
  · by_cases h3 : x.kind = 3
    · have HN := Lib.hid hnode; clear hnode
      have e : x.blocks = 1 := by unfold M.Nd.blocks; rw [if_neg h2, if_pos h3]
      rw [e]
      go_enter Tryz.func56, Tryz.ntmps56
      go_wp2
      go_ret
      exact ⟨rfl, Below.refl _ _⟩
    · rw [nd_blocks h2 h3]
      have hr := hnode.writ.form
      generalize x.written = l at *
      have HN := Lib.hid hnode; clear hnode hm
      have e2 : (x.kind == 2) = false := by simpa using h2
      have e3 : (x.kind == 3) = false := by simpa using h3
      clear h2 h3
      have hform : ∃ p c, wv = .slice p l.length c ∧ ∀ (j : Nat) (t : Bool), l[j]? = some t → ∃ g, p = some ⟨g, 0, none⟩ ∧ g < w.heap.size ∧ w.cell? ⟨g, j, none⟩ = some (.bool t) := by
        rcases hr with ⟨h1, h2⟩ | ⟨g, c, h1, hg, -, -, -, -, hc⟩
        · have : l = [] := by simpa using h2
          subst this
          exact ⟨none, 0, h1, fun j t ht => by simp at ht⟩
        · exact ⟨some ⟨g, 0, none⟩, c, by simpa using h1, fun j t ht => ⟨g, rfl, hg, hc j _ (by simp [ht])⟩⟩
      clear hr
      obtain ⟨p, c, rfl, hc⟩ := hform
      have HC := Lib.hid hc; clear hc
      generalize hN : l.length = N at *
      have HNN := Lib.hid hN; clear hN
      go_enter Tryz.func56, Tryz.ntmps56
      go_wp2_with fail
      go_loopw [3, 4, 5, 7, 8, 9, 10, 11, 34] (fun many one two _ _ _ _ _ i wr => ∃ k : Nat, k ≤ N ∧ i = .int .i64 k ∧ many = .int .i64 (cntB l k) ∧ one = .int .i64 (b01 (oneB l k)) ∧ two = .int .i64 (b01 (twoB l k)) ∧ Below w.heap.size w wr ∧ ∃ ty, wr.heap[w.heap.size]? = some (.cells (secC l k) ty (0, 0))) (fun _ _ _ _ _ _ _ _ i _ => N - (intOf i).toNat)
      case atStart => exact ⟨0, by omega, rfl, rfl, rfl, rfl, (Below.refl _ _).alloc (Nat.le_refl _) _, _, by rw [heap_alloc_new]; rfl⟩
      case round =>
        obtain ⟨k, hk, rfl, rfl, rfl, rfl, hbel, ty, harr⟩ := hrel
        have HB := Lib.hid hbel; clear hbel
        have HA := Lib.hid harr; clear harr
        by_cases hlt : k < N
        · obtain ⟨t, ht⟩ : ∃ t, l[k]? = some t := ⟨l[k]'(by have := HNN.out; omega), by simp⟩
          obtain ⟨g, rfl, hg, hcell⟩ := HC.out k t ht
          have hgd : l.getD k false = t := by simp [ht]
          have HG := Lib.hid hgd; clear hgd
          have hcell2 := cell_later HB.out hcell
          have hcl := cntB_le l k
          have HT := Lib.hid ht; clear ht
          cases t
          · go_wp2_with fail
            go_roundw
            case rel => exact ⟨k + 1, by omega, by go_num, by rw [cntB_no HT.out], by rw [oneB_succ, HG.out]; simp, by rw [twoB_succ, HG.out]; simp, HB.out, ty, by rw [secC_no (Or.inl HG.out)]; exact HA.out⟩
            case measure => simp [intOf]; omega
          · go_wp2_with fail
            (with_reducible refine (place_any k _ (by omega)).mono ?_)
            rintro e w1 ⟨rfl, lv, a, c, rfl, hl1, hl2, ha⟩
            have HLA := Lib.hid ha; clear ha
            by_cases g1 : lv = 1
            · have HL1 := Lib.hid (hl1.1 g1)
              clear hl1 hl2
              subst g1
              go_wp2_with fail
              go_roundw
              case rel => exact ⟨k + 1, by omega, by go_num, by rw [cntB_yes HT.out]; simp, by rw [oneB_succ, HG.out, decide_eq_true HL1.out]; simp [b01], by rw [twoB_succ, HG.out, decide_eq_false (by have := HL1.out; omega)]; simp, HB.out, ty, by rw [secC_no (Or.inr (by have := HL1.out; omega))]; exact HA.out⟩
              case measure => simp [intOf]; omega
            · by_cases g2 : lv = 2
              · have HL2 := Lib.hid (hl2.1 g2)
                have HL1 := Lib.hid (fun h => g1 (hl1.2 h))
                have hA := HLA.out g2
                have hA12 : M.secondOf k < 12 := by have := HL2.out; unfold M.secondOf; omega
                have hf : w1.frozen? ⟨w.heap.size, M.secondOf k, none⟩ = false := frozen_of_row _ _ _ _ _ HA.out
                have hce := cell_of_row _ w.heap.size (M.secondOf k) _ _ _ HA.out
                rw [secC_get _ _ _ hA12] at hce
                clear hl1 hl2 g1
                subst g2 hA
                generalize hsk : M.secondOf k = q at *
                have HSK := Lib.hid hsk; clear hsk
                go_wp2_with fail
                go_roundw
                case rel => exact ⟨k + 1, by omega, by go_num, by rw [cntB_yes HT.out]; simp, by rw [oneB_succ, HG.out, decide_eq_false HL1.out]; simp, by rw [twoB_succ, HG.out, decide_eq_true HL2.out]; simp [b01], HB.out.setCell (by simp) _, ty, by rw [secC_yes HG.out HL2.out, HSK.out, heap_setCell_same _ _ _ _ _ _ HA.out]⟩
                case measure => simp [intOf]; omega
              · have HL2 := Lib.hid (fun h => g2 (hl2.2 h))
                have HL1 := Lib.hid (fun h => g1 (hl1.2 h))
                clear hl1 hl2
                go_wp2_with fail
                go_roundw
                case rel => exact ⟨k + 1, by omega, by go_num, by rw [cntB_yes HT.out]; simp, by rw [oneB_succ, HG.out, decide_eq_false HL1.out]; simp, by rw [twoB_succ, HG.out, decide_eq_false HL2.out]; simp, HB.out, ty, by rw [secC_no (Or.inr HL2.out)]; exact HA.out⟩
                case measure => simp [intOf]; omega
        · have hkN : k = N := by omega
          subst hkN
          clear hlt hk
          have hcl := cntB_le l k
          have hix := fun j hj w => run_index_sec l k j hj w
          have HIX := Lib.hid hix; clear hix
          have HKK := Lib.hid (show l.length = k from HNN.out)
          have H132 := Lib.hid (size132 (secC l k) (secC_size _ _))
          go_wp2_with (refine wpList_load_row rfl 132 (.tmp 6) rfl w.heap.size rfl ty (secC l k) (0, 0) (.array 12 4) HA.out Tryz.underlying132 rfl H132.out ?_)
          go_loopw [3, 13, 58] (fun many _ i wr => ∃ j : Nat, j ≤ 12 ∧ i = .int .i64 j ∧ many = .int .i64 ((cntB l k : Int) + secN l j) ∧ Below w.heap.size w wr) (fun _ _ i _ => 12 - (intOf i).toNat)
          case atStart => exact ⟨0, by omega, rfl, by simp [secN], HB.out⟩
          case round =>
            obtain ⟨j, hj, rfl, rfl, hbel2⟩ := hrel
            have HB2 := Lib.hid hbel2; clear hbel2
            have hsn := secN_le l j
            by_cases hlt : j < 12
            · have hx := HIX.out j hlt
              have hss := secN_succ l j
              rw [HKK.out] at hss
              have HSS := Lib.hid hss; clear hss
              cases hb : secB l k j
              all_goals
                have HBB := Lib.hid hb
                rw [hb] at hx
                clear hb
                go_wp2_with fail
                go_roundw
                case rel => exact ⟨j + 1, by omega, by go_num, by rw [HSS.out, HBB.out]; simp [b01] <;> omega, HB2.out⟩
                case measure => simp [intOf]; omega
            · have : j = 12 := by omega
              subst this
              have o1 : b01 (oneB l k) = 0 ∨ b01 (oneB l k) = 1 := by unfold b01; split <;> simp
              have o2 : b01 (twoB l k) = 0 ∨ b01 (twoB l k) = 1 := by unfold b01; split <;> simp
              have hfb := fileBlocks_eq l
              rw [HKK.out] at hfb
              have HFB := Lib.hid hfb; clear hfb
              generalize b01 (oneB l k) = x1 at *
              generalize b01 (twoB l k) = x2 at *
              clear hlt
              go_wp2_with fail
              go_ret
              exact ⟨by rw [HFB.out]; rfl, HB2.out⟩

theorem NodeIn.below {w w' : World} {b : Nat} {ow : Nat → Option Own} {n : Int} {x : M.Nd} (h : NodeIn w b ow n x) (hl : ∀ k o, ow k = some o → k < w.heap.size) (hb : Below w.heap.size w w') : NodeIn w' b ow n x := by
  obtain ⟨dv, wv, mv, h⟩ := h
  exact ⟨dv, wv, mv, h.keep (fun k j hk => hb.block k (hl k _ hk)) (fun _ _ h => h)⟩

theorem greatest_any (b : Nat) (ow : Nat → Option Own) (n : Int) (x : M.Nd) (w : World) (h : NodeIn w b ow n x) (hw : x.written.length ≤ 1000) (hm : 0 ≤ x.most ∧ x.most ≤ 1000000) (hl : ∀ k o, ow k = some o → k < w.heap.size) :
    Calls Tryz.prog 62 #[Pt b] w fun e w' => e = .returned (I x.greatest) ∧ Below w.heap.size w w' := by
  have HB := Lib.hid (fun (w' : World) (hb : Below w.heap.size w w') => blocks_any b ow n x w' (h.below hl hb) hw hm)
  obtain ⟨dv, wv, mv, hnode⟩ := h
  obtain ⟨-, -, -, -, -, -, -, n7, nf, hnb⟩ := hnode.cells8
  unfold M.Nd.greatest
  clear hnode hw hm hl
  generalize x.blocks = bl at *
  generalize x.high = hi at *
  go_enter Tryz.func62, Tryz.ntmps62
  go_wp2_with fail
  go_region_held3 (fun w' => w'.cell? ⟨b, 7, none⟩ = some (I hi) ∧ Below w.heap.size w w') (first | exact ⟨by assumption, Below.refl _ _⟩ | exact ⟨by assumption, (Below.refl _ _).drew⟩ | exact ⟨cell_later (by assumption) (And.left (by assumption)), Below.trans (And.right (by assumption)) (Below.mono (by assumption) (Below.size (And.right (by assumption))))⟩ | go_keep)
    (first
      | (go_at_call 56; (with_reducible refine (HB.out _ ?_).mono ?_); (first | exact And.right (by assumption) | assumption); rintro e w' ⟨rfl, hb2⟩))
  go_wp2
  go_ret
  exact ⟨rfl, And.right (by assumption)⟩
end Go.Proofs.YtpfaccpmgldkeaaGreatDoor
