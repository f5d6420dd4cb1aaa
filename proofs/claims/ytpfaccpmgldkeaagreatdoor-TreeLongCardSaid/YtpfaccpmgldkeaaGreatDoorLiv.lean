/- Contracts of Number and Need. Contract of New. A tree that a law holds: what each call of Do leaves. -/
import Derived.Test.YtpfaccpmgldkeaaGreatDoorMark
import Derived.Test.YtpfaccpmgldkeaaGreatDoorNodes
set_option linter.unusedVariables false
set_option linter.unusedSimpArgs false
namespace Go.Proofs.YtpfaccpmgldkeaaGreatDoor
open Go.RowKit Go.MapKept Go.ChangeMaps
set_option maxRecDepth 100000

theorem number_any (tb : Nat) (L : Lay) (k : Int) (s : M.St) (p : M.Bs) (w : World) (h : TreeAt w tb L s) (hwf : Wf k s) (hl : p.length ≤ 1000000) (hm : GMax w) :
    Calls Tryz.prog 22 #[Pt tb, S p] w fun e w' => e = .returned (I (s.number p)) ∧ Below w.heap.size w w' := by
  have HF := Lib.hid (find_any tb L s p false w h hwf.cl hl hm)
  clear h hm
  unfold M.St.number
  go_enter Tryz.func22, Tryz.ntmps22
  go_wp2_with fail
  (with_reducible refine HF.out.mono ?_)
  rintro e w1 ⟨rfl, hb⟩
  have HB := Lib.hid hb; clear hb
  unfold M.Spot.val
  go_wp2_with fail
  go_ret
  exact ⟨rfl, HB.out.alloc HB.out.size _⟩

theorem blocks_bd {x : M.Nd} (h : Small x) : 0 ≤ x.blocks ∧ x.blocks ≤ 100000 := by
  have h1 := h.most
  have h3 := h.written
  unfold M.Nd.blocks
  split
  · omega
  · split
    · omega
    · rw [fileBlocks_eq]
      have a1 := cntB_le x.written x.written.length
      have a2 := secN_le x.written 12
      have a3 : ∀ b, 0 ≤ b01 b ∧ b01 b ≤ 1 := fun b => by unfold b01; split <;> omega
      have a4 := a3 (oneB x.written x.written.length)
      have a5 := a3 (twoB x.written x.written.length)
      omega

/-- The blocks of some nodes. -/
def sumB (s : M.St) (l : List Int) : Int := (l.map fun n => (s.nd n).blocks).sum
theorem sumB_bd {s : M.St} : ∀ (l : List Int), (∀ n ∈ l, Small (s.nd n)) → 0 ≤ sumB s l ∧ sumB s l ≤ 100000 * l.length
  | [], _ => by simp [sumB]
  | n :: l, h => by
    have ih := sumB_bd l (fun m hm => h m (List.mem_cons_of_mem _ hm))
    have hb := blocks_bd (h n List.mem_cons_self)
    unfold sumB at ih ⊢
    simp only [List.map_cons, List.sum_cons, List.length_cons]
    omega
theorem sumB_perm {s : M.St} {l l' : List Int} (h : l.Perm l') : sumB s l = sumB s l' := by
  unfold sumB
  induction h with
  | nil => rfl
  | cons x _ ih => simp [ih]
  | swap x y l => simp; omega
  | trans _ _ ih1 ih2 => exact ih1.trans ih2
theorem sumB_all {s : M.St} (hs : Srt M.ltI s.nodes) : sumB s (s.nodes.map (·.1)) = (s.nodes.map fun p => p.2.blocks).sum := by
  unfold sumB
  rw [List.map_map]
  congr 1
  apply List.map_congr_left
  intro p hp
  have : M.get s.nodes p.1 = some p.2 := get_mem (srt_keys hs) hp
  simp only [Function.comp_apply, M.St.nd, this, Option.getD_some]

def NeedPost (s : M.St) (w : World) (e : Ending) (w' : World) : Prop := e = .returned (.tuple #[I s.needS.1, I s.needS.2]) ∧ Below w.heap.size w w'

set_option maxHeartbeats 2000000 in
theorem Need_any (tb : Nat) (L : Lay) (s : M.St) (w : World) (h : TreeAt w tb L s) (hsm : ∀ n, s.has n = true → Small (s.nd n)) (hlen : s.nodes.length ≤ 100000) :
    Calls Tryz.prog 28 #[Pt tb] w (NeedPost s w) := by
  obtain ⟨t0, -, -, -, -, tf, htb⟩ := h.cells5
  have HM := Lib.hid h.nodes
  have H := Lib.hid h; clear h
  have hall : ∀ p ∈ s.nodes, s.has p.1 = true := fun p hp => by
    unfold M.St.has
    rw [get_mem (srt_keys H.out.srt) (k := p.1) (v := p.2) hp]
    rfl
  have HALL := Lib.hid hall; clear hall
  obtain ⟨T, hT⟩ : ∃ T, T = sumB s (s.nodes.map (·.1)) := ⟨_, rfl⟩
  have hTb : 0 ≤ T ∧ T ≤ 10000000000 := by
    have := sumB_bd (s := s) (s.nodes.map (·.1)) (fun n hn => by
      obtain ⟨p, hp, rfl⟩ := List.mem_map.1 hn
      exact hsm _ (HALL.out p hp))
    rw [← hT, List.length_map] at this
    omega
  have HT := Lib.hid hT; clear hT
  go_enter Tryz.func28, Tryz.ntmps28
  go_wp2_with (first | (at_range; refine wpList_range_mine rfl _ 73 rfl 3 68 Tryz.underlying73 L.mb _ rfl HM.out ?_; intro w0 hit0 hb0) | fail)
  have HIT := Lib.hid hit0; clear hit0
  have HB0 := Lib.hid hb0; clear hb0
  clear t0 tf htb
  go_frame
  go_loopw [4, 6] (fun v _ wr => ∃ left, IterAt I Pt wr w.heap.size L.mb (s.nodes.map fun p => (p.1, L.pn p.1)) left ∧ Below w.heap.size w wr ∧ v = I (T - sumB s (left.map (·.1))) ∧ (∀ p ∈ left, p ∈ s.nodes.map fun p => (p.1, L.pn p.1)) ∧ left.length ≤ 100000) (fun _ _ wr => wr.rangeLeft L.mb w.heap.size)
  case atStart =>
    refine ⟨_, HIT.out, HB0.out, ?_, fun _ h => h, by simpa using hlen⟩
    rw [List.map_map, HT.out]
    simp [sumB, Function.comp_def]
  case round =>
    obtain ⟨left, hit, hbel, rfl, hsub, hll⟩ := hrel
    have HI := Lib.hid hit; clear hit
    have HB := Lib.hid hbel; clear hbel
    have HSUB := Lib.hid hsub; clear hsub
    obtain ⟨wo, rfl⟩ : ∃ wo : World, wo = wr := ⟨_, rfl⟩
    go_wp2_with (first | (at_next; refine wpList_next_mine rfl _ rfl w.heap.size L.mb _ _ rfl HI.out ?_ ?_) | fail)
    · intro hl0
      subst hl0
      have HTO := Lib.hid (H.out.below HB.out)
      obtain ⟨t0, -, -, -, -, tf, htb⟩ := HTO.out.cells5
      have hlenm := fun ty => run_len_map (P := Tryz.prog) Tryz.underlying73 HTO.out.nodes ty
      rw [List.length_map] at hlenm
      go_wp2_with fail
      go_ret2
      refine ⟨?_, HB.out⟩
      unfold M.St.needS
      rw [← sumB_all H.out.srt, ← HT.out]
      simp [sumB]
    · intro n b left' w1 hperm hit1 hgrow hsz hen
      have HP := Lib.hid hperm; clear hperm
      have hmem := HSUB.out (n, b) (HP.out.mem_iff.2 List.mem_cons_self)
      obtain ⟨p, hp, hpe⟩ := List.mem_map.1 hmem
      obtain rfl : p.1 = n := congrArg Prod.fst hpe
      obtain rfl : L.pn p.1 = b := congrArg Prod.snd hpe
      have hhas := HALL.out p hp
      have HI1 := Lib.hid hit1; clear hit1
      have HB1 := Lib.hid (Below.iter HB.out HI.out (Nat.le_refl _) HB.out.size hgrow); clear hgrow hsz
      have hs2 := hsm _ hhas
      have hbd := blocks_bd hs2
      have HG := Lib.hid (blocks_any (L.pn p.1) L.ow p.1 (s.nd p.1) w1 ((H.out.below HB1.out).nodeOf hhas) (by have := hs2.written; omega) (by have := hs2.most; omega))
      clear hs2 hmem hpe
      have hsum : sumB s (left.map (·.1)) = (s.nd p.1).blocks + sumB s (left'.map (·.1)) := by
        rw [sumB_perm (HP.out.map (·.1))]
        rfl
      have hl' : left.length = left'.length + 1 := by rw [HP.out.length_eq]; rfl
      have HSUB' := Lib.hid (show ∀ q ∈ left', q ∈ s.nodes.map fun p => (p.1, L.pn p.1) from fun q hq => HSUB.out q (HP.out.mem_iff.2 (List.mem_cons_of_mem _ hq)))
      have hbl := sumB_bd (s := s) (left'.map (·.1)) (fun n hn => by
        obtain ⟨q, hq, rfl⟩ := List.mem_map.1 hn
        obtain ⟨r, hr, hre⟩ := List.mem_map.1 (HSUB'.out q hq)
        have : r.1 = q.1 := congrArg Prod.fst hre
        rw [← this]
        exact hsm _ (HALL.out r hr))
      rw [List.length_map] at hbl
      rw [hsum]
      generalize hY : sumB s (left'.map (·.1)) = Y at *
      have HY := Lib.hid hY; clear hY
      generalize (s.nd p.1).blocks = X at *
      clear hsum
      go_wp2_with fail
      (with_reducible refine HG.out.mono ?_)
      rintro e w2 ⟨rfl, hb2⟩
      have HI2 := Lib.hid (HI1.out.below hb2)
      have HB2 := Lib.hid (HB1.out.trans (hb2.mono HB1.out.size)); clear hb2
      go_wp2_with fail
      go_roundw
      case rel => exact ⟨left', HI2.out, HB2.out, by rw [HY.out]; congr 1; omega, HSUB'.out, by omega⟩
      case measure => rw [HI2.out.left_eq, HI.out.left_eq]; omega
end Go.Proofs.YtpfaccpmgldkeaaGreatDoor

namespace Go.Proofs.YtpfaccpmgldkeaaGreatDoor
open Go.RowKit Go.MapKept Go.ChangeMaps
set_option maxRecDepth 100000

def NewPost (w : World) (e : Ending) (w' : World) : Prop := ∃ tb L, e = .returned (Pt tb) ∧ TreeAt w' tb L M.new ∧ Below w.heap.size w w' ∧ ∀ k, k < w.heap.size → L.ow k = none

theorem wpList_insert_mine {κ ν : Type} {d : TypeDesc} {kv : κ → Value} {vv : ν → Value} {w : World} {P : Program} {ops : Array Oper} {rest : List Oper} {o : Oper} {a : Act} {Q : Exit → Act → World → Prop} [DecidableEq κ] {lt : κ → κ → Bool} (O : LtOk lt) (K : Keys d kv) (hg : o.guard = none) (m xk xv : Operand) (t : TypeId) (hop : o.op = Op.insert t m xk xv) (k e : TypeId) (ht : P.underlying t = some (.map k e)) (hd : P.underlying k = some d)
    (b : Nat) (l : List (κ × ν)) (x : κ) (v : ν) (hm : a.eval m = .map (some b)) (hk : a.eval xk = kv x) (hv : a.eval xv = vv v) (h : MapAt d kv vv w b l) (hs : Srt lt l)
    (hK : ∀ ob, MapAt d kv vv (setBlock w b ob) b (M.put lt x v l) → wpList P ops Q rest (a.put o.dst undef) (setBlock w b ob)) :
    wpList P ops Q (o :: rest) a w := by
  refine wpList_plain hg fun K' hK' => ?_
  obtain ⟨ob, hrun, hat⟩ := run_update (P := P) (T := t) (kt := k) (et := e) O K ht hd h hs x v
  unfold Oper.wp
  simp [execOp, hop, hm, hk, hv, hrun, Result.andThen]
  exact hK' _ _ (hK ob hat)

def rootObj (b : Nat) : Obj := .cells #[I 2, .slice none 0 0, .slice none 0 0, .map (some b), I 0, I 1, I 0, I 0] 72 (0, 0)
def newW (w : World) : World := ((w.alloc (.map #[] 0)).alloc (.map #[] 0)).alloc (rootObj (w.heap.size + 1))

set_option maxHeartbeats 2000000 in
theorem new_tree (w : World) : Calls Tryz.prog 16 #[] w (NewPost w) := by
  have hmk := fun (t : TypeId) (w' : World) => run_makeMap (P := Tryz.prog) t w'
  have HN := Lib.hid (fun w1 => new_any w1)
  go_enter Tryz.func16, Tryz.ntmps16
  have h0 : MapAt (.int .i64) I Pt (newW w) w.heap.size [] := (MapAt.new _ _ _ w).same (by
    unfold newW
    rw [heap_alloc_old _ _ (by simp; omega), heap_alloc_old _ _ (by simp)])
  have HM0 := Lib.hid h0; clear h0
  go_wp2_with (first | (refine wpList_insert_mine ltI_ok intKeys rfl _ _ _ _ rfl _ _ Tryz.underlying73 Tryz.underlying3 w.heap.size [] 1 (w.heap.size + 2) rfl rfl rfl HM0.out List.Pairwise.nil ?_; intro ob hmap) | fail)
  have hz : (setBlock (newW w) w.heap.size ob).heap.size = w.heap.size + 3 := by simp [setBlock, newW]
  have HZ := Lib.hid hz; clear hz
  have HMP := Lib.hid (show MapAt (.int .i64) I Pt (setBlock (newW w) w.heap.size ob) w.heap.size (M.put M.ltI 1 (w.heap.size + 2) []) from hmap); clear hmap
  change Calls _ _ _ (setBlock (newW w) w.heap.size ob) _
  have h1 : (setBlock (newW w) w.heap.size ob).heap[w.heap.size + 1]? = some (.map #[] 0) := by
    show ((newW w).heap.setIfInBounds w.heap.size ob)[w.heap.size + 1]? = _
    rw [Array.getElem?_setIfInBounds_ne (by omega)]
    unfold newW
    rw [heap_alloc_old _ _ (by simp)]
    have := heap_alloc_new (w.alloc (.map #[] 0)) (.map #[] 0)
    rw [show (w.alloc (.map #[] 0)).heap.size = w.heap.size + 1 by simp] at this
    exact this
  have h2 : (setBlock (newW w) w.heap.size ob).heap[w.heap.size + 2]? = some (rootObj (w.heap.size + 1)) := by
    show ((newW w).heap.setIfInBounds w.heap.size ob)[w.heap.size + 2]? = _
    rw [Array.getElem?_setIfInBounds_ne (by omega)]
    unfold newW
    have := heap_alloc_new ((w.alloc (.map #[] 0)).alloc (.map #[] 0)) (rootObj (w.heap.size + 1))
    rw [show ((w.alloc (.map #[] 0)).alloc (.map #[] 0)).heap.size = w.heap.size + 2 by simp] at this
    exact this
  have h3 : Below w.heap.size w (setBlock (newW w) w.heap.size ob) := by
    refine (((((Below.refl w.heap.size w).alloc (Nat.le_refl _) (.map #[] 0)).alloc (by simp) (.map #[] 0)).alloc (by simp; omega) (rootObj (w.heap.size + 1)))).trans ⟨rfl, rfl, rfl, by simp [setBlock, newW], fun k hk => ?_⟩
    show ((newW w).heap.setIfInBounds w.heap.size ob)[k]? = _
    rw [Array.getElem?_setIfInBounds_ne (by omega)]
    rfl
  have H1 := Lib.hid h1; clear h1
  have H2 := Lib.hid h2; clear h2
  have H3 := Lib.hid h3; clear h3
  generalize setBlock (newW w) w.heap.size ob = W at *
  (with_reducible refine (HN.out _).mono ?_)
  rintro e w1 ⟨rfl, hf, hb⟩
  rw [HZ.out] at hf
  have HF := Lib.hid hf; clear hf
  have HB := Lib.hid hb; clear hb
  go_wp2_with fail
  go_ret
  have hsz : w.heap.size + 3 < w1.heap.size := TabAt.lt HF.out
  have hbl : ∀ q, q < W.heap.size → w1.heap[q]? = W.heap[q]? := fun q hq => HB.out.block q hq
  have hzz := HZ.out
  refine ⟨w1.heap.size, ⟨w.heap.size, w.heap.size + 3, fun _ => w.heap.size + 2, fun q => if q = w.heap.size then some .nodes else if q = w.heap.size + 1 then some (.of 1 3) else if q = w.heap.size + 2 then some (.of 1 0) else if q = w.heap.size + 3 then some .fds else if q = w1.heap.size then some .tree else none⟩, rfl, ?_, ?_, ?_⟩
  · refine ⟨?_, ?_, by simp, ?_, ?_, ?_, ?_, ?_, ?_⟩
    · have := heap_alloc_new w1 (.cells #[.map (some w.heap.size), I 1, Pt W.heap.size, I 0, I 0] 77)
      refine this.trans ?_
      simp only [hzz]
      rfl
    · simp only
      rw [if_neg (by omega), if_neg (by omega), if_neg (by omega), if_neg (by omega)]; simp
    · simp only
      rw [if_neg (by omega), if_neg (by omega), if_neg (by omega)]; simp
    · refine HMP.out.same ?_
      rw [heap_alloc_old _ _ (by omega), hbl _ (by omega)]
    · exact List.pairwise_singleton _ _
    · exact HF.out.same (heap_alloc_old _ _ (by omega))
    · intro n x hx
      have hx' : n = 1 ∧ x = { kind := 2, links := 1 } := by
        unfold M.get M.new at hx
        by_cases e : (1 : Int) = n
        · subst e
          simp at hx
          exact ⟨rfl, hx.symm⟩
        · simp [e] at hx
      obtain ⟨rfl, rfl⟩ := hx'
      refine ⟨.slice none 0 0, .slice none 0 0, .map (some (w.heap.size + 1)), ?_, ?_, Or.inl ⟨by decide, Row.nil _ _ _ _⟩, Row.nil _ _ _ _, Or.inl ⟨rfl, List.Pairwise.nil, w.heap.size + 1, rfl, ?_, ?_⟩⟩
      · rw [heap_alloc_old _ _ (by simp only; omega), hbl _ (by simp only; omega)]
        exact H2.out
      · simp only
        rw [if_neg (by omega), if_neg (by omega)]; simp
      · simp only
        rw [if_neg (by omega)]; simp
      · refine ⟨#[], 0, ?_, stamped_empty _, by simp⟩
        rw [heap_alloc_old _ _ (by omega), hbl _ (by omega)]
        exact H1.out
    · intro q o hq
      simp only at hq
      have hs : (w1.alloc (.cells #[.map (some w.heap.size), I 1, Pt W.heap.size, I 0, I 0] 77)).heap.size = w1.heap.size + 1 := by simp
      show q < (w1.alloc _).heap.size
      rw [hs]
      by_cases e1 : q = w.heap.size
      · omega
      · by_cases e2 : q = w.heap.size + 1
        · omega
        · by_cases e3 : q = w.heap.size + 2
          · omega
          · by_cases e4 : q = w.heap.size + 3
            · omega
            · by_cases e5 : q = w1.heap.size
              · omega
              · simp [e1, e2, e3, e4, e5] at hq
  · exact ((H3.out.trans (HB.out.mono H3.out.size))).alloc (by omega) _
  · intro q hq
    simp only
    rw [if_neg (by omega), if_neg (by omega), if_neg (by omega), if_neg (by omega), if_neg (by omega)]
end Go.Proofs.YtpfaccpmgldkeaaGreatDoor

namespace Go.Proofs.YtpfaccpmgldkeaaGreatDoor
open Go.RowKit Go.MapKept Go.ChangeMaps
set_option maxRecDepth 100000

/-- A tree that a law holds; w0: the world when the law began. -/
structure Liv (w0 w : World) (tb : Nat) (L : Lay) (k : Int) (s : M.St) : Prop where
  tree : TreeAt w tb L s
  inv : Inv k s
  gmax : GMax w
  h0 : L.ow 0 = none
  below : Below w0.heap.size w0 w
  old : ∀ b, b < w0.heap.size → L.ow b = none

theorem GMax.lt {w : World} (h : GMax w) : 0 < w.heap.size := by
  obtain ⟨m, hm⟩ := h
  exact World.block_lt_of_cell? w _ hm

section
variable {w0 w w' : World} {tb : Nat} {L : Lay} {k : Int} {s : M.St}
theorem Liv.keep (h : Liv w0 w tb L k s) (hb : Below w.heap.size w w') : Liv w0 w' tb L k s := ⟨h.tree.below hb, h.inv, h.gmax.below hb, h.h0, h.below.trans (hb.mono h.below.size), h.old⟩

/-- What a law has of New. -/
def NewLiv (w0 w : World) (e : Ending) (w' : World) : Prop := ∃ tb L, e = .returned (Pt tb) ∧ Liv w0 w' tb L 0 M.new ∧ Below w.heap.size w w' ∧ ∀ b, b < w.heap.size → L.ow b = none
theorem liv_new (hb : Below w0.heap.size w0 w) (hg : GMax w) : Calls Tryz.prog 16 #[] w (NewLiv w0 w) :=
  (new_tree w).mono fun e w' ⟨tb, L, he, ht, hb2, ho⟩ => ⟨tb, L, he, ⟨ht, Inv.new, hg.below hb2, ho _ hg.lt, hb.trans (hb2.mono hb.size), fun b hb' => ho b (Nat.lt_of_lt_of_le hb' hb.size)⟩, hb2, ho⟩

/-- What a law has of Do. -/
structure DoLeft (w0 w : World) (tb : Nat) (L : Lay) (k : Int) (r : M.Ans × M.St) (p : Option Addr) (n c : Nat) (q : Option Addr) (m d : Nat) (w' : World) (L' : Lay) : Prop where
  liv : Liv w0 w' tb L' (k + 2) r.2
  data : w'.ownsRow w.heap.size 5 1 (.slice p n c) r.1.data.length (r.1.data.map U8)
  names : w'.ownsRow w.heap.size 9 1 (.slice q m d) r.1.names.length (r.1.names.map S)
  free : ∀ b, (Value.slice p n c).ownBlock = some b ∨ (Value.slice q m d).ownBlock = some b → L'.ow b = none
  kept : ∀ b, b < w.heap.size → L'.ow b = L.ow b
  tch : Tch (Owned L) w w'
def DoPost (w0 : World) (tb : Nat) (L : Lay) (k : Int) (r : M.Ans × M.St) (w : World) (e : Ending) (w' : World) : Prop :=
  ∃ p n c q m d L', e = .returned (r.1.val (.slice p n c) (.slice q m d)) ∧ DoLeft w0 w tb L k r p n c q m d w' L'

theorem Liv.call (h : Liv w0 w tb L k s) (hk : k ≤ 8000) (o : M.Op) (dp : Option Addr) (dn dc : Nat) (hL : o.kind = 14 ∨ o.kind = 18 → ListC) (hR : o.kind = 15 → RenC) (h1 : o.path.length ≤ 1000000) (h2 : o.to.length ≤ 1000000) (h3 : o.data.length ≤ 1000000)
    (hd : ListAt U8 w (.slice dp dn dc) o.data) (hu : ∀ b, (Value.slice dp dn dc).ownBlock = some b → L.ow b = none) :
    Calls Tryz.prog 17 #[Pt tb, o.val (.slice dp dn dc)] w (DoPost w0 tb L k (s.doS o) w) := by
  refine (Do_any tb L k s o dp dn dc w hL hR h.tree (h.inv.fit hk o) ⟨h1, h2, h.gmax, h.h0, h3, hd, hu⟩).mono ?_
  rintro e w' ⟨v, L', rfl, ⟨dv, nv, rfl, hdv, hnv, hun⟩, ht, hx, hc⟩
  obtain ⟨p, c, rfl, -⟩ := row_form hdv
  obtain ⟨q, d, rfl, -⟩ := row_form hnv
  have hb : Below w0.heap.size w0 w' := h.below.trans (hc.below h.below.size (fun b hb' hO => hO (h.old b hb')))
  refine ⟨p, _, c, q, _, d, L', rfl, ⟨ht, h.inv.doS hk o, h.gmax.tch hc (fun e => e h.h0), (hx.old _ h.gmax.lt).trans h.h0, hb, fun b hb' => (hx.old b (Nat.lt_of_lt_of_le hb' h.below.size)).trans (h.old b hb')⟩, hdv, hnv, hun, hx.old, hc⟩

theorem listAt_nil {α : Type} (f : α → Value) (w : World) : ListAt f w (.slice none 0 0) [] := Or.inl ⟨0, rfl, rfl⟩

/-- A block of the law's own stands behind a call of Do. -/
theorem DoLeft.block {r : M.Ans × M.St} {p q : Option Addr} {n c m d : Nat} {L' : Lay} (h : DoLeft w0 w tb L k r p n c q m d w' L') {b : Nat} (hb : b < w.heap.size) (ho : L.ow b = none) : w'.heap[b]? = w.heap[b]? := h.tch.block b hb (fun e => e ho)
theorem DoLeft.ans {r : M.Ans × M.St} {p q : Option Addr} {n c m d : Nat} {L' : Lay} (h : DoLeft w0 w tb L k r p n c q m d w' L') {b : Nat} {a : M.Ans} {dv nv : Value} (ha : AnsAt w b a dv nv) (ho : L.ow b = none) : AnsAt w' b a dv nv ∧ L'.ow b = none := by
  have hb := ha.cells.lt
  exact ⟨by unfold AnsAt at *; rw [h.block hb ho]; exact ha, (h.kept b hb).trans ho⟩
theorem ans_new (w : World) (a : M.Ans) (dv nv : Value) : AnsAt (w.alloc (.cells #[I a.code, I a.n, I a.kind, I a.links, dv, nv] 29)) w.heap.size a dv nv := heap_alloc_new _ _
end

/-- A field of an answer. -/
theorem ans_f0 (a b c d e f : Value) (w : World) : (Instr.field 29 (.agg #[a, b, c, d, e, f]) 0).run Tryz.prog w = .ok a w := by kernel_rfl
theorem ans_f1 (a b c d e f : Value) (w : World) : (Instr.field 29 (.agg #[a, b, c, d, e, f]) 1).run Tryz.prog w = .ok b w := by kernel_rfl
theorem ans_f4 (a b c d e f : Value) (w : World) : (Instr.field 29 (.agg #[a, b, c, d, e, f]) 4).run Tryz.prog w = .ok e w := by kernel_rfl
end Go.Proofs.YtpfaccpmgldkeaaGreatDoor
