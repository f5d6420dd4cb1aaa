/- Contract of resize. -/
import Derived.Test.YtpfaccpmgldkeaaGreatDoorEnt
import Derived.Test.YtpfaccpmgldkeaaGreatDoorSl
import Derived.Test.YtpfaccpmgldkeaaGreatDoorAid
import Derived.Test.YtpfaccpmgldkeaaGreatDoorClone
import Derived.Deep.RegionLaw
set_option linter.unusedVariables false
set_option linter.unusedSimpArgs false
namespace Go.Proofs.YtpfaccpmgldkeaaGreatDoor
open Go.RowKit Go.MapKept Go.ChangeMaps
set_option maxRecDepth 100000

/-- A block becomes somebody's. -/
def claim (ow : Nat → Option Own) (v : Value) (o : Own) : Nat → Option Own := fun k => if v.ownBlock = some k then some o else ow k

/-- What a change of one node may turn. -/
def OfN (L : Lay) (n : Int) (k : Nat) : Prop := ∃ j, L.ow k = some (.of n j)

section
variable {w w1 : World} {b : Nat} {ow : Nat → Option Own} {n : Int} {x : M.Nd} {dv wv mv v : Value}

theorem claim_old {o : Own} (hv : ∀ k, v.ownBlock = some k → ow k = some o ∨ ow k = none) {k : Nat} {o' : Own} (h : ow k = some o') : claim ow v o k = some o' := by
  unfold claim
  split
  · rename_i e
    rcases hv k e with h1 | h1
    · rw [← h1, h]
    · rw [h] at h1; cases h1
  · exact h

/-- A node's bytes have turned. -/
theorem NodeAt.newData (h : NodeAt w b ow n x dv wv mv) (hb : ∀ k j, j ≠ 1 → ow k = some (.of n j) → w1.heap[k]? = w.heap[k]?) {B : Nat} {l : M.Bs} (hr : w1.ownsRow B 5 1 v l.length (l.map U8))
    (hv : ∀ k, v.ownBlock = some k → ow k = some (.of n 1) ∨ ow k = none) (hk : x.kind ≠ 3) : NodeAt (w1.setCell ⟨b, 1, none⟩ v) b (claim ow v (.of n 1)) n { x with data := l } v wv mv := by
  have hb' : ∀ k i, i ≠ 0 → i ≠ 1 → ow k = some (.of n i) → (w1.setCell ⟨b, 1, none⟩ v).heap[k]? = w.heap[k]? := fun k i hi h1 hk => (Below.heap_setCell _ _ _ _ (fun e => by
    have e' : k = b := e
    rw [e', h.own] at hk
    simp at hk
    exact hi hk.symm)).trans (hb k i h1 hk)
  have ho : ∀ k o, ow k = some o → claim ow v (.of n 1) k = some o := fun k o hk => claim_old hv hk
  have hvb : ∀ k, v.ownBlock = some k → k ≠ b := fun k hk e => by
    rcases hv k hk with h1 | h1
    · rw [e, h.own] at h1; cases h1
    · rw [e, h.own] at h1; cases h1
  refine ⟨?_, ho _ _ h.own, Or.inl ⟨hk, ?_, ?_⟩, h.writ.keep (fun k hk => hb' k 2 (by decide) (by decide) hk) ho, ?_⟩
  · rw [heap_setCell_same w1 b 1 _ _ v ((hb b 0 (by decide) h.own).trans h.cells)]
    rfl
  · have := row_same (w' := w1.setCell ⟨b, 1, none⟩ v) hr (fun k hk => Below.heap_setCell _ _ _ _ (hvb k hk))
    refine ⟨by simp, ?_⟩
    rcases this.2 with hn | ⟨g, cap, cur, h1, h2, h3⟩
    · exact Or.inl (by rw [List.length_map]; exact hn)
    · exact Or.inr ⟨g, cap, cur, by rw [List.length_map]; exact h1, Nat.zero_le _, by rw [List.length_map]; exact h3⟩
  · intro k hk; unfold claim; rw [if_pos hk]
  · rcases h.nams with ⟨h1, h2, m, h3, h4, h5⟩ | h1
    · exact Or.inl ⟨h1, h2, m, h3, ho m _ h4, h5.same (hb' m 3 (by decide) (by decide) h4)⟩
    · exact Or.inr h1

/-- What was written of a node has turned. -/
theorem NodeAt.newWritten (h : NodeAt w b ow n x dv wv mv) (hb : ∀ k j, j ≠ 2 → ow k = some (.of n j) → w1.heap[k]? = w.heap[k]?) {B : Nat} {l : List Bool} (hr : w1.ownsRow B 4 1 v l.length (l.map Value.bool))
    (hv : ∀ k, v.ownBlock = some k → ow k = some (.of n 2) ∨ ow k = none) : NodeAt (w1.setCell ⟨b, 2, none⟩ v) b (claim ow v (.of n 2)) n { x with written := l } dv v mv := by
  have hb' : ∀ k i, i ≠ 0 → i ≠ 2 → ow k = some (.of n i) → (w1.setCell ⟨b, 2, none⟩ v).heap[k]? = w.heap[k]? := fun k i hi h1 hk => (Below.heap_setCell _ _ _ _ (fun e => by
    have e' : k = b := e
    rw [e', h.own] at hk
    simp at hk
    exact hi hk.symm)).trans (hb k i h1 hk)
  have ho : ∀ k o, ow k = some o → claim ow v (.of n 2) k = some o := fun k o hk => claim_old hv hk
  have hvb : ∀ k, v.ownBlock = some k → k ≠ b := fun k hk e => by
    rcases hv k hk with h1 | h1
    · rw [e, h.own] at h1; cases h1
    · rw [e, h.own] at h1; cases h1
  refine ⟨?_, ho _ _ h.own, h.data.keep (fun k hk => hb' k 1 (by decide) (by decide) hk) ho, ⟨?_, ?_⟩, ?_⟩
  · rw [heap_setCell_same w1 b 2 _ _ v ((hb b 0 (by decide) h.own).trans h.cells)]
    rfl
  · have := row_same (w' := w1.setCell ⟨b, 2, none⟩ v) hr (fun k hk => Below.heap_setCell _ _ _ _ (hvb k hk))
    refine ⟨by simp, ?_⟩
    rcases this.2 with hn | ⟨g, cap, cur, h1, h2, h3⟩
    · exact Or.inl (by rw [List.length_map]; exact hn)
    · exact Or.inr ⟨g, cap, cur, by rw [List.length_map]; exact h1, Nat.zero_le _, by rw [List.length_map]; exact h3⟩
  · intro k hk; unfold claim; rw [if_pos hk]
  · rcases h.nams with ⟨h1, h2, m, h3, h4, h5⟩ | h1
    · exact Or.inl ⟨h1, h2, m, h3, ho m _ h4, h5.same (hb' m 3 (by decide) (by decide) h4)⟩
    · exact Or.inr h1
end

section
variable {w w1 : World} {tb : Nat} {L : Lay} {s : M.St} {n : Int} {v : Value}

/-- The tree behind a change of one row of one node: the row lies in a block of that node's, or in a new one. -/
theorem TreeAt.newData (h : TreeAt w tb L s) (hn : s.has n = true) {row : Option Nat} (hg : w.grownBy w1 row) (hrow : ∀ k, row = some k → L.ow k = some (.of n 1)) {B : Nat} {l : M.Bs} (hr : w1.ownsRow B 5 1 v l.length (l.map U8))
    (hv : ∀ k, v.ownBlock = some k → L.ow k = some (.of n 1) ∨ w.heap.size ≤ k) (hk : (s.nd n).kind ≠ 3) :
    TreeAt (w1.setCell ⟨L.pn n, 1, none⟩ v) tb { L with ow := claim L.ow v (.of n 1) } (s.set n { s.nd n with data := l }) ∧ Tch (OfN L n) w (w1.setCell ⟨L.pn n, 1, none⟩ v) ∧ ∀ k, k < w.heap.size → claim L.ow v (.of n 1) k = L.ow k := by
  obtain ⟨dv, wv, mv, hnode⟩ := h.nodeOf hn
  have hv' : ∀ k, v.ownBlock = some k → L.ow k = some (.of n 1) ∨ L.ow k = none := fun k hk => by
    rcases hv k hk with h1 | h1
    · exact Or.inl h1
    · refine Or.inr ?_
      cases ho : L.ow k with
      | none => rfl
      | some o => have := h.low k o ho; omega
  have hT : Tch (OfN L n) w w1 := ⟨hg.os, hg.tape, hg.output, hg.size, fun k hk hS => hg.block k hk (fun e => hS ⟨1, hrow k e.symm⟩)⟩
  have hT2 := hT.setCell (p := ⟨L.pn n, 1, none⟩) ⟨0, hnode.own⟩ v
  have hc : ∀ k, k < w.heap.size → claim L.ow v (.of n 1) k = L.ow k := fun k hk => by
    unfold claim
    split
    · rename_i e
      rcases hv k e with h1 | h1
      · exact h1.symm
      · omega
    · rfl
  refine ⟨h.turn hn (hT2.mono fun k _ hk => Or.inr hk) (claim L.ow v (.of n 1)) hc (fun k o ho => ?_) ⟨_, _, _, hnode.newData (fun k j hj ho => hg.block k (h.low k _ ho) (fun e => ?_)) hr hv' hk⟩, hT2, hc⟩
  · unfold claim at ho
    split at ho
    · rename_i e
      have := (hr.lt k e).2
      simpa [World.setCell] using this
    · exact Nat.lt_of_lt_of_le (h.low k o ho) hT2.size
  · rw [hrow k e.symm] at ho
    cases ho; exact hj rfl

theorem TreeAt.newWritten (h : TreeAt w tb L s) (hn : s.has n = true) {row : Option Nat} (hg : w.grownBy w1 row) (hrow : ∀ k, row = some k → L.ow k = some (.of n 2)) {B : Nat} {l : List Bool} (hr : w1.ownsRow B 4 1 v l.length (l.map Value.bool))
    (hv : ∀ k, v.ownBlock = some k → L.ow k = some (.of n 2) ∨ w.heap.size ≤ k) :
    TreeAt (w1.setCell ⟨L.pn n, 2, none⟩ v) tb { L with ow := claim L.ow v (.of n 2) } (s.set n { s.nd n with written := l }) ∧ Tch (OfN L n) w (w1.setCell ⟨L.pn n, 2, none⟩ v) ∧ ∀ k, k < w.heap.size → claim L.ow v (.of n 2) k = L.ow k := by
  obtain ⟨dv, wv, mv, hnode⟩ := h.nodeOf hn
  have hv' : ∀ k, v.ownBlock = some k → L.ow k = some (.of n 2) ∨ L.ow k = none := fun k hk => by
    rcases hv k hk with h1 | h1
    · exact Or.inl h1
    · refine Or.inr ?_
      cases ho : L.ow k with
      | none => rfl
      | some o => have := h.low k o ho; omega
  have hT : Tch (OfN L n) w w1 := ⟨hg.os, hg.tape, hg.output, hg.size, fun k hk hS => hg.block k hk (fun e => hS ⟨2, hrow k e.symm⟩)⟩
  have hT2 := hT.setCell (p := ⟨L.pn n, 2, none⟩) ⟨0, hnode.own⟩ v
  have hc : ∀ k, k < w.heap.size → claim L.ow v (.of n 2) k = L.ow k := fun k hk => by
    unfold claim
    split
    · rename_i e
      rcases hv k e with h1 | h1
      · exact h1.symm
      · omega
    · rfl
  refine ⟨h.turn hn (hT2.mono fun k _ hk => Or.inr hk) (claim L.ow v (.of n 2)) hc (fun k o ho => ?_) ⟨_, _, _, hnode.newWritten (fun k j hj ho => hg.block k (h.low k _ ho) (fun e => ?_)) hr hv'⟩, hT2, hc⟩
  · unfold claim at ho
    split at ho
    · rename_i e
      have := (hr.lt k e).2
      simpa [World.setCell] using this
    · exact Nat.lt_of_lt_of_le (h.low k o ho) hT2.size
  · rw [hrow k e.symm] at ho
    cases ho; exact hj rfl
end

/-- A run of append that is known, as one step of a region that draws. -/
theorem step_append_run {P : Program} {ops : Array Oper} {o : Oper} {a : Act} {w : World} {K : Act → World → Prop} {Q : Exit → Act → World → Prop} {E : Prop}
    (hg : o.guard = none) (s x : Operand) (t ti : TypeId) (hop : o.op = Op.call { callee := Callee.builtin Builtin.append, args := #[s, x], argTypes := #[t, ti] })
    (vs vx : Value) (hs : a.eval s = vs) (hx : a.eval x = vx) (v' : Value) (w' : World) (hr : (Builtin.append_ #[t, ti] o.type #[vs, vx]).run P w = .ok v' w') (hK : K (a.put o.dst v') w') :
    if Region.wanted o (yielded ops a.tmps) = true then Oper.wp P o a w K Q else E := by
  have hw : Region.wanted o (yielded ops a.tmps) = true := by simp [Region.wanted, hg]
  rw [if_pos hw]
  exact Lib.wp_append_run w s x t ti hop vs vx hs hx v' w' hr hK

/-- What resize leaves. -/
def SizePost (tb : Nat) (L : Lay) (s : M.St) (n : Int) (y : M.Nd) (w : World) (e : Ending) (w' : World) : Prop :=
  e = .returned (.tuple #[]) ∧ ∃ ow', TreeAt w' tb { L with ow := ow' } (s.set n y) ∧ Tch (OfN L n) w w' ∧ ∀ k, k < w.heap.size → ow' k = L.ow k

theorem toInt_need (n : Int) : 0 ≤ M.need n ∧ M.need n ≤ 162 := by unfold M.need; split <;> (try split) <;> omega

theorem zeros_u8 (m : Nat) : (Builtin.zeroCells (Value.int .u8 0).cells m).toList = (List.replicate m (0 : UInt8)).map U8 := by
  have : ∀ i, [Value.int .u8 0][i % 1]?.getD default = U8 0 := fun i => by rw [Nat.mod_one]; rfl
  simp only [Builtin.zeroCells, Value.cells]
  simp [this, List.map_const']
theorem zeros_one {m : Nat} (u : Value) (hu : u ∈ (Builtin.zeroCells (Value.int .u8 0).cells m).toList) : u.oneCell' = true := by
  rw [zeros_u8] at hu
  obtain ⟨x, _, rfl⟩ := List.mem_map.1 hu
  rfl

set_option maxHeartbeats 2000000 in
theorem resize_any (tb : Nat) (L : Lay) (s : M.St) (n : Int) (size : Nat) (w : World) (h : TreeAt w tb L s) (hn : s.has n = true) (hk : (s.nd n).kind ≠ 3) (hs : Small (s.nd n)) (hsz : size ≤ 20736) :
    Calls Tryz.prog 112 #[Pt tb, I n, I size] w (SizePost tb L s n ((s.nd n).resize size) w) := by
  obtain ⟨t0, -, -, -, -, tf, htb⟩ := h.cells5
  have hl := h.look hn
  obtain ⟨dv, wv, mv, hnode⟩ := h.nodeOf hn
  have HD := Lib.hid hnode.data.list
  have HWR := Lib.hid hnode.writ.list
  obtain ⟨pd, cd, rfl⟩ := HD.out.form
  obtain ⟨pw, cw, rfl⟩ := HWR.out.form
  have hdl := hs.data
  have hdc := HD.out.cap
  have hwc := HWR.out.cap
  have hwl := hs.written
  by_cases hle : size ≤ (s.nd n).data.length
  · have he : (s.nd n).resize size = { s.nd n with data := (s.nd n).data.take size, written := (s.nd n).written.take (M.need size).toNat } := by unfold M.Nd.resize; rw [if_pos hle]
    have HE := Lib.hid he; clear he
    obtain ⟨n0, n1, n2, -, -, -, -, -, nf, hnb⟩ := hnode.cells8
    have H := Lib.hid h; clear h
    have HN := Lib.hid hnode; clear hnode
    have HK := Lib.hid hk; clear hk
    go_enter Tryz.func112, Tryz.ntmps112
    go_wp2_with fail
    (with_reducible refine (clone_bytes (.slice pd size cd) _ w (HD.out.take size hle) (by simp; omega)).mono ?_)
    rintro e w1 ⟨v1, rfl, hr1, hb1⟩
    have hg1 : w.grownBy w1 none := ⟨hb1.os, hb1.tape, hb1.output, hb1.size, fun k hk _ => hb1.block k hk⟩
    rw [List.length_map] at hr1
    obtain ⟨p1, c1, hv1, -⟩ := row_form hr1
    rw [show ((s.nd n).data.take size).length = size by simp; omega] at hv1
    subst hv1
    obtain ⟨ht1, hc1, ho1⟩ := H.out.newData hn hg1 (fun k hk => by cases hk) hr1 (fun k hk => Or.inr (hr1.lt k hk).1) HK.out
    have HC1 := Lib.hid hc1; clear hc1
    have HT1 := Lib.hid ht1; clear ht1
    have HO1 := Lib.hid ho1; clear ho1
    have HB1 := Lib.hid hb1
    obtain ⟨n0, n1, n2, -, -, -, -, -, nf, hnb⟩ := (HN.out.keep (w' := w1) (fun k j hk => hb1.block k (H.out.low k _ hk)) (fun _ _ h => h)).cells8
    clear hr1 hg1 hb1
    go_wp2_with fail
    generalize hw2 : w1.setCell ⟨L.pn n, 1, none⟩ _ = w2 at *
    clear hw2 n1 n2
    obtain ⟨t0, -, -, -, -, tf, htb⟩ := HT1.out.cells5
    have hn2 : (s.set n { s.nd n with data := List.take size (s.nd n).data }).has n = true := by rw [set_has]; simp
    obtain ⟨dv, wv, mv, hnode2⟩ := HT1.out.nodeOf hn2
    rw [set_nd, if_pos rfl] at hnode2
    have HWR2 := Lib.hid hnode2.writ.list
    obtain ⟨pw2, cw2, hwv⟩ := HWR2.out.form
    subst hwv
    have hwc2 := HWR2.out.cap
    obtain ⟨-, -, n2, -, -, -, -, -, nf, hnb⟩ := hnode2.cells8
    have HN2 := Lib.hid hnode2; clear hnode2
    have hneed := toInt_need size
    have hnd := need_any size w2.drew (by omega) (by omega)
    have HND := Lib.hid hnd; clear hnd
    simp only at *
    generalize (s.nd n).written = wl at *
    generalize hnq : M.need size = q at *
    obtain ⟨qn, rfl⟩ : ∃ m : Nat, q = m := ⟨q.toNat, by omega⟩
    have HNQ := Lib.hid hnq; clear hnq
    have HCB := Lib.hid (clone_bools (.slice pw2 (min (wl.length : Int) qn).toNat cw2) (wl.take (min (wl.length : Int) qn).toNat) w2.drew ((HWR2.out.take _ (by omega)).below (Below.refl _ _).drew) (by rw [List.length_take]; omega))
    have HMT := Lib.hid (show wl.take (min (wl.length : Int) qn).toNat = wl.take qn by
      rw [List.take_eq_take_iff]; omega)
    have HML := Lib.hid (show (wl.take qn).length = (min (wl.length : Int) qn).toNat by rw [List.length_take]; omega)
    rw [HMT.out] at HCB
    go_region_with (first | (go_at_call 118; (with_reducible refine HND.out.mono ?_); rintro e w' ⟨rfl, rfl⟩) | (go_at_call 53; (with_reducible refine HCB.out.mono ?_); rintro e w' ⟨v3, rfl, hr3, hb3⟩; have hz3 := hb3.size; simp at hz3; obtain ⟨n0x, n1x, n2x, -, -, -, -, -, nfx, hnbx⟩ := (HN2.out.keep (w' := w') (fun k j hk => (hb3.block k (HT1.out.low k _ hk)).trans rfl) (fun _ _ h => h)).cells8; rw [List.length_map] at hr3; obtain ⟨p3, c3, hv3, -⟩ := row_form hr3; generalize (List.take qn wl).length = n3 at hv3; subst hv3; have HR3 := Lib.hid hr3; clear hr3; have HB3 := Lib.hid hb3; clear hb3))
    all_goals
      have hgr : w2.grownBy w' none := ⟨HB3.out.os, HB3.out.tape, HB3.out.output, HB3.out.size, fun k hk _ => HB3.out.block k hk⟩
      obtain ⟨ht3, hc3, ho3⟩ := HT1.out.newWritten hn2 hgr (fun k hk => by cases hk) (l := wl.take qn) HR3.out (fun k hk => Or.inr (HR3.out.lt k hk).1)
      clear hgr n0x n1x n2x nfx hnbx
      go_wp2_with fail
      go_end0
      refine ⟨rfl, _, Eq.mp (congrArg (fun q => TreeAt _ tb _ q) ?_) ht3, HC1.out.andNew hc3 (fun i hi hT => by obtain ⟨j, hj⟩ := hT; exact ⟨j, by rw [← HO1.out i hi]; exact hj⟩), fun k hk => (ho3 k (Nat.lt_of_lt_of_le hk HC1.out.size)).trans (HO1.out k hk)⟩
      rw [HE.out]
      simp only [set_nd, set_set, if_true, Int.toNat_natCast]
  · have he : (s.nd n).resize size = { s.nd n with data := (s.nd n).data ++ List.replicate (size - (s.nd n).data.length) 0 } := by unfold M.Nd.resize; rw [if_neg hle]
    have HE := Lib.hid he; clear he
    have hrow : Row w L.ow (.of n 1) 5 (.slice pd (s.nd n).data.length cd) ((s.nd n).data.map U8) := by
      rcases hnode.data with h1 | h1
      · exact h1.2
      · exact absurd h1.1 hk
    obtain ⟨i0, hi, hz0, hz1, hz2⟩ := info_parts infoU8
    obtain ⟨v1, w1, hr1, hrow1, hg1, hb1⟩ := run_append_zeros_own (P := Tryz.prog) w.drew 0 22 3 22 5 i0 (.int .u8 0) 1 1 Tryz.underlying22 Tryz.underlying3 hi hz0 hz1 hz2 rfl (by decide) (by decide) (.slice pd (s.nd n).data.length cd) _ _ (show w.drew.ownsRow 0 5 1 _ _ _ from hrow.row) .i64 (size - (s.nd n).data.length) (fun u hu => zeros_one u hu) (by simp; omega) (Nat.zero_le _)
    have hg : w.grownBy w1 (Value.slice pd (s.nd n).data.length cd).ownBlock := ⟨hg1.os, hg1.tape, hg1.output, hg1.size, hg1.block⟩
    obtain ⟨n0, n1, -, -, -, -, -, -, nf, hnb⟩ := hnode.cells8
    rw [List.length_map] at hrow1
    have hlen : (s.nd n).data.length + (size - (s.nd n).data.length) = size := by omega
    rw [hlen] at hrow1
    obtain ⟨p1, c1, rfl, -⟩ := row_form hrow1
    have hrow2 : w1.ownsRow 0 5 1 (.slice p1 size c1) ((s.nd n).data ++ List.replicate (size - (s.nd n).data.length) 0).length (((s.nd n).data ++ List.replicate (size - (s.nd n).data.length) 0).map U8) := by
      rw [zeros_u8] at hrow1
      rw [show ((s.nd n).data ++ List.replicate (size - (s.nd n).data.length) (0 : UInt8)).length = size by simp; omega]
      simpa [U8] using hrow1
    obtain ⟨ht, hc, ho⟩ := h.newData hn hg (fun k hk => hrow.own k hk) hrow2 (fun k hk => by
      rcases hb1 with e | e
      · rw [e] at hk; exact Or.inl (hrow.own k hk)
      · rw [e] at hk; cases hk; exact Or.inr (Nat.le_refl _)) hk
    have HT := Lib.hid ht; clear ht
    have HC := Lib.hid hc; clear hc
    have HO := Lib.hid ho; clear ho
    have hnode1 := hnode.keep (w' := w1) (ow' := L.ow)
    have hpb : w1.heap[L.pn n]? = w.heap[L.pn n]? := hg.block _ hnb (fun e => by
      have := hrow.own _ e.symm
      rw [hnode.own] at this
      cases this)
    have m1 : w1.cell? ⟨L.pn n, 1, none⟩ = some (.slice pd (s.nd n).data.length cd) := (World.cell?_of_block (a := ⟨L.pn n, 1, none⟩) hpb).trans n1
    have mf : ∀ j, w1.frozen? ⟨L.pn n, j, none⟩ = false := fun j => (World.frozen?_of_block (a := ⟨L.pn n, j, none⟩) hpb).trans (nf j)
    have hsub : IntKind.i64.wrap ((size : Int) - ((s.nd n).data.length : Int)) = ((size - (s.nd n).data.length : Nat) : Int) := by rw [IntKind.wrap_i64]; omega
    have HSUB := Lib.hid hsub
    have HR1 := Lib.hid hr1
    clear hr1 hrow hrow1 hrow2 hg1 hg hnode hnode1 hb1 hpb hi hz0 hz1 hz2 hk h
    go_enter Tryz.func112, Tryz.ntmps112
    go_wp2_with fail
    go_region_law (refine step_append_run rfl (.tmp 51) (.tmp 58) 22 3 rfl _ (.int .i64 ((size - (s.nd n).data.length : Nat) : Int)) (by simp [Act.eval, Act.put]) (by simp [Act.eval, Act.put, HSUB.out]) _ _ HR1.out ?_)
    all_goals
      go_end0
      exact ⟨rfl, _, by rw [HE.out]; exact HT.out, HC.out, HO.out⟩
end Go.Proofs.YtpfaccpmgldkeaaGreatDoor
