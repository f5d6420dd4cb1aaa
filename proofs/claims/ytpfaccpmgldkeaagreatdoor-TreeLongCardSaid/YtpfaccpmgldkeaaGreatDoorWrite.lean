/- Contract of write. -/
import Derived.Test.YtpfaccpmgldkeaaGreatDoorRead
import Derived.Laws.CopyOwn
import Derived.Deep.DeepCutAuto
import Derived.Deep.CutBlock
import Derived.Deep.LoopGhost
import Derived.Deep.AppendLies
set_option linter.unusedVariables false
set_option linter.unusedSimpArgs false
namespace Go.Proofs.YtpfaccpmgldkeaaGreatDoor
open Go.RowKit Go.MapKept Go.ChangeMaps
set_option maxRecDepth 100000

theorem write_bad {s : M.St} {o : M.Op} (h : s.fileCode o.fd true ≠ 0) : s.writeS o = (M.code (s.fileCode o.fd true), s) := by unfold M.St.writeS; rw [if_pos h]
theorem write_arg {s : M.St} {o : M.Op} (h : s.fileCode o.fd true = 0) (h2 : o.kind = 6 ∧ o.off < 0) : s.writeS o = (M.code 2, s) := by unfold M.St.writeS; rw [if_neg (by simp [h]), if_pos h2]
/-- Where a write stands. -/
def writeOff (s : M.St) (o : M.Op) : Int := if o.kind = 6 then o.off else if M.bit (s.fds o.fd.toNat).flags 8 then ((s.nd (s.fds o.fd.toNat).node).data.length : Int) else (s.fds o.fd.toNat).off
theorem write_big {s : M.St} {o : M.Op} (h : s.fileCode o.fd true = 0) (h2 : ¬ (o.kind = 6 ∧ o.off < 0)) (h3 : 20736 - min (o.data.length : Int) 20736 < writeOff s o ∨ 20736 < o.data.length) : s.writeS o = (M.code 15, s) := by
  unfold M.St.writeS; rw [if_neg (by simp [h]), if_neg h2]; simp only; unfold writeOff at h3; rw [if_pos h3]
theorem write_none {s : M.St} {o : M.Op} (h : s.fileCode o.fd true = 0) (h2 : ¬ (o.kind = 6 ∧ o.off < 0)) (h3 : ¬ (20736 - min (o.data.length : Int) 20736 < writeOff s o ∨ 20736 < o.data.length)) (h4 : o.data = []) : s.writeS o = ({}, s) := by
  unfold M.St.writeS; rw [if_neg (by simp [h]), if_neg h2]; simp only; unfold writeOff at h3; rw [if_neg h3, if_pos h4]
theorem write_ok {s : M.St} {o : M.Op} (h : s.fileCode o.fd true = 0) (h2 : ¬ (o.kind = 6 ∧ o.off < 0)) (h3 : ¬ (20736 - min (o.data.length : Int) 20736 < writeOff s o ∨ 20736 < o.data.length)) (h4 : o.data ≠ []) :
    s.writeS o = ({ n := o.data.length }, if o.kind = 4 then (s.set (s.fds o.fd.toNat).node ((s.nd (s.fds o.fd.toNat).node).write (writeOff s o).toNat o.data)).moveTo o.fd (writeOff s o + o.data.length) else s.set (s.fds o.fd.toNat).node ((s.nd (s.fds o.fd.toNat).node).write (writeOff s o).toNat o.data)) := by
  unfold M.St.writeS; rw [if_neg (by simp [h]), if_neg h2]; simp only; unfold writeOff at *; rw [if_neg h3, if_neg h4]

section
variable {w w' : World} {tb : Nat} {L : Lay} {s : M.St} {n : Int} {dv wv mv : Value}
/-- A node's bytes have turned in their own block. -/
theorem TreeAt.dataRow (h : TreeAt w tb L s) (hn : s.has n = true) {g : Nat} (hT : Tch (One g) w w') (hg : L.ow g = some (.of n 1)) (hnode : NodeAt w (L.pn n) L.ow n (s.nd n) dv wv mv) (hk : (s.nd n).kind ≠ 3) {l' : M.Bs} (hr : Row w' L.ow (.of n 1) 5 dv (l'.map U8)) :
    TreeAt w' tb L (s.set n { s.nd n with data := l' }) := by
  have hb : ∀ k i, i ≠ 1 → L.ow k = some (.of n i) → w'.heap[k]? = w.heap[k]? := fun k i hi hk' => hT.block k (h.low k _ hk') (fun e => by
    have e' : k = g := e
    rw [e', hg] at hk'; simp at hk'; exact hi hk'.symm)
  refine h.turn0 hn (hT.mono fun k _ hk' => Or.inr ⟨1, by have e' : k = g := hk'; rw [e']; exact hg⟩) ⟨dv, wv, mv, (hb _ 0 (by decide) hnode.own).trans hnode.cells, hnode.own, Or.inl ⟨hk, hr⟩, hnode.writ.keep (fun k hk' => hb k 2 (by decide) hk') (fun _ _ h => h), ?_⟩
  rcases hnode.nams with ⟨h1, h2, m, h3, h4, h5⟩ | h1
  · exact Or.inl ⟨h1, h2, m, h3, h4, h5.same (hb m 3 (by decide) h4)⟩
  · exact Or.inr h1
/-- What was written of a node has turned in its own block. -/
theorem TreeAt.writRow (h : TreeAt w tb L s) (hn : s.has n = true) {g : Nat} (hT : Tch (One g) w w') (hg : L.ow g = some (.of n 2)) (hnode : NodeAt w (L.pn n) L.ow n (s.nd n) dv wv mv) {l' : List Bool} (hr : Row w' L.ow (.of n 2) 4 wv (l'.map Value.bool)) :
    TreeAt w' tb L (s.set n { s.nd n with written := l' }) := by
  have hb : ∀ k i, i ≠ 2 → L.ow k = some (.of n i) → w'.heap[k]? = w.heap[k]? := fun k i hi hk' => hT.block k (h.low k _ hk') (fun e => by
    have e' : k = g := e
    rw [e', hg] at hk'; simp at hk'; exact hi hk'.symm)
  refine h.turn0 hn (hT.mono fun k _ hk' => Or.inr ⟨2, by have e' : k = g := hk'; rw [e']; exact hg⟩) ⟨dv, wv, mv, (hb _ 0 (by decide) hnode.own).trans hnode.cells, hnode.own, hnode.data.keep (fun k hk' => hb k 1 (by decide) hk') (fun _ _ h => h), hr, ?_⟩
  rcases hnode.nams with ⟨h1, h2, m, h3, h4, h5⟩ | h1
  · exact Or.inl ⟨h1, h2, m, h3, h4, h5.same (hb m 3 (by decide) h4)⟩
  · exact Or.inr h1
end

theorem ListAt.tch {α : Type} {f : α → Value} {w w' : World} {v : Value} {l : List α} {T : Nat → Prop} (h : ListAt f w v l) (ht : Tch T w w') (hT : ∀ b, v.ownBlock = some b → ¬ T b) : ListAt f w' v l := by
  rcases h with h | ⟨b, o, c, h1, h2, h3, h4⟩
  · exact Or.inl h
  · exact Or.inr ⟨b, o, c, h1, h2, Nat.lt_of_lt_of_le h3 ht.size, fun j x hx => by rw [← h4 j x hx]; exact World.cell?_of_block (a := ⟨b, o + j, none⟩) (ht.block b h3 (hT b (by rw [h1]; rfl)))⟩

/-- A write under way: node n is y so far. -/
structure WS (w : World) (tb : Nat) (L : Lay) (s : M.St) (n : Int) (o : M.Op) (dv : Value) (fb : Nat) (sl : M.Sl) (wr : World) (y : M.Nd) (ow' : Nat → Option Own) : Prop where
  tree : TreeAt wr tb { L with ow := ow' } (s.set n y)
  op : OpAt wr w.heap.size o dv
  ans : AnsAt wr (w.heap.size + 1) {} NilS NilS
  file : FileAt wr fb sl
  tch : Tch (Owned L) w wr
  old : ∀ k, k < w.heap.size → ow' k = L.ow k
  n0 : ow' w.heap.size = none
  n1 : ow' (w.heap.size + 1) = none
  nf : ow' fb = none
section
variable {w wr wr' : World} {tb : Nat} {L : Lay} {s : M.St} {n : Int} {o : M.Op} {dv : Value} {fb : Nat} {sl : M.Sl} {y y' : M.Nd} {ow1 ow2 : Nat → Option Own}
theorem WS.step (h : WS w tb L s n o dv fb sl wr y ow1) (ht : TreeAt wr' tb { L with ow := ow2 } (s.set n y')) (hc : Tch (OfN { L with ow := ow1 } n) wr wr') (ho : ∀ k, k < wr.heap.size → ow2 k = ow1 k) : WS w tb L s n o dv fb sl wr' y' ow2 := by
  have hq : ∀ k, ow1 k = none → ¬ OfN { L with ow := ow1 } n k := fun k hk ⟨j, e⟩ => by
    have e' : ow1 k = some (.of n j) := e
    rw [hk] at e'; cases e'
  refine ⟨ht, h.op.tch hc (hq _ h.n0), h.ans.tch hc (hq _ h.n1), ?_, h.tch.andNew hc (fun i hi ⟨j, e⟩ => ?_), fun k hk => (ho k (Nat.lt_of_lt_of_le hk h.tch.size)).trans (h.old k hk), (ho _ h.op.cells.lt).trans h.n0, (ho _ h.ans.cells.lt).trans h.n1, (ho _ h.file.cells.2.2.2.2).trans h.nf⟩
  · have := h.file
    unfold FileAt at this ⊢
    rw [hc.block fb (Array.getElem?_eq_some_iff.1 this).1 (hq _ h.nf)]
    exact this
  · have e' : ow1 i = some (.of n j) := e
    rw [h.old i hi] at e'
    unfold Owned; rw [e']; simp
theorem WS.below (h : WS w tb L s n o dv fb sl wr y ow1) (hb : Below wr.heap.size wr wr') : WS w tb L s n o dv fb sl wr' y ow1 :=
  h.step (h.tree.below hb) (Tch.ofBelow hb) (fun _ _ => rfl)
end

theorem splice_take {α : Type} (A C : List α) {m sz : Nat} (h1 : m + C.length ≤ sz) (h2 : sz ≤ A.length) : (A.take m ++ (C ++ A.drop (m + C.length))).take sz = (A.take sz).take m ++ C ++ (A.take sz).drop (m + C.length) := by
  apply List.ext_getElem?
  intro i
  rw [List.append_assoc]
  by_cases hi : i < sz
  · rw [List.getElem?_take, if_pos hi]
    by_cases h3 : i < m
    · rw [List.getElem?_append_left (by simp; omega), List.getElem?_append_left (by simp; omega), List.getElem?_take, if_pos h3, List.getElem?_take, if_pos h3, List.getElem?_take, if_pos hi]
    · have e1 : (A.take m).length = m := by simp; omega
      have e2 : ((A.take sz).take m).length = m := by simp; omega
      rw [List.getElem?_append_right (l₁ := A.take m) (by omega), List.getElem?_append_right (l₁ := (A.take sz).take m) (by omega), e1, e2]
      by_cases h4 : i - m < C.length
      · rw [List.getElem?_append_left h4, List.getElem?_append_left h4]
      · rw [List.getElem?_append_right (by omega), List.getElem?_append_right (by omega), List.getElem?_drop, List.getElem?_drop, List.getElem?_take, if_pos (by omega)]
  · rw [List.getElem?_take, if_neg hi, List.getElem?_eq_none]
    simp
    omega

theorem Row.spliced {w : World} {ow : Nat → Option Own} {n : Int} {g c : Nat} {l b : M.Bs} {m : Nat} {cur : Array Value} (hgc : w.heap[g]? = some (.cells cur 5 (0, 0))) (hc : cur.size = c) (hlc : l.length ≤ c) (hcm : c ≤ maxLen) (htk : cur.toList.take l.length = l.map U8) (hog : ow g = some (.of n 1)) (hm : m + b.length ≤ l.length) :
    Row (w.setRow g (cur.toList.take m ++ (b.map U8 ++ cur.toList.drop (m + (b.map U8).length))).toArray) ow (.of n 1) 5 (.slice (some ⟨g, 0, none⟩) l.length c) ((l.take m ++ b ++ l.drop (m + b.length)).map U8) := by
  have hl : (l.take m ++ b ++ l.drop (m + b.length)).length = l.length := by simp; omega
  refine ⟨⟨by simp, Or.inr ⟨g, c, _, by rw [List.length_map, hl], Nat.zero_le _, setRow_heap _ _ _ _ _ _ hgc, by rw [List.length_map, hl]; exact hlc, hcm, ?_, ?_⟩⟩, fun k hk => by cases hk; exact hog⟩
  · simp
    omega
  · rw [List.length_map, hl, Nat.mul_one]
    show (cur.toList.take m ++ (b.map U8 ++ cur.toList.drop (m + (b.map U8).length))).take l.length = _
    rw [splice_take _ _ (by simpa using hm) (by simp; omega), htk]
    simp

theorem setRow_tch (w : World) (g : Nat) (cs : Array Value) : Tch (One g) w (w.setRow g cs) :=
  ⟨rfl, rfl, rfl, by simp [World.setRow], fun k _ hk => setRow_other w g k cs hk⟩

/-- copy into a row that is known whole; the world behind it has a name. -/
theorem wpList_copy_held {P : Program} {w : World} {ops : Array Oper} {rest : List Oper} {o : Oper} {a : Act} {Q : Exit → Act → World → Prop} (hgd : o.guard = none) (d s : Operand) (dT sT : TypeId)
    (ho : o.op = .call { callee := .builtin .copy, args := #[d, s], argTypes := #[dT, sT] }) (elem : TypeId) (hu : P.underlying dT = some (.slice elem)) (hsz : (P.info? elem).map (·.size) = some 1)
    (g off dLen dCap : Nat) (ad : Addr) (sLen sCap : Nat) (hd : a.eval d = .slice (some ⟨g, off, none⟩) dLen dCap) (hs : a.eval s = .slice (some ad) sLen sCap)
    (cur : Array Value) (t : TypeId) (hg : w.heap[g]? = some (.cells cur t (0, 0))) (cs : List Value) (hn : cs.length = Nat.min sLen dLen)
    (hsrc : ∀ j v, cs[j]? = some v → w.cell? (ad.add j) = some v) (hfit : off + cs.length ≤ cur.size) (h1 : ∀ v ∈ cs, v.oneCell' = true)
    (h : ∀ w', Hid (w' = w.setRow g (cur.toList.take off ++ (cs ++ cur.toList.drop (off + cs.length))).toArray) → wpList P ops Q rest (a.put o.dst (goInt cs.length)) w') : wpList P ops Q (o :: rest) a w :=
  wpList_copy_own hgd d s dT sT ho elem hu hsz g off dLen dCap ad sLen sCap hd hs cur t hg cs hn hsrc hfit h1 (h _ (Lib.hid rfl))

theorem resize_len (x : M.Nd) (sz : Nat) : (x.resize sz).data.length = sz := by
  unfold M.Nd.resize
  split
  · simp; omega
  · simp; omega
/-- What is written once some blocks are marked. -/
def marks (w0 : List Bool) (a q : Nat) : List Bool := (List.range w0.length).map fun k => if a ≤ k ∧ k < q then true else w0.getD k false
theorem marks_len (w0 : List Bool) (a q : Nat) : (marks w0 a q).length = w0.length := by simp [marks]
theorem marks_start (w0 : List Bool) (a : Nat) : marks w0 a a = w0 := by
  apply List.ext_getElem?
  intro i
  unfold marks
  rw [List.getElem?_map]
  by_cases h : i < w0.length
  · rw [List.getElem?_range h]
    simp only [Option.map_some]
    rw [if_neg (by omega)]
    simp [h]
  · rw [List.getElem?_eq_none (by simp; omega), List.getElem?_eq_none (by omega)]
    rfl
theorem marks_succ (w0 : List Bool) {a q : Nat} (h : a ≤ q) (hq : q < w0.length) : marks w0 a (q + 1) = (marks w0 a q).set q true := by
  apply List.ext_getElem?
  intro i
  rw [List.getElem?_set, marks_len]
  unfold marks
  rw [List.getElem?_map, List.getElem?_map]
  by_cases hi : i < w0.length
  · rw [List.getElem?_range hi]
    simp only [Option.map_some]
    by_cases e : q = i
    · subst e
      rw [if_pos rfl, if_pos hq, if_pos ⟨h, by omega⟩]
    · rw [if_neg e]
      congr 1
      by_cases h2 : a ≤ i ∧ i < q
      · rw [if_pos h2, if_pos (by omega)]
      · rw [if_neg h2, if_neg (by omega)]
  · rw [List.getElem?_eq_none (by simp; omega)]
    by_cases e : q = i
    · omega
    · rw [if_neg e]; rfl
theorem need_gt {m len : Nat} (h : 0 < len) (hm : m + len ≤ 20736) : ((m / 128 : Nat) : Int) < M.need ((m : Int) + len) := by
  unfold M.need
  split
  · omega
  · split <;> omega

theorem resize_writ (x : M.Nd) (sz : Nat) : (x.resize sz).written.length ≤ x.written.length := by
  unfold M.Nd.resize
  split
  · simp; omega
  · exact Nat.le_refl _
theorem resize_kind (x : M.Nd) (sz : Nat) : (x.resize sz).kind = x.kind := by
  unfold M.Nd.resize
  split <;> rfl

set_option maxHeartbeats 8000000 in
theorem write_any (tb : Nat) (L : Lay) (k : Int) (s : M.St) (o : M.Op) (dp : Option Addr) (dn dc : Nat) (w : World) (h : TreeAt w tb L s) (hwf : Wf k s) (hk : k ≤ 10000) (hkind : o.kind = 4 ∨ o.kind = 6) (hdl : o.data.length ≤ 1000000)
    (hdat : ListAt U8 w (.slice dp dn dc) o.data) (hun : ∀ b, (Value.slice dp dn dc).ownBlock = some b → L.ow b = none) :
    Calls Tryz.prog 73 #[Pt tb, o.val (.slice dp dn dc)] w (OpPost tb L (s.writeS o) w) := by
  have H := Lib.hid h; clear h
  unfold M.Op.val
  have hdn : dn = o.data.length := hdat.len
  have HDAT := Lib.hid hdat; clear hdat
  have HUN := Lib.hid hun; clear hun
  subst hdn
  have HBS := Lib.hid (Base.start w o (.slice dp o.data.length dc))
  obtain ⟨t0, -, t2, -, -, tf, htb⟩ := (H.out.below HBS.out.below).cells5
  go_enter Tryz.func73, Tryz.ntmps73
  go_wp2_with fail
  change Calls _ _ _ (base2 w o (.slice dp o.data.length dc)) _
  generalize base2 w o (.slice dp o.data.length dc) = W0 at *
  obtain ⟨o0, o1, o2, o3, o4, o5, o6, o7, of, olt⟩ := HBS.out.op.cells
  (with_reducible refine (file_any tb L k s o.fd true W0 (H.out.below HBS.out.below) hwf).mono ?_)
  rintro e w1 ⟨hb, ⟨hc, rfl⟩ | ⟨hc, rfl⟩⟩
  · have hop := fileCode_open hc
    obtain ⟨hfd0, hfd1, hopn⟩ := isOpen_iff.1 hop
    obtain ⟨hn, ⟨ho1, ho2⟩, hf1, hf2⟩ := hwf.fds o.fd.toNat hopn
    have hsm := (hwf.data _ hn).1
    have hk3 := hwf.fdk o.fd.toNat hopn
    have HRA := Lib.hid (fun h2 => write_arg hc h2)
    have HRB := Lib.hid (fun h2 h3 => write_big hc h2 h3)
    have HRC := Lib.hid (fun h2 h3 h4 => write_none hc h2 h3 h4)
    have HRD := Lib.hid (fun h2 h3 h4 => write_ok hc h2 h3 h4)
    have HBS1 := Lib.hid (HBS.out.below' hb)
    have HBS := Lib.hid (HBS.out.below' (hb.alloc hb.size (.cells #[I (s.fds o.fd.toNat).node, I (s.fds o.fd.toNat).off, I (s.fds o.fd.toNat).flags] 90)))
    have HIO := Lib.hid (isOpen_iff.1 hop); clear hopn
    clear o0 o1 o2 o3 o4 o5 o6 o7 of olt t0 t2 tf htb hb hop hc
    obtain ⟨o0, o1, o2, o3, o4, o5, o6, o7, of, olt⟩ := HBS1.out.op.cells
    have HT1 := Lib.hid (H.out.below HBS1.out.below)
    obtain ⟨dv, wv, mv, hnode⟩ := HT1.out.nodeOf hn
    obtain ⟨pd, cd, hdv⟩ := hnode.data.list.form
    subst hdv
    obtain ⟨-, n1, -, -, -, -, -, -, nf, hnb⟩ := hnode.cells8
    have HN := Lib.hid hnode; clear hnode
    have hoff : writeOff s o = if o.kind = 6 then o.off else if M.bit (s.fds o.fd.toNat).flags 8 then ((s.nd (s.fds o.fd.toNat).node).data.length : Int) else (s.fds o.fd.toNat).off := rfl
    unfold M.Sl.fval
    generalize hsl : s.fds o.fd.toNat = sl at *
    have HSL := Lib.hid hsl; clear hsl
    by_cases h2 : o.kind = 6 ∧ o.off < 0
    · have HR := Lib.hid (HRA.out h2)
      obtain ⟨h6, h2⟩ := h2
      have b6 : (o.kind == 6) = true := by rw [h6]; rfl
      clear h6 hoff
      go_wp2_with fail
      (with_reducible refine (code_any (2) _).mono ?_)
      rintro e wc ⟨rfl, hbc⟩
      have HBC := Lib.hid (HBS.out.below' hbc); clear hbc
      obtain ⟨z0, z1, z2, z3, z4, z5, zf, zlt⟩ := HBC.out.ans.cells
      unfold NilS at z4 z5
      unfold M.Ans.val
      go_wp2_with fail
      have hb6 := Below.put6 HBC.out.below (w.heap.size + 1) (Nat.le_succ _) (I (M.code (2)).code) (I (M.code (2)).n) (I (M.code (2)).kind) (I (M.code (2)).links) NilS NilS
      obtain ⟨r0, r1, r2, r3, r4, r5, -, -⟩ := (HBC.out.ans.store (M.code (2)) NilS NilS).cells
      unfold put6 NilS at r0 r1 r2 r3 r4 r5
      refine bodyPost_ret (v := M.Ans.val (M.code (2)) NilS NilS) (by simp [results, Tryz.results73, go_sem, M.Ans.val, NilS, r0, r1, r2, r3, r4, r5]) rfl ?_
      exact ⟨_, L, rfl, by rw [HR.out]; exact AnsIn.plain rfl rfl, by rw [HR.out]; exact H.out.below hb6, Ext.same _ _ L, Tch.ofBelow hb6⟩
    · have HN2 := Lib.hid h2
      have hway : (o.kind = 4 ∧ ((o.kind == 6) = false ∧ (o.kind == 4) = true)) ∨ (o.kind = 6 ∧ ((o.kind == 6) = true ∧ (o.kind == 4) = false ∧ 0 ≤ o.off)) := by
        rcases hkind with e | e
        · exact Or.inl ⟨e, by simp [e]⟩
        · exact Or.inr ⟨e, by simp [e], by simp [e], by have := fun h => h2 ⟨e, h⟩; omega⟩
      have HOFF := Lib.hid hoff; clear hoff hkind h2
      have hb8 := bits_eq hf1 hf2 (b := 8) (by decide)
      have HB8 := Lib.hid hb8; clear hb8
      go_upto_block 0 with fail
      clear o0 o1 o2 o3 o4 o5 o6 o7 of olt n1 nf hnb
      have HNA := Lib.hid (HN.out.keep (w' := w1.alloc (.cells #[I sl.node, I sl.off, I sl.flags] 90)) (fun k j hk => heap_alloc_old _ _ (HT1.out.low k _ hk)) (fun _ _ h => h))
      have HFA : Hid (FileAt (w1.alloc (.cells #[I sl.node, I sl.off, I sl.flags] 90)) w1.heap.size sl) := Lib.hid (heap_alloc_new _ _)
      generalize hw2 : w1.alloc (.cells #[I sl.node, I sl.off, I sl.flags] 90) = w2 at *
      clear hw2
      have hfbw : w.heap.size ≤ w1.heap.size := HBS1.out.below.size
      generalize w1.heap.size = fb at *
      have HFB := Lib.hid hfbw; clear hfbw
      obtain ⟨o0, o1, o2, o3, o4, o5, o6, o7, of, olt⟩ := HBS.out.op.cells
      obtain ⟨b0, b1, b2, bf, blt⟩ := HFA.out.cells
      obtain ⟨-, n1, -, -, -, -, -, -, nf, hnb⟩ := HNA.out.cells8
      go_cut [] (fun wc => w2 = wc)
      case first =>
        rcases hway with ⟨e, e6, e4⟩ | ⟨e, e6, e4, e7⟩
        all_goals
          clear e
          go_wp2_with fail
          go_meet
          rfl
      subst hcut
      go_upto_block 1 with fail
      go_cut [8] (fun v wc => v = I (writeOff s o) ∧ w2 = wc)
      case first =>
        rcases hway with ⟨e, e6, e4⟩ | ⟨e, e6, e4, e7⟩
        · have E := Lib.hid e; clear e
          cases hq : M.bit sl.flags 8
          · have hb : (bits BinOp.and IntKind.i64 sl.flags 8 != 0) = false := by have := HB8.out; rw [hq] at this; simpa using this
            have HQ := Lib.hid hq; clear hq
            go_wp2_with fail
            go_meet
            exact ⟨by rw [HOFF.out, if_neg (by rw [E.out]; decide), HQ.out]; rfl, rfl⟩
          · have hb : (bits BinOp.and IntKind.i64 sl.flags 8 != 0) = true := by have := HB8.out; rw [hq] at this; simpa using this
            have HQ := Lib.hid hq; clear hq
            go_wp2_with fail
            go_meet
            exact ⟨by rw [HOFF.out, if_neg (by rw [E.out]; decide), HQ.out]; rfl, rfl⟩
        · have E := Lib.hid e; clear e
          go_wp2_with fail
          go_meet
          exact ⟨by rw [HOFF.out, if_pos E.out], rfl⟩
      case rest =>
        obtain ⟨rfl, rfl⟩ := hcut
        have hofs : 0 ≤ writeOff s o ∧ writeOff s o ≤ 1099511627776 ∨ (o.kind = 6 ∧ 0 ≤ writeOff s o) := by
          rw [HOFF.out]
          rcases hway with ⟨e, -⟩ | ⟨e, -, -, e7⟩
          · rw [if_neg (by rw [e]; decide)]
            left
            split <;> omega
          · rw [if_pos e]; exact Or.inr ⟨e, e7⟩
        have hof0 : 0 ≤ writeOff s o := by omega
        clear hofs
        generalize hOO : writeOff s o = OO at *
        have HOO := Lib.hid hOO; clear hOO
        obtain ⟨m, rfl⟩ : ∃ m : Nat, OO = m := ⟨OO.toNat, by omega⟩
        by_cases hbig : 20736 - min (o.data.length : Int) 20736 < (m : Int) ∨ 20736 < o.data.length
        · have HR := Lib.hid (HRB.out HN2.out hbig)
          have hbig2 : (20736 - min (o.data.length : Int) 20736 < (m : Int)) ∨ (¬ (20736 - min (o.data.length : Int) 20736 < (m : Int)) ∧ (20736 : Int) < o.data.length) := by omega
          clear hbig
          rcases hbig2 with hb2 | ⟨hb2, hb3⟩
          all_goals
            go_wp2_with fail
            (with_reducible refine (code_any (15) _).mono ?_)
            rintro e wc ⟨rfl, hbc⟩
            have HBC := Lib.hid (HBS.out.below' hbc); clear hbc
            obtain ⟨z0, z1, z2, z3, z4, z5, zf, zlt⟩ := HBC.out.ans.cells
            unfold NilS at z4 z5
            unfold M.Ans.val
            go_wp2_with fail
            have hb6 := Below.put6 HBC.out.below (w.heap.size + 1) (Nat.le_succ _) (I (M.code (15)).code) (I (M.code (15)).n) (I (M.code (15)).kind) (I (M.code (15)).links) NilS NilS
            obtain ⟨r0, r1, r2, r3, r4, r5, -, -⟩ := (HBC.out.ans.store (M.code (15)) NilS NilS).cells
            unfold put6 NilS at r0 r1 r2 r3 r4 r5
            refine bodyPost_ret (v := M.Ans.val (M.code (15)) NilS NilS) (by simp [results, Tryz.results73, go_sem, M.Ans.val, NilS, r0, r1, r2, r3, r4, r5]) rfl ?_
            exact ⟨_, L, rfl, by rw [HR.out]; exact AnsIn.plain rfl rfl, by rw [HR.out]; exact H.out.below hb6, Ext.same _ _ L, Tch.ofBelow hb6⟩
        · have HBIG := Lib.hid hbig
          have hb2 : ¬ (20736 - min (o.data.length : Int) 20736 < (m : Int)) := fun h => hbig (Or.inl h)
          have hb3 : ¬ ((20736 : Int) < o.data.length) := fun h => hbig (Or.inr (by omega))
          clear hbig
          by_cases h4 : o.data = []
          · have HR := Lib.hid (HRC.out HN2.out HBIG.out h4)
            have hl0 : ((o.data.length : Int) == 0) = true := by simp [h4]
            clear h4
            obtain ⟨z0, z1, z2, z3, z4, z5, zf, zlt⟩ := HBS.out.ans.cells
            unfold NilS at z4 z5
            have HBE := HBS
            go_wp2_with fail
            have hb6 := Below.put6 HBE.out.below (w.heap.size + 1) (Nat.le_succ _) (I ({} : M.Ans).code) (I ({} : M.Ans).n) (I ({} : M.Ans).kind) (I ({} : M.Ans).links) (.slice none 0 0) (.slice none 0 0)
            obtain ⟨r0, r1, r2, r3, r4, r5, -, -⟩ := (HBE.out.ans.store ({} : M.Ans) (.slice none 0 0) (.slice none 0 0)).cells
            unfold put6 at r0 r1 r2 r3 r4 r5
            refine bodyPost_ret (v := M.Ans.val ({} : M.Ans) (.slice none 0 0) (.slice none 0 0)) (by simp [results, Tryz.results73, go_sem, M.Ans.val, r0, r1, r2, r3, r4, r5]) rfl ?_
            exact ⟨_, L, rfl, by rw [HR.out]; exact AnsIn.plain rfl rfl, by rw [HR.out]; exact H.out.below hb6, Ext.same _ _ L, Tch.ofBelow hb6⟩
          · have HR := Lib.hid (HRD.out HN2.out HBIG.out h4)
            have hlp : 0 < o.data.length := List.length_pos_iff.2 h4
            have hl0 : ((o.data.length : Int) == 0) = false := by simp [h4]
            clear h4
            obtain ⟨sz, hsz⟩ : ∃ sz, sz = max (s.nd sl.node).data.length (m + o.data.length) := ⟨_, rfl⟩
            have hszb : sz ≤ 20736 := by omega
            have hmax : max ((s.nd sl.node).data.length : Int) ((m : Int) + o.data.length) = sz := by omega
            have HSZ := Lib.hid hsz; clear hsz
            go_wp2_with fail
            have HHID := Lib.hid hb3; clear hb3
            clear o0 o1 o2 o3 o4 o5 o6 o7 of olt n1 nf hnb b0 b1 b2 bf blt
            refine wp_region_still_tail 10 (by kernel_rfl) (by kernel_rfl) ?_
            change wpStill _ _ (World.drew w2) _ _ _
            simp only [List.take_succ_cons, List.take_zero, List.drop_succ_cons, List.drop_zero]
            have HBX := Lib.hid (HBS.out.below' (Below.refl _ _).drew)
            obtain ⟨o0, o1, o2, o3, o4, o5, o6, o7, of, olt⟩ := HBX.out.op.cells
            have HFX := Lib.hid (HFA.out.below (Below.refl _ _).drew)
            obtain ⟨b0, b1, b2, bf, blt⟩ := HFX.out.cells
            obtain ⟨-, n1, -, -, -, -, -, -, nf, hnb⟩ := (HNA.out.keep (w' := w2.drew) (fun _ _ _ => rfl) (fun _ _ h => h)).cells8
            have HRZ := Lib.hid (resize_any tb L s sl.node sz w2.drew (H.out.below HBX.out.below) hn hk3 (hwf.small hk hn) hszb)
            repeat still_step
            refine wpStill_nil ?_
            change wpList _ _ _ _ _ (World.drew w2)
            generalize hwW : World.drew w2 = w3 at *
            clear hwW
            clear o0 o1 o2 o3 o4 o5 o6 o7 of olt n1 nf hnb b0 b1 b2 bf blt
            go_wp2_with fail
            (with_reducible refine HRZ.out.mono ?_)
            rintro e w4 ⟨rfl, ow4, ht4, hc4, ho4⟩
            have hnone : ∀ k, w.heap.size ≤ k → ¬ OfN L sl.node k := fun k hk' ⟨j, e⟩ => by rw [H.out.none hk'] at e; cases e
            have hfw : w.heap.size ≤ fb := HFB.out
            have HWS := Lib.hid (show WS w tb L s sl.node o (.slice dp o.data.length dc) fb sl w4 ((s.nd sl.node).resize sz) ow4 from
              ⟨ht4, HBX.out.op.tch hc4 (hnone _ (Nat.le_refl _)), HBX.out.ans.tch hc4 (hnone _ (Nat.le_succ _)), by
                have := HFX.out
                unfold FileAt at this ⊢
                rw [hc4.block fb (Array.getElem?_eq_some_iff.1 this).1 (hnone _ hfw)]
                exact this, (Tch.ofBelow (S := Owned L) HBX.out.below).andNew hc4 (fun i _ hT => by obtain ⟨j, e⟩ := hT; unfold Owned; rw [e]; simp),
              fun k hk' => ho4 k (Nat.lt_of_lt_of_le hk' HBX.out.below.size), (ho4 _ HBX.out.op.cells.lt).trans (H.out.none (Nat.le_refl _)), (ho4 _ HBX.out.ans.cells.lt).trans (H.out.none (Nat.le_succ _)), (ho4 _ HFX.out.cells.2.2.2.2).trans (H.out.none hfw)⟩)
            have HDA := Lib.hid ((HDAT.out.below HBX.out.below).tch hc4 (fun b hb' ⟨j, e⟩ => by rw [HUN.out b hb'] at e; cases e))
            clear ht4 hc4 ho4 hnone
            go_wp2_with fail
            have hs1 : (s.set sl.node ((s.nd sl.node).resize sz)).has sl.node = true := by rw [set_has]; simp
            obtain ⟨dv5, wv5, mv5, hnode5⟩ := HWS.out.tree.nodeOf hs1
            have hnd5 : (s.set sl.node ((s.nd sl.node).resize sz)).nd sl.node = (s.nd sl.node).resize sz := by rw [set_nd, if_pos rfl]
            rw [hnd5] at hnode5
            have hk5 : ((s.nd sl.node).resize sz).kind ≠ 3 := by rw [resize_kind]; exact hk3
            have hl5 := resize_len (s.nd sl.node) sz
            generalize hy5 : (s.nd sl.node).resize sz = y5 at *
            have HY5 := Lib.hid hy5; clear hy5
            have hrow5 : Row w4 ow4 (.of sl.node 1) 5 dv5 (y5.data.map U8) := by
              rcases hnode5.data with h1 | h1
              · exact h1.2
              · exact absurd h1.1 hk5
            have hmsz : m + o.data.length ≤ sz := by have := HSZ.out; omega
            obtain ⟨g, c5, cur5, hdv5, hgc5, hlc5, hcm5, hcs5, htk5⟩ : ∃ g c cur, dv5 = .slice (some ⟨g, 0, none⟩) sz c ∧ w4.heap[g]? = some (.cells cur 5 (0, 0)) ∧ sz ≤ c ∧ c ≤ maxLen ∧ cur.size = c ∧ cur.toList.take sz = y5.data.map U8 := by
              have h2 := hrow5.row.2
              rw [List.length_map, hl5] at h2
              rcases h2 with ⟨_, h0⟩ | ⟨g, c, cur, e1, _, e2, e3, e4, e5, e6⟩
              · omega
              · exact ⟨g, c, cur, e1, e2, e3, e4, by omega, by rw [Nat.mul_one] at e6; exact e6⟩
            subst hdv5
            have hog5 : ow4 g = some (.of sl.node 1) := hrow5.own g rfl
            obtain ⟨bs, os, hdp, hsrc⟩ : ∃ bs os, dp = some ⟨bs, os, none⟩ ∧ ∀ j x, o.data[j]? = some x → w4.cell? ⟨bs, os + j, none⟩ = some (U8 x) := by
              rcases HDA.out with ⟨c, e1, e2⟩ | ⟨bs, os, c, e1, _, _, e4⟩
              · rw [e2] at hlp; simp at hlp
              · exact ⟨bs, os, by simp at e1; exact e1.1, e4⟩
            subst hdp
            have HSRC := Lib.hid hsrc; clear hsrc
            have HTK := Lib.hid htk5; clear htk5
            have HL5 := Lib.hid hl5; clear hl5
            have HGC := Lib.hid hgc5; clear hgc5
            have HOG := Lib.hid hog5; clear hog5
            have hmc : ¬ c5 = m := by omega
            have hms : m ≤ sz := by omega
            have HCS := Lib.hid hcs5; clear hcs5
            have HN5 := Lib.hid hnode5; clear hnode5 hrow5 hnd5
            refine wp_region_still_tail 8 (by kernel_rfl) (by kernel_rfl) ?_
            change wpStill _ _ (World.drew w4) _ _ _
            simp only [List.take_succ_cons, List.take_zero, List.drop_succ_cons, List.drop_zero]
            have HWS5 := Lib.hid (HWS.out.below (Below.refl _ _).drew)
            obtain ⟨o0, o1, o2, o3, o4, o5, o6, o7, of, olt⟩ := HWS5.out.op.cells
            obtain ⟨-, n1, -, -, -, -, -, -, nf, hnb⟩ := (HN5.out.keep (w' := w4.drew) (fun _ _ _ => rfl) (fun _ _ h => h)).cells8
            have HN6 := Lib.hid (HN5.out.keep (w' := w4.drew) (fun _ _ _ => rfl) (fun _ _ h => h))
            have HGC6 := Lib.hid (show w4.drew.heap[g]? = _ from HGC.out)
            have HSRC6 := Lib.hid (show ∀ j x, o.data[j]? = some x → w4.drew.cell? ⟨bs, os + j, none⟩ = some (U8 x) from HSRC.out)
            repeat still_step
            refine wpStill_nil ?_
            change wpList _ _ _ _ _ (World.drew w4)
            generalize hwW : World.drew w4 = w5 at *
            clear hwW
            clear o0 o1 o2 o3 o4 o5 o6 o7 of olt n1 nf hnb
            have HCZ := Lib.hid (show (Tryz.prog.info? 5).map (·.size) = some 1 by kernel_rfl)
            have HCA := Lib.hid (show (o.data.map U8).length = Nat.min o.data.length (sz - m) by rw [List.length_map]; exact (Nat.min_eq_left (by omega)).symm)
            have HCB := Lib.hid (show ∀ j v, (o.data.map U8)[j]? = some v → w5.cell? ((⟨bs, os, none⟩ : Addr).add j) = some v from fun j v hv => by
              rw [List.getElem?_map] at hv
              cases hx : o.data[j]? with
              | none => simp [hx] at hv
              | some x => rw [hx] at hv; cases hv; rw [add_lit0]; exact HSRC6.out j x hx)
            have HCC := Lib.hid (show m + (o.data.map U8).length ≤ cur5.size by have := HCS.out; simp; omega)
            have HCD := Lib.hid (show ∀ v ∈ o.data.map U8, v.oneCell' = true from fun v hv => by obtain ⟨x, _, rfl⟩ := List.mem_map.1 hv; rfl)
            go_wp2_with (first | (with_reducible refine wpList_copy_held rfl (.tmp 94) (.tmp 96) 22 22 rfl 5 Tryz.underlying22 HCZ.out g m (sz - m) (c5 - m) ⟨bs, os, none⟩ o.data.length dc rfl rfl cur5 5 HGC6.out (o.data.map U8) HCA.out HCB.out HCC.out HCD.out ?_; intro w6 hw6) | fail)
            have hT6 := setRow_tch w5 g (cur5.toList.take m ++ (o.data.map U8 ++ cur5.toList.drop (m + (o.data.map U8).length))).toArray
            rw [← hw6.out] at hT6
            have hrow6 := Row.spliced (ow := ow4) (n := sl.node) (l := y5.data) (b := o.data) (m := m) HGC6.out HCS.out (by rw [HL5.out]; exact hlc5) hcm5 (by rw [HL5.out]; exact HTK.out) HOG.out (by rw [HL5.out]; exact hmsz)
            rw [← hw6.out, HL5.out] at hrow6
            have hset : (s.set sl.node y5).nd sl.node = y5 := by rw [set_nd, if_pos rfl]
            have ht6 := HWS5.out.tree.dataRow hs1 hT6 HOG.out (by rw [hset]; exact HN6.out) (by rw [hset]; exact hk5) hrow6
            rw [hset, set_set] at ht6
            have HWS6 := Lib.hid (HWS5.out.step (ow2 := ow4) ht6 (hT6.mono fun k _ hk' => ⟨1, by have e : k = g := hk'; rw [e]; exact HOG.out⟩) (fun _ _ => rfl))
            clear hT6 hrow6 hset ht6 hw6 HCZ HCA HCB HCC HCD
            have hwl : y5.written.length ≤ 162 := by
              have h1 := (hwf.data _ hn).2
              have h2 := HY5.out
              rw [← h2]
              exact Nat.le_trans (resize_writ _ _) h1
            obtain ⟨N, hN⟩ : ∃ N : Nat, M.need ((m : Int) + o.data.length) = N := ⟨(M.need ((m : Int) + o.data.length)).toNat, by have := toInt_need ((m : Int) + o.data.length); omega⟩
            have hN2 : N ≤ 162 := by have := toInt_need ((m : Int) + o.data.length); omega
            have HNN := Lib.hid hN; clear hN
            have HNQ := Lib.hid (show ∀ w', Calls Tryz.prog 118 #[I ((m : Int) + o.data.length)] w' fun e w2 => e = .returned (I N) ∧ w2 = w' from fun w' => by rw [← HNN.out]; exact need_any ((m : Int) + o.data.length) w' (by omega) (by omega))
            clear HN5 HN6 HGC HGC6 HSRC HSRC6 HRZ HDA HTK HOG HCS hmax hszb HWS HWS5
            go_loopg [] (N - y5.written.length) (fun gk wr => ∃ (j : Nat) (ow1 : Nat → Option Own), gk = N - y5.written.length - j ∧ (j = 0 ∨ y5.written.length + j ≤ N) ∧ WS w tb L s sl.node o (.slice (some ⟨bs, os, none⟩) o.data.length dc) fb sl wr { y5 with data := y5.data.take m ++ o.data ++ y5.data.drop (m + o.data.length), written := y5.written ++ List.replicate j false } ow1)
            case atStart => exact ⟨0, ow4, rfl, Or.inl rfl, by simpa using HWS6.out⟩
            case round =>
              obtain ⟨j, ow1, hgk, hj, hws⟩ := hrel
              have HWR := Lib.hid hws; clear hws
              have HGK := Lib.hid hgk; clear hgk
              have hs7 : ∀ z, (s.set sl.node z).has sl.node = true := fun z => by rw [set_has]; simp
              have hnd7 : ∀ z, (s.set sl.node z).nd sl.node = z := fun z => by rw [set_nd, if_pos rfl]
              obtain ⟨dv7, wv7, mv7, hnode7⟩ := HWR.out.tree.nodeOf (hs7 _)
              rw [hnd7] at hnode7
              have HW7 := Lib.hid hnode7.writ
              obtain ⟨pw7, cw7, hwv7⟩ := hnode7.writ.list.form
              rw [List.length_append, List.length_replicate] at hwv7
              subst hwv7
              obtain ⟨-, -, n2, -, -, -, -, -, nf, hnb⟩ := hnode7.cells8
              have HN7 := Lib.hid hnode7; clear hnode7
              have HS7 := Lib.hid hs7; clear hs7
              have HD7 := Lib.hid hnd7; clear hnd7
              by_cases hlt : y5.written.length + j < N
              · go_wp2_with fail
                go_quiet ((go_at_call 118; exact Calls.quiet_of_same (HNQ.out _)))
                have HT8 := Lib.hid (HWR.out.below ((below_drewN (Below.refl wr.heap.size wr) nq).alloc (Nat.le_refl _) (.cells #[Value.bool false] 4)))
                have HR8 := Lib.hid (World.ownsRow.alloc (row_same (w' := wr.drewN nq) HW7.out.row (fun _ _ => rfl)) (.cells #[Value.bool false] 4))
                rw [List.length_map, List.length_append, List.length_replicate] at HR8
                have HN8 := Lib.hid (show ∀ q u, [Value.bool false][q]? = some u → ((wr.drewN nq).alloc (.cells #[Value.bool false] 4)).cell? ((⟨wr.heap.size, 0, none⟩ : Addr).add q) = some u from cell_app (by simp) _)
                have HA1 := Lib.hid (show y5.written.length + j + 1 ≤ maxLen by unfold maxLen; omega)
                have HA2 := Lib.hid (show (y5.written.length + j + 1) * 1 ≤ 140737488355328 by omega)
                have HA3 := Lib.hid (show ∀ u ∈ [Value.bool false], u.oneCell' = true by simp [Value.oneCell'])
                have HPB := Lib.hid (show ∀ w8, ((wr.drewN nq).alloc (.cells #[Value.bool false] 4)).grownBy w8 (Value.slice pw7 (y5.written.length + j) cw7).ownBlock → w8.cell? ⟨L.pn sl.node, 2, none⟩ = some (.slice pw7 (y5.written.length + j) cw7) ∧ ∀ q, w8.frozen? ⟨L.pn sl.node, q, none⟩ = false from fun w8 hg8 => by
                  have hlt : L.pn sl.node < ((wr.drewN nq).alloc (.cells #[Value.bool false] 4)).heap.size := by have := HN7.out.cells8.lt; simp; omega
                  have hne : some (L.pn sl.node) ≠ (Value.slice pw7 (y5.written.length + j) cw7).ownBlock := fun e => by
                    have h1 := HW7.out.own _ e.symm
                    have h2 := HN7.out.own
                    rw [h1] at h2; cases h2
                  have hc := HN7.out.keep (w' := (wr.drewN nq).alloc (.cells #[Value.bool false] 4)) (fun q i hq => heap_alloc_old _ _ (HWR.out.tree.low q _ hq)) (fun _ _ h => h)
                  exact ⟨(hg8.cell_far ⟨L.pn sl.node, 2, none⟩ hlt hne).trans hc.cells8.c2, fun q => (hg8.frozen_far ⟨L.pn sl.node, q, none⟩ hlt hne).trans (hc.cells8.f q)⟩)
                obtain ⟨i0, hi, hz0, hz1, hz2⟩ := info_parts infoBool
                have HI := Lib.hid hi; clear hi
                have Z0 := Lib.hid hz0; clear hz0
                have Z1 := Lib.hid hz1; clear hz1
                have Z2 := Lib.hid hz2; clear hz2
                go_wp2_with (first | (refine wpList_append_lies _ rfl (.tmp 110) (.tmp 111) 70 rfl 0 4 i0 (.bool false) 1 1 Tryz.underlying70 HI.out Z0.out Z1.out Z2.out rfl (Nat.lt_add_one 0) _ _ _ rfl HR8.out ⟨wr.heap.size, 0, none⟩ 1 1 [Value.bool false] rfl rfl HN8.out HA3.out (Nat.lt_add_one 0) HA1.out HA2.out (Nat.zero_le _) _ rfl ?_; intro g8 c8 w8 hr8 hg8 hb8 hlt8; obtain ⟨m2, mf⟩ := HPB.out _ hg8; have HG9 := Lib.hid hg8; clear hg8; have HR9 := Lib.hid hr8; clear hr8; have HB9 := Lib.hid hb8; clear hb8) | fail)
                have hw9 : y5.written ++ List.replicate (j + 1) false = (y5.written ++ List.replicate j false) ++ [false] := by rw [List.replicate_succ', ← List.append_assoc]
                obtain ⟨ht9, hc9, ho9⟩ := HT8.out.tree.newWritten (HS7.out _) (l := y5.written ++ List.replicate (j + 1) false) HG9.out (fun q hq => HW7.out.own q hq) (by
                  have := HR9.out
                  rw [hw9, List.map_append, show ((y5.written ++ List.replicate j false) ++ [false]).length = y5.written.length + j + 1 by simp; omega]
                  exact this) (fun q hq => by
                  cases hq
                  rcases HB9.out with e | e
                  · exact Or.inl (HW7.out.own _ e)
                  · exact Or.inr (Nat.le_of_eq e.symm))
                rw [HD7.out, set_set] at ht9
                have HWX := Lib.hid (HT8.out.step ht9 hc9 ho9)
                clear ht9 hc9 ho9 hw9 m2 mf
                go_wp2_with fail
                go_roundg (N - y5.written.length - (j + 1))
                case measure => have := HGK.out; omega
                case rel => exact ⟨j + 1, _, rfl, Or.inr (by omega), HWX.out⟩
              · go_wp2_with fail
                go_quiet ((go_at_call 118; exact Calls.quiet_of_same (HNQ.out _)))
                have hjr : List.replicate j false = List.replicate (N - y5.written.length) false := by
                  rcases hj with e | e
                  · subst e; rw [show N - y5.written.length = 0 by omega]
                  · rw [show N - y5.written.length = j by omega]
                have hwr := HWR.out.below (below_drewN (Below.refl wr.heap.size wr) nq)
                rw [hjr] at hwr
                have HWT := Lib.hid hwr; clear hwr
                obtain ⟨w0, hw0⟩ : ∃ w0, w0 = y5.written ++ List.replicate (N - y5.written.length) false := ⟨_, rfl⟩
                have hw0l : N ≤ w0.length := by rw [hw0]; simp; omega
                have hw0m : w0.length ≤ 162 := by rw [hw0]; simp; omega
                rw [← hw0] at HWT
                have HW0 := Lib.hid hw0; clear hw0 hjr
                have hkq : m / 128 < N := by have := need_gt hlp (by have := HHID.out; omega : m + o.data.length ≤ 20736); rw [HNN.out] at this; omega
                have hmq : ((m : Int) / 128) = ((m / 128 : Nat) : Int) := by omega
                obtain ⟨a, ha⟩ : ∃ a, m / 128 = a := ⟨_, rfl⟩
                rw [ha] at hkq hmq
                have HAQ := Lib.hid ha; clear ha
                clear n2 nf hnb hj
                obtain ⟨o0, o1, o2, o3, o4, o5, o6, o7, of, olt⟩ := HWT.out.op.cells
                generalize hwt : wr.drewN nq = wt at *
                clear hwt
                clear HW7 HN7 HWR HGK
                go_wp2_with fail
                clear hlt
                go_loopg [10] (N - a) (fun gk v wx => ∃ (q : Nat) (ow3 : Nat → Option Own), v = .int .i64 (q : Nat) ∧ gk = N - q ∧ a ≤ q ∧ q ≤ N ∧ WS w tb L s sl.node o (.slice (some ⟨bs, os, none⟩) o.data.length dc) fb sl wx { y5 with data := y5.data.take m ++ o.data ++ y5.data.drop (m + o.data.length), written := marks w0 a q } ow3)
                case atStart => exact ⟨a, ow1, rfl, rfl, Nat.le_refl _, by omega, by rw [marks_start]; exact HWT.out⟩
                case round =>
                  obtain ⟨q, ow3, rfl, hgk, haq, hqN, hws⟩ := hrel
                  have HWR := Lib.hid hws; clear hws
                  have HGK := Lib.hid hgk; clear hgk
                  clear HWT o0 o1 o2 o3 o4 o5 o6 o7 of olt
                  by_cases hlt : q < N
                  · have hs7 : (s.set sl.node { y5 with data := y5.data.take m ++ o.data ++ y5.data.drop (m + o.data.length), written := marks w0 a q }).has sl.node = true := by rw [set_has]; simp
                    have hnd7 : (s.set sl.node { y5 with data := y5.data.take m ++ o.data ++ y5.data.drop (m + o.data.length), written := marks w0 a q }).nd sl.node = { y5 with data := y5.data.take m ++ o.data ++ y5.data.drop (m + o.data.length), written := marks w0 a q } := by rw [set_nd, if_pos rfl]
                    obtain ⟨dv7, wv7, mv7, hnode7⟩ := HWR.out.tree.nodeOf hs7
                    have hqw : q < w0.length := by omega
                    have hrw7 := hnode7.writ
                    rw [hnd7] at hrw7
                    obtain ⟨g7, c7, hwv7, hg7, hog7, hfz7, hce7⟩ : ∃ g c, wv7 = .slice (some ⟨g, 0, none⟩) w0.length c ∧ g < wr.heap.size ∧ ow3 g = some (.of sl.node 2) ∧ (∀ j, wr.frozen? ⟨g, j, none⟩ = false) ∧ ∀ j u, ((marks w0 a q).map Value.bool)[j]? = some u → wr.cell? ⟨g, j, none⟩ = some u := by
                      rcases hrw7.form with ⟨_, h0⟩ | ⟨g, c, e1, e2, e3, _, _, e4, e5⟩
                      · have : (marks w0 a q).length = 0 := by simpa using h0
                        rw [marks_len] at this; omega
                      · exact ⟨g, c, by rw [List.length_map, marks_len] at e1; exact e1, e2, e3, e4, e5⟩
                    subst hwv7
                    obtain ⟨b7, hb7⟩ : ∃ b, (marks w0 a q)[q]? = some b := ⟨_, List.getElem?_eq_getElem (by rw [marks_len]; exact hqw)⟩
                    have hcq : wr.cell? ⟨g7, q, none⟩ = some (.bool b7) := hce7 q _ (by simp [hb7])
                    have hst := hrw7.row
                    rw [List.length_map, marks_len] at hst
                    have hst2 := (World.ownsRow.stored hst q (.bool true)).1
                    have hT7 : Tch (One g7) wr (wr.setCell ⟨g7, q, none⟩ (.bool true)) := (Tch.refl (One g7) wr).setCell (p := ⟨g7, q, none⟩) (one_self g7) _
                    have ht7 := HWR.out.tree.writRow hs7 (l' := marks w0 a (q + 1)) hT7 hog7 hnode7 ⟨by
                      rw [List.length_map, marks_len, marks_succ w0 haq hqw, List.map_set]
                      exact hst2, fun k hk' => by cases hk'; exact hog7⟩
                    rw [hnd7, set_set] at ht7
                    have HWX := Lib.hid (HWR.out.step (ow2 := ow3) ht7 (hT7.mono fun k _ hk' => ⟨2, by have e : k = g7 := hk'; rw [e]; exact hog7⟩) (fun _ _ => rfl))
                    obtain ⟨-, -, n2, -, -, -, -, -, nf, hnb⟩ := hnode7.cells8
                    clear hs7 hnd7 hnode7 hrw7 hog7 hce7 hst hst2 hT7 ht7 hb7
                    go_wp2_with fail
                    (with_reducible refine (HNQ.out _).mono ?_)
                    rintro e w8 ⟨rfl, rfl⟩
                    go_wp2_with fail
                    go_roundg (N - (q + 1))
                    case measure => have := HGK.out; omega
                    case rel => exact ⟨q + 1, ow3, by go_num, rfl, by omega, by omega, HWX.out⟩
                  · obtain rfl : q = N := by omega
                    have hfin : (s.nd sl.node).write m o.data = { y5 with data := y5.data.take m ++ o.data ++ y5.data.drop (m + o.data.length), written := marks w0 a q } := by
                      unfold M.Nd.write marks
                      rw [← HSZ.out, HY5.out]
                      simp only
                      rw [show ((m + o.data.length : Nat) : Int) = (m : Int) + o.data.length by omega, HNN.out, Int.toNat_natCast, ← HW0.out, HAQ.out]
                    have HFIN := Lib.hid hfin; clear hfin
                    obtain ⟨o0, o1, o2, o3, o4, o5, o6, o7, of, olt⟩ := HWR.out.op.cells
                    obtain ⟨z0, z1, z2, z3, z4, z5, zf, zlt⟩ := HWR.out.ans.cells
                    unfold NilS at z4 z5
                    go_wp2_with fail
                    (with_reducible refine (HNQ.out _).mono ?_)
                    rintro e w8 ⟨rfl, rfl⟩
                    rcases hway with ⟨e, e6, e4⟩ | ⟨e, e6, e4, e7⟩
                    · have E := Lib.hid e; clear e
                      go_wp2_with fail
                      clear o0 o1 o2 o3 o4 o5 o6 o7 of olt z0 z1 z2 z3 z4 z5 zf zlt
                      refine wp_region_still_tail 7 (by kernel_rfl) (by kernel_rfl) ?_
                      change wpStill _ _ (World.drew w8) _ _ _
                      simp only [List.take_succ_cons, List.take_zero, List.drop_succ_cons, List.drop_zero]
                      have HWY := Lib.hid (HWR.out.below (Below.refl _ _).drew)
                      obtain ⟨o0, o1, o2, o3, o4, o5, o6, o7, of, olt⟩ := HWY.out.op.cells
                      obtain ⟨t0, -, t2, -, -, tf, htb⟩ := HWY.out.tree.cells5
                      have HMV := Lib.hid (move_any w8.drew L.fb s.fds o.fd ((m : Int) + o.data.length) HWY.out.tree.fds)
                      repeat still_step
                      refine wpStill_nil ?_
                      change wpList _ _ _ _ _ (World.drew w8)
                      generalize hwW : World.drew w8 = w9 at *
                      clear hwW
                      clear o0 o1 o2 o3 o4 o5 o6 o7 of olt t0 t2 tf htb
                      go_wp2_with fail
                      (with_reducible refine HMV.out.mono ?_)
                      rintro er w10 ⟨ht, ⟨q2, hq2, hfd, ho, ⟨hneg, rfl, hf⟩ | ⟨hpos, rfl, hf⟩⟩ | ⟨hno, rfl, hf⟩⟩
                      · exfalso; omega
                      · have HT10 := Lib.hid (HWY.out.tree.newFds ht hf)
                        have HOF := Lib.hid ((HWY.out.old _ (H.out.low _ _ H.out.ownf)).trans H.out.ownf)
                        have HTC := Lib.hid (Tch.andNew HWY.out.tch ht (fun i _ hT => by have e : i = L.fb := hT; rw [e]; unfold Owned; rw [H.out.ownf]; simp))
                        have hne2 : ¬ One L.fb (w.heap.size + 1) := fun e => by have e' : w.heap.size + 1 = L.fb := e; have := H.out.low _ _ H.out.ownf; omega
                        have hne1 : ¬ One L.fb w.heap.size := fun e => by have e' : w.heap.size = L.fb := e; have := H.out.low _ _ H.out.ownf; omega
                        have HA10 := Lib.hid (HWY.out.ans.tch ht hne2)
                        have HO10 := Lib.hid (HWY.out.op.tch ht hne1)
                        have HQ := Lib.hid (show ∀ y, (s.set sl.node y).moveTo o.fd ((m : Int) + o.data.length) = { s.set sl.node y with fds := tset s.fds q2 { s.fds q2 with off := (m : Int) + o.data.length } } from fun y => by
                          unfold M.St.moveTo M.St.fdSet tset
                          rw [hfd, Int.toNat_natCast]
                          rfl)
                        clear ht hf hne2 hne1 hfd ho
                        obtain ⟨o0, o1, o2, o3, o4, o5, o6, o7, of, olt⟩ := HO10.out.cells
                        obtain ⟨z0, z1, z2, z3, z4, z5, zf, zlt⟩ := HA10.out.cells
                        unfold NilS at z4 z5
                        go_wp2_with fail
                        have hb6 := Tch.put6 HTC.out (w.heap.size + 1) (Nat.le_succ _) (I 0) (I o.data.length) (I 0) (I 0) NilS NilS
                        have ht6 := HT10.out.put6 (w.heap.size + 1) HWY.out.n1 (I 0) (I o.data.length) (I 0) (I 0) NilS NilS
                        obtain ⟨r0, r1, r2, r3, r4, r5, -, -⟩ := (HA10.out.store { n := o.data.length } NilS NilS).cells
                        unfold put6 NilS at r0 r1 r2 r3 r4 r5
                        refine bodyPost_ret (v := M.Ans.val { n := (o.data.length : Int) } NilS NilS) (by simp [results, Tryz.results73, go_sem, M.Ans.val, NilS, r0, r1, r2, r3, r4, r5]) rfl ?_
                        exact ⟨_, { L with ow := ow3 }, rfl, by rw [HR.out]; exact AnsIn.plain rfl rfl, by rw [HR.out, if_pos E.out, Int.toNat_natCast, HFIN.out, HQ.out]; exact ht6, ⟨rfl, rfl, fun k hk => HWY.out.old k hk⟩, hb6⟩
                      · exact absurd HIO.out hno
                    · have E := Lib.hid e; clear e
                      go_wp2_with fail
                      have hb6 := Tch.put6 HWR.out.tch (w.heap.size + 1) (Nat.le_succ _) (I 0) (I o.data.length) (I 0) (I 0) NilS NilS
                      have ht6 := HWR.out.tree.put6 (w.heap.size + 1) HWR.out.n1 (I 0) (I o.data.length) (I 0) (I 0) NilS NilS
                      obtain ⟨r0, r1, r2, r3, r4, r5, -, -⟩ := (HWR.out.ans.store { n := o.data.length } NilS NilS).cells
                      unfold put6 NilS at r0 r1 r2 r3 r4 r5
                      refine bodyPost_ret (v := M.Ans.val { n := (o.data.length : Int) } NilS NilS) (by simp [results, Tryz.results73, go_sem, M.Ans.val, NilS, r0, r1, r2, r3, r4, r5]) rfl ?_
                      exact ⟨_, { L with ow := ow3 }, rfl, by rw [HR.out]; exact AnsIn.plain rfl rfl, by rw [HR.out, if_neg (by rw [E.out]; decide), Int.toNat_natCast, HFIN.out]; exact ht6, ⟨rfl, rfl, fun k hk => HWR.out.old k hk⟩, hb6⟩
  · have hb1 : (s.fileCode o.fd true != 0) = true := by simpa using hc
    have HR := Lib.hid (write_bad hc)
    clear hc
    generalize s.fileCode o.fd true = C at *
    have HBS := Lib.hid (HBS.out.below' (hb.alloc hb.size (.cells #[I 0, I 0, I 0] 90)))
    unfold M.Sl.fval
    go_wp2_with fail
    (with_reducible refine (code_any (C) _).mono ?_)
    rintro e wc ⟨rfl, hbc⟩
    have HBC := Lib.hid (HBS.out.below' hbc); clear hbc
    obtain ⟨z0, z1, z2, z3, z4, z5, zf, zlt⟩ := HBC.out.ans.cells
    unfold NilS at z4 z5
    unfold M.Ans.val
    go_wp2_with fail
    have hb6 := Below.put6 HBC.out.below (w.heap.size + 1) (Nat.le_succ _) (I (M.code (C)).code) (I (M.code (C)).n) (I (M.code (C)).kind) (I (M.code (C)).links) NilS NilS
    obtain ⟨r0, r1, r2, r3, r4, r5, -, -⟩ := (HBC.out.ans.store (M.code (C)) NilS NilS).cells
    unfold put6 NilS at r0 r1 r2 r3 r4 r5
    refine bodyPost_ret (v := M.Ans.val (M.code (C)) NilS NilS) (by simp [results, Tryz.results73, go_sem, M.Ans.val, NilS, r0, r1, r2, r3, r4, r5]) rfl ?_
    exact ⟨_, L, rfl, by rw [HR.out]; exact AnsIn.plain rfl rfl, by rw [HR.out]; exact H.out.below hb6, Ext.same _ _ L, Tch.ofBelow hb6⟩
end Go.Proofs.YtpfaccpmgldkeaaGreatDoor
