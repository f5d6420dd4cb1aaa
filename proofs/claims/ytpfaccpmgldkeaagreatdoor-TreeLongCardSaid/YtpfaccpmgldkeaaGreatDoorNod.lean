/- Contract of the walk through a tree (Nodes' own function). -/
import Derived.Test.YtpfaccpmgldkeaaGreatDoorNds
import Derived.Test.YtpfaccpmgldkeaaGreatDoorRead
import Derived.Deep.AppendLies
import Derived.Deep.RegionHeld3
import Derived.Laws.IdiomRangeMap
set_option linter.unusedVariables false
set_option linter.unusedSimpArgs false
namespace Go.Proofs.YtpfaccpmgldkeaaGreatDoor
open Go.RowKit Go.MapKept Go.ChangeMaps
set_option maxRecDepth 100000

def SeePost (B : Nat) (tb : Nat) (L : Lay) (s : M.St) (bt bo bs : Nat) (out : List (M.Seen × Value)) (l : List M.Seen) (w : World) (e : Ending) (w' : World) : Prop :=
  e = .returned (.tuple #[]) ∧ ∃ v' out', SeeW B tb L s bt bo bs w' v' (out ++ out') ∧ (out'.map (·.1)).Perm l ∧ TS B bo w w'

/-- A file as it is seen. -/
def seenAt (s : M.St) (n : Int) (p : M.Bs) : M.Seen := ⟨told p, n, (s.nd n).kind, (s.nd n).links, (s.nd n).data⟩
theorem see_at {s : M.St} (f : Nat) (n : Int) (p : M.Bs) : s.see (f + 1) n p = seenAt s n p :: (s.nd n).names.flatMap fun c => s.see f c.2 (p ++ M.slash :: c.1) := rfl

theorem two0 (w : World) (x y : Value) (T : TypeId) : (w.alloc (.cells #[x, y] T)).cell? ⟨w.heap.size, 0, none⟩ = some x := by rw [cell_of_row _ _ _ _ _ _ (heap_alloc_new _ _)]; rfl
theorem two1 (w : World) (x y : Value) (T : TypeId) : (w.alloc (.cells #[x, y] T)).cell? ⟨w.heap.size, 1, none⟩ = some y := by rw [cell_of_row _ _ _ _ _ _ (heap_alloc_new _ _)]; rfl
theorem clone_keep {w W w2 : World} {B n : Nat} {e : TypeId} {dw : Value} {xs : List Value} (h : Below w.heap.size w W) (hB : B ≤ w.heap.size) (hr : w2.ownsRow W.heap.size e 1 dw n xs) (hb : Below W.heap.size W w2) : w2.ownsRow B e 1 dw n xs ∧ Below w.heap.size w w2 :=
  ⟨row_lower hr (Nat.le_trans hB h.size), h.trans (hb.mono h.size)⟩
theorem cat3 (p x : M.Bs) : (({ data := p.toArray } : ByteArray) ++ { data := #[47] } ++ { data := x.toArray } : ByteArray) = { data := (p ++ M.slash :: x).toArray } := by
  rw [ByteArray.ext_iff]
  simp [M.slash]
theorem keep3 {wa wb : World} {a2 a3 a4 : Addr} {v2 v3 v4 : Value} (h : wa.cell? a2 = some v2 ∧ wa.cell? a3 = some v3 ∧ wa.cell? a4 = some v4) (hb : Below wa.heap.size wa wb) : wb.cell? a2 = some v2 ∧ wb.cell? a3 = some v3 ∧ wb.cell? a4 = some v4 :=
  ⟨cell_later hb h.1, cell_later hb h.2.1, cell_later hb h.2.2⟩
theorem far3 {w : World} {bo pb i j k : Nat} {v2 v3 v4 u : Value} (hne : ¬ bo = pb) (h : w.cell? ⟨pb, i, none⟩ = some v2 ∧ w.cell? ⟨pb, j, none⟩ = some v3 ∧ w.cell? ⟨pb, k, none⟩ = some v4) :
    (w.setCell ⟨bo, 0, none⟩ u).cell? ⟨pb, i, none⟩ = some v2 ∧ (w.setCell ⟨bo, 0, none⟩ u).cell? ⟨pb, j, none⟩ = some v3 ∧ (w.setCell ⟨bo, 0, none⟩ u).cell? ⟨pb, k, none⟩ = some v4 := by
  refine ⟨?_, ?_, ?_⟩ <;> rw [World.cell?_setCell_far _ _ _ _ hne]
  · exact h.1
  · exact h.2.1
  · exact h.2.2

/-- The append of one file. -/
theorem see_append {B tb : Nat} {L : Lay} {s : M.St} {bt bo bs : Nat} {w W : World} {v : Value} {out : List (M.Seen × Value)} (h : SeeW B tb L s bt bo bs w v out) (hlen : out.length + 1 ≤ 1000000000) (hb : Below w.heap.size w W) {pth : M.Bs} {n kd lk : Int} {dw : Value} {l : M.Bs} (hrow : W.ownsRow B 5 1 dw l.length (l.map U8))
    {pb : Nat} (hpb : pb < B) {v2 v3 v4 : Value} (hc : w.cell? ⟨pb, 0, none⟩ = some v2 ∧ w.cell? ⟨pb, 5, none⟩ = some v3 ∧ w.cell? ⟨pb, 1, none⟩ = some v4)
    {ops : Array Oper} {o : Oper} {a : Act} {K : Act → World → Prop} {Q : Exit → Act → World → Prop} {E : Prop} (hgd : o.guard = none) (so x : Operand)
    (ho : o.op = .call { callee := .builtin .append, args := #[so, x], argTypes := #[33, 33] }) (hs : a.eval so = v) (hx : a.eval x = .slice (some ⟨W.heap.size, 0, none⟩) 1 1)
    (hK : ∀ g cap w1, SeeW B tb L s bt bo bs (w1.setCell ⟨bo, 0, none⟩ (.slice (some ⟨g, 0, none⟩) (out.length + 1) cap)) (.slice (some ⟨g, 0, none⟩) (out.length + 1) cap) (out ++ [(⟨pth, n, kd, lk, l⟩, dw)]) → TS B bo w (w1.setCell ⟨bo, 0, none⟩ (.slice (some ⟨g, 0, none⟩) (out.length + 1) cap)) → (w1.frozen? ⟨bo, 0, none⟩ = false) →
      (w1.cell? ⟨bo, 0, none⟩ = some v) → (w1.cell? ⟨pb, 0, none⟩ = some v2 ∧ w1.cell? ⟨pb, 5, none⟩ = some v3 ∧ w1.cell? ⟨pb, 1, none⟩ = some v4) → K (a.put o.dst (.slice (some ⟨g, 0, none⟩) (out.length + 1) cap)) w1) :
    if Region.wanted o (yielded ops a.tmps) = true then Oper.wp Tryz.prog o a (W.alloc (.cells #[S pth, I n, I kd, I lk, dw] 44)) K Q else E := by
  obtain ⟨i0, hi, hz0, hz1, hz2⟩ := info_parts infoNode
  have h1 := h.keep hb
  have h2 := h1.keep ((Below.refl _ _).alloc (Nat.le_refl _) (.cells #[S pth, I n, I kd, I lk, dw] 44))
  refine step_append_lies _ hgd so x _ ho B 44 i0 _ 5 64 Tryz.underlying33 hi hz0 hz1 hz2 rfl (by decide) v out.length (cellsN out) hs h2.row ⟨W.heap.size, 0, none⟩ 1 1 (encN (⟨pth, n, kd, lk, l⟩, dw)) hx rfl ?_ ?_ (by decide) (by unfold maxLen; omega) (by omega) h2.size _ rfl ?_
  · exact World.news_of_block (cs := #[S pth, I n, I kd, I lk, dw]) (t := 44) (fr := (0, 0)) (heap_alloc_new W _)
  · obtain ⟨p, c, rfl, _⟩ := row_form hrow
    intro u hu
    simp only [encN, List.mem_cons, List.mem_nil_iff, or_false] at hu
    rcases hu with rfl | rfl | rfl | rfl | rfl <;> rfl
  · intro g cap w1 hown hgrow _ _
    have hbf := h2.boAt
    have hfar : ∀ k j, k < B → w1.cell? ⟨k, j, none⟩ = (W.alloc (.cells #[S pth, I n, I kd, I lk, dw] 44)).cell? ⟨k, j, none⟩ := fun k j hk => World.cell?_of_block (a := ⟨k, j, none⟩) (hgrow.block k (Nat.lt_of_lt_of_le hk h2.size) (fun e => by have := (World.ownsRow.lt h2.row k e.symm).1; omega))
    have hfz : w1.frozen? ⟨bo, 0, none⟩ = false := by
      have hb1 : w1.heap[bo]? = (W.alloc (.cells #[S pth, I n, I kd, I lk, dw] 44)).heap[bo]? := hgrow.block bo hbf.2.2 (fun e => by have := (World.ownsRow.lt h2.row bo e.symm).1; have := h.hbo.1; omega)
      rw [h2.hbo.2] at hb1
      exact frozen_of_row _ _ _ _ _ hb1
    have hcW := keep3 hc (hb.alloc hb.size (.cells #[S pth, I n, I kd, I lk, dw] 44))
    refine hK g cap w1 (h2.push (World.ownsRow.alloc hrow _) hown hgrow) ?_ hfz ?_ ⟨?_, ?_, ?_⟩
    · exact (((TS.refl B bo w).below (hb.alloc hb.size _)).grown h2.row hgrow).setBo _
    · rw [hfar _ _ h.hbo.1]; exact hbf.1
    · rw [hfar _ _ hpb]; exact hcW.1
    · rw [hfar _ _ hpb]; exact hcW.2.1
    · rw [hfar _ _ hpb]; exact hcW.2.2

set_option maxHeartbeats 4000000 in
theorem see_walk (k : Int) (d : Int → Nat) (tb : Nat) (L : Lay) (s : M.St) (hwf : Wz 0 k d s) (B bt bo bs : Nat) : ∀ (f : Nat) (n : Int) (p : M.Bs) (v : Value) (out : List (M.Seen × Value)) (w : World),
    SeeW B tb L s bt bo bs w v out → s.has n = true → ((s.nd n).kind = 2 → 22 ≤ d n + f ∧ d n ≤ 20) → 1 ≤ f → p.length + 25 * f ≤ 1000 → out.length + (s.see f n p).length ≤ 1000000000 →
    Calls Tryz.prog 46 #[I n, S p, Pt bt, Pt bo, Pt bs] w (SeePost B tb L s bt bo bs out (s.see f n p) w) := by
  intro f
  induction f with
  | zero => intro _ _ _ _ _ _ _ _ h1; omega
  | succ f ih =>
    intro n p v out w hS hn hdn _ hpl hlen
    obtain ⟨i0, hi, hz0, hz1, hz2⟩ := info_parts infoNode
    have HI := Lib.hid hi; clear hi
    have Z0 := Lib.hid hz0; clear hz0
    have Z1 := Lib.hid hz1; clear hz1
    have Z2 := Lib.hid hz2; clear hz2
    rw [see_at] at hlen ⊢
    have HLEN := Lib.hid hlen; clear hlen
    have HDN := Lib.hid hdn; clear hdn
    have HPL := Lib.hid hpl; clear hpl
    have IH := Lib.hid ih; clear ih
    have HSW := Lib.hid hS; clear hS
    have hbt := HSW.out.btAt
    obtain ⟨hbo, hbof, hbol⟩ := HSW.out.boAt
    have hsm := hwf.wf.data n hn
    have HSM := Lib.hid (show (s.nd n).data.length ≤ 1000000 by omega); clear hsm
    obtain ⟨t0, -, -, -, -, tf, htb⟩ := HSW.out.tree.cells5
    have hlook := HSW.out.tree.look hn
    obtain ⟨dv, wv, mv, hnode⟩ := HSW.out.tree.nodeOf hn
    obtain ⟨n0, n1, -, n3, -, n5, -, -, nf, hnb⟩ := hnode.cells8
    obtain ⟨pv, cv, rfl⟩ := hnode.data.list.form
    have HLA := Lib.hid hnode.data.list
    have HNM := Lib.hid hnode.nams
    have HN := Lib.hid hn
    clear hnode
    have HBS := Lib.hid HSW.out.bsAt
    generalize hpb : L.pn n = pb at *
    have HPB := Lib.hid hpb; clear hpb
    go_enter Tryz.func46, Tryz.ntmps46
    go_upto_region 1 with fail
    have HPBL := Lib.hid (show pb < B from by rw [← HPB.out]; exact HSW.out.low _ _ (HSW.out.tree.ownOf hn))
    have HSZ := Lib.hid HSW.out.size
    have hbp : ¬ bo = pb := fun e => by have h1 := HSW.out.ow; have h2 := HSW.out.tree.ownOf HN.out; rw [HPB.out, ← e, h1] at h2; cases h2
    have HL1 := Lib.hid (show out.length + 1 ≤ 1000000000 by have := HLEN.out; rw [List.length_cons] at this; omega)
    go_cut [] (fun wc => ∃ v' dw, SeeW B tb L s bt bo bs wc v' (out ++ [(seenAt s n p, dw)]) ∧ TS B bo w wc)
    case first =>
      have HOR := Lib.hid (or_any w.heap.size 2 p (w.alloc (.cells #[S p, S [47]] 9)).drew (two0 w _ _ _) (two1 w _ _ _))
      -- REGION
      refine wp_region_noPanic ?_
      refine wp_region_held_drew (S := fun w' => w'.cell? ⟨pb, 0, none⟩ = some (I (s.nd n).kind) ∧ w'.cell? ⟨pb, 5, none⟩ = some (I (s.nd n).links) ∧ w'.cell? ⟨pb, 1, none⟩ = some (.slice pv (s.nd n).data.length cv)) (by kernel_rfl) ⟨n0, n5, n1⟩ (fun hHeld => ?_)
      refine wpAnyH_take (i := 1) (oi := { dst := some 17, op := Go.Op.move (Go.Operand.tmp 1), type := 9, pos := "tree.go:631", after := #[], guard := none }) (v := S p) rfl (by kernel_rfl) (by kernel_rfl) (by kernel_rfl) (fun _ _ _ h => h) (Or.inl ⟨by rfl, ?y1⟩) hHeld ?_
      case y1 => (intro w hSw; obtain ⟨hS1, hS2, hS3⟩ := hSw; go_simp)
      try simp only [Act.put, List.setIfInBounds_toArray, List.set_cons_zero, List.set_cons_succ]
      refine wpAnyH_take (i := 4) (oi := { dst := some 20, op := Go.Op.move (Go.Operand.tmp 0), type := 3, pos := "tree.go:631", after := #[], guard := none }) (v := I n) rfl (by kernel_rfl) (by kernel_rfl) (by kernel_rfl) (fun _ _ _ h => h) (Or.inl ⟨by rfl, ?y4⟩) hHeld ?_
      case y4 => (intro w hSw; obtain ⟨hS1, hS2, hS3⟩ := hSw; go_simp)
      try simp only [Act.put, List.setIfInBounds_toArray, List.set_cons_zero, List.set_cons_succ]
      refine wpAnyH_take (i := 5) (oi := { dst := some 21, op := Go.Op.move (Go.Operand.tmp 7), type := 68, pos := "tree.go:631", after := #[], guard := none }) (v := Pt pb) rfl (by kernel_rfl) (by kernel_rfl) (by kernel_rfl) (fun _ _ _ h => h) (Or.inl ⟨by rfl, ?y5⟩) hHeld ?_
      case y5 => (intro w hSw; obtain ⟨hS1, hS2, hS3⟩ := hSw; go_simp)
      try simp only [Act.put, List.setIfInBounds_toArray, List.set_cons_zero, List.set_cons_succ]
      refine wpAnyH_take (i := 6) (oi := { dst := some 22, op := Go.Op.nilCheck (Go.Operand.tmp 21), type := 0, pos := "tree.go:631", after := #[{ on := 5, ground := Go.Ground.data }], guard := none }) (v := Pt pb) rfl (by kernel_rfl) (by kernel_rfl) (by kernel_rfl) (fun _ _ _ h => h) (Or.inl ⟨by rfl, ?y6⟩) hHeld ?_
      case y6 => (intro w hSw; obtain ⟨hS1, hS2, hS3⟩ := hSw; go_simp)
      try simp only [Act.put, List.setIfInBounds_toArray, List.set_cons_zero, List.set_cons_succ]
      refine wpAnyH_take (i := 7) (oi := { dst := some 23, op := Go.Op.fieldAddr 72 (Go.Operand.tmp 22) 0, type := 0, pos := "tree.go:631", after := #[{ on := 6, ground := Go.Ground.data }], guard := none }) (v := .pointer (some ⟨pb, 0, none⟩)) rfl (by kernel_rfl) (by kernel_rfl) (by kernel_rfl) (fun _ _ _ h => h) (Or.inl ⟨by rfl, ?y7⟩) hHeld ?_
      case y7 => (intro w hSw; obtain ⟨hS1, hS2, hS3⟩ := hSw; go_simp)
      try simp only [Act.put, List.setIfInBounds_toArray, List.set_cons_zero, List.set_cons_succ]
      refine wpAnyH_take (i := 8) (oi := { dst := some 24, op := Go.Op.load 3 (Go.Operand.tmp 23), type := 3, pos := "tree.go:631", after := #[{ on := 7, ground := Go.Ground.data }], guard := none }) (v := I (s.nd n).kind) rfl (by kernel_rfl) (by kernel_rfl) (by kernel_rfl) (fun _ _ _ h => h) (Or.inl ⟨by rfl, ?y8⟩) hHeld ?_
      case y8 => (intro w hSw; obtain ⟨hS1, hS2, hS3⟩ := hSw; go_simp)
      try simp only [Act.put, List.setIfInBounds_toArray, List.set_cons_zero, List.set_cons_succ]
      refine wpAnyH_take (i := 9) (oi := { dst := some 25, op := Go.Op.move (Go.Operand.tmp 7), type := 68, pos := "tree.go:631", after := #[], guard := none }) (v := Pt pb) rfl (by kernel_rfl) (by kernel_rfl) (by kernel_rfl) (fun _ _ _ h => h) (Or.inl ⟨by rfl, ?y9⟩) hHeld ?_
      case y9 => (intro w hSw; obtain ⟨hS1, hS2, hS3⟩ := hSw; go_simp)
      try simp only [Act.put, List.setIfInBounds_toArray, List.set_cons_zero, List.set_cons_succ]
      refine wpAnyH_take (i := 10) (oi := { dst := some 26, op := Go.Op.nilCheck (Go.Operand.tmp 25), type := 0, pos := "tree.go:631", after := #[{ on := 9, ground := Go.Ground.data }], guard := none }) (v := Pt pb) rfl (by kernel_rfl) (by kernel_rfl) (by kernel_rfl) (fun _ _ _ h => h) (Or.inl ⟨by rfl, ?y10⟩) hHeld ?_
      case y10 => (intro w hSw; obtain ⟨hS1, hS2, hS3⟩ := hSw; go_simp)
      try simp only [Act.put, List.setIfInBounds_toArray, List.set_cons_zero, List.set_cons_succ]
      refine wpAnyH_take (i := 11) (oi := { dst := some 27, op := Go.Op.fieldAddr 72 (Go.Operand.tmp 26) 5, type := 0, pos := "tree.go:631", after := #[{ on := 10, ground := Go.Ground.data }], guard := none }) (v := .pointer (some ⟨pb, 5, none⟩)) rfl (by kernel_rfl) (by kernel_rfl) (by kernel_rfl) (fun _ _ _ h => h) (Or.inl ⟨by rfl, ?y11⟩) hHeld ?_
      case y11 => (intro w hSw; obtain ⟨hS1, hS2, hS3⟩ := hSw; go_simp)
      try simp only [Act.put, List.setIfInBounds_toArray, List.set_cons_zero, List.set_cons_succ]
      refine wpAnyH_take (i := 12) (oi := { dst := some 28, op := Go.Op.load 3 (Go.Operand.tmp 27), type := 3, pos := "tree.go:631", after := #[{ on := 11, ground := Go.Ground.data }], guard := none }) (v := I (s.nd n).links) rfl (by kernel_rfl) (by kernel_rfl) (by kernel_rfl) (fun _ _ _ h => h) (Or.inl ⟨by rfl, ?y12⟩) hHeld ?_
      case y12 => (intro w hSw; obtain ⟨hS1, hS2, hS3⟩ := hSw; go_simp)
      try simp only [Act.put, List.setIfInBounds_toArray, List.set_cons_zero, List.set_cons_succ]
      refine wpAnyH_take (i := 13) (oi := { dst := some 29, op := Go.Op.move (Go.Operand.tmp 7), type := 68, pos := "tree.go:631", after := #[], guard := none }) (v := Pt pb) rfl (by kernel_rfl) (by kernel_rfl) (by kernel_rfl) (fun _ _ _ h => h) (Or.inl ⟨by rfl, ?y13⟩) hHeld ?_
      case y13 => (intro w hSw; obtain ⟨hS1, hS2, hS3⟩ := hSw; go_simp)
      try simp only [Act.put, List.setIfInBounds_toArray, List.set_cons_zero, List.set_cons_succ]
      refine wpAnyH_take (i := 14) (oi := { dst := some 30, op := Go.Op.nilCheck (Go.Operand.tmp 29), type := 0, pos := "tree.go:631", after := #[{ on := 13, ground := Go.Ground.data }], guard := none }) (v := Pt pb) rfl (by kernel_rfl) (by kernel_rfl) (by kernel_rfl) (fun _ _ _ h => h) (Or.inl ⟨by rfl, ?y14⟩) hHeld ?_
      case y14 => (intro w hSw; obtain ⟨hS1, hS2, hS3⟩ := hSw; go_simp)
      try simp only [Act.put, List.setIfInBounds_toArray, List.set_cons_zero, List.set_cons_succ]
      refine wpAnyH_take (i := 15) (oi := { dst := some 31, op := Go.Op.fieldAddr 72 (Go.Operand.tmp 30) 1, type := 0, pos := "tree.go:631", after := #[{ on := 14, ground := Go.Ground.data }], guard := none }) (v := .pointer (some ⟨pb, 1, none⟩)) rfl (by kernel_rfl) (by kernel_rfl) (by kernel_rfl) (fun _ _ _ h => h) (Or.inl ⟨by rfl, ?y15⟩) hHeld ?_
      case y15 => (intro w hSw; obtain ⟨hS1, hS2, hS3⟩ := hSw; go_simp)
      try simp only [Act.put, List.setIfInBounds_toArray, List.set_cons_zero, List.set_cons_succ]
      refine wpAnyH_take (i := 16) (oi := { dst := some 32, op := Go.Op.load 22 (Go.Operand.tmp 31), type := 22, pos := "tree.go:631", after := #[{ on := 15, ground := Go.Ground.data }], guard := none }) (v := .slice pv (s.nd n).data.length cv) rfl (by kernel_rfl) (by kernel_rfl) (by kernel_rfl) (fun _ _ _ h => h) (Or.inl ⟨by rfl, ?y16⟩) hHeld ?_
      case y16 => (intro w hSw; obtain ⟨hS1, hS2, hS3⟩ := hSw; go_simp)
      try simp only [Act.put, List.setIfInBounds_toArray, List.set_cons_zero, List.set_cons_succ]
      refine wpAnyH_ready (rs := [0, 2]) (by kernel_rfl) (by simp) ?_
      refine AllReadyH.cons (o := { dst := some 16, op := Go.Op.load 33 (Go.Operand.tmp 3), type := 33, pos := "tree.go:631", after := #[], guard := none }) rfl (fun K hK => ?_) ?_
      · skip
        go_simp
        refine hK.out _ _ hHeld (fun hHeld => ?_)
        clear hK K
        try simp only [Act.put, List.setIfInBounds_toArray, List.set_cons_zero, List.set_cons_succ]
        refine wpAnyH_ready (rs := [2]) (by kernel_rfl) (by simp) ?_
        refine AllReadyH.cons (o := { dst := some 18, op := Go.Op.buildSlice 27 2 #[(0, Go.Operand.tmp 17), (1, Go.Operand.const (Go.Value.string { data := #[47] }))], type := 27, pos := "tree.go:631", after := #[{ on := 1, ground := Go.Ground.data }], guard := none }) rfl (fun K hK => ?_) ?_
        · skip
          go_simp
          refine hK.out _ _ (keep3 hHeld ((Below.refl _ _).alloc (Nat.le_refl _) _)) (fun hHeld => ?_)
          clear hK K
          try simp only [Act.put, List.setIfInBounds_toArray, List.set_cons_zero, List.set_cons_succ]
          refine wpAnyH_ready (rs := [3]) (by kernel_rfl) (by simp) ?_
          refine AllReadyH.cons (o := { dst := some 19, op := Go.Op.call { callee := Go.Callee.value (Go.Operand.func 47), args := #[Go.Operand.tmp 18], argTypes := #[27] }, type := 9, pos := "tree.go:631", after := #[{ on := 2, ground := Go.Ground.data }], guard := none }) rfl (fun K hK => ?_) ?_
          · skip
            go_simp
            (with_reducible refine HOR.out.mono ?_)
            rintro e w' ⟨rfl, rfl⟩
            refine hK.out _ _ hHeld (fun hHeld => ?_)
            clear hK K
            try simp only [Act.put, List.setIfInBounds_toArray, List.set_cons_zero, List.set_cons_succ]
            refine wpAnyH_ready (rs := [17]) (by kernel_rfl) (by simp) ?_
            refine AllReadyH.cons (o := { dst := some 33, op := Go.Op.call { callee := Go.Callee.value (Go.Operand.func 48), args := #[Go.Operand.tmp 32], argTypes := #[22] }, type := 22, pos := "tree.go:631", after := #[{ on := 16, ground := Go.Ground.data }, { on := 3, ground := Go.Ground.chain }], guard := none }) rfl (fun K hK => ?_) ?_
            · skip
              go_simp
              (with_reducible refine (clone_bytes _ _ _ (HLA.out.below ((Below.refl _ _).alloc (Nat.le_refl _) _).drew) HSM.out).mono ?_)
              rintro e w2 ⟨dw, rfl, hr2, hb2⟩
              obtain ⟨hr3, hb3⟩ := clone_keep (w := w) ((Below.refl _ _).alloc (Nat.le_refl _) _).drew HSZ.out hr2 hb2
              rw [List.length_map] at hr3
              obtain ⟨dp, dc, rfl, -⟩ := row_form hr3
              have HR2 := Lib.hid hr3
              have hbo2 := cell_later hb3 hbo
              have hbo2a := fun ob => cell_later ((Below.refl _ _).alloc (Nat.le_refl w2.heap.size) ob) hbo2
              have HB2 := Lib.hid hb3
              have hKeep := keep3 hHeld hb2
              clear hr2 hr3 hb3 hb2
              refine hK.out _ _ hKeep (fun hHeld => ?_)
              clear hK K
              try simp only [Act.put, List.setIfInBounds_toArray, List.set_cons_zero, List.set_cons_succ]
              refine wpAnyH_ready (rs := [18]) (by kernel_rfl) (by simp) ?_
              refine AllReadyH.cons (o := { dst := some 34, op := Go.Op.build 44 #[(0, Go.Operand.tmp 19), (1, Go.Operand.tmp 20), (2, Go.Operand.tmp 24), (3, Go.Operand.tmp 28), (4, Go.Operand.tmp 33)], type := 44, pos := "tree.go:631", after := #[{ on := 3, ground := Go.Ground.data }, { on := 4, ground := Go.Ground.data }, { on := 8, ground := Go.Ground.data }, { on := 12, ground := Go.Ground.data }, { on := 17, ground := Go.Ground.data }], guard := none }) rfl (fun K hK => ?_) ?_
              · skip
                go_simp
                refine hK.out _ _ hHeld (fun hHeld => ?_)
                clear hK K
                try simp only [Act.put, List.setIfInBounds_toArray, List.set_cons_zero, List.set_cons_succ]
                refine wpAnyH_ready (rs := [19]) (by kernel_rfl) (by simp) ?_
                refine AllReadyH.cons (o := { dst := some 35, op := Go.Op.buildSlice 33 1 #[(0, Go.Operand.tmp 34)], type := 33, pos := "tree.go:631", after := #[{ on := 18, ground := Go.Ground.data }], guard := none }) rfl (fun K hK => ?_) ?_
                · skip
                  go_simp
                  refine hK.out _ _ (keep3 hHeld ((Below.refl _ _).alloc (Nat.le_refl _) _)) (fun hHeld => ?_)
                  clear hK K
                  try simp only [Act.put, List.setIfInBounds_toArray, List.set_cons_zero, List.set_cons_succ]
                  refine wpAnyH_ready (rs := [20]) (by kernel_rfl) (by simp) ?_
                  refine AllReadyH.cons (o := { dst := some 36, op := Go.Op.call { callee := Go.Callee.builtin Go.Builtin.append, args := #[Go.Operand.tmp 16, Go.Operand.tmp 35], argTypes := #[33, 33] }, type := 33, pos := "tree.go:631", after := #[{ on := 0, ground := Go.Ground.data }, { on := 19, ground := Go.Ground.data }, { on := 17, ground := Go.Ground.chain }], guard := none }) rfl (fun K hK => ?_) ?_
                  · skip
                    refine see_append (l := (s.nd n).data) (v2 := I (s.nd n).kind) (v3 := I (s.nd n).links) (v4 := .slice pv (s.nd n).data.length cv) HSW.out HL1.out ?hb ?hr HPBL.out ?hc ?e1 (.tmp 16) (.tmp 35) ?e2 ?e3 ?e4 ?_
                    case e1 => rfl
                    case e2 => rfl
                    case e3 => rfl
                    case e4 => rfl
                    case hc => exact ⟨n0, n5, n1⟩
                    case hb => exact HB2.out
                    case hr => exact HR2.out
                    intro g3 cap3 w3 hs3 ht3 hf3 hbo3 hc3
                    have HS3 := Lib.hid hs3
                    have HT3 := Lib.hid ht3
                    clear hs3 ht3
                    refine hK.out _ _ hc3 (fun hHeld => ?_)
                    clear hK K
                    try simp only [Act.put, List.setIfInBounds_toArray, List.set_cons_zero, List.set_cons_succ]
                    refine wpAnyH_ready (rs := [21]) (by kernel_rfl) (by simp) ?_
                    refine AllReadyH.cons (o := { dst := none, op := Go.Op.store 33 (Go.Operand.tmp 3) (Go.Operand.tmp 36), type := 0, pos := "tree.go:631", after := #[{ on := 20, ground := Go.Ground.data }, { on := 20, ground := Go.Ground.chain }, { on := 0, ground := Go.Ground.phase }, { on := 1, ground := Go.Ground.phase }, { on := 2, ground := Go.Ground.phase }, { on := 3, ground := Go.Ground.phase }, { on := 4, ground := Go.Ground.phase }, { on := 5, ground := Go.Ground.phase }, { on := 6, ground := Go.Ground.phase }, { on := 7, ground := Go.Ground.phase }, { on := 8, ground := Go.Ground.phase }, { on := 9, ground := Go.Ground.phase }, { on := 10, ground := Go.Ground.phase }, { on := 11, ground := Go.Ground.phase }, { on := 12, ground := Go.Ground.phase }, { on := 13, ground := Go.Ground.phase }, { on := 14, ground := Go.Ground.phase }, { on := 15, ground := Go.Ground.phase }, { on := 16, ground := Go.Ground.phase }, { on := 17, ground := Go.Ground.phase }, { on := 18, ground := Go.Ground.phase }, { on := 19, ground := Go.Ground.phase }, { on := 20, ground := Go.Ground.phase }], guard := none }) rfl (fun K hK => ?_) ?_
                    · skip
                      go_simp
                      refine hK.out _ _ (far3 hbp hHeld) (fun hHeld => ?_)
                      clear hK K
                      try simp only [Act.put, List.setIfInBounds_toArray, List.set_cons_zero, List.set_cons_succ]
                      refine wpAnyH_done (by kernel_rfl) ?_ _
                      refine NoPanic.normal ?_
                      go_wp2_with fail
                      go_meet
                      exact ⟨_, _, HS3.out, HT3.out⟩
                    exact AllReadyH.nil
                  exact AllReadyH.nil
                exact AllReadyH.nil
              exact AllReadyH.nil
            exact AllReadyH.nil
          exact AllReadyH.nil
        exact AllReadyH.nil
      refine AllReadyH.cons (o := { dst := some 18, op := Go.Op.buildSlice 27 2 #[(0, Go.Operand.tmp 17), (1, Go.Operand.const (Go.Value.string { data := #[47] }))], type := 27, pos := "tree.go:631", after := #[{ on := 1, ground := Go.Ground.data }], guard := none }) rfl (fun K hK => ?_) ?_
      · skip
        go_simp
        refine hK.out _ _ (keep3 hHeld ((Below.refl _ _).alloc (Nat.le_refl _) _)) (fun hHeld => ?_)
        clear hK K
        try simp only [Act.put, List.setIfInBounds_toArray, List.set_cons_zero, List.set_cons_succ]
        refine wpAnyH_ready (rs := [0, 3]) (by kernel_rfl) (by simp) ?_
        refine AllReadyH.cons (o := { dst := some 16, op := Go.Op.load 33 (Go.Operand.tmp 3), type := 33, pos := "tree.go:631", after := #[], guard := none }) rfl (fun K hK => ?_) ?_
        · skip
          go_simp
          refine hK.out _ _ hHeld (fun hHeld => ?_)
          clear hK K
          try simp only [Act.put, List.setIfInBounds_toArray, List.set_cons_zero, List.set_cons_succ]
          refine wpAnyH_ready (rs := [3]) (by kernel_rfl) (by simp) ?_
          refine AllReadyH.cons (o := { dst := some 19, op := Go.Op.call { callee := Go.Callee.value (Go.Operand.func 47), args := #[Go.Operand.tmp 18], argTypes := #[27] }, type := 9, pos := "tree.go:631", after := #[{ on := 2, ground := Go.Ground.data }], guard := none }) rfl (fun K hK => ?_) ?_
          · skip
            go_simp
            (with_reducible refine HOR.out.mono ?_)
            rintro e w' ⟨rfl, rfl⟩
            refine hK.out _ _ hHeld (fun hHeld => ?_)
            clear hK K
            try simp only [Act.put, List.setIfInBounds_toArray, List.set_cons_zero, List.set_cons_succ]
            refine wpAnyH_ready (rs := [17]) (by kernel_rfl) (by simp) ?_
            refine AllReadyH.cons (o := { dst := some 33, op := Go.Op.call { callee := Go.Callee.value (Go.Operand.func 48), args := #[Go.Operand.tmp 32], argTypes := #[22] }, type := 22, pos := "tree.go:631", after := #[{ on := 16, ground := Go.Ground.data }, { on := 3, ground := Go.Ground.chain }], guard := none }) rfl (fun K hK => ?_) ?_
            · skip
              go_simp
              (with_reducible refine (clone_bytes _ _ _ (HLA.out.below ((Below.refl _ _).alloc (Nat.le_refl _) _).drew) HSM.out).mono ?_)
              rintro e w2 ⟨dw, rfl, hr2, hb2⟩
              obtain ⟨hr3, hb3⟩ := clone_keep (w := w) ((Below.refl _ _).alloc (Nat.le_refl _) _).drew HSZ.out hr2 hb2
              rw [List.length_map] at hr3
              obtain ⟨dp, dc, rfl, -⟩ := row_form hr3
              have HR2 := Lib.hid hr3
              have hbo2 := cell_later hb3 hbo
              have hbo2a := fun ob => cell_later ((Below.refl _ _).alloc (Nat.le_refl w2.heap.size) ob) hbo2
              have HB2 := Lib.hid hb3
              have hKeep := keep3 hHeld hb2
              clear hr2 hr3 hb3 hb2
              refine hK.out _ _ hKeep (fun hHeld => ?_)
              clear hK K
              try simp only [Act.put, List.setIfInBounds_toArray, List.set_cons_zero, List.set_cons_succ]
              refine wpAnyH_ready (rs := [18]) (by kernel_rfl) (by simp) ?_
              refine AllReadyH.cons (o := { dst := some 34, op := Go.Op.build 44 #[(0, Go.Operand.tmp 19), (1, Go.Operand.tmp 20), (2, Go.Operand.tmp 24), (3, Go.Operand.tmp 28), (4, Go.Operand.tmp 33)], type := 44, pos := "tree.go:631", after := #[{ on := 3, ground := Go.Ground.data }, { on := 4, ground := Go.Ground.data }, { on := 8, ground := Go.Ground.data }, { on := 12, ground := Go.Ground.data }, { on := 17, ground := Go.Ground.data }], guard := none }) rfl (fun K hK => ?_) ?_
              · skip
                go_simp
                refine hK.out _ _ hHeld (fun hHeld => ?_)
                clear hK K
                try simp only [Act.put, List.setIfInBounds_toArray, List.set_cons_zero, List.set_cons_succ]
                refine wpAnyH_ready (rs := [19]) (by kernel_rfl) (by simp) ?_
                refine AllReadyH.cons (o := { dst := some 35, op := Go.Op.buildSlice 33 1 #[(0, Go.Operand.tmp 34)], type := 33, pos := "tree.go:631", after := #[{ on := 18, ground := Go.Ground.data }], guard := none }) rfl (fun K hK => ?_) ?_
                · skip
                  go_simp
                  refine hK.out _ _ (keep3 hHeld ((Below.refl _ _).alloc (Nat.le_refl _) _)) (fun hHeld => ?_)
                  clear hK K
                  try simp only [Act.put, List.setIfInBounds_toArray, List.set_cons_zero, List.set_cons_succ]
                  refine wpAnyH_ready (rs := [20]) (by kernel_rfl) (by simp) ?_
                  refine AllReadyH.cons (o := { dst := some 36, op := Go.Op.call { callee := Go.Callee.builtin Go.Builtin.append, args := #[Go.Operand.tmp 16, Go.Operand.tmp 35], argTypes := #[33, 33] }, type := 33, pos := "tree.go:631", after := #[{ on := 0, ground := Go.Ground.data }, { on := 19, ground := Go.Ground.data }, { on := 17, ground := Go.Ground.chain }], guard := none }) rfl (fun K hK => ?_) ?_
                  · skip
                    refine see_append (l := (s.nd n).data) (v2 := I (s.nd n).kind) (v3 := I (s.nd n).links) (v4 := .slice pv (s.nd n).data.length cv) HSW.out HL1.out ?hb ?hr HPBL.out ?hc ?e1 (.tmp 16) (.tmp 35) ?e2 ?e3 ?e4 ?_
                    case e1 => rfl
                    case e2 => rfl
                    case e3 => rfl
                    case e4 => rfl
                    case hc => exact ⟨n0, n5, n1⟩
                    case hb => exact HB2.out
                    case hr => exact HR2.out
                    intro g3 cap3 w3 hs3 ht3 hf3 hbo3 hc3
                    have HS3 := Lib.hid hs3
                    have HT3 := Lib.hid ht3
                    clear hs3 ht3
                    refine hK.out _ _ hc3 (fun hHeld => ?_)
                    clear hK K
                    try simp only [Act.put, List.setIfInBounds_toArray, List.set_cons_zero, List.set_cons_succ]
                    refine wpAnyH_ready (rs := [21]) (by kernel_rfl) (by simp) ?_
                    refine AllReadyH.cons (o := { dst := none, op := Go.Op.store 33 (Go.Operand.tmp 3) (Go.Operand.tmp 36), type := 0, pos := "tree.go:631", after := #[{ on := 20, ground := Go.Ground.data }, { on := 20, ground := Go.Ground.chain }, { on := 0, ground := Go.Ground.phase }, { on := 1, ground := Go.Ground.phase }, { on := 2, ground := Go.Ground.phase }, { on := 3, ground := Go.Ground.phase }, { on := 4, ground := Go.Ground.phase }, { on := 5, ground := Go.Ground.phase }, { on := 6, ground := Go.Ground.phase }, { on := 7, ground := Go.Ground.phase }, { on := 8, ground := Go.Ground.phase }, { on := 9, ground := Go.Ground.phase }, { on := 10, ground := Go.Ground.phase }, { on := 11, ground := Go.Ground.phase }, { on := 12, ground := Go.Ground.phase }, { on := 13, ground := Go.Ground.phase }, { on := 14, ground := Go.Ground.phase }, { on := 15, ground := Go.Ground.phase }, { on := 16, ground := Go.Ground.phase }, { on := 17, ground := Go.Ground.phase }, { on := 18, ground := Go.Ground.phase }, { on := 19, ground := Go.Ground.phase }, { on := 20, ground := Go.Ground.phase }], guard := none }) rfl (fun K hK => ?_) ?_
                    · skip
                      go_simp
                      refine hK.out _ _ (far3 hbp hHeld) (fun hHeld => ?_)
                      clear hK K
                      try simp only [Act.put, List.setIfInBounds_toArray, List.set_cons_zero, List.set_cons_succ]
                      refine wpAnyH_done (by kernel_rfl) ?_ _
                      refine NoPanic.normal ?_
                      go_wp2_with fail
                      go_meet
                      exact ⟨_, _, HS3.out, HT3.out⟩
                    exact AllReadyH.nil
                  exact AllReadyH.nil
                exact AllReadyH.nil
              exact AllReadyH.nil
            exact AllReadyH.nil
          exact AllReadyH.nil
        refine AllReadyH.cons (o := { dst := some 19, op := Go.Op.call { callee := Go.Callee.value (Go.Operand.func 47), args := #[Go.Operand.tmp 18], argTypes := #[27] }, type := 9, pos := "tree.go:631", after := #[{ on := 2, ground := Go.Ground.data }], guard := none }) rfl (fun K hK => ?_) ?_
        · skip
          go_simp
          (with_reducible refine HOR.out.mono ?_)
          rintro e w' ⟨rfl, rfl⟩
          refine hK.out _ _ hHeld (fun hHeld => ?_)
          clear hK K
          try simp only [Act.put, List.setIfInBounds_toArray, List.set_cons_zero, List.set_cons_succ]
          refine wpAnyH_ready (rs := [0, 17]) (by kernel_rfl) (by simp) ?_
          refine AllReadyH.cons (o := { dst := some 16, op := Go.Op.load 33 (Go.Operand.tmp 3), type := 33, pos := "tree.go:631", after := #[], guard := none }) rfl (fun K hK => ?_) ?_
          · skip
            go_simp
            refine hK.out _ _ hHeld (fun hHeld => ?_)
            clear hK K
            try simp only [Act.put, List.setIfInBounds_toArray, List.set_cons_zero, List.set_cons_succ]
            refine wpAnyH_ready (rs := [17]) (by kernel_rfl) (by simp) ?_
            refine AllReadyH.cons (o := { dst := some 33, op := Go.Op.call { callee := Go.Callee.value (Go.Operand.func 48), args := #[Go.Operand.tmp 32], argTypes := #[22] }, type := 22, pos := "tree.go:631", after := #[{ on := 16, ground := Go.Ground.data }, { on := 3, ground := Go.Ground.chain }], guard := none }) rfl (fun K hK => ?_) ?_
            · skip
              go_simp
              (with_reducible refine (clone_bytes _ _ _ (HLA.out.below ((Below.refl _ _).alloc (Nat.le_refl _) _).drew) HSM.out).mono ?_)
              rintro e w2 ⟨dw, rfl, hr2, hb2⟩
              obtain ⟨hr3, hb3⟩ := clone_keep (w := w) ((Below.refl _ _).alloc (Nat.le_refl _) _).drew HSZ.out hr2 hb2
              rw [List.length_map] at hr3
              obtain ⟨dp, dc, rfl, -⟩ := row_form hr3
              have HR2 := Lib.hid hr3
              have hbo2 := cell_later hb3 hbo
              have hbo2a := fun ob => cell_later ((Below.refl _ _).alloc (Nat.le_refl w2.heap.size) ob) hbo2
              have HB2 := Lib.hid hb3
              have hKeep := keep3 hHeld hb2
              clear hr2 hr3 hb3 hb2
              refine hK.out _ _ hKeep (fun hHeld => ?_)
              clear hK K
              try simp only [Act.put, List.setIfInBounds_toArray, List.set_cons_zero, List.set_cons_succ]
              refine wpAnyH_ready (rs := [18]) (by kernel_rfl) (by simp) ?_
              refine AllReadyH.cons (o := { dst := some 34, op := Go.Op.build 44 #[(0, Go.Operand.tmp 19), (1, Go.Operand.tmp 20), (2, Go.Operand.tmp 24), (3, Go.Operand.tmp 28), (4, Go.Operand.tmp 33)], type := 44, pos := "tree.go:631", after := #[{ on := 3, ground := Go.Ground.data }, { on := 4, ground := Go.Ground.data }, { on := 8, ground := Go.Ground.data }, { on := 12, ground := Go.Ground.data }, { on := 17, ground := Go.Ground.data }], guard := none }) rfl (fun K hK => ?_) ?_
              · skip
                go_simp
                refine hK.out _ _ hHeld (fun hHeld => ?_)
                clear hK K
                try simp only [Act.put, List.setIfInBounds_toArray, List.set_cons_zero, List.set_cons_succ]
                refine wpAnyH_ready (rs := [19]) (by kernel_rfl) (by simp) ?_
                refine AllReadyH.cons (o := { dst := some 35, op := Go.Op.buildSlice 33 1 #[(0, Go.Operand.tmp 34)], type := 33, pos := "tree.go:631", after := #[{ on := 18, ground := Go.Ground.data }], guard := none }) rfl (fun K hK => ?_) ?_
                · skip
                  go_simp
                  refine hK.out _ _ (keep3 hHeld ((Below.refl _ _).alloc (Nat.le_refl _) _)) (fun hHeld => ?_)
                  clear hK K
                  try simp only [Act.put, List.setIfInBounds_toArray, List.set_cons_zero, List.set_cons_succ]
                  refine wpAnyH_ready (rs := [20]) (by kernel_rfl) (by simp) ?_
                  refine AllReadyH.cons (o := { dst := some 36, op := Go.Op.call { callee := Go.Callee.builtin Go.Builtin.append, args := #[Go.Operand.tmp 16, Go.Operand.tmp 35], argTypes := #[33, 33] }, type := 33, pos := "tree.go:631", after := #[{ on := 0, ground := Go.Ground.data }, { on := 19, ground := Go.Ground.data }, { on := 17, ground := Go.Ground.chain }], guard := none }) rfl (fun K hK => ?_) ?_
                  · skip
                    refine see_append (l := (s.nd n).data) (v2 := I (s.nd n).kind) (v3 := I (s.nd n).links) (v4 := .slice pv (s.nd n).data.length cv) HSW.out HL1.out ?hb ?hr HPBL.out ?hc ?e1 (.tmp 16) (.tmp 35) ?e2 ?e3 ?e4 ?_
                    case e1 => rfl
                    case e2 => rfl
                    case e3 => rfl
                    case e4 => rfl
                    case hc => exact ⟨n0, n5, n1⟩
                    case hb => exact HB2.out
                    case hr => exact HR2.out
                    intro g3 cap3 w3 hs3 ht3 hf3 hbo3 hc3
                    have HS3 := Lib.hid hs3
                    have HT3 := Lib.hid ht3
                    clear hs3 ht3
                    refine hK.out _ _ hc3 (fun hHeld => ?_)
                    clear hK K
                    try simp only [Act.put, List.setIfInBounds_toArray, List.set_cons_zero, List.set_cons_succ]
                    refine wpAnyH_ready (rs := [21]) (by kernel_rfl) (by simp) ?_
                    refine AllReadyH.cons (o := { dst := none, op := Go.Op.store 33 (Go.Operand.tmp 3) (Go.Operand.tmp 36), type := 0, pos := "tree.go:631", after := #[{ on := 20, ground := Go.Ground.data }, { on := 20, ground := Go.Ground.chain }, { on := 0, ground := Go.Ground.phase }, { on := 1, ground := Go.Ground.phase }, { on := 2, ground := Go.Ground.phase }, { on := 3, ground := Go.Ground.phase }, { on := 4, ground := Go.Ground.phase }, { on := 5, ground := Go.Ground.phase }, { on := 6, ground := Go.Ground.phase }, { on := 7, ground := Go.Ground.phase }, { on := 8, ground := Go.Ground.phase }, { on := 9, ground := Go.Ground.phase }, { on := 10, ground := Go.Ground.phase }, { on := 11, ground := Go.Ground.phase }, { on := 12, ground := Go.Ground.phase }, { on := 13, ground := Go.Ground.phase }, { on := 14, ground := Go.Ground.phase }, { on := 15, ground := Go.Ground.phase }, { on := 16, ground := Go.Ground.phase }, { on := 17, ground := Go.Ground.phase }, { on := 18, ground := Go.Ground.phase }, { on := 19, ground := Go.Ground.phase }, { on := 20, ground := Go.Ground.phase }], guard := none }) rfl (fun K hK => ?_) ?_
                    · skip
                      go_simp
                      refine hK.out _ _ (far3 hbp hHeld) (fun hHeld => ?_)
                      clear hK K
                      try simp only [Act.put, List.setIfInBounds_toArray, List.set_cons_zero, List.set_cons_succ]
                      refine wpAnyH_done (by kernel_rfl) ?_ _
                      refine NoPanic.normal ?_
                      go_wp2_with fail
                      go_meet
                      exact ⟨_, _, HS3.out, HT3.out⟩
                    exact AllReadyH.nil
                  exact AllReadyH.nil
                exact AllReadyH.nil
              exact AllReadyH.nil
            exact AllReadyH.nil
          refine AllReadyH.cons (o := { dst := some 33, op := Go.Op.call { callee := Go.Callee.value (Go.Operand.func 48), args := #[Go.Operand.tmp 32], argTypes := #[22] }, type := 22, pos := "tree.go:631", after := #[{ on := 16, ground := Go.Ground.data }, { on := 3, ground := Go.Ground.chain }], guard := none }) rfl (fun K hK => ?_) ?_
          · skip
            go_simp
            (with_reducible refine (clone_bytes _ _ _ (HLA.out.below ((Below.refl _ _).alloc (Nat.le_refl _) _).drew) HSM.out).mono ?_)
            rintro e w2 ⟨dw, rfl, hr2, hb2⟩
            obtain ⟨hr3, hb3⟩ := clone_keep (w := w) ((Below.refl _ _).alloc (Nat.le_refl _) _).drew HSZ.out hr2 hb2
            rw [List.length_map] at hr3
            obtain ⟨dp, dc, rfl, -⟩ := row_form hr3
            have HR2 := Lib.hid hr3
            have hbo2 := cell_later hb3 hbo
            have hbo2a := fun ob => cell_later ((Below.refl _ _).alloc (Nat.le_refl w2.heap.size) ob) hbo2
            have HB2 := Lib.hid hb3
            have hKeep := keep3 hHeld hb2
            clear hr2 hr3 hb3 hb2
            refine hK.out _ _ hKeep (fun hHeld => ?_)
            clear hK K
            try simp only [Act.put, List.setIfInBounds_toArray, List.set_cons_zero, List.set_cons_succ]
            refine wpAnyH_ready (rs := [0, 18]) (by kernel_rfl) (by simp) ?_
            refine AllReadyH.cons (o := { dst := some 16, op := Go.Op.load 33 (Go.Operand.tmp 3), type := 33, pos := "tree.go:631", after := #[], guard := none }) rfl (fun K hK => ?_) ?_
            · skip
              go_simp
              refine hK.out _ _ hHeld (fun hHeld => ?_)
              clear hK K
              try simp only [Act.put, List.setIfInBounds_toArray, List.set_cons_zero, List.set_cons_succ]
              refine wpAnyH_ready (rs := [18]) (by kernel_rfl) (by simp) ?_
              refine AllReadyH.cons (o := { dst := some 34, op := Go.Op.build 44 #[(0, Go.Operand.tmp 19), (1, Go.Operand.tmp 20), (2, Go.Operand.tmp 24), (3, Go.Operand.tmp 28), (4, Go.Operand.tmp 33)], type := 44, pos := "tree.go:631", after := #[{ on := 3, ground := Go.Ground.data }, { on := 4, ground := Go.Ground.data }, { on := 8, ground := Go.Ground.data }, { on := 12, ground := Go.Ground.data }, { on := 17, ground := Go.Ground.data }], guard := none }) rfl (fun K hK => ?_) ?_
              · skip
                go_simp
                refine hK.out _ _ hHeld (fun hHeld => ?_)
                clear hK K
                try simp only [Act.put, List.setIfInBounds_toArray, List.set_cons_zero, List.set_cons_succ]
                refine wpAnyH_ready (rs := [19]) (by kernel_rfl) (by simp) ?_
                refine AllReadyH.cons (o := { dst := some 35, op := Go.Op.buildSlice 33 1 #[(0, Go.Operand.tmp 34)], type := 33, pos := "tree.go:631", after := #[{ on := 18, ground := Go.Ground.data }], guard := none }) rfl (fun K hK => ?_) ?_
                · skip
                  go_simp
                  refine hK.out _ _ (keep3 hHeld ((Below.refl _ _).alloc (Nat.le_refl _) _)) (fun hHeld => ?_)
                  clear hK K
                  try simp only [Act.put, List.setIfInBounds_toArray, List.set_cons_zero, List.set_cons_succ]
                  refine wpAnyH_ready (rs := [20]) (by kernel_rfl) (by simp) ?_
                  refine AllReadyH.cons (o := { dst := some 36, op := Go.Op.call { callee := Go.Callee.builtin Go.Builtin.append, args := #[Go.Operand.tmp 16, Go.Operand.tmp 35], argTypes := #[33, 33] }, type := 33, pos := "tree.go:631", after := #[{ on := 0, ground := Go.Ground.data }, { on := 19, ground := Go.Ground.data }, { on := 17, ground := Go.Ground.chain }], guard := none }) rfl (fun K hK => ?_) ?_
                  · skip
                    refine see_append (l := (s.nd n).data) (v2 := I (s.nd n).kind) (v3 := I (s.nd n).links) (v4 := .slice pv (s.nd n).data.length cv) HSW.out HL1.out ?hb ?hr HPBL.out ?hc ?e1 (.tmp 16) (.tmp 35) ?e2 ?e3 ?e4 ?_
                    case e1 => rfl
                    case e2 => rfl
                    case e3 => rfl
                    case e4 => rfl
                    case hc => exact ⟨n0, n5, n1⟩
                    case hb => exact HB2.out
                    case hr => exact HR2.out
                    intro g3 cap3 w3 hs3 ht3 hf3 hbo3 hc3
                    have HS3 := Lib.hid hs3
                    have HT3 := Lib.hid ht3
                    clear hs3 ht3
                    refine hK.out _ _ hc3 (fun hHeld => ?_)
                    clear hK K
                    try simp only [Act.put, List.setIfInBounds_toArray, List.set_cons_zero, List.set_cons_succ]
                    refine wpAnyH_ready (rs := [21]) (by kernel_rfl) (by simp) ?_
                    refine AllReadyH.cons (o := { dst := none, op := Go.Op.store 33 (Go.Operand.tmp 3) (Go.Operand.tmp 36), type := 0, pos := "tree.go:631", after := #[{ on := 20, ground := Go.Ground.data }, { on := 20, ground := Go.Ground.chain }, { on := 0, ground := Go.Ground.phase }, { on := 1, ground := Go.Ground.phase }, { on := 2, ground := Go.Ground.phase }, { on := 3, ground := Go.Ground.phase }, { on := 4, ground := Go.Ground.phase }, { on := 5, ground := Go.Ground.phase }, { on := 6, ground := Go.Ground.phase }, { on := 7, ground := Go.Ground.phase }, { on := 8, ground := Go.Ground.phase }, { on := 9, ground := Go.Ground.phase }, { on := 10, ground := Go.Ground.phase }, { on := 11, ground := Go.Ground.phase }, { on := 12, ground := Go.Ground.phase }, { on := 13, ground := Go.Ground.phase }, { on := 14, ground := Go.Ground.phase }, { on := 15, ground := Go.Ground.phase }, { on := 16, ground := Go.Ground.phase }, { on := 17, ground := Go.Ground.phase }, { on := 18, ground := Go.Ground.phase }, { on := 19, ground := Go.Ground.phase }, { on := 20, ground := Go.Ground.phase }], guard := none }) rfl (fun K hK => ?_) ?_
                    · skip
                      go_simp
                      refine hK.out _ _ (far3 hbp hHeld) (fun hHeld => ?_)
                      clear hK K
                      try simp only [Act.put, List.setIfInBounds_toArray, List.set_cons_zero, List.set_cons_succ]
                      refine wpAnyH_done (by kernel_rfl) ?_ _
                      refine NoPanic.normal ?_
                      go_wp2_with fail
                      go_meet
                      exact ⟨_, _, HS3.out, HT3.out⟩
                    exact AllReadyH.nil
                  exact AllReadyH.nil
                exact AllReadyH.nil
              exact AllReadyH.nil
            refine AllReadyH.cons (o := { dst := some 34, op := Go.Op.build 44 #[(0, Go.Operand.tmp 19), (1, Go.Operand.tmp 20), (2, Go.Operand.tmp 24), (3, Go.Operand.tmp 28), (4, Go.Operand.tmp 33)], type := 44, pos := "tree.go:631", after := #[{ on := 3, ground := Go.Ground.data }, { on := 4, ground := Go.Ground.data }, { on := 8, ground := Go.Ground.data }, { on := 12, ground := Go.Ground.data }, { on := 17, ground := Go.Ground.data }], guard := none }) rfl (fun K hK => ?_) ?_
            · skip
              go_simp
              refine hK.out _ _ hHeld (fun hHeld => ?_)
              clear hK K
              try simp only [Act.put, List.setIfInBounds_toArray, List.set_cons_zero, List.set_cons_succ]
              refine wpAnyH_ready (rs := [0, 19]) (by kernel_rfl) (by simp) ?_
              refine AllReadyH.cons (o := { dst := some 16, op := Go.Op.load 33 (Go.Operand.tmp 3), type := 33, pos := "tree.go:631", after := #[], guard := none }) rfl (fun K hK => ?_) ?_
              · skip
                go_simp
                refine hK.out _ _ hHeld (fun hHeld => ?_)
                clear hK K
                try simp only [Act.put, List.setIfInBounds_toArray, List.set_cons_zero, List.set_cons_succ]
                refine wpAnyH_ready (rs := [19]) (by kernel_rfl) (by simp) ?_
                refine AllReadyH.cons (o := { dst := some 35, op := Go.Op.buildSlice 33 1 #[(0, Go.Operand.tmp 34)], type := 33, pos := "tree.go:631", after := #[{ on := 18, ground := Go.Ground.data }], guard := none }) rfl (fun K hK => ?_) ?_
                · skip
                  go_simp
                  refine hK.out _ _ (keep3 hHeld ((Below.refl _ _).alloc (Nat.le_refl _) _)) (fun hHeld => ?_)
                  clear hK K
                  try simp only [Act.put, List.setIfInBounds_toArray, List.set_cons_zero, List.set_cons_succ]
                  refine wpAnyH_ready (rs := [20]) (by kernel_rfl) (by simp) ?_
                  refine AllReadyH.cons (o := { dst := some 36, op := Go.Op.call { callee := Go.Callee.builtin Go.Builtin.append, args := #[Go.Operand.tmp 16, Go.Operand.tmp 35], argTypes := #[33, 33] }, type := 33, pos := "tree.go:631", after := #[{ on := 0, ground := Go.Ground.data }, { on := 19, ground := Go.Ground.data }, { on := 17, ground := Go.Ground.chain }], guard := none }) rfl (fun K hK => ?_) ?_
                  · skip
                    refine see_append (l := (s.nd n).data) (v2 := I (s.nd n).kind) (v3 := I (s.nd n).links) (v4 := .slice pv (s.nd n).data.length cv) HSW.out HL1.out ?hb ?hr HPBL.out ?hc ?e1 (.tmp 16) (.tmp 35) ?e2 ?e3 ?e4 ?_
                    case e1 => rfl
                    case e2 => rfl
                    case e3 => rfl
                    case e4 => rfl
                    case hc => exact ⟨n0, n5, n1⟩
                    case hb => exact HB2.out
                    case hr => exact HR2.out
                    intro g3 cap3 w3 hs3 ht3 hf3 hbo3 hc3
                    have HS3 := Lib.hid hs3
                    have HT3 := Lib.hid ht3
                    clear hs3 ht3
                    refine hK.out _ _ hc3 (fun hHeld => ?_)
                    clear hK K
                    try simp only [Act.put, List.setIfInBounds_toArray, List.set_cons_zero, List.set_cons_succ]
                    refine wpAnyH_ready (rs := [21]) (by kernel_rfl) (by simp) ?_
                    refine AllReadyH.cons (o := { dst := none, op := Go.Op.store 33 (Go.Operand.tmp 3) (Go.Operand.tmp 36), type := 0, pos := "tree.go:631", after := #[{ on := 20, ground := Go.Ground.data }, { on := 20, ground := Go.Ground.chain }, { on := 0, ground := Go.Ground.phase }, { on := 1, ground := Go.Ground.phase }, { on := 2, ground := Go.Ground.phase }, { on := 3, ground := Go.Ground.phase }, { on := 4, ground := Go.Ground.phase }, { on := 5, ground := Go.Ground.phase }, { on := 6, ground := Go.Ground.phase }, { on := 7, ground := Go.Ground.phase }, { on := 8, ground := Go.Ground.phase }, { on := 9, ground := Go.Ground.phase }, { on := 10, ground := Go.Ground.phase }, { on := 11, ground := Go.Ground.phase }, { on := 12, ground := Go.Ground.phase }, { on := 13, ground := Go.Ground.phase }, { on := 14, ground := Go.Ground.phase }, { on := 15, ground := Go.Ground.phase }, { on := 16, ground := Go.Ground.phase }, { on := 17, ground := Go.Ground.phase }, { on := 18, ground := Go.Ground.phase }, { on := 19, ground := Go.Ground.phase }, { on := 20, ground := Go.Ground.phase }], guard := none }) rfl (fun K hK => ?_) ?_
                    · skip
                      go_simp
                      refine hK.out _ _ (far3 hbp hHeld) (fun hHeld => ?_)
                      clear hK K
                      try simp only [Act.put, List.setIfInBounds_toArray, List.set_cons_zero, List.set_cons_succ]
                      refine wpAnyH_done (by kernel_rfl) ?_ _
                      refine NoPanic.normal ?_
                      go_wp2_with fail
                      go_meet
                      exact ⟨_, _, HS3.out, HT3.out⟩
                    exact AllReadyH.nil
                  exact AllReadyH.nil
                exact AllReadyH.nil
              refine AllReadyH.cons (o := { dst := some 35, op := Go.Op.buildSlice 33 1 #[(0, Go.Operand.tmp 34)], type := 33, pos := "tree.go:631", after := #[{ on := 18, ground := Go.Ground.data }], guard := none }) rfl (fun K hK => ?_) ?_
              · skip
                go_simp
                refine hK.out _ _ (keep3 hHeld ((Below.refl _ _).alloc (Nat.le_refl _) _)) (fun hHeld => ?_)
                clear hK K
                try simp only [Act.put, List.setIfInBounds_toArray, List.set_cons_zero, List.set_cons_succ]
                refine wpAnyH_ready (rs := [0]) (by kernel_rfl) (by simp) ?_
                refine AllReadyH.cons (o := { dst := some 16, op := Go.Op.load 33 (Go.Operand.tmp 3), type := 33, pos := "tree.go:631", after := #[], guard := none }) rfl (fun K hK => ?_) ?_
                · skip
                  go_simp
                  refine hK.out _ _ hHeld (fun hHeld => ?_)
                  clear hK K
                  try simp only [Act.put, List.setIfInBounds_toArray, List.set_cons_zero, List.set_cons_succ]
                  refine wpAnyH_ready (rs := [20]) (by kernel_rfl) (by simp) ?_
                  refine AllReadyH.cons (o := { dst := some 36, op := Go.Op.call { callee := Go.Callee.builtin Go.Builtin.append, args := #[Go.Operand.tmp 16, Go.Operand.tmp 35], argTypes := #[33, 33] }, type := 33, pos := "tree.go:631", after := #[{ on := 0, ground := Go.Ground.data }, { on := 19, ground := Go.Ground.data }, { on := 17, ground := Go.Ground.chain }], guard := none }) rfl (fun K hK => ?_) ?_
                  · skip
                    refine see_append (l := (s.nd n).data) (v2 := I (s.nd n).kind) (v3 := I (s.nd n).links) (v4 := .slice pv (s.nd n).data.length cv) HSW.out HL1.out ?hb ?hr HPBL.out ?hc ?e1 (.tmp 16) (.tmp 35) ?e2 ?e3 ?e4 ?_
                    case e1 => rfl
                    case e2 => rfl
                    case e3 => rfl
                    case e4 => rfl
                    case hc => exact ⟨n0, n5, n1⟩
                    case hb => exact HB2.out
                    case hr => exact HR2.out
                    intro g3 cap3 w3 hs3 ht3 hf3 hbo3 hc3
                    have HS3 := Lib.hid hs3
                    have HT3 := Lib.hid ht3
                    clear hs3 ht3
                    refine hK.out _ _ hc3 (fun hHeld => ?_)
                    clear hK K
                    try simp only [Act.put, List.setIfInBounds_toArray, List.set_cons_zero, List.set_cons_succ]
                    refine wpAnyH_ready (rs := [21]) (by kernel_rfl) (by simp) ?_
                    refine AllReadyH.cons (o := { dst := none, op := Go.Op.store 33 (Go.Operand.tmp 3) (Go.Operand.tmp 36), type := 0, pos := "tree.go:631", after := #[{ on := 20, ground := Go.Ground.data }, { on := 20, ground := Go.Ground.chain }, { on := 0, ground := Go.Ground.phase }, { on := 1, ground := Go.Ground.phase }, { on := 2, ground := Go.Ground.phase }, { on := 3, ground := Go.Ground.phase }, { on := 4, ground := Go.Ground.phase }, { on := 5, ground := Go.Ground.phase }, { on := 6, ground := Go.Ground.phase }, { on := 7, ground := Go.Ground.phase }, { on := 8, ground := Go.Ground.phase }, { on := 9, ground := Go.Ground.phase }, { on := 10, ground := Go.Ground.phase }, { on := 11, ground := Go.Ground.phase }, { on := 12, ground := Go.Ground.phase }, { on := 13, ground := Go.Ground.phase }, { on := 14, ground := Go.Ground.phase }, { on := 15, ground := Go.Ground.phase }, { on := 16, ground := Go.Ground.phase }, { on := 17, ground := Go.Ground.phase }, { on := 18, ground := Go.Ground.phase }, { on := 19, ground := Go.Ground.phase }, { on := 20, ground := Go.Ground.phase }], guard := none }) rfl (fun K hK => ?_) ?_
                    · skip
                      go_simp
                      refine hK.out _ _ (far3 hbp hHeld) (fun hHeld => ?_)
                      clear hK K
                      try simp only [Act.put, List.setIfInBounds_toArray, List.set_cons_zero, List.set_cons_succ]
                      refine wpAnyH_done (by kernel_rfl) ?_ _
                      refine NoPanic.normal ?_
                      go_wp2_with fail
                      go_meet
                      exact ⟨_, _, HS3.out, HT3.out⟩
                    exact AllReadyH.nil
                  exact AllReadyH.nil
                exact AllReadyH.nil
              exact AllReadyH.nil
            exact AllReadyH.nil
          exact AllReadyH.nil
        exact AllReadyH.nil
      exact AllReadyH.nil
      -- END
    obtain ⟨v1, dw, hs1, ht1⟩ := hcut
    have HS1 := Lib.hid hs1; clear hs1
    have HT1 := Lib.hid ht1; clear ht1
    clear t0 tf htb n0 n1 n3 n5 nf hnb hlook hbt hbo hbof hbol
    obtain ⟨w1, rfl⟩ : ∃ w1 : World, w1 = wc := ⟨_, rfl⟩
    have HTR := Lib.hid HS1.out.tree
    obtain ⟨dv, wv, mv, hnode⟩ := HTR.out.nodeOf HN.out
    rw [HPB.out] at hnode
    obtain ⟨n0, n1, -, n3, -, n5, -, -, nf, hnb⟩ := hnode.cells8
    by_cases hk : (s.nd n).kind = 2
    · obtain ⟨m, rfl, hom, hsrt, hmap⟩ := hnode.dir hk
      have HM := Lib.hid hmap; clear hmap
      have HMB := Lib.hid (HS1.out.low _ _ hom)
      have hmo : m ≠ bo := fun e => by have := HS1.out.ow; rw [← e, hom] at this; cases this
      clear hnode hsrt hom
      have HK := Lib.hid hk; clear hk
      go_wp2_with (first | (at_range; refine wpList_range_mine rfl _ 69 rfl 9 3 Tryz.underlying69 m _ rfl HM.out ?_; intro w0 hit0 hb0) | fail)
      have HIT := Lib.hid hit0; clear hit0
      have HB0 := Lib.hid hb0; clear hb0
      have HMO := Lib.hid hmo; clear hmo
      clear n0 n1 n3 n5 nf hnb
      go_frame
      go_loopw [8, 9] (fun _ _ wr => ∃ left v' out1, IterAt S I wr w1.heap.size m (s.nd n).names left ∧ SeeW B tb L s bt bo bs wr v' (out ++ [(seenAt s n p, dw)] ++ out1) ∧ TS B bo w1 wr ∧ (out1.map (·.1) ++ left.flatMap (fun c => s.see f c.2 (p ++ M.slash :: c.1))).Perm ((s.nd n).names.flatMap fun c => s.see f c.2 (p ++ M.slash :: c.1)) ∧ (∀ q ∈ left, q ∈ (s.nd n).names)) (fun _ _ wr => wr.rangeLeft m w1.heap.size)
      case atStart => exact ⟨_, v1, [], HIT.out, by simpa using HS1.out.keep HB0.out, (TS.refl _ _ _).below HB0.out, List.Perm.refl _, fun _ h => h⟩
      case round =>
        obtain ⟨left, v', out1, hit, hso, hts, hpm, hsub⟩ := hrel
        have HI := Lib.hid hit; clear hit
        have HSO := Lib.hid hso; clear hso
        have HTS := Lib.hid hts; clear hts
        have HPM := Lib.hid hpm; clear hpm
        have HSUB := Lib.hid hsub; clear hsub
        obtain ⟨wo, rfl⟩ : ∃ wo : World, wo = wr := ⟨_, rfl⟩
        go_wp2_with (first | (at_next; refine wpList_next_mine rfl _ rfl w1.heap.size m _ _ rfl HI.out ?_ ?_) | fail)
        · intro hl0
          subst hl0
          go_wp2_with fail
          go_end0
          refine ⟨rfl, v', (seenAt s n p, dw) :: out1, ?_, ?_, HT1.out.trans HTS.out⟩
          · have := HSO.out
            rw [List.append_assoc] at this
            exact this
          · have := HPM.out
            rw [List.flatMap_nil, List.append_nil] at this
            exact this.cons _
        · intro x cc left' w2 hperm hit1 hgrow hsz hen
          have HI1 := Lib.hid hit1; clear hit1
          have HSO1 := Lib.hid (HSO.out.iter HI.out (Nat.le_trans HSZ.out HT1.out.size) hgrow)
          have HTS1 := Lib.hid (Tch.grownNew HTS.out hgrow (fun k e => by cases e; exact Nat.le_refl _))
          have HP := Lib.hid hperm; clear hperm
          have HLL := Lib.hid (show left'.length < left.length by rw [HP.out.length_eq]; simp)
          have HSUB' := Lib.hid (show ∀ q ∈ left', q ∈ (s.nd n).names from fun q hq => HSUB.out q (HP.out.mem_iff.2 (List.mem_cons_of_mem _ hq)))
          have HXM := Lib.hid (HSUB.out (x, cc) (HP.out.mem_iff.2 List.mem_cons_self))
          clear hgrow hsz
          have hbs := HSO1.out.bsAt
          have hgx : M.get (s.nd n).names x = some cc := get_mem (srt_nodup (hwf.nsrt n HN.out)) HXM.out
          have hch := hwf.child n HN.out x cc hgx
          have HCH := Lib.hid hch
          have hlx : x.length ≤ 24 := hch.2.2.1
          have hlp : p.length ≤ 1000 := by have := HPL.out; omega
          clear hch hgx
          go_wp2_with fail
          rw [cat3]
          have hfuel : 1 ≤ f := by have := HDN.out HK.out; omega
          have hperm2 : ((s.nd n).names.flatMap fun c => s.see f c.2 (p ++ M.slash :: c.1)).length = out1.length + (left.flatMap fun c => s.see f c.2 (p ++ M.slash :: c.1)).length := by
            rw [← HPM.out.length_eq, List.length_append, List.length_map]
          have hperm3 : (left.flatMap fun c => s.see f c.2 (p ++ M.slash :: c.1)).Perm (s.see f cc (p ++ M.slash :: x) ++ left'.flatMap fun c => s.see f c.2 (p ++ M.slash :: c.1)) := (HP.out.flatMap_right _).trans (by rw [List.flatMap_cons])
          have hl3 := hperm3.length_eq
          have HP3 := Lib.hid hperm3; clear hperm3
          have hcall := IH.out cc (p ++ M.slash :: x) v' (out ++ [(seenAt s n p, dw)] ++ out1) w2 HSO1.out HCH.out.1 (fun hk2 => by
            have h1 := HDN.out HK.out
            have hab := HCH.out.2.2.2.2.2 hk2
            have h2 := hwf.tall cc (hwf.ne0 HCH.out.1) HCH.out.1 (by rw [hab]; exact hwf.ne0 HN.out)
            rw [hab] at h2
            omega) hfuel (by have := HPL.out; simp; omega) (by have := HLEN.out; simp only [List.length_append, List.length_cons, List.length_nil] at this hl3 ⊢; omega)
          clear hfuel hperm2 hl3
          have HC := Lib.hid hcall; clear hcall
          (with_reducible refine HC.out.mono ?_)
          rintro e w3 ⟨rfl, v3, out2, hs3, hp3, ht3⟩
          have HS3 := Lib.hid hs3; clear hs3
          have HI3 := Lib.hid (HI1.out.gath ht3 (fun e => by have := HSW.out.hbo.1; have := HSZ.out; have := HT1.out.size; omega) HMO.out)
          have HTS3 := Lib.hid (TS.trans HTS1.out ht3); clear ht3
          have HPM3 := Lib.hid hp3; clear hp3
          go_wp2_with fail
          go_roundw
          case rel =>
            refine ⟨left', v3, out1 ++ out2, HI3.out, by rw [← List.append_assoc]; exact HS3.out, HTS3.out, ?_, HSUB'.out⟩
            refine List.Perm.trans ?_ HPM.out
            rw [List.map_append, List.append_assoc]
            refine List.Perm.append_left _ (List.Perm.trans ?_ HP3.out.symm)
            exact HPM3.out.append_right _
          case measure => rw [HI3.out.left_eq, HI.out.left_eq]; exact HLL.out
    · have hnn := (hwf.leaf n HN.out hk).1
      rcases hnode.nams with ⟨e, -⟩ | ⟨-, rfl, -⟩
      · exact absurd e hk
      have hrn := fun w' => run_range_nilMap (P := Tryz.prog) w' 69 9 3 Tryz.underlying69
      have hnx := fun w' ty a b s => run_next_nilMap (P := Tryz.prog) w' ty a b s
      have HNN := Lib.hid hnn; clear hnn
      have HB0 := Lib.hid ((Below.refl w1.heap.size w1).alloc (Nat.le_refl _) (.mapIter none 0 #[] 0))
      have HNX := Lib.hid (hnx w1 0 0 0 #[])
      clear hnode hk hnx n0 n1 n5 nf hnb
      go_wp2_with fail
      clear hrn n3
      try go_frame
      go_loopw [8, 9] (fun _ _ wr => w1.alloc (.mapIter none 0 #[] 0) = wr) (fun _ _ _ => 0)
      case atStart => rfl
      case round =>
        subst hrel
        have hnx := HNX.out
        go_wp2_with fail
        go_end0
        refine ⟨rfl, v1, [(seenAt s n p, dw)], HS1.out.keep HB0.out, ?_, HT1.out.below HB0.out⟩
        rw [HNN.out]
        exact List.Perm.refl _
end Go.Proofs.YtpfaccpmgldkeaaGreatDoor
