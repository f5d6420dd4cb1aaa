/- Contracts of forget, take. -/
import Derived.Test.YtpfaccpmgldkeaaGreatDoorEnt
set_option linter.unusedVariables false
set_option linter.unusedSimpArgs false
namespace Go.Proofs.YtpfaccpmgldkeaaGreatDoor
open Go.RowKit Go.MapKept Go.ChangeMaps
set_option maxRecDepth 100000

section
variable {w : World} {tb : Nat} {L : Lay} {s : M.St}

/-- A store into the tree's own cells. -/
theorem TreeAt.tcell (h : TreeAt w tb L s) (j : Nat) (v : Value) (s' : M.St) (hn : s'.nodes = s.nodes) (hf : s'.fds = s.fds)
    (hc : (#[.map (some L.mb), I s.last, Pt L.fb, I s.past, I s.went] : Array Value).setIfInBounds j v = #[.map (some L.mb), I s'.last, Pt L.fb, I s'.past, I s'.went]) : TreeAt (w.setCell ⟨tb, j, none⟩ v) tb L s' := by
  have hk : ∀ k o, L.ow k = some o → o ≠ .tree → (w.setCell ⟨tb, j, none⟩ v).heap[k]? = w.heap[k]? := fun k o ho hne => Below.heap_setCell _ _ _ _ (fun e => by
    have e' : k = tb := e
    rw [e', h.own] at ho
    exact hne (by cases ho; rfl))
  refine ⟨by rw [heap_setCell_same w tb _ _ _ _ h.cells, hc], h.own, h.ownm, h.ownf, by rw [hn]; exact h.nodes.same (hk _ _ h.ownm (by simp)), by rw [hn]; exact h.srt, by rw [hf]; exact h.fds.same (hk _ _ h.ownf (by simp)), fun n x hx => ?_, fun k o ho => by have := h.low k o ho; simpa [World.setCell] using this⟩
  rw [hn] at hx
  obtain ⟨dv, wv, mv, h1⟩ := h.node n x hx
  exact ⟨dv, wv, mv, h1.keep (fun k j hj => hk k _ hj (by simp)) (fun _ _ h => h)⟩
theorem TreeAt.setLast (h : TreeAt w tb L s) (v : Int) : TreeAt (w.setCell ⟨tb, 1, none⟩ (I v)) tb L { s with last := v } := h.tcell 1 _ _ rfl rfl rfl
theorem TreeAt.setPast (h : TreeAt w tb L s) (v : Int) : TreeAt (w.setCell ⟨tb, 3, none⟩ (I v)) tb L { s with past := v } := h.tcell 3 _ _ rfl rfl rfl
theorem TreeAt.setWent (h : TreeAt w tb L s) (v : Int) : TreeAt (w.setCell ⟨tb, 4, none⟩ (I v)) tb L { s with went := v } := h.tcell 4 _ _ rfl rfl rfl

theorem get_del_eq {κ ν : Type} [DecidableEq κ] (k k' : κ) : ∀ l : List (κ × ν), M.get (M.del l k) k' = if k' = k then none else M.get l k'
  | [] => by simp [M.get, M.del]
  | p :: l => by
    have ih := get_del_eq k k' l
    unfold M.get M.del at ih ⊢
    by_cases h1 : p.1 = k
    · by_cases h2 : k' = k
      · simp [h1, h2] at ih ⊢
      · have : ¬ k = k' := fun e => h2 e.symm
        simp [h1, h2, this] at ih ⊢
        exact ih
    · by_cases h2 : p.1 = k'
      · have h3 : ¬ k' = k := fun e => h1 (h2.trans e)
        simp [h1, h2, h3]
      · simp [h1, h2] at ih ⊢
        exact ih
theorem get_del (l : List (Int × M.Nd)) (k k' : Int) (x : M.Nd) (h : M.get (M.del l k) k' = some x) : M.get l k' = some x := by
  rw [get_del_eq] at h
  split at h
  · cases h
  · exact h

/-- A node has gone out of the map. -/
theorem TreeAt.dropped (h : TreeAt w tb L s) (n : Int) (ob : Obj) (hat : MapAt (.int .i64) I Pt (setBlock w L.mb ob) L.mb (M.del (s.nodes.map fun p => (p.1, L.pn p.1)) n)) : TreeAt (setBlock w L.mb ob) tb L { s with nodes := M.del s.nodes n } := by
  have hk : ∀ k o, L.ow k = some o → o ≠ .nodes → (setBlock w L.mb ob).heap[k]? = w.heap[k]? := fun k o ho hne => by
    have : L.mb ≠ k := fun e => by
      rw [← e, h.ownm] at ho
      exact hne (by cases ho; rfl)
    simp [setBlock, this]
  refine ⟨(hk _ _ h.own (by simp)).trans h.cells, h.own, h.ownm, h.ownf, ?_, del_srt n h.srt, h.fds.same (hk _ _ h.ownf (by simp)), fun m x hx => ?_, fun k o ho => by have := h.low k o ho; simpa [setBlock] using this⟩
  · have : (M.del s.nodes n).map (fun p => (p.1, L.pn p.1)) = M.del (s.nodes.map fun p => (p.1, L.pn p.1)) n := by
      unfold M.del
      rw [List.filter_map]
      rfl
    show MapAt _ _ _ _ _ ((M.del s.nodes n).map fun p => (p.1, L.pn p.1))
    rw [this]; exact hat
  · obtain ⟨dv, wv, mv, h1⟩ := h.node m x (get_del _ _ _ _ hx)
    exact ⟨dv, wv, mv, h1.keep (fun k j hj => hk k _ hj (by simp)) (fun _ _ h => h)⟩
end

theorem holds_eq (s : M.St) (n : Int) : holdsB s.fds n = s.holds n := rfl

/-- What forget may turn: the tree, and its map. -/
def Own2 (L : Lay) (k : Nat) : Prop := L.ow k = some .tree ∨ L.ow k = some .nodes

structure SmallT (s : M.St) : Prop where
  past : 0 ≤ s.past ∧ s.past ≤ 1000000000
  went : 0 ≤ s.went ∧ s.went ≤ 1000000
  last : 0 ≤ s.last ∧ s.last ≤ 1000000

theorem blocks_le {x : M.Nd} (h : Small x) : x.greatest ≤ 200000 := by
  have h1 := h.most
  have h2 := h.high
  have h3 := h.written
  unfold M.Nd.greatest
  have : x.blocks ≤ 100000 := by
    unfold M.Nd.blocks
    split
    · omega
    · split
      · omega
      · rw [fileBlocks_eq]
        have a1 := cntB_le x.written x.written.length
        have a2 := secN_le x.written 12
        have a3 : ∀ b, b01 b ≤ 1 := fun b => by unfold b01; split <;> omega
        have a4 := a3 (oneB x.written x.written.length)
        have a5 := a3 (twoB x.written x.written.length)
        omega
  omega

theorem forget_any (tb : Nat) (L : Lay) (s : M.St) (n : Int) (w : World) (h : TreeAt w tb L s) (hs : s.has n = true → Small (s.nd n)) (ht : SmallT s) :
    Calls Tryz.prog 115 #[Pt tb, I n] w fun e w' => e = .returned (.tuple #[]) ∧ TreeAt w' tb L (s.forget n) ∧ Tch (Own2 L) w w' := by
  obtain ⟨t0, -, t2, t3, t4, tf, htb⟩ := h.cells5
  by_cases hc : s.has n = true ∧ (s.nd n).links = 0 ∧ n ≠ 1 ∧ s.holds n = false
  · obtain ⟨h1, h2, h3, h4⟩ := hc
    have hl := h.look h1
    obtain ⟨dv, wv, mv, hnode⟩ := h.nodeOf h1
    have hsm := hs h1
    have HG := Lib.hid (fun (w' : World) (hb : Below w.heap.size w w') => greatest_any (L.pn n) L.ow n (s.nd n) w' ((h.nodeOf h1).below h.low hb) (by have := hsm.written; omega) (by have := hsm.most; omega) (fun k o ho => Nat.lt_of_lt_of_le (h.low k o ho) hb.size))
    have hge := blocks_le hsm
    have hg0 : 0 ≤ (s.nd n).greatest := by have := hsm.high; unfold M.Nd.greatest; omega
    obtain ⟨-, -, -, -, -, q5, -, -, qf, hqb⟩ := hnode.cells8
    have b2 : ((s.nd n).links == 0) = true := by simpa using h2
    have b3 : (n != 1) = true := by simpa using h3
    have HH := Lib.hid (holds_any w L.fb s.fds n h.fds)
    rw [holds_eq, h4] at HH
    obtain ⟨hp1, hp2⟩ := ht.past
    obtain ⟨hw1, hw2⟩ := ht.went
    have H := Lib.hid h; clear h hnode
    have H2 := Lib.hid h2; clear h2
    have H4 := Lib.hid h4; clear h4
    generalize hgg : (s.nd n).greatest = g at *
    have HGG := Lib.hid hgg; clear hgg hsm
    go_enter Tryz.func115, Tryz.ntmps115
    go_wp2_with fail
    (with_reducible refine HH.out.mono ?_)
    rintro e w1 ⟨rfl, hb⟩
    have H1 := Lib.hid (H.out.below hb)
    have HB := Lib.hid hb; clear hb
    clear t0 t2 t3 t4 tf
    obtain ⟨t0, -, -, t3, t4, tf, -⟩ := H1.out.cells5
    go_wp2_with fail
    go_region_with (first
        | (go_at_call 62; (with_reducible refine (HG.out _ ?_).mono ?_); (first | exact HB.out | exact HB.out.drew); rintro e w2 ⟨rfl, hb2⟩; have H2' := Lib.hid ((H1.out.below (Below.refl _ _).drew).below hb2); obtain ⟨t0'', -, -, t3'', t4'', tf'', -⟩ := H2'.out.cells5))
    all_goals
      have HT := Lib.hid ((H2'.out.setPast (s.past + g)).setWent (s.went + 1))
      have HTch := Lib.hid (((((Tch.ofBelow (S := Own2 L) (HB.out)).drew).andNew (Tch.ofBelow (S := Own2 L) hb2) (fun _ _ h => h)).setCell (p := ⟨tb, 3, none⟩) (Or.inl H.out.own) (I (s.past + g))).setCell (p := ⟨tb, 4, none⟩) (Or.inl H.out.own) (I (s.went + 1)))
      clear hb2
      go_wp2_with (first | (at_delete; refine wpList_delete_mine intKeys rfl _ _ 73 3 rfl 68 Tryz.underlying73 Tryz.underlying3 L.mb _ n rfl rfl HT.out.nodes ?_; intro ob hmap) | go_in)
      go_end0
      have hd := HT.out.dropped n ob hmap
      refine ⟨rfl, ?_, HTch.out.setBlock (Or.inr H.out.ownm) ob⟩
      have e : s.forget n = { s with past := s.past + g, went := s.went + 1, nodes := M.del s.nodes n } := by unfold M.St.forget; rw [if_pos ⟨h1, H2.out, h3, H4.out⟩, HGG.out]
      rw [e]
      exact hd
  · have e : s.forget n = s := by unfold M.St.forget; rw [if_neg hc]
    rw [e]
    cases h1 : s.has n
    · have hl := h.lookNone h1
      have H := Lib.hid h; clear h
      go_enter Tryz.func115, Tryz.ntmps115
      go_wp2_with fail
      go_end0
      exact ⟨rfl, H.out, Tch.refl _ _⟩
    · have hl := h.look h1
      obtain ⟨_, _, _, hnode⟩ := h.nodeOf h1
      obtain ⟨-, -, -, -, -, q5, -, -, qf, hqb⟩ := hnode.cells8
      have H := Lib.hid h; clear h hnode
      by_cases h2 : (s.nd n).links = 0
      · have b2 : ((s.nd n).links == 0) = true := by simpa using h2
        by_cases h3 : n = 1
        · subst h3
          clear hc
          go_enter Tryz.func115, Tryz.ntmps115
          go_wp2_with fail
          go_end0
          exact ⟨rfl, H.out, Tch.refl _ _⟩
        · have b3 : (n != 1) = true := by simpa using h3
          have h4 : s.holds n = true := by
            cases hh : s.holds n
            · exact absurd ⟨h1, h2, h3, hh⟩ hc
            · rfl
          have HH := Lib.hid (holds_any w L.fb s.fds n H.out.fds)
          rw [holds_eq, h4] at HH
          clear hc
          go_enter Tryz.func115, Tryz.ntmps115
          go_wp2_with fail
          (with_reducible refine HH.out.mono ?_)
          rintro e w1 ⟨rfl, hb⟩
          have H1 := Lib.hid (H.out.below hb)
          go_wp2_with fail
          go_end0
          exact ⟨rfl, H1.out, Tch.ofBelow hb⟩
      · have b2 : ((s.nd n).links == 0) = false := by simpa using h2
        clear hc
        go_enter Tryz.func115, Tryz.ntmps115
        go_wp2_with fail
        go_end0
        exact ⟨rfl, H.out, Tch.refl _ _⟩

/-- What take may turn. -/
def Took (L : Lay) (a b : Int) (k : Nat) : Prop := Own2 L k ∨ Two L a b k

theorem del_len {κ ν : Type} [DecidableEq κ] (k : κ) (l : List (κ × ν)) : (M.del l k).length ≤ l.length := List.length_filter_le _ _

theorem take_any (tb : Nat) (L : Lay) (s : M.St) (dir : Int) (name : M.Bs) (n : Int) (w : World) (h : TreeAt w tb L s) (hd : s.has dir = true) (hn : s.has n = true) (hk : (s.nd dir).kind = 2) (hg : M.get (s.nd dir).names name = some n)
    (hs2 : Small (s.nd n)) (hne : n ≠ dir) (ht : SmallT s) (hl1 : 1 ≤ (s.nd n).links) :
    Calls Tryz.prog 120 #[Pt tb, I dir, S name] w fun e w' => e = .returned (.tuple #[]) ∧ TreeAt w' tb L (s.take dir name) ∧ Tch (Took L dir n) w w' := by
  obtain ⟨t0, -, -, -, -, tf, htb⟩ := h.cells5
  have hl := h.look hd
  obtain ⟨dv, wv, mv, hnode⟩ := h.nodeOf hd
  obtain ⟨m, rfl, hom, hsrt, hmap⟩ := hnode.dir hk
  obtain ⟨-, -, -, n3, -, -, -, -, nf, hnb⟩ := hnode.cells8
  have hlk := run_lookup_some (P := Tryz.prog) strKeys Tryz.underlying69 Tryz.underlying9 hmap hg false
  have HN := Lib.hid hnode; clear hnode
  have HM := Lib.hid hmap; clear hmap
  have HS := Lib.hid hsrt; clear hsrt
  have H := Lib.hid h; clear h
  have HG := Lib.hid hg; clear hg
  have HNE := Lib.hid hne; clear hne
  have HK := Lib.hid hk; clear hk
  obtain ⟨hk1, hk2⟩ := hs2.links
  have e1 : ∀ x, (s.set dir x).has n = true := fun x => by rw [set_has, hn]; simp
  have e2 : ∀ x y, ((s.set dir x).set n y).has n = true := fun x y => by rw [set_has]; simp
  by_cases hkn : (s.nd n).kind = 2
  all_goals
    first
      | have hb : ((s.nd n).kind == 2) = true := by simpa using hkn
      | have hb : ((s.nd n).kind == 2) = false := by simpa using hkn
    have HKN := Lib.hid hkn; clear hkn
    go_enter Tryz.func120, Tryz.ntmps120
    go_wp2_with (first | (at_delete; refine wpList_delete_mine strKeys rfl _ _ 69 9 rfl 3 Tryz.underlying69 Tryz.underlying9 m _ name rfl rfl HM.out ?_; intro ob hmap2; have hnode2 := HN.out.setNames rfl hom HK.out _ (del_srt name HS.out) ob hmap2; have HTR := Lib.hid (H.out.turn0 hd (y := { s.nd dir with names := M.del (s.nd dir).names name }) ((Tch.refl _ w).setBlock (b := m) (Or.inr ⟨3, hom⟩) ob) ⟨_, _, _, hnode2⟩); have HT2 := Lib.hid ((Tch.refl (Took L dir n) w).setBlock (b := m) (Or.inr ⟨3, Or.inl hom⟩) ob); clear hnode2 hmap2 hlk n3 nf hnb hl t0 tf htb; generalize hw2 : setBlock w m ob = w2 at *; clear hw2; have hq := HTR.out.nodeOf (e1 _); rw [set_nd, if_neg HNE.out] at hq; obtain ⟨dq, wq, mq, hq⟩ := hq; obtain ⟨q0, -, -, -, -, q5, q6, -, qf, hqb⟩ := hq.cells8; obtain ⟨t0, -, -, -, -, tf, htb⟩ := HTR.out.cells5; have hl2 := HTR.out.look (e1 _); have HQ := Lib.hid hq; clear hq) | fail)
    have HTR2 := Lib.hid (HTR.out.setLinks (e1 _) ((s.nd n).links - 1))
    have HT3 := Lib.hid (HT2.out.setCell (p := ⟨L.pn n, 5, none⟩) (Or.inr ⟨0, Or.inr HQ.out.own⟩) (I ((s.nd n).links - 1)))
    first
      | (have HT4 := Lib.hid (HT3.out.setCell (p := ⟨L.pn n, 6, none⟩) (Or.inr ⟨0, Or.inr HQ.out.own⟩) (I 0))
         have HTR3 := Lib.hid (HTR2.out.setAbove (e2 _ _) 0)
         (with_reducible refine (forget_any tb L _ n _ HTR3.out (fun _ => ?_) ?_).mono ?_)
         · simp only [set_nd, if_true, HNE.out, if_false]
           exact ⟨hs2.most, by constructor <;> (simp only []; omega), hs2.high, hs2.data, hs2.written, hs2.names⟩
         · exact ⟨ht.past, ht.went, ht.last⟩
         rintro e w' ⟨rfl, ht', hc'⟩
         have HC := Lib.hid (HT4.out.andNew hc' (fun i _ hi => Or.inl hi))
         have HTF := Lib.hid ht'; clear ht' hc')
      | ((with_reducible refine (forget_any tb L _ n _ HTR2.out (fun _ => ?_) ?_).mono ?_)
         · simp only [set_nd, if_true, HNE.out, if_false]
           exact ⟨hs2.most, by constructor <;> (simp only []; omega), hs2.high, hs2.data, hs2.written, hs2.names⟩
         · exact ⟨ht.past, ht.went, ht.last⟩
         rintro e w' ⟨rfl, ht', hc'⟩
         have HC := Lib.hid (HT3.out.andNew hc' (fun i _ hi => Or.inl hi))
         have HTF := Lib.hid ht'; clear ht' hc')
    go_wp2_with fail
    go_end0
    refine ⟨rfl, Eq.mp (congrArg (fun q => TreeAt _ tb L q) ?_) HTF.out, HC.out⟩
    unfold M.St.take
    simp only [HG.out, Option.getD_some, set_nd, set_set, HNE.out, if_false, if_true, HKN.out]
    try rfl
end Go.Proofs.YtpfaccpmgldkeaaGreatDoor
