/- Contracts of add, take, forget, make. -/
import Derived.Test.YtpfaccpmgldkeaaGreatDoorNode
set_option linter.unusedVariables false
set_option linter.unusedSimpArgs false
namespace Go.Proofs.YtpfaccpmgldkeaaGreatDoor
open Go.RowKit Go.MapKept Go.ChangeMaps
set_option maxRecDepth 100000

/-- A node may be written by the walk: its numbers are small. -/
structure Small (x : M.Nd) : Prop where
  most : 0 ≤ x.most ∧ x.most ≤ 100000
  links : -100000 ≤ x.links ∧ x.links ≤ 100000
  high : 0 ≤ x.high ∧ x.high ≤ 100000
  data : x.data.length ≤ 20736
  written : x.written.length ≤ 162
  names : x.names.length ≤ 100000

/-- A directory's parts. -/
theorem NodeAt.dir {w : World} {b : Nat} {ow : Nat → Option Own} {n : Int} {x : M.Nd} {dv wv mv : Value} (h : NodeAt w b ow n x dv wv mv) (hk : x.kind = 2) :
    ∃ m, mv = .map (some m) ∧ ow m = some (.of n 3) ∧ Srt M.ltB x.names ∧ MapAt .string S I w m x.names := by
  rcases h.nams with ⟨_, h2, m, h3, h4, h5⟩ | ⟨h1, _⟩
  · exact ⟨m, h3, h4, h2, h5⟩
  · exact absurd hk h1

theorem run_len_names {w : World} {m : Nat} {l : List (M.Bs × Int)} (h : MapAt .string S I w m l) (ty : TypeId) : (Builtin.len_ #[69] ty #[.map (some m)]).run Tryz.prog w = .ok (.int .i64 l.length) w :=
  run_len_map Tryz.underlying69 h ty

theorem set_nd (s : M.St) (n : Int) (x : M.Nd) (m : Int) : (s.set n x).nd m = if m = n then x else s.nd m := by
  unfold M.St.nd M.St.set
  simp only
  rw [get_put]
  split <;> rfl
theorem set_has (s : M.St) (n : Int) (x : M.Nd) (m : Int) : (s.set n x).has m = (decide (m = n) || s.has m) := by
  unfold M.St.has M.St.set
  simp only
  rw [get_put]
  by_cases h : m = n <;> simp [h]

theorem put_len {κ ν : Type} [DecidableEq κ] (lt : κ → κ → Bool) (k : κ) (v : ν) : ∀ l : List (κ × ν), (M.put lt k v l).length ≤ l.length + 1
  | [] => by simp [M.put]
  | p :: l => by
    have ih := put_len lt k v l
    unfold M.put
    split
    · simp
    · split <;> simp
      omega
theorem put_put {κ ν : Type} [DecidableEq κ] (lt : κ → κ → Bool) (k : κ) (v v' : ν) : ∀ l : List (κ × ν), M.put lt k v (M.put lt k v' l) = M.put lt k v l
  | [] => by simp [M.put]
  | p :: l => by
    have ih := put_put lt k v v' l
    by_cases h1 : p.1 = k
    · simp [M.put, h1]
    · by_cases h2 : lt k p.1 = true
      · simp [M.put, h1, h2]
      · simp [M.put, h1, h2, ih]
theorem set_set (s : M.St) (n : Int) (x y : M.Nd) : (s.set n x).set n y = s.set n y := by
  unfold M.St.set
  simp only [put_put]

section
variable {w : World} {tb : Nat} {L : Lay} {s : M.St} {n : Int}
theorem TreeAt.setCell (h : TreeAt w tb L s) (hn : s.has n = true) (j : Nat) (v : Value) (y : M.Nd) (hx : NodeIn (w.setCell ⟨L.pn n, j, none⟩ v) (L.pn n) L.ow n y) : TreeAt (w.setCell ⟨L.pn n, j, none⟩ v) tb L (s.set n y) := by
  obtain ⟨_, _, _, h1⟩ := h.nodeOf hn
  exact h.turn0 hn ((Tch.refl _ w).setCell (p := ⟨L.pn n, j, none⟩) (Or.inr ⟨0, h1.own⟩) v) hx
theorem TreeAt.setMost (h : TreeAt w tb L s) (hn : s.has n = true) (v : Int) : TreeAt (w.setCell ⟨L.pn n, 4, none⟩ (I v)) tb L (s.set n { s.nd n with most := v }) := by
  obtain ⟨_, _, _, h1⟩ := h.nodeOf hn
  exact h.setCell hn _ _ _ ⟨_, _, _, h1.setMost v⟩
theorem TreeAt.setLinks (h : TreeAt w tb L s) (hn : s.has n = true) (v : Int) : TreeAt (w.setCell ⟨L.pn n, 5, none⟩ (I v)) tb L (s.set n { s.nd n with links := v }) := by
  obtain ⟨_, _, _, h1⟩ := h.nodeOf hn
  exact h.setCell hn _ _ _ ⟨_, _, _, h1.setLinks v⟩
theorem TreeAt.setAbove (h : TreeAt w tb L s) (hn : s.has n = true) (v : Int) : TreeAt (w.setCell ⟨L.pn n, 6, none⟩ (I v)) tb L (s.set n { s.nd n with above := v }) := by
  obtain ⟨_, _, _, h1⟩ := h.nodeOf hn
  exact h.setCell hn _ _ _ ⟨_, _, _, h1.setAbove v⟩
theorem TreeAt.setHigh (h : TreeAt w tb L s) (hn : s.has n = true) (v : Int) : TreeAt (w.setCell ⟨L.pn n, 7, none⟩ (I v)) tb L (s.set n { s.nd n with high := v }) := by
  obtain ⟨_, _, _, h1⟩ := h.nodeOf hn
  exact h.setCell hn _ _ _ ⟨_, _, _, h1.setHigh v⟩
theorem TreeAt.ownOf (h : TreeAt w tb L s) (hn : s.has n = true) : L.ow (L.pn n) = some (.of n 0) := by
  obtain ⟨_, _, _, h1⟩ := h.nodeOf hn
  exact h1.own
end

/-- What add may turn. -/
def Two (L : Lay) (a b : Int) (k : Nat) : Prop := ∃ j, L.ow k = some (.of a j) ∨ L.ow k = some (.of b j)

theorem add_any (tb : Nat) (L : Lay) (s : M.St) (dir : Int) (name : M.Bs) (n : Int) (w : World) (h : TreeAt w tb L s) (hd : s.has dir = true) (hn : s.has n = true) (hk : (s.nd dir).kind = 2) (hs1 : Small (s.nd dir)) (hs2 : Small (s.nd n)) (hne : n ≠ dir) :
    Calls Tryz.prog 119 #[Pt tb, I dir, S name, I n] w fun e w' => e = .returned (.tuple #[]) ∧ TreeAt w' tb L (s.add dir name n) ∧ Tch (Two L dir n) w w' := by
  obtain ⟨t0, -, -, -, -, tf, htb⟩ := h.cells5
  have hl1 := fun m : Nat => (h.keep ((Tch.refl _ w).drewN m)).look hd
  have hl2 := fun m : Nat => (h.keep ((Tch.refl _ w).drewN m)).look hn
  have H := Lib.hid h; clear h
  have HK := Lib.hid hk; clear hk
  have HNE := Lib.hid hne; clear hne
  go_enter Tryz.func119, Tryz.ntmps119
  go_wp2_with fail
  go_quiet (fail)
  clear hl1 hl2
  have H1 := Lib.hid (H.out.keep ((Tch.refl _ w).drewN nq))
  have HT1 := Lib.hid ((Tch.refl (Two L dir n) w).drewN nq)
  generalize hw1 : w.drewN nq = w1 at *
  clear hw1
  obtain ⟨dv, wv, mv, hnode⟩ := H1.out.nodeOf hd
  obtain ⟨m, rfl, hom, hsrt, hmap⟩ := hnode.dir HK.out
  obtain ⟨-, -, -, n3, n4, -, -, -, nf, hnb⟩ := hnode.cells8
  have HN := Lib.hid hnode; clear hnode
  have HM := Lib.hid hmap; clear hmap
  have HS := Lib.hid hsrt; clear hsrt
  go_wp2_with (first | (at_mapUpdate; refine wpList_update_mine ltB_ok strKeys rfl _ _ _ _ rfl _ _ Tryz.underlying69 Tryz.underlying9 m _ name n rfl rfl rfl HM.out HS.out ?_; intro ob hmap2) | go_in)
  have hnode2 := HN.out.setNames rfl hom HK.out _ (put_srt ltB_ok name n _ HS.out) ob hmap2
  have HT2 := Lib.hid (HT1.out.setBlock (b := m) ⟨3, Or.inl hom⟩ ob)
  have HM2 := Lib.hid hmap2; clear hmap2
  have htree2 := H1.out.turn0 hd (y := { s.nd dir with names := M.put M.ltB name n (s.nd dir).names }) ((Tch.refl _ w1).setBlock (b := m) (Or.inr ⟨3, hom⟩) ob) ⟨_, _, _, hnode2⟩
  have hq0 := htree2.nodeOf (n := n) (by rw [set_has, hn]; simp)
  rw [set_nd, if_neg HNE.out] at hq0
  have hnl : (M.put M.ltB name n (s.nd dir).names).length ≤ 100001 := Nat.le_trans (put_len _ _ _ _) (Nat.succ_le_succ hs1.names)
  have hpne : L.pn dir ≠ L.pn n := fun e => by
    have h1 := hnode2.own
    obtain ⟨_, _, _, h2⟩ := hq0
    rw [e, h2.own] at h1
    simp at h1
    exact HNE.out h1
  have hpne' : L.pn n ≠ L.pn dir := fun e => hpne e.symm
  generalize hw2 : setBlock w1 m ob = w2 at *
  clear hw2 n3 n4 nf hnb hom
  generalize hns : M.put M.ltB name n (s.nd dir).names = ns at *
  have HNS := Lib.hid hns; clear hns
  have HN2 := Lib.hid (hnode2.keep (w' := w2.drew) (fun _ _ _ => rfl) (fun _ _ h => h)); clear hnode2
  have HTR := Lib.hid (htree2.keep (Tch.refl _ w2).drew); clear htree2
  have HT3 := Lib.hid HT2.out.drew
  have hlen := fun ty => run_len_names (HM2.out.same (w' := w2.drew) rfl) ty
  obtain ⟨dq, wq, mq, hq1⟩ := hq0
  have HQ := Lib.hid (hq1.keep (w' := w2.drew) (fun _ _ _ => rfl) (fun _ _ h => h)); clear hq1
  obtain ⟨hm1, hm2⟩ := hs1.most
  obtain ⟨hk1, hk2⟩ := hs2.links
  refine wp_region_still_tail 13 (by kernel_rfl) (by kernel_rfl) ?_
  change wpStill _ _ (World.drew w2) _ _ _
  simp only [List.take_succ_cons, List.take_zero, List.drop_succ_cons, List.drop_zero]
  obtain ⟨-, -, -, n3, n4, -, -, -, nf, hnb⟩ := HN2.out.cells8
  obtain ⟨q0, -, -, -, -, q5, q6, -, qf, hqb⟩ := HQ.out.cells8
  repeat still_step
  refine wpStill_nil ?_
  change wpList _ _ _ _ _ (World.drew w2)
  generalize hw3 : w2.drew = w3 at *
  clear hw3
  by_cases hkn : (s.nd n).kind = 2
  · have hb : ((s.nd n).kind == 2) = true := by simpa using hkn
    have HKN := Lib.hid hkn; clear hkn
    go_wp2_with fail
    go_end0
    have o1 := H.out.ownOf hd
    have o2 := H.out.ownOf hn
    have e1 : ∀ x, (s.set dir x).has dir = true := fun x => by rw [set_has, hd]; simp
    have e2 : ∀ x y, ((s.set dir x).set dir y).has n = true := fun x y => by rw [set_has, set_has, hn]; simp
    have e3 : ∀ x y z, (((s.set dir x).set dir y).set n z).has n = true := fun x y z => by rw [set_has]; simp
    have e4 : ∀ x y z u, ((((s.set dir x).set dir y).set n z).set n u).has n = true := fun x y z u => by rw [set_has]; simp
    refine ⟨rfl, ?_, (((HT3.out.setCell (p := ⟨L.pn dir, 4, none⟩) ⟨0, Or.inl o1⟩ _).setCell (p := ⟨L.pn n, 5, none⟩) ⟨0, Or.inr o2⟩ _).setCell (p := ⟨L.pn n, 6, none⟩) ⟨0, Or.inr o2⟩ _).setCell (p := ⟨L.pn n, 5, none⟩) ⟨0, Or.inr o2⟩ _⟩
    have ht := (((HTR.out.setMost (e1 _) (max (s.nd dir).most ns.length)).setLinks (e2 _ _) ((s.nd n).links + 1)).setAbove (e3 _ _ _) dir).setLinks (e4 _ _ _ _) 1
    refine Eq.mp (congrArg (fun q => TreeAt _ tb L q) ?_) ht
    unfold M.St.add
    simp only [HNS.out, set_nd, set_set, HNE.out, if_false, if_true, HKN.out]
    try rfl
  · have hb : ((s.nd n).kind == 2) = false := by simpa using hkn
    have HKN := Lib.hid hkn; clear hkn
    go_wp2_with fail
    go_end0
    have o1 := H.out.ownOf hd
    have o2 := H.out.ownOf hn
    have e1 : ∀ x, (s.set dir x).has dir = true := fun x => by rw [set_has, hd]; simp
    have e2 : ∀ x y, ((s.set dir x).set dir y).has n = true := fun x y => by rw [set_has, set_has, hn]; simp
    refine ⟨rfl, ?_, ((HT3.out.setCell (p := ⟨L.pn dir, 4, none⟩) ⟨0, Or.inl o1⟩ _).setCell (p := ⟨L.pn n, 5, none⟩) ⟨0, Or.inr o2⟩ _)⟩
    have ht := ((HTR.out.setMost (e1 _) (max (s.nd dir).most ns.length)).setLinks (e2 _ _) ((s.nd n).links + 1))
    refine Eq.mp (congrArg (fun q => TreeAt _ tb L q) ?_) ht
    unfold M.St.add
    simp only [HNS.out, set_nd, set_set, HNE.out, if_false, if_true, HKN.out]
    try rfl
end Go.Proofs.YtpfaccpmgldkeaaGreatDoor
