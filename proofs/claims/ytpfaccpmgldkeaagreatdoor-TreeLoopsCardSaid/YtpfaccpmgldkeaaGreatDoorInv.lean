/- The invariant of a tree: kept by each change. -/
import Derived.Test.YtpfaccpmgldkeaaGreatDoorCnt
namespace Go.Proofs.YtpfaccpmgldkeaaGreatDoor
open Go.RowKit Go.MapKept Go.ChangeMaps

/- ADD -/
section
variable {s : M.St} {dir n : Int} {name : M.Bs}
theorem add_has (hd : s.has dir = true) (hn : s.has n = true) (m : Int) : (s.add dir name n).has m = s.has m := by
  have hd' : ∀ m, m = dir → s.has m = true := fun m e => e ▸ hd
  have hn' : ∀ m, m = n → s.has m = true := fun m e => e ▸ hn
  unfold M.St.add
  simp only
  split <;> (rw [set_has, set_has]; by_cases e1 : m = n <;> by_cases e2 : m = dir <;> simp_all)
theorem add_nd (hne : n ≠ dir) (m : Int) : (s.add dir name n).nd m =
    if m = n then (if (s.nd n).kind = 2 then { s.nd n with above := dir, links := 1 } else { s.nd n with links := (s.nd n).links + 1 })
    else if m = dir then { s.nd dir with names := M.put M.ltB name n (s.nd dir).names, most := max (s.nd dir).most (M.put M.ltB name n (s.nd dir).names).length } else s.nd m := by
  unfold M.St.add
  simp only [set_nd, if_neg hne]
  by_cases hk : (s.nd n).kind = 2
  · rw [if_pos hk, if_pos hk, set_nd, set_nd]
  · rw [if_neg hk, if_neg hk, set_nd, set_nd]
theorem add_kind (hne : n ≠ dir) (m : Int) : ((s.add dir name n).nd m).kind = (s.nd m).kind := by
  rw [add_nd hne]; split
  · rename_i e; split <;> rw [e]
  · split
    · rename_i e; rw [e]
    · rfl
theorem add_names (hne : n ≠ dir) (m : Int) : ((s.add dir name n).nd m).names = if m = dir then M.put M.ltB name n (s.nd dir).names else (s.nd m).names := by
  rw [add_nd hne]
  by_cases e : m = n
  · have e2 : ¬ m = dir := by rw [e]; exact hne
    rw [if_pos e, if_neg e2]; split <;> rw [e]
  · rw [if_neg e]; split <;> rfl
theorem add_above (hne : n ≠ dir) (m : Int) : ((s.add dir name n).nd m).above = if m = n ∧ (s.nd n).kind = 2 then dir else (s.nd m).above := by
  rw [add_nd hne]
  by_cases e : m = n
  · by_cases hk : (s.nd n).kind = 2
    · rw [if_pos e, if_pos hk, if_pos ⟨e, hk⟩]
    · rw [if_pos e, if_neg hk, if_neg (fun h => hk h.2), e]
  · have e3 : ¬ (m = n ∧ (s.nd n).kind = 2) := fun h => e h.1
    rw [if_neg e, if_neg e3]
    split
    · rename_i e2; rw [e2]
    · rfl
theorem add_links (hne : n ≠ dir) (m : Int) : ((s.add dir name n).nd m).links = if m = n then (if (s.nd n).kind = 2 then 1 else (s.nd n).links + 1) else (s.nd m).links := by
  rw [add_nd hne]; split
  · split <;> rfl
  · split
    · rename_i e; rw [e]
    · rfl
theorem add_most (hne : n ≠ dir) (m : Int) : ((s.add dir name n).nd m).most = if m = dir then max (s.nd dir).most (M.put M.ltB name n (s.nd dir).names).length else (s.nd m).most := by
  rw [add_nd hne]
  by_cases e : m = n
  · have e2 : ¬ m = dir := by rw [e]; exact hne
    rw [if_pos e, if_neg e2]; split <;> rw [e]
  · rw [if_neg e]; split <;> rfl
theorem add_rest (hne : n ≠ dir) (m : Int) : ((s.add dir name n).nd m).high = (s.nd m).high ∧ ((s.add dir name n).nd m).data = (s.nd m).data ∧ ((s.add dir name n).nd m).written = (s.nd m).written := by
  rw [add_nd hne]; split
  · rename_i e; split <;> (rw [e]; exact ⟨rfl, rfl, rfl⟩)
  · split
    · rename_i e; rw [e]; exact ⟨rfl, rfl, rfl⟩
    · exact ⟨rfl, rfl, rfl⟩
theorem add_past (s : M.St) (dir : Int) (name : M.Bs) (n : Int) : (s.add dir name n).past = s.past ∧ (s.add dir name n).went = s.went := by
  unfold M.St.add
  simp only
  split <;> exact ⟨rfl, rfl⟩
theorem add_fds' (s : M.St) (d : Int) (m : M.Bs) (n : Int) : (s.add d m n).fds = s.fds := by
  unfold M.St.add
  simp only
  split <;> rfl
theorem add_srt (hs : Srt M.ltI s.nodes) : Srt M.ltI (s.add dir name n).nodes := by
  unfold M.St.add
  simp only
  split <;> exact put_srt ltI_ok _ _ _ (put_srt ltI_ok _ _ _ hs)
theorem add_cnt (hs : Srt M.ltI s.nodes) (hne : n ≠ dir) (hsd : Srt M.ltB (s.nd dir).names) (hg : M.get (s.nd dir).names name = none) (c : Int) : cnt (s.add dir name n) c = cnt s c + (if n = c then 1 else 0) := by
  have h1 := fun y => cnt_set hs dir y c
  have h2 := tgt_put hsd name n c hg
  have h3 := h1 { s.nd dir with names := M.put M.ltB name n (s.nd dir).names, most := max (s.nd dir).most (M.put M.ltB name n (s.nd dir).names).length }
  have h4 := fun y => cnt_set (s := s.set dir { s.nd dir with names := M.put M.ltB name n (s.nd dir).names, most := max (s.nd dir).most (M.put M.ltB name n (s.nd dir).names).length }) (put_srt ltI_ok _ _ _ hs) n y c
  simp only [set_nd, if_neg hne] at h4
  unfold M.St.add
  simp only [set_nd, if_neg hne]
  split
  · have h5 := h4 { s.nd n with above := dir, links := 1 }
    simp only at h3 h5 ⊢
    omega
  · have h5 := h4 { s.nd n with links := (s.nd n).links + 1 }
    simp only at h3 h5 ⊢
    omega
end

section
variable {k : Int} {d : Int → Nat} {s : M.St}

theorem Sub.up1 {n m : Int} (h : Sub s n m) (hne : m ≠ n) : Sub s n (s.nd m).above := by
  cases h with
  | refl => exact absurd rfl hne
  | step _ _ _ h => exact h
theorem Sub.le {n m : Int} (h : Wz n k d s) (hs : Sub s n m) : d n ≤ d m := by
  induction hs with
  | refl => exact Nat.le_refl _
  | step h1 h2 h3 _ ih => have := (h.tall _ h1 h2 h3).1; omega

open Classical in
theorem Wz.add {n dir : Int} {name : M.Bs} (h : Wz n k d s) (hn : s.has n = true) (hn1 : n ≠ 1) (hd : s.has dir = true) (hdk : (s.nd dir).kind = 2) (hne : n ≠ dir)
    (hda : dir = 1 ∨ (s.nd dir).above ≠ 0)
    (hg : M.get (s.nd dir).names name = none) (hnm : name.length ≤ 24 ∧ M.slash ∉ name ∧ name ≠ []) (hlk : (s.nd n).kind ≠ 2 → (s.nd n).links = Go.Proofs.YtpfaccpmgldkeaaGreatDoor.cnt s n) (hl0 : (s.nd n).kind = 2 → Go.Proofs.YtpfaccpmgldkeaaGreatDoor.cnt s n = 0)
    (hsub : (s.nd n).kind = 2 → ¬ Sub s n dir) (hdeep : (s.nd n).kind = 2 → ∀ m, s.has m = true → Sub s n m → d m + d dir + 1 ≤ 20 + d n) : ∃ d', Wz 0 (k + 1) d' (s.add dir name n) := by
  have hlen := fun m => put_len M.ltB name n (s.nd m).names
  have hnone : ∀ n', s.has n' = true → ∀ m, (s.nd n).kind = 2 → M.get (s.nd n').names m ≠ some n := fun n' hn' m hk hgm => by
    have := h.cpos hn' hgm
    rw [hl0 hk] at this; omega
  have hnchild : (s.nd n).kind ≠ 2 → ∀ m, s.has m = true → (s.nd m).above ≠ 0 → m ≠ n := fun hk m hm ha e => ha (by rw [e]; exact (h.leaf n hn hk).2)
  refine ⟨if (s.nd n).kind = 2 then fun m => if Sub s n m then d m - d n + (d dir + 1) else d m else d, ?_⟩
  have hd0 : ∀ m, m ≠ n → (s.nd m).above = 0 → ¬ Sub s n m := fun m hm ha hs => by
    cases hs with
    | refl => exact hm rfl
    | step _ _ h3 _ => exact h3 ha
  refine ⟨add_srt h.srt, by rw [add_has hd hn]; exact h.root, by rw [add_kind hne]; exact h.rootK, ?_, ?_, ?_, ?_, ?_, ?_, ?_, ?_, ?_, ?_, ?_, ?_, ?_, ?_, ?_, ?_, ?_, ?_, ?_, ?_, ?_, ?_, ?_, ?_, ?_⟩
  · rw [add_above hne, if_neg (fun e => hn1 e.1.symm)]; exact h.rootA
  · rw [add_links hne, if_neg (fun e => hn1 e.symm)]; exact h.rootL
  · rw [add_last]; have := h.last; omega
  · intro m hm; rw [add_has hd hn] at hm; rw [add_last]; exact h.num m hm
  · intro m hm; rw [add_has hd hn] at hm; rw [add_kind hne]; exact h.kind m hm
  · intro m hm hk
    rw [add_has hd hn] at hm
    rw [add_kind hne] at hk
    have e1 : ¬ m = dir := fun e => hk (by rw [e]; exact hdk)
    have e2 : ¬ (m = n ∧ (s.nd n).kind = 2) := fun e => hk (by rw [e.1]; exact e.2)
    rw [add_names hne, add_above hne, if_neg e1, if_neg e2]
    exact h.leaf m hm hk
  · intro m hm
    rw [add_has hd hn] at hm
    rw [add_names hne]
    split
    · exact put_srt ltB_ok _ _ _ (h.nsrt dir hd)
    · exact h.nsrt m hm
  · intro n' hn' m c hgc
    rw [add_has hd hn] at hn'
    rw [add_names hne] at hgc
    rw [add_has hd hn, add_kind hne, add_above hne]
    by_cases e : n' = dir
    · rw [if_pos e, get_put] at hgc
      by_cases em : m = name
      · rw [if_pos em] at hgc
        cases hgc
        refine ⟨hn, hn1, by rw [em]; exact hnm.1, by rw [em]; exact hnm.2.1, by rw [em]; exact hnm.2.2, fun hk => by rw [if_pos ⟨rfl, hk⟩, e]⟩
      · rw [if_neg em] at hgc
        obtain ⟨a1, a2, a3, a4, a5, a6⟩ := h.child dir hd m c hgc
        refine ⟨a1, a2, a3, a4, a5, fun hk => ?_⟩
        rw [if_neg (by rintro ⟨e1, e2⟩; exact hnone dir hd m e2 (e1 ▸ hgc)), e]
        exact a6 hk
    · rw [if_neg e] at hgc
      obtain ⟨a1, a2, a3, a4, a5, a6⟩ := h.child n' hn' m c hgc
      refine ⟨a1, a2, a3, a4, a5, fun hk => ?_⟩
      rw [if_neg (by rintro ⟨e1, e2⟩; exact hnone n' hn' m e2 (e1 ▸ hgc))]
      exact a6 hk
  · intro m _ hm ha
    rw [add_has hd hn] at hm
    rw [add_above hne] at ha ⊢
    by_cases e : m = n ∧ (s.nd n).kind = 2
    · rw [if_pos e]
      refine ⟨by rw [add_has hd hn]; exact hd, by rw [add_kind hne]; exact hdk, name, ?_⟩
      rw [add_names hne, if_pos rfl, get_put, if_pos rfl, e.1]
    · rw [if_neg e] at ha ⊢
      have hmn : m ≠ n := fun e1 => by
        by_cases hk : (s.nd n).kind = 2
        · exact e ⟨e1, hk⟩
        · exact hnchild hk m hm ha e1
      obtain ⟨a1, a2, mm, a3⟩ := h.up m hmn hm ha
      refine ⟨by rw [add_has hd hn]; exact a1, by rw [add_kind hne]; exact a2, mm, ?_⟩
      rw [add_names hne]
      split
      · rename_i e1
        rw [get_put, if_neg (fun e2 => by rw [e1, e2, hg] at a3; cases a3), ← e1]
        exact a3
      · exact a3
  · intro m _ hm ha
    rw [add_has hd hn] at hm
    rw [add_above hne] at ha ⊢
    by_cases hk : (s.nd n).kind = 2
    · rw [if_pos hk]
      by_cases e : m = n
      · have hc : m = n ∧ (s.nd n).kind = 2 := ⟨e, hk⟩
        rw [if_pos hc, if_neg (hsub hk), e, if_pos Sub.refl]
        have := hdeep hk n hn Sub.refl
        omega
      · have hc : ¬ (m = n ∧ (s.nd n).kind = 2) := fun e1 => e e1.1
        rw [if_neg hc] at ha ⊢
        have ht := h.tall m e hm ha
        by_cases hs : Sub s n m
        · have h2 := hs.up1 e
          rw [if_pos hs, if_pos h2]
          have h3 := h2.le h
          have := hdeep hk m hm hs
          omega
        · rw [if_neg hs, if_neg (fun h2 => hs (Sub.step e hm ha h2))]
          exact ht
    · have hc : ¬ (m = n ∧ (s.nd n).kind = 2) := fun e1 => hk e1.2
      rw [if_neg hk]
      rw [if_neg hc] at ha ⊢
      exact h.tall m (hnchild hk m hm ha) hm ha
  · by_cases hk : (s.nd n).kind = 2
    · rw [if_pos hk]
      rw [if_neg (hd0 1 (fun e => hn1 e.symm) h.rootA)]
      exact h.droot
    · rw [if_neg hk]; exact h.droot
  · intro m _ hm hk h1 ha
    rw [add_has hd hn] at hm
    rw [add_kind hne] at hk
    rw [add_above hne] at ha
    by_cases e : m = n
    · rw [if_pos ⟨e, e ▸ hk⟩] at ha
      exact absurd ha (h.ne0 hd)
    · rw [if_neg (fun e1 => e e1.1)] at ha
      rw [add_names hne, if_neg ?_]
      · exact h.det m e hm hk h1 ha
      · intro e1
        rcases hda with e2 | e2
        · exact h1 (e1.trans e2)
        · exact e2 (e1 ▸ ha)
  · intro m _ hm h1
    rw [add_has hd hn] at hm
    rw [add_links hne, add_cnt h.srt hne (h.nsrt dir hd) hg]
    by_cases e : m = n
    · rw [if_pos e, if_pos e.symm]
      by_cases hk : (s.nd n).kind = 2
      · rw [if_pos hk, e, hl0 hk]; rfl
      · rw [if_neg hk, hlk hk, e]; omega
    · rw [if_neg e, if_neg (fun e1 => e e1.symm)]
      have := h.cnt m e hm h1
      omega
  · intro m _ hm hk h1
    rw [add_has hd hn] at hm
    rw [add_kind hne] at hk
    rw [add_links hne]
    by_cases e : m = n
    · rw [if_pos e, if_pos (e ▸ hk)]; omega
    · rw [if_neg e]; exact h.dlk m e hm hk h1
  · intro m hm
    rw [add_has hd hn] at hm
    rw [add_names hne, add_most hne]
    have h1 := h.most m hm
    have h2 := h.most dir hd
    have h3 := hlen dir
    split
    · omega
    · omega
  · intro m hm
    rw [add_has hd hn] at hm
    rw [add_links hne]
    have h1 := h.links m hm
    have h2 := h.links n hn
    split
    · split <;> omega
    · omega
  · intro m hm; rw [add_has hd hn] at hm; rw [(add_rest hne m).1]; exact h.high m hm
  · intro m hm; rw [add_has hd hn] at hm; rw [(add_rest hne m).2.1, (add_rest hne m).2.2]; exact h.data m hm
  · intro m hm hk; rw [add_has hd hn] at hm; rw [add_kind hne] at hk; rw [(add_rest hne m).2.1]; exact h.target m hm hk
  · intro m hm hk; rw [add_has hd hn] at hm; rw [add_kind hne] at hk; rw [(add_rest hne m).2.1, (add_rest hne m).2.2]; exact h.dir m hm hk
  · intro i hi; rw [add_fds'] at hi ⊢; rw [add_has hd hn]; exact h.fds i hi
  · intro i hi; rw [add_fds'] at hi; exact h.fd16 i hi
  · intro i hi; rw [add_fds'] at hi ⊢; rw [add_kind hne]; exact h.fdk i hi
  · rw [(add_past s dir name n).1]; have := h.past; omega
  · rw [(add_past s dir name n).2]; have := h.went; omega
end

/- CUT: a name is gone, and counts no more -/
def M.St.cut (s : M.St) (dir : Int) (name : M.Bs) (n : Int) : M.St := (s.set dir { s.nd dir with names := M.del (s.nd dir).names name }).set n { s.nd n with links := (s.nd n).links - 1 }
section
variable {s : M.St} {dir n : Int} {name : M.Bs}
theorem cut_has (hd : s.has dir = true) (hn : s.has n = true) (m : Int) : (s.cut dir name n).has m = s.has m := by
  have hd' : ∀ m, m = dir → s.has m = true := fun m e => e ▸ hd
  have hn' : ∀ m, m = n → s.has m = true := fun m e => e ▸ hn
  unfold M.St.cut
  rw [set_has, set_has]; by_cases e1 : m = n <;> by_cases e2 : m = dir <;> simp_all
theorem cut_nd (m : Int) : (s.cut dir name n).nd m =
    if m = n then { s.nd n with links := (s.nd n).links - 1 }
    else if m = dir then { s.nd dir with names := M.del (s.nd dir).names name } else s.nd m := by
  unfold M.St.cut
  rw [set_nd, set_nd]
theorem cut_names (hne : n ≠ dir) (m : Int) : ((s.cut dir name n).nd m).names = if m = dir then M.del (s.nd dir).names name else (s.nd m).names := by
  rw [cut_nd]; split
  · rename_i e; rw [if_neg (by rw [e]; exact hne), e]
  · split <;> rfl
theorem cut_links (m : Int) : ((s.cut dir name n).nd m).links = if m = n then (s.nd n).links - 1 else (s.nd m).links := by
  rw [cut_nd]; split
  · rfl
  · split
    · rename_i e; rw [e]
    · rfl
theorem cut_rest (m : Int) : ((s.cut dir name n).nd m).kind = (s.nd m).kind ∧ ((s.cut dir name n).nd m).above = (s.nd m).above ∧ ((s.cut dir name n).nd m).high = (s.nd m).high ∧ ((s.cut dir name n).nd m).data = (s.nd m).data ∧ ((s.cut dir name n).nd m).written = (s.nd m).written ∧ ((s.cut dir name n).nd m).most = (s.nd m).most := by
  rw [cut_nd]; split
  · rename_i e; rw [e]; exact ⟨rfl, rfl, rfl, rfl, rfl, rfl⟩
  · split
    · rename_i e; rw [e]; exact ⟨rfl, rfl, rfl, rfl, rfl, rfl⟩
    · exact ⟨rfl, rfl, rfl, rfl, rfl, rfl⟩
theorem cut_cnt (hs : Srt M.ltI s.nodes) (hne : n ≠ dir) (hsd : Srt M.ltB (s.nd dir).names) (hg : M.get (s.nd dir).names name = some n) (c : Int) : cnt (s.cut dir name n) c + (if n = c then 1 else 0) = cnt s c := by
  have h2 := tgt_del hsd c hg
  have h3 := cnt_set hs dir { s.nd dir with names := M.del (s.nd dir).names name } c
  have h4 := cnt_set (s := s.set dir { s.nd dir with names := M.del (s.nd dir).names name }) (put_srt ltI_ok _ _ _ hs) n { s.nd n with links := (s.nd n).links - 1 } c
  simp only [set_nd, if_neg hne] at h3 h4
  unfold M.St.cut
  simp only
  omega

variable {k : Int} {d : Int → Nat}
theorem Wz.cutE (h : Wz 0 k d s) (hd : s.has dir = true) (hg : M.get (s.nd dir).names name = some n) (hne : n ≠ dir) : Wz n k d (s.cut dir name n) ∧ (s.cut dir name n).has n = true ∧ ((s.cut dir name n).nd n).links = Go.Proofs.YtpfaccpmgldkeaaGreatDoor.cnt (s.cut dir name n) n ∧ ((s.nd n).kind = 2 → ((s.cut dir name n).nd n).links = 0) := by
  obtain ⟨hn, hn1, -⟩ := h.child dir hd name n hg
  have hn0 := h.ne0 hn
  have hc := h.cnt n hn0 hn hn1
  have hcp := h.cpos hd hg
  have hcc := cut_cnt h.srt hne (h.nsrt dir hd) hg
  have hl : ((s.cut dir name n).nd n).links = Go.Proofs.YtpfaccpmgldkeaaGreatDoor.cnt (s.cut dir name n) n := by
    have := hcc n
    rw [if_pos rfl] at this
    rw [cut_links, if_pos rfl]
    omega
  have hdl : ∀ m m' c, M.get (M.del (s.nd m).names m') c ≠ none → c ≠ m' := fun m m' c h1 e => h1 (by rw [e, get_del_eq, if_pos rfl])
  refine ⟨⟨?_, by rw [cut_has hd hn]; exact h.root, by rw [(cut_rest 1).1]; exact h.rootK, by rw [(cut_rest 1).2.1]; exact h.rootA, by rw [cut_links, if_neg (fun e => hn1 e.symm)]; exact h.rootL, h.last, ?_, ?_, ?_, ?_, ?_, ?_, ?_, h.droot, ?_, ?_, ?_, ?_, ?_, ?_, ?_, ?_, ?_, ?_, h.fd16, ?_, h.past, h.went⟩, by rw [cut_has hd hn]; exact hn, hl, fun hk => ?_⟩
  · exact put_srt ltI_ok _ _ _ (put_srt ltI_ok _ _ _ h.srt)
  · intro m hm; rw [cut_has hd hn] at hm; exact h.num m hm
  · intro m hm; rw [cut_has hd hn] at hm; rw [(cut_rest m).1]; exact h.kind m hm
  · intro m hm hk
    rw [cut_has hd hn] at hm
    rw [(cut_rest m).1] at hk
    have := h.leaf m hm hk
    rw [cut_names hne, (cut_rest m).2.1]
    refine ⟨?_, this.2⟩
    split
    · rename_i e; rw [← e, this.1]; rfl
    · exact this.1
  · intro m hm
    rw [cut_has hd hn] at hm
    rw [cut_names hne]
    split
    · exact del_srt _ (h.nsrt dir hd)
    · exact h.nsrt m hm
  · intro n' hn' m c hgc
    rw [cut_has hd hn] at hn'
    rw [cut_names hne] at hgc
    rw [cut_has hd hn, (cut_rest c).1, (cut_rest c).2.1]
    by_cases e : n' = dir
    · rw [if_pos e, get_del_eq] at hgc
      split at hgc
      · cases hgc
      · rw [e]; exact h.child dir hd m c hgc
    · rw [if_neg e] at hgc
      exact h.child n' hn' m c hgc
  · intro m hx hm ha
    rw [cut_has hd hn] at hm
    rw [(cut_rest m).2.1] at ha ⊢
    obtain ⟨a1, a2, mm, a3⟩ := h.up m (h.ne0 hm) hm ha
    refine ⟨by rw [cut_has hd hn]; exact a1, by rw [(cut_rest _).1]; exact a2, mm, ?_⟩
    rw [cut_names hne]
    split
    · rename_i e
      rw [get_del_eq, if_neg (fun e2 => by rw [e, e2, hg] at a3; cases a3; exact hx rfl), ← e]
      exact a3
    · exact a3
  · intro m hx hm ha
    rw [cut_has hd hn] at hm
    rw [(cut_rest m).2.1] at ha ⊢
    exact h.tall m (h.ne0 hm) hm ha
  · intro m hx hm hk h1 ha
    rw [cut_has hd hn] at hm
    rw [(cut_rest m).1] at hk
    rw [(cut_rest m).2.1] at ha
    have := h.det m (h.ne0 hm) hm hk h1 ha
    rw [cut_names hne]
    split
    · rename_i e; rw [← e, this]; rfl
    · exact this
  · intro m hx hm h1
    rw [cut_has hd hn] at hm
    have := hcc m
    rw [if_neg (fun e => hx e.symm)] at this
    rw [cut_links, if_neg hx]
    have := h.cnt m (h.ne0 hm) hm h1
    omega
  · intro m hx hm hk h1
    rw [cut_has hd hn] at hm
    rw [(cut_rest m).1] at hk
    rw [cut_links, if_neg hx]
    exact h.dlk m (h.ne0 hm) hm hk h1
  · intro m hm
    rw [cut_has hd hn] at hm
    rw [cut_names hne, (cut_rest m).2.2.2.2.2]
    have h1 := h.most m hm
    have h2 := del_len name (s.nd dir).names
    split
    · rename_i e; rw [e] at h1; rw [e]; omega
    · exact h1
  · intro m hm
    rw [cut_has hd hn] at hm
    rw [cut_links]
    have h1 := h.links m hm
    split
    · have := h.links n hn; omega
    · exact h1
  · intro m hm; rw [cut_has hd hn] at hm; rw [(cut_rest m).2.2.1]; exact h.high m hm
  · intro m hm; rw [cut_has hd hn] at hm; rw [(cut_rest m).2.2.2.1, (cut_rest m).2.2.2.2.1]; exact h.data m hm
  · intro m hm hk; rw [cut_has hd hn] at hm; rw [(cut_rest m).1] at hk; rw [(cut_rest m).2.2.2.1]; exact h.target m hm hk
  · intro m hm hk; rw [cut_has hd hn] at hm; rw [(cut_rest m).1] at hk; rw [(cut_rest m).2.2.2.1, (cut_rest m).2.2.2.2.1]; exact h.dir m hm hk
  · intro i hi; rw [cut_has hd hn]; exact h.fds i hi
  · intro i hi; rw [(cut_rest _).1]; exact h.fdk i hi
  · have := h.dlk n hn0 hn hk hn1
    rw [cut_links, if_pos rfl]
    omega
end

/- A node that was on its way has come to rest. -/
section
variable {k : Int} {d : Int → Nat} {s : M.St} {n : Int}
theorem Wz.rest (h : Wz n k d s) (hn : s.has n = true) (hk : (s.nd n).kind ≠ 2) (hl : (s.nd n).links = Go.Proofs.YtpfaccpmgldkeaaGreatDoor.cnt s n) : Wz 0 k d s :=
  { h with
    up := fun m _ hm ha => h.up m (fun e => ha (by rw [e]; exact (h.leaf n hn hk).2)) hm ha
    tall := fun m _ hm ha => h.tall m (fun e => ha (by rw [e]; exact (h.leaf n hn hk).2)) hm ha
    det := fun m _ hm hk2 => h.det m (fun e => hk (e ▸ hk2)) hm hk2
    cnt := fun m _ hm h1 => by
      by_cases e : m = n
      · rw [e]; exact hl
      · exact h.cnt m e hm h1
    dlk := fun m _ hm hk2 => h.dlk m (fun e => hk (e ▸ hk2)) hm hk2 }

theorem Wz.part (h : Wz n k d s) (hn : s.has n = true) (hn1 : n ≠ 1) (hnm : (s.nd n).names = []) (hk : (s.nd n).kind = 2) (hl : (s.nd n).links = Go.Proofs.YtpfaccpmgldkeaaGreatDoor.cnt s n) (hl0 : (s.nd n).links = 0) : Wz 0 k d (s.set n { s.nd n with above := 0 }) := by
  have hh : ∀ m, (s.set n { s.nd n with above := 0 }).has m = s.has m := fun m => by
    rw [set_has]
    by_cases e : m = n
    · rw [e, hn]; simp
    · simp [e]
  have hkk : ∀ m, ((s.set n { s.nd n with above := 0 }).nd m).kind = (s.nd m).kind ∧ ((s.set n { s.nd n with above := 0 }).nd m).names = (s.nd m).names ∧ ((s.set n { s.nd n with above := 0 }).nd m).links = (s.nd m).links ∧ ((s.set n { s.nd n with above := 0 }).nd m).most = (s.nd m).most ∧ ((s.set n { s.nd n with above := 0 }).nd m).high = (s.nd m).high ∧ ((s.set n { s.nd n with above := 0 }).nd m).data = (s.nd m).data ∧ ((s.set n { s.nd n with above := 0 }).nd m).written = (s.nd m).written := fun m => by
    rw [set_nd]
    split
    · rename_i e; rw [e]; exact ⟨rfl, rfl, rfl, rfl, rfl, rfl, rfl⟩
    · exact ⟨rfl, rfl, rfl, rfl, rfl, rfl, rfl⟩
  have hab : ∀ m, ((s.set n { s.nd n with above := 0 }).nd m).above = if m = n then 0 else (s.nd m).above := fun m => by
    rw [set_nd]
    split <;> rfl
  have hcn : ∀ c, Go.Proofs.YtpfaccpmgldkeaaGreatDoor.cnt (s.set n { s.nd n with above := 0 }) c = Go.Proofs.YtpfaccpmgldkeaaGreatDoor.cnt s c := fun c => by
    have := cnt_set h.srt n { s.nd n with above := 0 } c
    simp only at this ⊢
    omega
  refine ⟨put_srt ltI_ok _ _ _ h.srt, by rw [hh]; exact h.root, by rw [(hkk 1).1]; exact h.rootK, by rw [hab]; split <;> first | rfl | exact h.rootA, by rw [(hkk 1).2.2.1]; exact h.rootL, h.last, ?_, ?_, ?_, ?_, ?_, ?_, ?_, h.droot, ?_, ?_, ?_, ?_, ?_, ?_, ?_, ?_, ?_, ?_, h.fd16, ?_, h.past, h.went⟩
  · intro m hm; rw [hh] at hm; exact h.num m hm
  · intro m hm; rw [hh] at hm; rw [(hkk m).1]; exact h.kind m hm
  · intro m hm hk2
    rw [hh] at hm
    rw [(hkk m).1] at hk2
    rw [(hkk m).2.1, hab]
    have := h.leaf m hm hk2
    refine ⟨this.1, ?_⟩
    split
    · rfl
    · exact this.2
  · intro m hm; rw [hh] at hm; rw [(hkk m).2.1]; exact h.nsrt m hm
  · intro n' hn' m c hgc
    rw [hh] at hn'
    rw [(hkk n').2.1] at hgc
    rw [hh, (hkk c).1, hab, if_neg (fun e => by have := h.cpos hn' hgc; rw [e] at this; omega)]
    exact h.child n' hn' m c hgc
  · intro m _ hm ha
    rw [hh] at hm
    rw [hab] at ha ⊢
    split at ha
    · exact absurd rfl ha
    · rename_i e
      rw [if_neg e]
      rw [hh, (hkk _).1, (hkk _).2.1]
      exact h.up m e hm ha
  · intro m _ hm ha
    rw [hh] at hm
    rw [hab] at ha ⊢
    split at ha
    · exact absurd rfl ha
    · rename_i e
      rw [if_neg e]
      exact h.tall m e hm ha
  · intro m _ hm hk2 h1 ha
    rw [hh] at hm
    rw [(hkk m).1] at hk2
    rw [(hkk m).2.1]
    rw [hab] at ha
    by_cases e : m = n
    · rw [e]; exact hnm
    · rw [if_neg e] at ha
      exact h.det m e hm hk2 h1 ha
  · intro m _ hm h1
    rw [hh] at hm
    rw [(hkk m).2.2.1, hcn]
    by_cases e : m = n
    · rw [e]; exact hl
    · exact h.cnt m e hm h1
  · intro m _ hm hk2 h1
    rw [hh] at hm
    rw [(hkk m).1] at hk2
    rw [(hkk m).2.2.1]
    by_cases e : m = n
    · rw [e, hl0]; decide
    · exact h.dlk m e hm hk2 h1
  · intro m hm; rw [hh] at hm; rw [(hkk m).2.1, (hkk m).2.2.2.1]; exact h.most m hm
  · intro m hm; rw [hh] at hm; rw [(hkk m).2.2.1]; exact h.links m hm
  · intro m hm; rw [hh] at hm; rw [(hkk m).2.2.2.2.1]; exact h.high m hm
  · intro m hm; rw [hh] at hm; rw [(hkk m).2.2.2.2.2.1, (hkk m).2.2.2.2.2.2]; exact h.data m hm
  · intro m hm hk2; rw [hh] at hm; rw [(hkk m).1] at hk2; rw [(hkk m).2.2.2.2.2.1]; exact h.target m hm hk2
  · intro m hm hk2; rw [hh] at hm; rw [(hkk m).1] at hk2; rw [(hkk m).2.2.2.2.2.1, (hkk m).2.2.2.2.2.2]; exact h.dir m hm hk2
  · intro i hi; rw [hh]; exact h.fds i hi
  · intro i hi; rw [(hkk _).1]; exact h.fdk i hi

/- FORGET -/
theorem small5000 {y : M.Nd} (h1 : y.most ≤ 10000) (h2 : 0 ≤ y.most) (h3 : y.high ≤ 5000) (h4 : y.written.length ≤ 162) : 0 ≤ y.blocks ∧ y.greatest ≤ 5000 := by
  have hb : 0 ≤ y.blocks ∧ y.blocks ≤ 5000 := by
    unfold M.Nd.blocks
    split
    · omega
    · split
      · omega
      · rw [fileBlocks_eq]
        have a1 := cntB_le y.written y.written.length
        have a2 := secN_le y.written 12
        have a3 : ∀ b, 0 ≤ b01 b ∧ b01 b ≤ 1 := fun b => by unfold b01; split <;> omega
        have a4 := a3 (oneB y.written y.written.length)
        have a5 := a3 (twoB y.written y.written.length)
        omega
  unfold M.Nd.greatest
  omega

theorem Wz.great (h : Wz 0 k d s) (hk : k ≤ 10000) {m : Int} (hm : s.has m = true) : 0 ≤ (s.nd m).greatest ∧ (s.nd m).greatest ≤ 5000 := by
  have h1 := h.most m hm
  have h2 := h.high m hm
  have h3 := h.data m hm
  have h4 := small5000 (y := s.nd m) (by omega) (by omega) h2.2 h3.2
  refine ⟨?_, h4.2⟩
  unfold M.Nd.greatest
  omega

theorem forget_nd_has (s : M.St) (n : Int) (h : s.has n = true ∧ (s.nd n).links = 0 ∧ n ≠ 1 ∧ s.holds n = false) : (∀ m, (s.forget n).has m = (decide (m ≠ n) && s.has m)) ∧ (∀ m, m ≠ n → (s.forget n).nd m = s.nd m) ∧ (s.forget n).nodes = M.del s.nodes n ∧ (s.forget n).fds = s.fds ∧ (s.forget n).last = s.last ∧ (s.forget n).past = s.past + (s.nd n).greatest ∧ (s.forget n).went = s.went + 1 := by
  unfold M.St.forget
  rw [if_pos h]
  refine ⟨fun m => ?_, fun m hm => ?_, rfl, rfl, rfl, rfl, rfl⟩
  · unfold M.St.has
    simp only [get_del_eq]
    by_cases e : m = n <;> simp [e]
  · unfold M.St.nd
    simp only [get_del_eq, if_neg hm]

theorem holds_no {s : M.St} {n : Int} (h16 : ∀ i, (s.fds i).opn = true → i < 16) (h : s.holds n = false) {i : Nat} (hi : (s.fds i).opn = true) : (s.fds i).node ≠ n := fun e => by
  unfold M.St.holds at h
  rw [List.any_eq_false] at h
  exact h i (List.mem_range.2 (h16 i hi)) (by simp [hi, e])

theorem Wz.forget (h : Wz 0 k d s) (hk : k ≤ 9000) (n : Int) : Wz 0 (k + 1) d (s.forget n) := by
  by_cases hc : s.has n = true ∧ (s.nd n).links = 0 ∧ n ≠ 1 ∧ s.holds n = false
  · obtain ⟨hh, hnd, hno, hfd, hla, hpa, hwe⟩ := forget_nd_has s n hc
    obtain ⟨hn, hl0, hn1, hho⟩ := hc
    have hc0 : Go.Proofs.YtpfaccpmgldkeaaGreatDoor.cnt s n = 0 := by have := h.cnt n (h.ne0 hn) hn hn1; omega
    have hnone : ∀ n', s.has n' = true → ∀ m, M.get (s.nd n').names m ≠ some n := fun n' hn' m hg => by have := h.cpos hn' hg; omega
    have ha0 : (s.nd n).above = 0 := by
      by_cases e : (s.nd n).above = 0
      · exact e
      · obtain ⟨a1, a2, mm, a3⟩ := h.up n (h.ne0 hn) hn e
        exact absurd a3 (hnone _ a1 _)
    have hnm : (s.nd n).names = [] := by
      by_cases e : (s.nd n).kind = 2
      · exact h.det n (h.ne0 hn) hn e hn1 ha0
      · exact (h.leaf n hn e).1
    have hab : ∀ m, s.has m = true → (s.nd m).above ≠ n := fun m hm e => by
      have h0 : (s.nd m).above ≠ 0 := by rw [e]; exact h.ne0 hn
      obtain ⟨a1, a2, mm, a3⟩ := h.up m (h.ne0 hm) hm h0
      rw [e, hnm] at a3
      simp [M.get] at a3
    have hcn : ∀ c, Go.Proofs.YtpfaccpmgldkeaaGreatDoor.cnt (s.forget n) c = Go.Proofs.YtpfaccpmgldkeaaGreatDoor.cnt s c := fun c => by
      have := cnt_del h.srt n c hno
      rw [hnm, tgt_nil] at this
      omega
    have hm1 : ∀ m, (s.forget n).has m = true → m ≠ n ∧ s.has m = true := fun m hm => by
      rw [hh] at hm
      simpa using hm
    have hm2 : ∀ m, m ≠ n → s.has m = true → (s.forget n).has m = true := fun m h1 h2 => by
      rw [hh]
      simp [h1, h2]
    have hgr := h.great (by omega) hn
    refine ⟨by rw [hno]; exact del_srt _ h.srt, hm2 1 (fun e => hn1 e.symm) h.root, by rw [hnd 1 (fun e => hn1 e.symm)]; exact h.rootK, by rw [hnd 1 (fun e => hn1 e.symm)]; exact h.rootA, by rw [hnd 1 (fun e => hn1 e.symm)]; exact h.rootL, by rw [hla]; have := h.last; omega, ?_, ?_, ?_, ?_, ?_, ?_, ?_, h.droot, ?_, ?_, ?_, ?_, ?_, ?_, ?_, ?_, ?_, ?_, ?_, ?_, ?_, ?_⟩
    · intro m hm; obtain ⟨e, hm⟩ := hm1 m hm; rw [hla]; exact h.num m hm
    · intro m hm; obtain ⟨e, hm⟩ := hm1 m hm; rw [hnd m e]; exact h.kind m hm
    · intro m hm; obtain ⟨e, hm⟩ := hm1 m hm; rw [hnd m e]; exact h.leaf m hm
    · intro m hm; obtain ⟨e, hm⟩ := hm1 m hm; rw [hnd m e]; exact h.nsrt m hm
    · intro n' hn' m c hgc
      obtain ⟨e, hn'⟩ := hm1 n' hn'
      rw [hnd n' e] at hgc
      have ec : c ≠ n := fun ec => hnone n' hn' m (ec ▸ hgc)
      obtain ⟨a1, a2⟩ := h.child n' hn' m c hgc
      rw [hnd c ec]
      exact ⟨hm2 c ec a1, a2⟩
    · intro m _ hm ha
      obtain ⟨e, hm⟩ := hm1 m hm
      rw [hnd m e] at ha ⊢
      obtain ⟨a1, a2⟩ := h.up m (h.ne0 hm) hm ha
      rw [hnd _ (hab m hm)]
      exact ⟨hm2 _ (hab m hm) a1, a2⟩
    · intro m _ hm ha
      obtain ⟨e, hm⟩ := hm1 m hm
      rw [hnd m e] at ha ⊢
      exact h.tall m (h.ne0 hm) hm ha
    · intro m _ hm
      obtain ⟨e, hm⟩ := hm1 m hm
      rw [hnd m e]
      exact h.det m (h.ne0 hm) hm
    · intro m _ hm h1
      obtain ⟨e, hm⟩ := hm1 m hm
      rw [hnd m e, hcn]
      exact h.cnt m (h.ne0 hm) hm h1
    · intro m _ hm
      obtain ⟨e, hm⟩ := hm1 m hm
      rw [hnd m e]
      exact h.dlk m (h.ne0 hm) hm
    · intro m hm; obtain ⟨e, hm⟩ := hm1 m hm; rw [hnd m e]; have := h.most m hm; omega
    · intro m hm; obtain ⟨e, hm⟩ := hm1 m hm; rw [hnd m e]; have := h.links m hm; omega
    · intro m hm; obtain ⟨e, hm⟩ := hm1 m hm; rw [hnd m e]; exact h.high m hm
    · intro m hm; obtain ⟨e, hm⟩ := hm1 m hm; rw [hnd m e]; exact h.data m hm
    · intro m hm; obtain ⟨e, hm⟩ := hm1 m hm; rw [hnd m e]; exact h.target m hm
    · intro m hm; obtain ⟨e, hm⟩ := hm1 m hm; rw [hnd m e]; exact h.dir m hm
    · intro i hi
      rw [hfd] at hi ⊢
      have e := holds_no h.fd16 hho hi
      obtain ⟨a1, a2⟩ := h.fds i hi
      exact ⟨hm2 _ e a1, a2⟩
    · intro i hi; rw [hfd] at hi; exact h.fd16 i hi
    · intro i hi
      rw [hfd] at hi ⊢
      rw [hnd _ (holds_no h.fd16 hho hi)]
      exact h.fdk i hi
    · rw [hpa]; have := h.past; omega
    · rw [hwe]; have := h.went; omega
  · unfold M.St.forget
    rw [if_neg hc]
    exact h.mono (by omega)

/- TAKE -/
theorem take_eq {s : M.St} {dir : Int} {name : M.Bs} {n : Int} (hg : M.get (s.nd dir).names name = some n) (hne : n ≠ dir) : s.take dir name = (if (s.nd n).kind = 2 then (s.cut dir name n).set n { (s.cut dir name n).nd n with above := 0 } else s.cut dir name n).forget n := by
  unfold M.St.take
  simp only [hg, Option.getD_some, set_nd, if_neg hne]
  congr 1
  split
  · rw [cut_nd, if_pos rfl]
    unfold M.St.cut
    rw [set_set]
  · rfl

theorem Wz.take (h : Wz 0 k d s) (hk : k ≤ 9000) {dir : Int} {name : M.Bs} (hd : s.has dir = true) (hg : M.get (s.nd dir).names name = some n) (hne : n ≠ dir) (he : (s.nd n).kind = 2 → (s.nd n).names = []) : Wz 0 (k + 1) d (s.take dir name) := by
  obtain ⟨h1, h2, h3, h4⟩ := h.cutE hd hg hne
  have hn1 := (h.child dir hd name n hg).2.1
  rw [take_eq hg hne]
  refine Wz.forget ?_ hk n
  split
  · rename_i hk2
    refine h1.part h2 hn1 ?_ (by rw [(cut_rest n).1]; exact hk2) h3 (h4 hk2)
    rw [cut_names hne, if_neg hne]
    exact he hk2
  · rename_i hk2
    exact h1.rest h2 (by rw [(cut_rest n).1]; exact hk2) h3
end
end Go.Proofs.YtpfaccpmgldkeaaGreatDoor
