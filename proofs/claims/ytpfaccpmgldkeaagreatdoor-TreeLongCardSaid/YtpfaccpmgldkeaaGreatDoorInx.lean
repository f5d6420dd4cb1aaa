/- The invariant of a tree: kept by each operation. -/
import Derived.Test.YtpfaccpmgldkeaaGreatDoorInw
import Derived.Test.YtpfaccpmgldkeaaGreatDoorAct
set_option linter.unusedVariables false
set_option linter.unusedSimpArgs false
namespace Go.Proofs.YtpfaccpmgldkeaaGreatDoor
open Go.RowKit Go.MapKept Go.ChangeMaps

/-- A tree behind at most k operations. -/
def Inv (k : Int) (s : M.St) : Prop := ∃ d, Wz 0 k d s
theorem Inv.mono {k k' : Int} {s : M.St} (h : Inv k s) (hk : k ≤ k') : Inv k' s := by
  obtain ⟨d, h⟩ := h
  exact ⟨d, h.mono hk⟩

theorem srt_len : ∀ (l : List (Int × M.Nd)) (a b : Int), Srt M.ltI l → (∀ p ∈ l, a < p.1 ∧ p.1 ≤ b) → a ≤ b → (l.length : Int) ≤ b - a
  | [], a, b, _, _, h => by simp; omega
  | p :: l, a, b, hs, h, hab => by
    unfold Srt at hs
    rw [List.pairwise_cons] at hs
    have h1 := h p List.mem_cons_self
    have := srt_len l p.1 b hs.2 (fun q hq => ⟨by have := hs.1 q hq; simpa [M.ltI] using this, (h q (List.mem_cons_of_mem _ hq)).2⟩) h1.2
    rw [List.length_cons]
    push_cast
    omega

section
variable {k : Int} {d : Int → Nat} {s : M.St}
theorem Wz.len (h : Wz 0 k d s) : (s.nodes.length : Int) ≤ k + 1 := by
  have := srt_len s.nodes 0 s.last h.srt (fun p hp => by
    have hg : M.get s.nodes p.1 = some p.2 := get_mem (srt_keys h.srt) hp
    have := h.num p.1 (get_has hg).1
    omega) (by have := h.last; omega)
  have := h.last
  omega

theorem set_names {n : Int} {y : M.Nd} (hs : Srt M.ltI s.nodes) (hn : s.has n = true) (hy : y.names = (s.nd n).names) : (s.set n y).nodes.map (fun p => p.2.names) = s.nodes.map fun p => p.2.names := by
  show (M.put M.ltI n y s.nodes).map _ = _
  rw [put_old ltI_ok n y s.nodes hs _ (get_of_has hn), List.map_map]
  apply List.map_congr_left
  intro p hp
  simp only [Function.comp_apply]
  split
  · rename_i e
    have hg : M.get s.nodes p.1 = some p.2 := get_mem (srt_keys hs) hp
    rw [e, get_of_has hn] at hg
    rw [← Option.some.inj hg]
    exact hy
  · rfl

theorem Wz.file (h : Wz 0 k d s) {n : Int} (hn : s.has n = true) (hk : (s.nd n).kind = 1) (D : M.Bs) (W : List Bool) (hD : D.length ≤ 20736) (hW : W.length ≤ 162) : Wz 0 k d (s.set n { s.nd n with data := D, written := W }) := by
  have hnd : ∀ m, ((s.set n { s.nd n with data := D, written := W }).nd m) = if m = n then { s.nd n with data := D, written := W } else s.nd m := fun m => set_nd s n _ m
  refine h.soft (set_names h.srt hn rfl) (put_srt ltI_ok _ _ _ h.srt) (fun m => ?_) rfl (Or.inl rfl) (Or.inl rfl) (fun m => ?_) (fun m hm => ?_) (fun m hm => ?_) (fun m hm hk1 => ?_) (fun i hi => h.fds i hi) h.fd16 (fun i hi => h.fdk i hi)
  · rw [set_has]
    by_cases e : m = n
    · rw [e, hn]; simp
    · simp [e]
  · rw [hnd]
    split
    · rename_i e; rw [e]; exact ⟨rfl, rfl, rfl, rfl, rfl⟩
    · exact ⟨rfl, rfl, rfl, rfl, rfl⟩
  · rw [hnd]
    split
    · exact h.high n hn
    · exact h.high m hm
  · rw [hnd]
    split
    · exact ⟨hD, hW⟩
    · exact h.data m hm
  · have e1 : ¬ m = n := fun e => hk1 (by rw [e]; exact hk)
    rw [hnd, if_neg e1]
    exact ⟨rfl, rfl⟩
theorem Wz.setFds (h : Wz 0 k d s) (f : Nat → M.Sl) (hf : ∀ i, (f i).opn = true → s.has (f i).node = true ∧ (0 ≤ (f i).off ∧ (f i).off ≤ 1099511627776) ∧ (0 ≤ (f i).flags ∧ (f i).flags < 64)) (h16 : ∀ i, (f i).opn = true → i < 16) (hfk : ∀ i, (f i).opn = true → (s.nd (f i).node).kind ≠ 3) : Wz 0 k d { s with fds := f } :=
  h.soft rfl h.srt (fun _ => rfl) rfl (Or.inl rfl) (Or.inl rfl) (fun _ => ⟨rfl, rfl, rfl, rfl, rfl⟩) (fun m hm => h.high m hm) (fun m hm => h.data m hm) (fun _ _ _ => ⟨rfl, rfl⟩) hf h16 hfk
theorem Wz.fdSet (h : Wz 0 k d s) (i : Nat) (x : M.Sl) (hi : i < 16) (hx : x.opn = true → s.has x.node = true ∧ (0 ≤ x.off ∧ x.off ≤ 1099511627776) ∧ (0 ≤ x.flags ∧ x.flags < 64) ∧ (s.nd x.node).kind ≠ 3) : Wz 0 k d (s.fdSet i x) := by
  have hf : ∀ j, (if j = i then x else s.fds j) = x ∧ j = i ∨ (if j = i then x else s.fds j) = s.fds j := fun j => by
    by_cases e : j = i
    · exact Or.inl ⟨if_pos e, e⟩
    · exact Or.inr (if_neg e)
  refine h.setFds _ (fun j hj => ?_) (fun j hj => ?_) (fun j hj => ?_)
  · rcases hf j with ⟨e, _⟩ | e
    · rw [e] at hj ⊢; have := hx hj; exact ⟨this.1, this.2.1, this.2.2.1⟩
    · rw [e] at hj ⊢; exact h.fds j hj
  · rcases hf j with ⟨_, e⟩ | e
    · rw [e]; exact hi
    · rw [e] at hj; exact h.fd16 j hj
  · rcases hf j with ⟨e, _⟩ | e
    · rw [e] at hj ⊢; exact (hx hj).2.2.2
    · rw [e] at hj ⊢; exact h.fdk j hj
theorem open_fd {fd : Int} (h : s.isOpen fd = true) : 0 ≤ fd ∧ fd.toNat < 16 ∧ (s.fds fd.toNat).opn = true := by
  unfold M.St.isOpen at h
  simp only [Bool.and_eq_true, decide_eq_true_eq] at h
  exact ⟨h.1.1, by omega, h.2⟩
theorem code_open {fd : Int} {wr : Bool} (h : s.fileCode fd wr = 0) : s.isOpen fd = true ∧ (s.nd (s.fds fd.toNat).node).kind ≠ 2 := by
  unfold M.St.fileCode at h
  split at h
  · cases h
  · rename_i h1
    split at h
    · cases h
    · split at h
      · cases h
      · rename_i h3
        exact ⟨by simpa using h1, h3⟩
theorem code_kind (h : Wz 0 k d s) {fd : Int} {wr : Bool} (hc : s.fileCode fd wr = 0) : s.has (s.fds fd.toNat).node = true ∧ (s.nd (s.fds fd.toNat).node).kind = 1 := by
  obtain ⟨h1, h2⟩ := code_open hc
  obtain ⟨_, _, h3⟩ := open_fd h1
  have h4 := (h.fds _ h3).1
  have h5 := h.fdk _ h3
  have h6 := h.kind _ h4
  exact ⟨h4, by omega⟩
theorem Wz.moveTo (h : Wz 0 k d s) {fd off : Int} (ho : s.isOpen fd = true) (hoff : 0 ≤ off ∧ off ≤ 1099511627776) : Wz 0 k d (s.moveTo fd off) := by
  obtain ⟨_, h2, h3⟩ := open_fd ho
  have h4 := h.fds _ h3
  exact h.fdSet _ _ h2 (fun _ => ⟨h4.1, hoff, h4.2.2, h.fdk _ h3⟩)

theorem resize_data (y : M.Nd) (size : Nat) : (y.resize size).data.length = size := by
  unfold M.Nd.resize
  split
  · simp; omega
  · simp; omega
theorem resize_written (y : M.Nd) (size : Nat) : (y.resize size).written.length ≤ y.written.length := by
  unfold M.Nd.resize
  split
  · simp; omega
  · simp
theorem resize_eq (y : M.Nd) (size : Nat) : y.resize size = { y with data := (y.resize size).data, written := (y.resize size).written } := by
  unfold M.Nd.resize
  split <;> rfl
theorem write_eq (y : M.Nd) (off : Nat) (b : M.Bs) : y.write off b = { y with data := (y.write off b).data, written := (y.write off b).written } := by
  unfold M.Nd.write
  simp only
  rw [resize_eq]
theorem write_data (y : M.Nd) (off : Nat) (b : M.Bs) : (y.write off b).data.length = max y.data.length (off + b.length) := by
  unfold M.Nd.write
  simp only [List.length_append, List.length_take, List.length_drop, resize_data]
  omega
theorem write_written (y : M.Nd) (off : Nat) (b : M.Bs) (h : y.written.length ≤ 162) : (y.write off b).written.length ≤ 162 := by
  unfold M.Nd.write
  simp only [List.length_map, List.length_range, List.length_append, List.length_replicate]
  have h1 := resize_written y (max y.data.length (off + b.length))
  have h2 := toInt_need ((off + b.length : Nat) : Int)
  omega
theorem Wz.resize (h : Wz 0 k d s) {n : Int} (hn : s.has n = true) (hk : (s.nd n).kind = 1) {size : Nat} (hs : size ≤ 20736) : Wz 0 k d (s.set n ((s.nd n).resize size)) := by
  rw [resize_eq]
  exact h.file hn hk _ _ (by rw [resize_data]; exact hs) (Nat.le_trans (resize_written _ _) (h.data n hn).2)

/- OPERATIONS -/
theorem read_wz (h : Wz 0 k d s) (o : M.Op) : Wz 0 k d (s.readS o).2 := by
  unfold M.St.readS
  split
  · exact h
  · rename_i h1
    split
    · exact h
    · have h1 : s.fileCode o.fd false = 0 := by simpa using h1
      simp only
      split
      · rename_i hk3
        refine h.moveTo (code_open h1).1 ?_
        obtain ⟨_, h2, h3⟩ := open_fd (code_open h1).1
        have h4 := (h.fds _ h3).2.1
        have h5 := (h.data _ (h.fds _ h3).1).1
        rw [if_neg (by omega)]
        simp only [List.length_take, List.length_drop]
        omega
      · exact h
theorem write_wz (h : Wz 0 k d s) (o : M.Op) : Wz 0 k d (s.writeS o).2 := by
  unfold M.St.writeS
  by_cases h1 : s.fileCode o.fd true ≠ 0
  · rw [if_pos h1]; exact h
  rw [if_neg h1]
  have h1 : s.fileCode o.fd true = 0 := by simpa using h1
  by_cases h2 : o.kind = 6 ∧ o.off < 0
  · rw [if_pos h2]; exact h
  rw [if_neg h2]
  obtain ⟨hn, hk⟩ := code_kind h h1
  obtain ⟨_, ho2, ho3⟩ := open_fd (code_open h1).1
  have h5 := (h.fds _ ho3).2.1
  have h6 := h.data _ hn
  obtain ⟨off, hof⟩ : ∃ off : Int, off = (if o.kind = 6 then o.off else if M.bit (s.fds o.fd.toNat).flags 8 = true then ((s.nd (s.fds o.fd.toNat).node).data.length : Int) else (s.fds o.fd.toNat).off) := ⟨_, rfl⟩
  have h0 : 0 ≤ off := by
    rw [hof]
    split
    · omega
    · split <;> omega
  change Wz 0 k d (if 20736 - min (o.data.length : Int) 20736 < (if o.kind = 6 then o.off else if M.bit (s.fds o.fd.toNat).flags 8 = true then ((s.nd (s.fds o.fd.toNat).node).data.length : Int) else (s.fds o.fd.toNat).off) ∨ 20736 < o.data.length then (M.code 15, s) else if o.data = [] then ({}, s) else
    (({ n := o.data.length } : M.Ans), if o.kind = 4 then (s.set (s.fds o.fd.toNat).node ((s.nd (s.fds o.fd.toNat).node).write (if o.kind = 6 then o.off else if M.bit (s.fds o.fd.toNat).flags 8 = true then ((s.nd (s.fds o.fd.toNat).node).data.length : Int) else (s.fds o.fd.toNat).off).toNat o.data)).moveTo o.fd ((if o.kind = 6 then o.off else if M.bit (s.fds o.fd.toNat).flags 8 = true then ((s.nd (s.fds o.fd.toNat).node).data.length : Int) else (s.fds o.fd.toNat).off) + o.data.length)
      else s.set (s.fds o.fd.toNat).node ((s.nd (s.fds o.fd.toNat).node).write (if o.kind = 6 then o.off else if M.bit (s.fds o.fd.toNat).flags 8 = true then ((s.nd (s.fds o.fd.toNat).node).data.length : Int) else (s.fds o.fd.toNat).off).toNat o.data))).2
  rw [← hof]
  by_cases h3 : 20736 - min (o.data.length : Int) 20736 < off ∨ 20736 < o.data.length
  · rw [if_pos h3]; exact h
  rw [if_neg h3]
  by_cases h4 : o.data = []
  · rw [if_pos h4]; exact h
  rw [if_neg h4]
  have hw : Wz 0 k d (s.set (s.fds o.fd.toNat).node ((s.nd (s.fds o.fd.toNat).node).write off.toNat o.data)) := by
    rw [write_eq]
    exact h.file hn hk _ _ (by rw [write_data]; omega) (write_written _ _ _ h6.2)
  have ho : 0 ≤ off + (o.data.length : Int) ∧ off + (o.data.length : Int) ≤ 1099511627776 := by omega
  by_cases h7 : o.kind = 4
  · rw [if_pos h7]
    have hop : (s.set (s.fds o.fd.toNat).node ((s.nd (s.fds o.fd.toNat).node).write off.toNat o.data)).isOpen o.fd = true := (code_open h1).1
    exact hw.moveTo hop ho
  · rw [if_neg h7]; exact hw
theorem seek_wz (h : Wz 0 k d s) (o : M.Op) : Wz 0 k d (s.seekS o).2 := by
  unfold M.St.seekS
  by_cases h1 : s.fileCode o.fd false ≠ 0
  · rw [if_pos h1]; exact h
  rw [if_neg h1]
  have h1 : s.fileCode o.fd false = 0 := by simpa using h1
  obtain ⟨st, hst⟩ : ∃ st : Int, st = (if o.n = 1 then (s.fds o.fd.toNat).off else if o.n = 2 then ((s.nd (s.fds o.fd.toNat).node).data.length : Int) else 0) := ⟨_, rfl⟩
  change Wz 0 k d (if o.n < 0 ∨ 2 < o.n then (M.code 2, s) else if o.off < -(if o.n = 1 then (s.fds o.fd.toNat).off else if o.n = 2 then ((s.nd (s.fds o.fd.toNat).node).data.length : Int) else 0) ∨ 1099511627776 - (if o.n = 1 then (s.fds o.fd.toNat).off else if o.n = 2 then ((s.nd (s.fds o.fd.toNat).node).data.length : Int) else 0) < o.off then (M.code 2, s)
    else (({ n := (if o.n = 1 then (s.fds o.fd.toNat).off else if o.n = 2 then ((s.nd (s.fds o.fd.toNat).node).data.length : Int) else 0) + o.off } : M.Ans), s.moveTo o.fd ((if o.n = 1 then (s.fds o.fd.toNat).off else if o.n = 2 then ((s.nd (s.fds o.fd.toNat).node).data.length : Int) else 0) + o.off))).2
  rw [← hst]
  by_cases h2 : o.n < 0 ∨ 2 < o.n
  · rw [if_pos h2]; exact h
  rw [if_neg h2]
  by_cases h3 : o.off < -st ∨ 1099511627776 - st < o.off
  · rw [if_pos h3]; exact h
  rw [if_neg h3]
  exact h.moveTo (code_open h1).1 (by omega)
theorem trunc_wz (h : Wz 0 k d s) (o : M.Op) : Wz 0 k d (s.truncS o).2 := by
  unfold M.St.truncS
  split
  · exact h
  · rename_i h1
    have h1 : s.fileCode o.fd true = 0 := by simpa using h1
    split
    · exact h
    · split
      · exact h
      · obtain ⟨hn, hk⟩ := code_kind h h1
        exact h.resize hn hk (by omega)
theorem close_inv (h : Wz 0 k d s) (hk : k ≤ 9000) (fd : Int) : Wz 0 (k + 1) d (s.closeS fd).2 := by
  unfold M.St.closeS
  split
  · exact h.mono (by omega)
  · rename_i h1
    obtain ⟨_, ho2, ho3⟩ := open_fd (by simpa using h1)
    exact (h.fdSet _ {} ho2 (fun e => by cases e)).forget hk _
theorem mkdir_inv (h : Wz 0 k d s) (o : M.Op) : ∃ d', Wz 0 (k + 2) d' (s.mkdirS o).2 := by
  by_cases h1 : (s.fresh o.path).2 = 0
  · rw [mkdir_ok h1]
    obtain ⟨a, b⟩ := fresh_full h h1
    exact h.make a b 2 [] (by omega) (by omega)
  · rw [mkdir_bad h1]
    exact ⟨d, h.mono (by omega)⟩
theorem symlink_inv (h : Wz 0 k d s) (o : M.Op) : ∃ d', Wz 0 (k + 2) d' (s.symlinkS o).2 := by
  by_cases h1 : (M.targetP o.path).2.2 = 0
  · by_cases h2 : (s.fresh o.to).2 = 0
    · rw [symlink_ok h1 h2]
      obtain ⟨a, b⟩ := fresh_full h h2
      exact h.make a b 3 o.path (by omega) (fun _ => targetP_short h1)
    · rw [symlink_place h1 h2]
      exact ⟨d, h.mono (by omega)⟩
  · rw [symlink_bad h1]
    exact ⟨d, h.mono (by omega)⟩
theorem Wz.self (h : Wz 0 k d s) {n : Int} (hn : s.has n = true) (hk : (s.nd n).kind ≠ 2) : Wz n k d s where
  srt := h.srt
  root := h.root
  rootK := h.rootK
  rootA := h.rootA
  rootL := h.rootL
  last := h.last
  num := h.num
  kind := h.kind
  leaf := h.leaf
  nsrt := h.nsrt
  child := h.child
  up := fun m _ hm => h.up m (h.ne0 hm) hm
  tall := fun m _ hm => h.tall m (h.ne0 hm) hm
  droot := h.droot
  det := fun m _ hm => h.det m (h.ne0 hm) hm
  cnt := fun m _ hm => h.cnt m (h.ne0 hm) hm
  dlk := fun m _ hm => h.dlk m (h.ne0 hm) hm
  most := h.most
  links := h.links
  high := h.high
  data := h.data
  target := h.target
  dir := h.dir
  fds := h.fds
  fd16 := h.fd16
  fdk := h.fdk
  past := h.past
  went := h.went
theorem link_inv (h : Wz 0 k d s) (o : M.Op) : ∃ d', Wz 0 (k + 1) d' (s.linkS o).2 := by
  by_cases h1 : (s.find o.path false).2 = 0
  · by_cases h2 : (s.nd (s.find o.path false).1.node).kind = 2
    · rw [link_dir h1 h2]
      exact ⟨d, h.mono (by omega)⟩
    · by_cases h3 : (s.fresh o.to).2 = 0
      · rw [link_ok h1 h2 h3]
        obtain ⟨a, b⟩ := fresh_full h h3
        have hn := find_has h.wf.cl h1
        have hn1 : (s.find o.path false).1.node ≠ 1 := fun e => h2 (by rw [e]; exact h.rootK)
        exact (h.self hn h2).add hn hn1 a.has a.kind (fun e => h2 (e ▸ a.kind)) a.att (a.none b) a.name (fun _ => h.cnt _ (h.ne0 hn) hn hn1) (fun e => absurd e h2) (fun e => absurd e h2) (fun e => absurd e h2)
      · rw [link_place h1 h2 h3]
        exact ⟨d, h.mono (by omega)⟩
  · rw [link_bad h1]
    exact ⟨d, h.mono (by omega)⟩
theorem remove_inv (h : Wz 0 k d s) (hk : k ≤ 9000) (o : M.Op) (hkind : o.kind = 10 ∨ o.kind = 11) : Wz 0 (k + 1) d (s.removeS o).2 := by
  unfold M.St.removeS
  simp only
  split
  · exact h.mono (by omega)
  · rename_i h1
    split
    · exact h.mono (by omega)
    · rename_i h2
      split
      · exact h.mono (by omega)
      · rename_i h3
        split
        · exact h.mono (by omega)
        · rename_i h4
          split
          · exact h.mono (by omega)
          · rename_i h5
            have hq := place_full h (by simpa using h1)
            have hg := hq.some h2
            refine h.take hk hq.has hg (child_ne h.wf hq.has hg) (fun hk2 => ?_)
            rcases hkind with e | e
            · by_cases e2 : (s.nd (s.place o.path).1.node).names = []
              · exact e2
              · exact absurd ⟨e, e2⟩ h4
            · exact absurd ⟨e, hk2⟩ h5

/- RENAME -/
theorem take_facts {dir n : Int} {name : M.Bs} (hd : s.has dir = true) (hn : s.has n = true) (hg : M.get (s.nd dir).names name = some n) (hne : n ≠ dir) :
    (∀ m, (s.take dir name).has m = true → s.has m = true) ∧ (∀ m, m ≠ n → s.has m = true → (s.take dir name).has m = true) ∧
    (∀ m, m ≠ n → (s.take dir name).nd m = if m = dir then { s.nd dir with names := M.del (s.nd dir).names name } else s.nd m) ∧
    (∀ m, (s.take dir name).has m = true → ((s.take dir name).nd m).above ≠ 0 → ((s.take dir name).nd m).above = (s.nd m).above) := by
  rw [take_eq hg hne]
  obtain ⟨s1, hs1⟩ : ∃ s1, s1 = (if (s.nd n).kind = 2 then (s.cut dir name n).set n { (s.cut dir name n).nd n with above := 0 } else s.cut dir name n) := ⟨_, rfl⟩
  rw [← hs1]
  have hh : ∀ m, s1.has m = s.has m := fun m => by
    rw [hs1]
    split
    · rw [set_has, cut_has hd hn]
      by_cases e : m = n
      · rw [e, hn]; simp
      · simp [e]
    · rw [cut_has hd hn]
  have hnd : ∀ m, m ≠ n → s1.nd m = if m = dir then { s.nd dir with names := M.del (s.nd dir).names name } else s.nd m := fun m e => by
    rw [hs1]
    split
    · rw [set_nd, if_neg e, cut_nd, if_neg e]
    · rw [cut_nd, if_neg e]
  have hab : ∀ m, (s1.nd m).above ≠ 0 → (s1.nd m).above = (s.nd m).above := fun m ha => by
    by_cases e : m = n
    · rw [hs1] at ha ⊢
      split at ha
      · rw [set_nd, if_pos e] at ha; exact absurd rfl ha
      · rename_i h2
        rw [if_neg h2]
        exact (cut_rest m).2.1
    · rw [hnd m e]
      split
      · rename_i e2; rw [e2]
      · rfl
  clear hs1
  by_cases hc : s1.has n = true ∧ (s1.nd n).links = 0 ∧ n ≠ 1 ∧ s1.holds n = false
  · obtain ⟨a1, a2, -⟩ := forget_nd_has s1 n hc
    have hx : ∀ m, (s1.forget n).has m = true → m ≠ n ∧ s1.has m = true := fun m hm => by rw [a1] at hm; simpa using hm
    refine ⟨fun m hm => by rw [← hh]; exact (hx m hm).2, fun m e hm => by rw [a1, hh, hm]; simp [e], fun m e => by rw [a2 m e]; exact hnd m e, fun m hm => by rw [a2 m (hx m hm).1]; exact hab m⟩
  · have : s1.forget n = s1 := by unfold M.St.forget; rw [if_neg hc]
    rw [this]
    exact ⟨fun m hm => by rw [← hh]; exact hm, fun m _ hm => by rw [hh]; exact hm, hnd, fun m _ => hab m⟩

/-- The parts of rename. -/
def renC (s : M.St) (a b : M.Spot) : M.Ans × M.St :=
  let s1 := if b.node ≠ 0 then s.take b.dir b.name else s
  let d := s1.nd a.dir
  let s2 := s1.set a.dir { d with names := M.del d.names a.name }
  let x := s2.nd a.node
  let s3 := s2.set a.node { x with links := x.links - 1 }
  ({}, s3.add b.dir b.name a.node)
def renB (s : M.St) (a b : M.Spot) : M.Ans × M.St :=
  let moves := decide ((s.nd a.node).kind = 2)
  if moves = true ∧ s.within s.deepest b.dir a.node = true then (M.code 2, s)
  else if moves = true ∧ s.deep s.deepest a.node (s.way s.deepest b.dir ++ [b.name]) = true then (M.code 11, s)
  else if b.node = a.node then ({}, s)
  else
    let y := s.nd b.node
    if b.node ≠ 0 ∧ moves = true ∧ y.kind ≠ 2 then (M.code 7, s)
    else if b.node ≠ 0 ∧ moves = true ∧ y.names ≠ [] then (M.code 9, s)
    else if b.node ≠ 0 ∧ moves = false ∧ y.kind = 2 then (M.code 8, s)
    else renC s a b
def renA (s : M.St) (o : M.Op) (a : M.Spot × Int) : M.Ans × M.St :=
  if a.2 ≠ 0 then (M.code a.2, s)
  else if a.1.node = 0 then (M.code 5, s)
  else if (s.place o.to).2 ≠ 0 then (M.code (s.place o.to).2, s)
  else renB s a.1 (s.place o.to).1
theorem rename_eq (s : M.St) (o : M.Op) : s.renameS o = if (M.lastP o.path).2.2 ≠ 0 then (M.code (M.lastP o.path).2.2, s) else if (M.lastP o.to).2.2 ≠ 0 then (M.code (M.lastP o.to).2.2, s) else renA s o (s.place o.path) := rfl

theorem rename_inv (h : Wz 0 k d s) (hk : k ≤ 9000) (o : M.Op) : ∃ d', Wz 0 (k + 2) d' (s.renameS o).2 := by
  have hsame : ∃ d', Wz 0 (k + 2) d' s := ⟨d, h.mono (by omega)⟩
  rw [rename_eq]
  by_cases c1 : (M.lastP o.path).2.2 ≠ 0
  · rw [if_pos c1]; exact hsame
  rw [if_neg c1]
  by_cases c2 : (M.lastP o.to).2.2 ≠ 0
  · rw [if_pos c2]; exact hsame
  rw [if_neg c2]
  unfold renA
  by_cases ha1 : (s.place o.path).2 ≠ 0
  · rw [if_pos ha1]; exact hsame
  rw [if_neg ha1]
  by_cases ha2 : (s.place o.path).1.node = 0
  · rw [if_pos ha2]; exact hsame
  rw [if_neg ha2]
  by_cases hb1 : (s.place o.to).2 ≠ 0
  · rw [if_pos hb1]; exact hsame
  rw [if_neg hb1]
  have ha := place_full h (p := o.path) (by simpa using ha1)
  have hb := place_full h (p := o.to) (by simpa using hb1)
  clear ha1 hb1 c1 c2
  generalize (s.place o.path).1 = a at *
  generalize (s.place o.to).1 = b at *
  unfold renB
  simp only
  by_cases h3 : decide ((s.nd a.node).kind = 2) = true ∧ s.within s.deepest b.dir a.node = true
  · rw [if_pos h3]; exact hsame
  rw [if_neg h3]
  by_cases h4 : decide ((s.nd a.node).kind = 2) = true ∧ s.deep s.deepest a.node (s.way s.deepest b.dir ++ [b.name]) = true
  · rw [if_pos h4]; exact hsame
  rw [if_neg h4]
  by_cases h5 : b.node = a.node
  · rw [if_pos h5]; exact hsame
  rw [if_neg h5]
  by_cases h6 : b.node ≠ 0 ∧ decide ((s.nd a.node).kind = 2) = true ∧ (s.nd b.node).kind ≠ 2
  · rw [if_pos h6]; exact hsame
  rw [if_neg h6]
  by_cases h7 : b.node ≠ 0 ∧ decide ((s.nd a.node).kind = 2) = true ∧ (s.nd b.node).names ≠ []
  · rw [if_pos h7]; exact hsame
  rw [if_neg h7]
  by_cases h8 : b.node ≠ 0 ∧ decide ((s.nd a.node).kind = 2) = false ∧ (s.nd b.node).kind = 2
  · rw [if_pos h8]; exact hsame
  rw [if_neg h8]
  have hga := ha.some ha2
  have hna := child_ne h.wf ha.has hga
  have hn := h.child _ ha.has _ _ hga
  have hdb := d_le h hb.has hb.att
  have hw := way_depth h 21 b.dir hb.has hb.att (by omega)
  have hsub : (s.nd a.node).kind = 2 → ¬ Sub s a.node b.dir := fun hk2 hs => by
    have := within_sub h hs 21 (by omega)
    exact h3 ⟨by simpa using hk2, this⟩
  have hdeep : (s.nd a.node).kind = 2 → ∀ m, Sub s a.node m → d m + d b.dir + 1 ≤ 20 + d a.node := fun hk2 m hs => by
    have hdp : s.deep s.deepest a.node (s.way s.deepest b.dir ++ [b.name]) = false := by
      cases hh : s.deep s.deepest a.node (s.way s.deepest b.dir ++ [b.name]) with
      | false => rfl
      | true => exact absurd ⟨by simpa using hk2, hh⟩ h4
    have h9 := deep_bound h hdp hs
    have h10 := Sub.ge h hs
    simp only [M.St.deepest, List.length_append, hw, List.length_cons, List.length_nil] at h9
    omega
  have key : ∀ s1 : M.St, Wz 0 (k + 1) d s1 → s1.has a.dir = true → M.get (s1.nd a.dir).names a.name = some a.node → s1.has b.dir = true → (s1.nd b.dir).kind = 2 → (b.dir = 1 ∨ (s1.nd b.dir).above ≠ 0) → M.get (s1.nd b.dir).names b.name = none → ((s1.nd a.node).kind = (s.nd a.node).kind) → (∀ m, s1.has m = true → s.has m = true) → (∀ m, s1.has m = true → (s1.nd m).above ≠ 0 → (s1.nd m).above = (s.nd m).above) →
      ∃ d', Wz 0 (k + 2) d' ((s1.cut a.dir a.name a.node).add b.dir b.name a.node) := by
    intro s1 h1 e1 e2 e3 e4 e5 e6 e7 e8 e9
    have hmv := h1.move e1 e2 hna e3 e4 e5 e6 hb.name (fun hk2 hs => hsub (e7 ▸ hk2) (hs.of e8 e9)) (fun hk2 m _ hs => hdeep (e7 ▸ hk2) m (hs.of e8 e9))
    rw [show k + 2 = k + 1 + 1 by omega]
    exact hmv
  have hC : ∀ s1 : M.St, s1 = (if b.node ≠ 0 then s.take b.dir b.name else s) → (renC s a b).2 = (s1.cut a.dir a.name a.node).add b.dir b.name a.node := by
    intro s1 hs1
    unfold renC M.St.cut
    simp only [← hs1, set_nd, if_neg hna]
  by_cases hb0 : b.node = 0
  · rw [hC s (by simp [hb0])]
    exact key s (h.mono (by omega)) ha.has hga hb.has hb.kind hb.att (hb.none hb0) rfl (fun _ h => h) (fun _ _ _ => rfl)
  · rw [hC (s.take b.dir b.name) (by simp [hb0])]
    have hgb := hb.some hb0
    have hnb := child_ne h.wf hb.has hgb
    have hyb := h.child _ hb.has _ _ hgb
    obtain ⟨t1, t2, t3, t4⟩ := take_facts hb.has hyb.1 hgb hnb
    have had : a.dir ≠ b.node := fun e => by
      by_cases hk2 : (s.nd a.node).kind = 2
      · have : (s.nd b.node).names = [] := by
          by_cases e2 : (s.nd b.node).names = []
          · exact e2
          · exact absurd ⟨hb0, by simpa using hk2, e2⟩ h7
        rw [e, this] at hga
        simp [M.get] at hga
      · refine h8 ⟨hb0, by simpa using hk2, ?_⟩
        rw [← e]; exact ha.kind
    have hw1 := h.take hk hb.has hgb hnb (fun hk2 => by
      by_cases hka : (s.nd a.node).kind = 2
      · by_cases e2 : (s.nd b.node).names = []
        · exact e2
        · exact absurd ⟨hb0, by simpa using hka, e2⟩ h7
      · exact absurd ⟨hb0, by simpa using hka, hk2⟩ h8)
    refine key (s.take b.dir b.name) hw1 (t2 _ had ha.has) ?_ (t2 _ hnb.symm hb.has) ?_ ?_ ?_ ?_ t1 t4
    · rw [t3 _ had]
      split
      · rename_i e
        simp only
        rw [get_del_eq, if_neg, ← e]
        · exact hga
        · intro e2
          rw [e, e2, hgb] at hga
          exact h5 (Option.some.inj hga)
      · exact hga
    · rw [t3 _ hnb.symm, if_pos rfl]; exact hb.kind
    · rw [t3 _ hnb.symm, if_pos rfl]; exact hb.att
    · rw [t3 _ hnb.symm, if_pos rfl]
      simp only
      rw [get_del_eq, if_pos rfl]
    · rw [t3 _ (fun e => h5 e.symm)]
      split
      · rename_i e; rw [e]
      · rfl

/- OPEN -/
theorem make_inv_nd (sp : M.Spot) (hne : sp.dir ≠ s.last + 1) : ((s.make sp 1 []).nd (s.last + 1)).kind = 1 ∧ (s.make sp 1 []).has (s.last + 1) = true := by
  rw [make_nd hne]
  exact ⟨rfl, make_has hne⟩
theorem find_lt {p : Nat → Bool} {fd : Nat} (h : (List.range 16).find? p = some fd) : fd < 16 := List.mem_range.1 (List.mem_of_find?_eq_some h)

theorem open_inv (h : Wz 0 k d s) (o : M.Op) : ∃ d', Wz 0 (k + 2) d' (s.openS o).2 := by
  have hsame : ∃ d', Wz 0 (k + 2) d' s := ⟨d, h.mono (by omega)⟩
  by_cases h1 : oBad o.flags
  · rw [open_bad h1]; exact hsame
  by_cases h2 : M.bit o.flags 1 = true ∧ (s.place o.path).2 ≠ 0
  · rw [open_place h1 h2.1 h2.2]; exact hsame
  by_cases h3 : M.bit o.flags 1 = true ∧ (s.place o.path).1.node ≠ 0 ∧ M.bit o.flags 2 = true
  · rw [open_excl h1 h2 h3]; exact hsame
  by_cases h4 : oLook (oS0 s o) = true ∧ (s.find o.path true).2 ≠ 0
  · rw [open_find h1 h2 h3 h4]; exact hsame
  by_cases hdir : (oSp s o).node ≠ 0 ∧ (s.nd (oSp s o).node).kind = 2 ∧ M.bit o.flags 32 = true
  · rw [open_dir h1 h2 h3 h4 hdir]; exact hsame
  by_cases h6 : 16 ≤ s.opens.length
  · rw [open_full h1 h2 h3 h4 hdir h6]; exact hsame
  rw [open_end h1 h2 h3 h4 hdir h6]
  have hin := fun e => oSp_in (o := o) h.wf h2 h4 e
  have hkd := fun e => oSp_kind (o := o) h.wf h4 e
  have hdirs : (oSp s o).node = 0 → Spotted s (oSp s o) := fun e0 => by
    have hlost : oLook (oS0 s o) = true → False := fun hl => by
      have e1 : oSp s o = (s.find o.path true).1 := by unfold oSp; rw [if_pos hl]
      have e2 : (s.find o.path true).2 = 0 := by
        by_cases e : (s.find o.path true).2 = 0
        · exact e
        · exact absurd ⟨hl, e⟩ h4
      have := find_has h.wf.cl e2
      rw [← e1, e0] at this
      exact h.ne0 this rfl
    by_cases hb : M.bit o.flags 1 = true
    · have hp : (s.place o.path).2 = 0 := by
        by_cases e : (s.place o.path).2 = 0
        · exact e
        · exact absurd ⟨hb, e⟩ h2
      have hq := place_full h hp
      by_cases hl : oLook (oS0 s o) = true
      · exact (hlost hl).elim
      · have e1 : oSp s o = (s.place o.path).1 := by unfold oSp; rw [if_neg hl]; unfold oS0; rw [if_pos hb]
        rw [e1]; exact hq
    · exact (hlost (by unfold oS0 oLook; rw [if_neg hb]; rfl)).elim
  unfold oEnd
  obtain ⟨s1, hs1⟩ : ∃ s1, s1 = (if (oSp s o).node = 0 then s.make (oSp s o) 1 [] else s) := ⟨_, rfl⟩
  rw [← hs1]
  obtain ⟨n, hn⟩ : ∃ n, n = (if (oSp s o).node = 0 then s1.last else (oSp s o).node) := ⟨_, rfl⟩
  simp only [← hn]
  have hall : ∃ d', Wz 0 (k + 2) d' s1 ∧ s1.has n = true ∧ (s1.nd n).kind ≠ 3 ∧ (M.bit o.flags 4 = true → (s1.nd n).kind = 1) := by
    by_cases e0 : (oSp s o).node = 0
    · have hq := hdirs e0
      obtain ⟨d', hd'⟩ := h.make hq e0 1 [] (by omega) (by omega)
      rw [if_pos e0] at hs1 hn
      have hne : (oSp s o).dir ≠ s.last + 1 := fun e => by have := hq.has; rw [e, h.wf.free] at this; cases this
      obtain ⟨m1, m2⟩ := make_inv_nd (oSp s o) hne
      have e3 : n = s.last + 1 := by rw [hn, hs1, make_last]
      rw [e3, hs1]
      exact ⟨d', hd', m2, by rw [m1]; decide, fun _ => m1⟩
    · rw [if_neg e0] at hs1 hn
      rw [hn, hs1]
      have a1 := hin e0
      have a2 := hkd e0
      refine ⟨d, h.mono (by omega), a1, a2, fun h4b => ?_⟩
      have h32 : M.bit o.flags 32 = true := by
        cases hh : M.bit o.flags 32 with
        | true => rfl
        | false => exact absurd (Or.inr (Or.inr ⟨by rw [h4b]; rfl, hh⟩)) h1
      have a3 : (s.nd (oSp s o).node).kind ≠ 2 := fun e => hdir ⟨e0, e, h32⟩
      have := h.kind _ a1
      omega
  clear hs1 hn hdirs hin hkd hdir
  obtain ⟨d', hw, hh, hk3, hk1⟩ := hall
  have hall2 : Wz 0 (k + 2) d' (if M.bit o.flags 4 = true then s1.set n ((s1.nd n).resize 0) else s1) ∧ (if M.bit o.flags 4 = true then s1.set n ((s1.nd n).resize 0) else s1).has n = true ∧ ((if M.bit o.flags 4 = true then s1.set n ((s1.nd n).resize 0) else s1).nd n).kind ≠ 3 := by
    by_cases h4b : M.bit o.flags 4 = true
    · rw [if_pos h4b]
      refine ⟨hw.resize hh (hk1 h4b) (by omega), by rw [set_has]; simp, ?_⟩
      rw [set_nd, if_pos rfl, resize_eq]
      exact hk3
    · rw [if_neg h4b]; exact ⟨hw, hh, hk3⟩
  generalize (if M.bit o.flags 4 = true then s1.set n ((s1.nd n).resize 0) else s1) = s2 at *
  obtain ⟨hw2, hh2, hk2⟩ := hall2
  refine ⟨d', ?_⟩
  cases hf : (List.range 16).find? (fun i => !(s2.fds i).opn) with
  | none => exact hw2
  | some fd =>
    refine hw2.fdSet fd _ (find_lt hf) (fun _ => ⟨hh2, by simp, ?_, hk2⟩)
    simp only
    have : ¬ o.flags < 0 ∧ ¬ 64 ≤ o.flags := ⟨fun e => h1 (Or.inl e), fun e => h1 (Or.inr (Or.inl e))⟩
    omega

/- ALL -/
theorem list_same (s : M.St) (o : M.Op) : (s.listS o).2 = s := by
  unfold M.St.listS
  by_cases h1 : (s.find o.path (decide (o.kind = 18))).2 ≠ 0
  · simp only; rw [if_pos h1]
  · simp only; rw [if_neg h1]
    by_cases h2 : o.kind = 18 ∧ (s.nd (s.find o.path (decide (o.kind = 18))).1.node).kind ≠ 2
    · rw [if_pos h2]
    · rw [if_neg h2]
      by_cases h3 : o.kind = 18
      · rw [if_pos h3]
      · rw [if_neg h3]
        split <;> rfl
theorem stat_same (s : M.St) (o : M.Op) : (s.statS o).2 = s := by unfold M.St.statS; simp only; split <;> rfl
theorem lasts_same (s : M.St) (fd : Int) : (s.lastsS fd).2 = s := by unfold M.St.lastsS; split <;> rfl
theorem step_inv (h : Inv k s) (hk : k ≤ 9000) (o : M.Op) : Inv (k + 2) (s.step o).2 := by
  obtain ⟨d, h⟩ := h
  have hsame : Inv (k + 2) s := ⟨d, h.mono (by omega)⟩
  have mk1 : ∀ {s' : M.St} {d' : Int → Nat}, Wz 0 (k + 1) d' s' → Inv (k + 2) s' := fun {s' d'} hw => ⟨d', hw.mono (by omega)⟩
  have mk0 : ∀ {s' : M.St} {d' : Int → Nat}, Wz 0 k d' s' → Inv (k + 2) s' := fun {s' d'} hw => ⟨d', hw.mono (by omega)⟩
  unfold M.St.step
  by_cases hc : o.kind = 1
  · rw [if_pos hc]; exact open_inv h o
  rw [if_neg hc]; clear hc
  by_cases hc : o.kind = 2
  · rw [if_pos hc]; exact mk1 (close_inv h hk _)
  rw [if_neg hc]; clear hc
  by_cases hc : o.kind = 3 ∨ o.kind = 5
  · rw [if_pos hc]; exact mk0 (read_wz h o)
  rw [if_neg hc]; clear hc
  by_cases hc : o.kind = 4 ∨ o.kind = 6
  · rw [if_pos hc]; exact mk0 (write_wz h o)
  rw [if_neg hc]; clear hc
  by_cases hc : o.kind = 7
  · rw [if_pos hc]; exact mk0 (seek_wz h o)
  rw [if_neg hc]; clear hc
  by_cases hc : o.kind = 8
  · rw [if_pos hc]; exact mk0 (trunc_wz h o)
  rw [if_neg hc]; clear hc
  by_cases hc : o.kind = 9
  · rw [if_pos hc]; exact mkdir_inv h o
  rw [if_neg hc]; clear hc
  by_cases hc : o.kind = 10 ∨ o.kind = 11
  · rw [if_pos hc]; exact mk1 (remove_inv h hk o hc)
  rw [if_neg hc]; clear hc
  by_cases hc : o.kind = 12
  · rw [if_pos hc]; obtain ⟨d', hd'⟩ := link_inv h o; exact mk1 hd'
  rw [if_neg hc]; clear hc
  by_cases hc : o.kind = 13
  · rw [if_pos hc]; exact symlink_inv h o
  rw [if_neg hc]; clear hc
  by_cases hc : o.kind = 14 ∨ o.kind = 18
  · rw [if_pos hc]; rw [list_same]; exact hsame
  rw [if_neg hc]; clear hc
  by_cases hc : o.kind = 15
  · rw [if_pos hc]; exact rename_inv h hk o
  rw [if_neg hc]; clear hc
  by_cases hc : o.kind = 16 ∨ o.kind = 17
  · rw [if_pos hc]; rw [stat_same]; exact hsame
  rw [if_neg hc]; clear hc
  by_cases hc : o.kind = 19 ∨ o.kind = 20
  · rw [if_pos hc]; rw [lasts_same]; exact hsame
  rw [if_neg hc]; clear hc
  by_cases hc : o.kind = 21
  · rw [if_pos hc]; exact hsame
  rw [if_neg hc]; clear hc
  by_cases hc : (o.kind = 22 ∨ o.kind = 23) ∧ 0 ≤ o.n
  · rw [if_pos hc]; exact hsame
  rw [if_neg hc]; clear hc
  exact hsame

theorem high_wz (h : Wz 0 k d s) (f : M.Nd → Int) (hf : ∀ n, s.has n = true → 0 ≤ f (s.nd n) ∧ f (s.nd n) ≤ 5000) {s' : M.St} (hs' : s'.nodes = (highBut s f []).nodes) (h1 : s'.last = s.last) (h2 : s'.fds = s.fds) (h3 : s'.past = s.past ∨ s'.past = 0) (h4 : s'.went = s.went ∨ s'.went = 0) : Wz 0 k d s' := by
  have hh : ∀ n, s'.has n = s.has n := fun n => by
    have := highBut_has (s := s) (h := f) (K := []) n
    unfold M.St.has at this ⊢
    rw [hs']; exact this
  have hnd : ∀ n, s.has n = true → s'.nd n = { s.nd n with high := f (s.nd n) } := fun n hn => by
    have := highBut_get (s := s) (h := f) (K := []) n
    unfold M.St.nd
    rw [hs', this, get_of_has hn]
    rfl
  have hnd0 : ∀ n, s.has n = false → s'.nd n = s.nd n := fun n hn => by
    rw [nd_none hn, nd_none (by rw [hh]; exact hn)]
  refine h.soft ?_ ?_ hh h1 h3 h4 (fun n => ?_) (fun n hn => ?_) (fun n hn => ?_) (fun n hn _ => ?_) (fun i hi => ?_) (fun i hi => ?_) (fun i hi => ?_)
  · rw [hs']
    unfold highBut
    rw [List.map_map]
    apply List.map_congr_left
    intro p _
    simp
  · rw [hs']
    exact srt_map2 _ h.srt
  · cases hn : s.has n with
    | true => rw [hnd n hn]; exact ⟨rfl, rfl, rfl, rfl, rfl⟩
    | false => rw [hnd0 n hn]; exact ⟨rfl, rfl, rfl, rfl, rfl⟩
  · rw [hnd n hn]; exact hf n hn
  · rw [hnd n hn]; exact h.data n hn
  · rw [hnd n hn]; exact ⟨rfl, rfl⟩
  · rw [h2] at hi ⊢; exact h.fds i hi
  · rw [h2] at hi; exact h.fd16 i hi
  · rw [h2] at hi ⊢; exact h.fdk i hi

theorem mark_inv (h : Inv k s) (hk : k ≤ 9000) : Inv k s.mark := by
  obtain ⟨d, h⟩ := h
  refine ⟨d, high_wz h M.Nd.greatest (fun n hn => h.great (by omega) hn) ?_ rfl rfl (Or.inl rfl) (Or.inl rfl)⟩
  rw [mark_eq]
theorem synced_inv (h : Inv k s) : Inv k s.synced := by
  obtain ⟨d, h⟩ := h
  refine ⟨d, high_wz h (fun _ => 0) (fun n hn => by omega) ?_ rfl rfl (Or.inr rfl) (Or.inr rfl)⟩
  unfold M.St.synced highBut
  simp

/-- What Do needs, and what it leaves. -/
theorem Inv.fit (h : Inv k s) (hk : k ≤ 8000) (o : M.Op) : Fit k s o := by
  have hm := mark_inv h (by omega)
  have hs := step_inv hm (by omega) o
  obtain ⟨d, h⟩ := h
  obtain ⟨d1, h1⟩ := hm
  obtain ⟨d2, h2⟩ := hs
  exact ⟨fun n hn => h.wf.small (by omega) hn, h1.wf, fun n hn m c hg => h1.lk hn hg, fun n hn => h2.wf.small (by omega) hn, h2.srt, by omega⟩
theorem Inv.doS (h : Inv k s) (hk : k ≤ 8000) (o : M.Op) : Inv (k + 2) (s.doS o).2 := by
  have hs := step_inv (mark_inv h (by omega)) (by omega) o
  by_cases e : o.kind = 21
  · rw [doS_sync e]
    exact mark_inv (synced_inv hs) (by omega)
  · rw [doS_else e]
    exact mark_inv hs (by omega)
theorem Inv.new : Inv 0 M.new := by
  have hh : ∀ n, M.new.has n = true → n = 1 := fun n hn => by
    unfold M.St.has M.get M.new at hn
    by_cases e : (1 : Int) = n
    · exact e.symm
    · simp [e] at hn
  have h1 : M.new.nd 1 = { kind := 2, links := 1 } := rfl
  refine ⟨fun _ => 0, ⟨List.pairwise_singleton _ _, rfl, rfl, rfl, rfl, by decide, ?_, ?_, ?_, ?_, ?_, ?_, ?_, rfl, ?_, ?_, ?_, ?_, ?_, ?_, ?_, ?_, ?_, ?_, ?_, ?_, ?_, ?_⟩⟩
  · intro n hn; rw [hh n hn]; decide
  · intro n hn; rw [hh n hn, h1]; decide
  · intro n hn; rw [hh n hn, h1]; exact fun _ => ⟨rfl, rfl⟩
  · intro n hn; rw [hh n hn, h1]; exact List.Pairwise.nil
  · intro n hn m c hg; rw [hh n hn, h1] at hg; simp [M.get] at hg
  · intro n _ hn ha; rw [hh n hn, h1] at ha; exact absurd rfl ha
  · intro n _ hn ha; rw [hh n hn, h1] at ha; exact absurd rfl ha
  · intro n _ hn _ e; exact absurd (hh n hn) e
  · intro n _ hn e; exact absurd (hh n hn) e
  · intro n _ hn _ e; exact absurd (hh n hn) e
  · intro n hn; rw [hh n hn, h1]; decide
  · intro n hn; rw [hh n hn, h1]; decide
  · intro n hn; rw [hh n hn, h1]; decide
  · intro n hn; rw [hh n hn, h1]; decide
  · intro n hn; rw [hh n hn, h1]; decide
  · intro n hn; rw [hh n hn, h1]; exact fun _ => ⟨rfl, rfl⟩
  · intro i hi; cases hi
  · intro i hi; cases hi
  · intro i hi; cases hi
  · decide
  · decide
end
end Go.Proofs.YtpfaccpmgldkeaaGreatDoor
