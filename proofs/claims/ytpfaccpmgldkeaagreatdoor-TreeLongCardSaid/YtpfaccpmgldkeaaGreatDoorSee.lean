/- What is seen of a tree: each path once; how much it is at most. -/
import Derived.Test.YtpfaccpmgldkeaaGreatDoorInw
set_option linter.unusedVariables false
set_option linter.unusedSimpArgs false
namespace Go.Proofs.YtpfaccpmgldkeaaGreatDoor
open Go.RowKit Go.MapKept Go.ChangeMaps

/-- A path is one, or lies below it. -/
def Under (p q : M.Bs) : Prop := q = p ∨ ∃ r, q = p ++ M.slash :: r
theorem Under.trans {p q r : M.Bs} (h : Under p q) (k : Under q r) : Under p r := by
  rcases h with rfl | ⟨a, rfl⟩
  · exact k
  · rcases k with rfl | ⟨b, rfl⟩
    · exact Or.inr ⟨a, rfl⟩
    · exact Or.inr ⟨a ++ M.slash :: b, by simp⟩
theorem slash_eq : ∀ (a b r t : M.Bs), M.slash ∉ a → M.slash ∉ b → (r = [] ∨ ∃ u, r = M.slash :: u) → (t = [] ∨ ∃ u, t = M.slash :: u) → a ++ r = b ++ t → a = b
  | [], [], _, _, _, _, _, _, _ => rfl
  | [], y :: b, r, t, _, hb, hr, _, h => by
    rcases hr with rfl | ⟨u, rfl⟩
    · simp at h
    · simp at h
      exact absurd (by rw [h.1]; exact List.mem_cons_self) hb
  | x :: a, [], r, t, ha, _, _, ht, h => by
    rcases ht with rfl | ⟨u, rfl⟩
    · simp at h
    · simp at h
      exact absurd (by rw [← h.1]; exact List.mem_cons_self) ha
  | x :: a, y :: b, r, t, ha, hb, hr, ht, h => by
    simp at h
    rw [h.1, slash_eq a b r t (fun e => ha (List.mem_cons_of_mem _ e)) (fun e => hb (List.mem_cons_of_mem _ e)) hr ht h.2]
theorem under_apart {p a b q : M.Bs} (ha : M.slash ∉ a) (hb : M.slash ∉ b) (h1 : Under (p ++ M.slash :: a) q) (h2 : Under (p ++ M.slash :: b) q) : a = b := by
  have e1 : ∃ r, (r = [] ∨ ∃ u, r = M.slash :: u) ∧ q = p ++ M.slash :: (a ++ r) := by
    rcases h1 with rfl | ⟨r, rfl⟩
    · exact ⟨[], Or.inl rfl, by simp⟩
    · exact ⟨M.slash :: r, Or.inr ⟨r, rfl⟩, by simp⟩
  have e2 : ∃ r, (r = [] ∨ ∃ u, r = M.slash :: u) ∧ q = p ++ M.slash :: (b ++ r) := by
    rcases h2 with rfl | ⟨r, rfl⟩
    · exact ⟨[], Or.inl rfl, by simp⟩
    · exact ⟨M.slash :: r, Or.inr ⟨r, rfl⟩, by simp⟩
  obtain ⟨r, hr, e1⟩ := e1
  obtain ⟨t, ht, e2⟩ := e2
  rw [e1] at e2
  have := List.append_cancel_left e2
  simp at this
  exact slash_eq a b r t ha hb hr ht this

/-- How a path is told. -/
def told (p : M.Bs) : M.Bs := if p = [] then [M.slash] else p

section
variable {k : Int} {d : Int → Nat} {s : M.St}
theorem see_succ (f : Nat) (n : Int) (p : M.Bs) : s.see (f + 1) n p = ⟨told p, n, (s.nd n).kind, (s.nd n).links, (s.nd n).data⟩ :: (s.nd n).names.flatMap fun c => s.see f c.2 (p ++ M.slash :: c.1) := rfl

theorem see_under (h : Wz 0 k d s) : ∀ (f : Nat) (n : Int) (p : M.Bs), s.has n = true → p ≠ [] → ∀ x ∈ s.see f n p, Under p x.path
  | 0, _, _, _, _, x, hx => by simp [M.St.see] at hx
  | f + 1, n, p, hn, hp, x, hx => by
    rw [see_succ] at hx
    rcases List.mem_cons.1 hx with rfl | hx
    · exact Or.inl (by simp [told, hp])
    · obtain ⟨c, hc, hx⟩ := List.mem_flatMap.1 hx
      have hg : M.get (s.nd n).names c.1 = some c.2 := get_mem (srt_nodup (h.nsrt n hn)) hc
      have := see_under h f c.2 (p ++ M.slash :: c.1) (h.child n hn _ _ hg).1 (by simp) x hx
      exact Under.trans (Or.inr ⟨c.1, rfl⟩) this

theorem told_ne (p m q : M.Bs) (hm : m ≠ []) (h : Under (p ++ M.slash :: m) q) : told p ≠ q := by
  intro e
  have hl : (p ++ M.slash :: m).length ≤ q.length := by
    rcases h with rfl | ⟨r, rfl⟩
    · exact Nat.le_refl _
    · simp
  rw [← e] at hl
  have hm' : 1 ≤ m.length := by cases m with | nil => exact absurd rfl hm | cons a m => simp
  unfold told at hl
  split at hl
  · rename_i e2
    rw [e2] at hl
    simp only [List.nil_append, List.length_cons, List.length_nil] at hl
    omega
  · simp only [List.length_append, List.length_cons] at hl
    omega

theorem see_nodup (h : Wz 0 k d s) : ∀ (f : Nat) (n : Int) (p : M.Bs), s.has n = true → (s.see f n p).Pairwise fun x y => x.path ≠ y.path
  | 0, _, _, _ => List.Pairwise.nil
  | f + 1, n, p, hn => by
    rw [see_succ, List.pairwise_cons]
    have hg : ∀ c ∈ (s.nd n).names, M.get (s.nd n).names c.1 = some c.2 := fun c hc => get_mem (srt_nodup (h.nsrt n hn)) hc
    refine ⟨fun y hy => ?_, ?_⟩
    · obtain ⟨c, hc, hy⟩ := List.mem_flatMap.1 hy
      have hch := h.child n hn _ _ (hg c hc)
      exact told_ne p c.1 _ hch.2.2.2.2.1 (see_under h f c.2 _ hch.1 (by simp) y hy)
    · rw [List.pairwise_flatMap]
      refine ⟨fun c hc => see_nodup h f c.2 _ (h.child n hn _ _ (hg c hc)).1, ?_⟩
      have hs := srt_nodup (h.nsrt n hn)
      unfold List.Nodup at hs
      rw [List.pairwise_map] at hs
      refine hs.imp_of_mem fun {a b} ha hb hab x hx y hy e => ?_
      have ca := h.child n hn _ _ (hg a ha)
      have cb := h.child n hn _ _ (hg b hb)
      have u1 := see_under h f a.2 _ ca.1 (by simp) x hx
      have u2 := see_under h f b.2 _ cb.1 (by simp) y hy
      rw [← e] at u2
      exact hab (under_apart ca.2.2.2.1 cb.2.2.2.1 u1 u2)

/-- The path of a directory. -/
def pathOf (s : M.St) (n : Int) : M.Bs := (s.way 21 n).flatMap fun m => M.slash :: m
theorem way_fuel (h : Wz 0 k d s) : ∀ (f g : Nat) (c : Int), s.has c = true → (c = 1 ∨ (s.nd c).above ≠ 0) → d c ≤ f → d c ≤ g → s.way f c = s.way g c
  | 0, g, c, hc, ha, hf, _ => by
    rcases ha with e | e
    · rw [way_end (Or.inl e), way_end (Or.inl e)]
    · have := (h.tall c (h.ne0 hc) hc e).1; omega
  | f + 1, 0, c, hc, ha, _, hg => by
    rcases ha with e | e
    · rw [way_end (Or.inl e), way_end (Or.inl e)]
    · have := (h.tall c (h.ne0 hc) hc e).1; omega
  | f + 1, g + 1, c, hc, ha, hf, hg => by
    by_cases e : c = 1
    · rw [way_end (Or.inl e), way_end (Or.inl e)]
    · have ha' := ha.resolve_left e
      obtain ⟨m, _, _, _, hw⟩ := way_step h.wf hc e ha'
      have ht := (h.tall c (h.ne0 hc) hc ha').1
      rw [hw, hw, way_fuel h f g _ (h.up c (h.ne0 hc) hc ha').1 (h.att_up hc ha') (by omega) (by omega)]
theorem pathOf_root : pathOf s 1 = [] := by unfold pathOf; rw [way_end (Or.inl rfl)]; rfl
theorem way_child (h : Wz 0 k d s) {n c : Int} {m : M.Bs} (hn : s.has n = true) (ha : n = 1 ∨ (s.nd n).above ≠ 0) (hg : M.get (s.nd n).names m = some c) (hk : (s.nd c).kind = 2) : s.way 21 c = s.way 21 n ++ [m] ∧ (s.nd c).above = n := by
  have hch := h.child n hn m c hg
  have hab := hch.2.2.2.2.2 hk
  have ha0 : (s.nd c).above ≠ 0 := by rw [hab]; exact h.ne0 hn
  obtain ⟨m', h1, h2, _, hw⟩ := way_step h.wf hch.1 hch.2.1 ha0
  have hdn := d_le h hn ha
  rw [hab] at h2 hw
  have e : m = m' := h2 m (mem_of_get hg)
  rw [show (21 : Nat) = 20 + 1 by rfl, hw, way_fuel h 20 21 n hn ha (by omega) (by omega), e]
  exact ⟨rfl, hab⟩
theorem pathOf_child (h : Wz 0 k d s) {n c : Int} {m : M.Bs} (hn : s.has n = true) (ha : n = 1 ∨ (s.nd n).above ≠ 0) (hg : M.get (s.nd n).names m = some c) (hk : (s.nd c).kind = 2) : pathOf s c = pathOf s n ++ M.slash :: m := by
  unfold pathOf
  rw [(way_child h hn ha hg hk).1, List.flatMap_append]
  simp
theorem see_dir (h : Wz 0 k d s) : ∀ (f : Nat) (n : Int) (p : M.Bs), s.has n = true → ((s.nd n).kind = 2 → (n = 1 ∨ (s.nd n).above ≠ 0) ∧ p = pathOf s n) → ∀ x ∈ s.see f n p, s.has x.number = true ∧ ((s.nd x.number).kind = 2 → x.path = told (pathOf s x.number))
  | 0, _, _, _, _, x, hx => by simp [M.St.see] at hx
  | f + 1, n, p, hn, ha, x, hx => by
    rw [see_succ] at hx
    rcases List.mem_cons.1 hx with rfl | hx
    · exact ⟨hn, fun hk => by rw [(ha hk).2]⟩
    · obtain ⟨c, hc, hx⟩ := List.mem_flatMap.1 hx
      have hg : M.get (s.nd n).names c.1 = some c.2 := get_mem (srt_nodup (h.nsrt n hn)) hc
      have hch := h.child n hn _ _ hg
      have hk := h.wf.child_dir hn hg
      refine see_dir h f c.2 _ hch.1 (fun hk2 => ?_) x hx
      refine ⟨Or.inr (by rw [hch.2.2.2.2.2 hk2]; exact h.ne0 hn), ?_⟩
      rw [pathOf_child h hn (ha hk).1 hg hk2, (ha hk).2]

/- HOW MUCH -/
theorem nodup_bound : ∀ (N : Nat) (l : List Int), l.Nodup → (∀ x ∈ l, 1 ≤ x ∧ x ≤ N) → l.length ≤ N
  | 0, l, _, h => by
    cases l with
    | nil => exact Nat.le_refl _
    | cons a l => have := h a List.mem_cons_self; omega
  | N + 1, l, hn, h => by
    have h2 : ∀ x ∈ l.erase ((N : Int) + 1), 1 ≤ x ∧ x ≤ N := fun x hx => by
      have h3 := h x (List.mem_of_mem_erase hx)
      have h4 : x ≠ (N : Int) + 1 := fun e => by
        rw [e] at hx
        exact absurd hx (fun hm => by
          have := (List.Nodup.mem_erase_iff hn).1 hm
          exact this.1 rfl)
      push_cast at h3
      omega
    have := nodup_bound N _ (hn.erase _) h2
    have h5 : l.length ≤ (l.erase ((N : Int) + 1)).length + 1 := by
      rw [List.length_erase]
      split <;> omega
    omega
theorem see_len (h : Wz 0 k d s) : ∀ (f : Nat) (n : Int) (p : M.Bs), (s.see f n p).length ≤ 1 + ((s.see f n p).map fun x => (s.nd x.number).names.length).sum
  | 0, _, _ => by simp [M.St.see]
  | f + 1, n, p => by
    have key : ∀ l : List (M.Bs × Int), (l.flatMap fun c => s.see f c.2 (p ++ M.slash :: c.1)).length ≤ l.length + ((l.flatMap fun c => s.see f c.2 (p ++ M.slash :: c.1)).map fun x => (s.nd x.number).names.length).sum := by
      intro l
      induction l with
      | nil => simp
      | cons c l ih =>
        have := see_len h f c.2 (p ++ M.slash :: c.1)
        simp only [List.flatMap_cons, List.length_append, List.map_append, List.sum_append, List.length_cons]
        omega
    have := key (s.nd n).names
    rw [see_succ]
    simp only [List.length_cons, List.map_cons, List.sum_cons]
    omega
theorem sum_dirs (h : Wz 0 k d s) : ∀ l : List M.Seen, (∀ x ∈ l, s.has x.number = true) → ((l.map fun x => (s.nd x.number).names.length).sum : Nat) ≤ (l.filter fun x => decide ((s.nd x.number).kind = 2)).length * k.toNat
  | [], _ => by simp
  | x :: l, hl => by
    have ih := sum_dirs h l (fun y hy => hl y (List.mem_cons_of_mem _ hy))
    have hx := hl x List.mem_cons_self
    have hm := h.most _ hx
    by_cases hk : (s.nd x.number).kind = 2
    · rw [List.filter_cons, if_pos (by simpa using hk), List.length_cons, List.map_cons, List.sum_cons, Nat.succ_mul]
      omega
    · rw [List.filter_cons, if_neg (by simpa using hk), List.map_cons, List.sum_cons, (h.leaf _ hx hk).1]
      simpa using ih
theorem see_few (h : Wz 0 k d s) (hk : k ≤ 9000) (f : Nat) : (s.see f 1 []).length ≤ 1000000000 := by
  have h1 := see_len h f 1 []
  have hdir := see_dir h f 1 [] h.root (fun _ => ⟨Or.inl rfl, pathOf_root.symm⟩)
  have h2 := sum_dirs h (s.see f 1 []) (fun x hx => (hdir x hx).1)
  have hp := see_nodup h f 1 [] h.root
  have h3 : (((s.see f 1 []).filter fun x => decide ((s.nd x.number).kind = 2)).map (·.number)).Nodup := by
    unfold List.Nodup
    rw [List.pairwise_map]
    refine (hp.filter _).imp_of_mem fun {a b} ha hb hab e => ?_
    obtain ⟨ha1, ha2⟩ := List.mem_filter.1 ha
    obtain ⟨hb1, hb2⟩ := List.mem_filter.1 hb
    have e1 := (hdir a ha1).2 (by simpa using ha2)
    have e2 := (hdir b hb1).2 (by simpa using hb2)
    exact hab (by rw [e1, e2, e])
  have hl := h.last
  have h4 := nodup_bound s.last.toNat _ h3 (fun x hx => by
    obtain ⟨y, hy, rfl⟩ := List.mem_map.1 hx
    have := h.num _ (hdir y (List.mem_filter.1 hy).1).1
    omega)
  rw [List.length_map] at h4
  have h5 : ((s.see f 1 []).filter fun x => decide ((s.nd x.number).kind = 2)).length ≤ 9001 := by omega
  have h6 : k.toNat ≤ 9000 := by omega
  have := Nat.mul_le_mul h5 h6
  omega
end
end Go.Proofs.YtpfaccpmgldkeaaGreatDoor
