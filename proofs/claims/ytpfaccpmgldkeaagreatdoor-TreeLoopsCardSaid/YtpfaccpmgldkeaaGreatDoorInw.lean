/- The invariant of a tree: what paths find in it; moves; new nodes. -/
import Derived.Test.YtpfaccpmgldkeaaGreatDoorInv
namespace Go.Proofs.YtpfaccpmgldkeaaGreatDoor
open Go.RowKit Go.MapKept Go.ChangeMaps

/- NAMES -/
theorem cutAt_good : ∀ (l acc : M.Bs), M.slash ∉ acc → ∀ x ∈ M.cutAt acc l, M.slash ∉ x
  | [], acc, h, x, hx => by
    simp only [M.cutAt, List.mem_singleton] at hx
    rw [hx, List.mem_reverse]; exact h
  | c :: l, acc, h, x, hx => by
    unfold M.cutAt at hx
    split at hx
    · rcases List.mem_cons.1 hx with e | hx
      · rw [e, List.mem_reverse]; exact h
      · exact cutAt_good l [] (by simp) x hx
    · rename_i hc
      refine cutAt_good l (c :: acc) ?_ x hx
      intro hm
      rcases List.mem_cons.1 hm with e | hm
      · exact hc e.symm
      · exact h hm
theorem partsGo_good : ∀ (ps out : List M.Bs), (∀ x ∈ out, x ≠ [] ∧ M.slash ∉ x) → (∀ x ∈ ps, M.slash ∉ x) → ∀ x ∈ (M.partsGo out ps).1, x ≠ [] ∧ M.slash ∉ x
  | [], out, ho, _, x, hx => ho x (by simpa [M.partsGo] using hx)
  | p :: ps, out, ho, hp, x, hx => by
    unfold M.partsGo at hx
    split at hx
    · exact partsGo_good ps out ho (fun y hy => hp y (List.mem_cons_of_mem _ hy)) x hx
    · rename_i h1
      split at hx
      · cases hx
      · refine partsGo_good ps _ ?_ (fun y hy => hp y (List.mem_cons_of_mem _ hy)) x hx
        intro y hy
        rcases List.mem_append.1 hy with hy | hy
        · exact ho y hy
        · have e : y = p := by simpa using hy
          rw [e]
          exact ⟨fun e => h1 (Or.inl e), hp p List.mem_cons_self⟩
theorem parts_good (l : M.Bs) : ∀ x ∈ (M.parts l).1, x ≠ [] ∧ M.slash ∉ x := partsGo_good _ _ (by simp) (cutAt_good _ _ (by simp))
theorem splitP_good (p : M.Bs) : ∀ x ∈ (M.splitP p).1, x ≠ [] ∧ M.slash ∉ x := by
  intro x hx
  unfold M.splitP at hx
  split at hx
  · cases hx
  · split at hx
    · cases hx
    · exact parts_good p x hx
theorem lastP_good {l : M.Bs} (h : (M.lastP l).2.2 = 0) : (M.lastP l).2.1.length ≤ 24 ∧ M.slash ∉ (M.lastP l).2.1 ∧ (M.lastP l).2.1 ≠ [] := by
  refine ⟨(lastP_name h).1, ?_⟩
  unfold M.lastP at h ⊢
  by_cases hc : (M.splitP l).2 = 0
  · rw [if_neg (by rw [hc]; simp)] at h ⊢
    cases hg : (M.splitP l).1.getLast? with
    | none => simp [hg] at h
    | some x =>
      simp only [hg] at h ⊢
      split
      · rename_i hx; simp [hx] at h
      · have := splitP_good l x (List.mem_of_getLast? hg)
        exact ⟨this.2, this.1⟩
  · rw [if_pos hc] at h ⊢
    exact absurd h hc

/- WHAT PATHS FIND -/
/-- A node is within reach from the root, or no directory. -/
def Att (s : M.St) (n : Int) : Prop := n = 1 ∨ (s.nd n).above ≠ 0 ∨ (s.nd n).kind ≠ 2
section
variable {k : Int} {d : Int → Nat} {s : M.St}
theorem Wz.att_up (h : Wz 0 k d s) {n : Int} (hn : s.has n = true) (ha : (s.nd n).above ≠ 0) : (s.nd n).above = 1 ∨ (s.nd (s.nd n).above).above ≠ 0 := by
  obtain ⟨a1, a2, m, a3⟩ := h.up n (h.ne0 hn) hn ha
  by_cases e : (s.nd n).above = 1
  · exact Or.inl e
  · right
    intro e2
    rw [h.det _ (h.ne0 a1) a1 a2 e e2] at a3
    simp [M.get] at a3
theorem Wz.att_above (h : Wz 0 k d s) {n : Int} (hn : s.has n = true) (ha : Att s n) : Att s (s.above n) := by
  unfold M.St.above
  split
  · rename_i h1
    rcases h.att_up hn h1 with e | e
    · exact Or.inl e
    · exact Or.inr (Or.inl e)
  · exact ha
theorem Wz.att_child (h : Wz 0 k d s) {n : Int} (hn : s.has n = true) {m : M.Bs} {c : Int} (hg : M.get (s.nd n).names m = some c) : Att s c := by
  by_cases hk : (s.nd c).kind = 2
  · right; left
    rw [(h.child n hn m c hg).2.2.2.2.2 hk]
    exact h.ne0 hn
  · exact Or.inr (Or.inr hk)
theorem walk_att (h : Wz 0 k d s) (fo : Bool) : ∀ (f : Nat) (sp : M.Spot) (hops : Nat) (ps : List M.Bs), s.has sp.node = true → Att s sp.node → (s.walk fo f sp hops ps).2 = 0 → Att s (s.walk fo f sp hops ps).1.node
  | 0, sp, _, _, _, hk, _ => hk
  | f + 1, sp, hops, [], _, hk, _ => hk
  | f + 1, sp, hops, p :: ps, hn, hk, h0 => by
    unfold M.St.walk at h0 ⊢
    split at h0
    · cases h0
    · rename_i h1
      rw [if_neg h1]
      split at h0
      · rename_i h2
        rw [if_pos h2]
        exact walk_att h fo f _ _ _ (h.wf.above hn) (h.att_above hn hk) h0
      · rename_i h2
        rw [if_neg h2]
        cases hg : M.get (s.nd sp.node).names p with
        | none => simp [hg] at h0
        | some c =>
          simp only [hg] at h0 ⊢
          split at h0
          · rename_i h3
            rw [if_pos h3]
            split at h0
            · cases h0
            · rename_i h4
              rw [if_neg h4]
              refine walk_att h fo f _ _ _ ?_ ?_ h0
              · split
                · exact h.root
                · exact hn
              · split
                · exact Or.inl rfl
                · exact hk
          · rename_i h3
            rw [if_neg h3]
            exact walk_att h fo f _ _ _ (h.child _ hn _ _ hg).1 (h.att_child hn hg) h0
theorem find_att (h : Wz 0 k d s) {p : M.Bs} {fo : Bool} (h0 : (s.find p fo).2 = 0) : Att s (s.find p fo).1.node := by
  unfold M.St.find at h0 ⊢
  split at h0
  · rename_i h; exact absurd h0 h
  · rename_i h1
    rw [if_neg h1]
    exact walk_att h fo _ _ _ _ h.root (Or.inl rfl) h0

/-- What a place is. -/
structure Spotted (s : M.St) (q : M.Spot) : Prop where
  has : s.has q.dir = true
  kind : (s.nd q.dir).kind = 2
  att : q.dir = 1 ∨ (s.nd q.dir).above ≠ 0
  name : q.name.length ≤ 24 ∧ M.slash ∉ q.name ∧ q.name ≠ []
  none : q.node = 0 → M.get (s.nd q.dir).names q.name = none
  some : q.node ≠ 0 → M.get (s.nd q.dir).names q.name = some q.node
  short : M.long (s.way s.deepest q.dir ++ [q.name]) = false
theorem place_full (h : Wz 0 k d s) {p : M.Bs} (h0 : (s.place p).2 = 0) : Spotted s (s.place p).1 := by
  by_cases h1 : (M.lastP p).2.2 = 0
  · by_cases h2 : (s.find (M.lastP p).1 true).2 = 0
    · by_cases h3 : (s.nd (s.find (M.lastP p).1 true).1.node).kind = 2
      · cases h4 : M.long (s.way s.deepest (s.find (M.lastP p).1 true).1.node ++ [(M.lastP p).2.1])
        · rw [place_ok h1 h2 h3 h4]
          have hh := find_has h.wf.cl h2
          refine ⟨hh, h3, ?_, lastP_good h1, fun hn => ?_, fun hn => ?_, h4⟩
          · rcases find_att h h2 with e | e | e
            · exact Or.inl e
            · exact Or.inr e
            · exact absurd h3 e
          · simp only at hn ⊢
            cases hg : M.get (s.nd (s.find (M.lastP p).1 true).1.node).names (M.lastP p).2.1 with
            | none => rfl
            | some c =>
              rw [hg] at hn
              exact absurd hn (h.ne0 (h.child _ hh _ _ hg).1)
          · simp only at hn ⊢
            cases hg : M.get (s.nd (s.find (M.lastP p).1 true).1.node).names (M.lastP p).2.1 with
            | none => rw [hg] at hn; exact absurd rfl hn
            | some c => rfl
        · rw [place_long h1 h2 h3 h4] at h0; cases h0
      · rw [place_notdir h1 h2 h3] at h0; cases h0
    · rw [place_lost h1 h2] at h0; exact absurd h0 h2
  · rw [place_bad h1] at h0; exact absurd h0 h1
theorem fresh_full (h : Wz 0 k d s) {p : M.Bs} (h0 : (s.fresh p).2 = 0) : Spotted s (s.fresh p).1 ∧ (s.fresh p).1.node = 0 := by
  unfold M.St.fresh at h0 ⊢
  simp only at h0 ⊢
  split at h0
  · rename_i h1; exact absurd h0 h1
  · rename_i h1
    rw [if_neg h1]
    split at h0
    · cases h0
    · rename_i h2
      rw [if_neg h2]
      exact ⟨place_full h (by simpa using h1), by simpa using h2⟩

/- DEPTHS -/
theorem way_depth (h : Wz 0 k d s) : ∀ (f : Nat) (c : Int), s.has c = true → (c = 1 ∨ (s.nd c).above ≠ 0) → d c ≤ f → (s.way f c).length = d c
  | 0, c, _, _, hf => by simp [M.St.way]; omega
  | f + 1, c, hc, ha, hf => by
    by_cases e : c = 1
    · rw [way_end (Or.inl e), e, h.droot]; rfl
    · have ha' : (s.nd c).above ≠ 0 := ha.resolve_left e
      obtain ⟨m, _, _, _, hw⟩ := way_step h.wf hc e ha'
      have ht := (h.tall c (h.ne0 hc) hc ha').1
      rw [hw, List.length_append, way_depth h f _ (h.up c (h.ne0 hc) hc ha').1 (h.att_up hc ha') (by omega), ht]
      rfl
theorem d_le (h : Wz 0 k d s) {c : Int} (hc : s.has c = true) (ha : c = 1 ∨ (s.nd c).above ≠ 0) : d c ≤ 20 := by
  rcases ha with e | e
  · rw [e, h.droot]; omega
  · exact (h.tall c (h.ne0 hc) hc e).2
theorem Spotted.depth (h : Wz 0 k d s) {q : M.Spot} (hq : Spotted s q) : d q.dir + 1 ≤ 20 := by
  have h1 := hq.short
  have h2 := way_depth h 21 q.dir hq.has hq.att (by have := d_le h hq.has hq.att; omega)
  unfold M.long at h1
  simp only [M.St.deepest, Bool.or_eq_false_iff, decide_eq_false_iff_not, List.length_append, h2, List.length_cons, List.length_nil] at h1
  omega
theorem Sub.ge (h : Wz 0 k d s) {n m : Int} (hs : Sub s n m) : d n ≤ d m := by
  induction hs with
  | refl => exact Nat.le_refl _
  | step h1 h2 h3 _ ih => have := (h.tall _ (h.ne0 h2) h2 h3).1; omega
theorem deep_long {f : Nat} {n : Int} {ps : List M.Bs} (h : s.deep f n ps = false) : M.long ps = false := by
  cases f with
  | zero => exact h
  | succ f => unfold M.St.deep at h; simp only [Bool.or_eq_false_iff] at h; exact h.1
theorem deep_sub (h : Wz 0 k d s) {n : Int} {ps : List M.Bs} (hdp : s.deep 21 n ps = false) {m : Int} (hs : Sub s n m) : ∃ ps' : List M.Bs, ps'.length = ps.length + (d m - d n) ∧ s.deep (21 - (d m - d n)) m ps' = false := by
  induction hs with
  | refl => exact ⟨ps, by simp, by simpa using hdp⟩
  | @step m h1 h2 h3 h4 ih =>
    obtain ⟨ps', e1, e2⟩ := ih
    obtain ⟨t1, t2⟩ := h.tall m (h.ne0 h2) h2 h3
    have hge := Sub.ge h h4
    obtain ⟨a1, a2, mm, a3⟩ := h.up m (h.ne0 h2) h2 h3
    refine ⟨ps' ++ [mm], by rw [List.length_append, e1, t1]; simp; omega, ?_⟩
    rw [show 21 - (d (s.nd m).above - d n) = (21 - (d m - d n)) + 1 by omega] at e2
    unfold M.St.deep at e2
    simp only [Bool.or_eq_false_iff, List.any_eq_false] at e2
    have := e2.2 (mm, m) (mem_of_get a3)
    simpa using this
theorem deep_bound (h : Wz 0 k d s) {n : Int} {ps : List M.Bs} (hdp : s.deep s.deepest n ps = false) {m : Int} (hs : Sub s n m) : ps.length + (d m - d n) ≤ 20 := by
  obtain ⟨ps', e1, e2⟩ := deep_sub h hdp hs
  have := deep_long e2
  unfold M.long at this
  simp only [Bool.or_eq_false_iff, decide_eq_false_iff_not] at this
  omega
theorem within_sub (h : Wz 0 k d s) {n m : Int} (hs : Sub s n m) : ∀ f, d m ≤ f → s.within f m n = true := by
  induction hs with
  | refl => intro f _; cases f <;> simp [M.St.within]
  | @step m h1 h2 h3 h4 ih =>
    intro f hf
    have := (h.tall m (h.ne0 h2) h2 h3).1
    cases f with
    | zero => omega
    | succ f =>
      unfold M.St.within
      rw [if_neg h1, if_neg h3]
      exact ih f (by omega)
theorem Sub.of {s' : M.St} {n m : Int} (hs : Sub s' n m) (hh : ∀ m, s'.has m = true → s.has m = true) (ha : ∀ m, s'.has m = true → (s'.nd m).above ≠ 0 → (s'.nd m).above = (s.nd m).above) : Sub s n m := by
  induction hs with
  | refl => exact .refl
  | step h1 h2 h3 _ ih =>
    have e := ha _ h2 h3
    exact .step h1 (hh _ h2) (e ▸ h3) (e ▸ ih)

/- MOVES -/
theorem Wz.move (h : Wz 0 k d s) {n adir bdir : Int} {aname bname : M.Bs} (had : s.has adir = true) (hga : M.get (s.nd adir).names aname = some n) (hne : n ≠ adir)
    (hbd : s.has bdir = true) (hbk : (s.nd bdir).kind = 2) (hatt : bdir = 1 ∨ (s.nd bdir).above ≠ 0) (hgb : M.get (s.nd bdir).names bname = none) (hgood : bname.length ≤ 24 ∧ M.slash ∉ bname ∧ bname ≠ [])
    (hsub : (s.nd n).kind = 2 → ¬ Sub s n bdir) (hdeep : (s.nd n).kind = 2 → ∀ m, s.has m = true → Sub s n m → d m + d bdir + 1 ≤ 20 + d n) : ∃ d', Wz 0 (k + 1) d' ((s.cut adir aname n).add bdir bname n) := by
  obtain ⟨h1, h2, h3, h4⟩ := h.cutE had hga hne
  obtain ⟨hn, hn1, -⟩ := h.child adir had aname n hga
  have hsc : ∀ m, Sub (s.cut adir aname n) n m → Sub s n m := fun m hs => hs.of (fun m hm => by rw [cut_has had hn] at hm; exact hm) (fun m _ _ => (cut_rest m).2.1)
  have hnb : n ≠ bdir := fun e => by
    by_cases hk : (s.nd n).kind = 2
    · exact hsub hk (e ▸ .refl)
    · exact hk (e ▸ hbk)
  refine h1.add h2 hn1 (by rw [cut_has had hn]; exact hbd) (by rw [(cut_rest bdir).1]; exact hbk) hnb ?_ ?_ hgood (fun _ => h3) (fun hk => ?_) (fun hk hs => ?_) (fun hk m hm hs => ?_)
  · rw [(cut_rest bdir).2.1]; exact hatt
  · rw [cut_names hne]
    split
    · rename_i e
      rw [get_del_eq, ← e, hgb]
      split <;> rfl
    · exact hgb
  · rw [(cut_rest n).1] at hk
    have := h4 hk
    omega
  · rw [(cut_rest n).1] at hk
    exact hsub hk (hsc _ hs)
  · rw [(cut_rest n).1] at hk
    rw [cut_has had hn] at hm
    exact hdeep hk m hm (hsc _ hs)

/- NEW NODES -/
theorem sum_some {α : Type} (f : α → Nat) : ∀ (l : List α), 1 ≤ (l.map f).sum → ∃ p ∈ l, 1 ≤ f p
  | [], h => by simp at h
  | p :: l, h => by
    by_cases e : 1 ≤ f p
    · exact ⟨p, List.mem_cons_self, e⟩
    · obtain ⟨q, hq, h2⟩ := sum_some f l (by simp at h; omega)
      exact ⟨q, List.mem_cons_of_mem _ hq, h2⟩
theorem Wz.no_cnt (h : Wz 0 k d s) {n : Int} (hn : s.has n = false) : Go.Proofs.YtpfaccpmgldkeaaGreatDoor.cnt s n = 0 := by
  rcases Nat.eq_zero_or_pos (Go.Proofs.YtpfaccpmgldkeaaGreatDoor.cnt s n) with e | e
  · exact e
  · obtain ⟨p, hp, h1⟩ := sum_some _ _ e
    have hg : M.get s.nodes p.1 = some p.2 := get_mem (srt_keys h.srt) hp
    obtain ⟨g1, g2⟩ := get_has hg
    have hs := h.nsrt p.1 g1
    rw [g2] at hs
    obtain ⟨m, hm⟩ := tgt_some hs h1
    have := (h.child p.1 g1 m n (by rw [g2]; exact hm)).1
    rw [hn] at this
    cases this

/-- A node that has no name yet. -/
def M.St.born (s : M.St) (kind : Int) (data : M.Bs) : M.St := { (s.set (s.last + 1) { kind := kind, data := if kind = 3 then data else [] }) with last := s.last + 1 }
theorem born_has (m : Int) (kind : Int) (data : M.Bs) : (s.born kind data).has m = (decide (m = s.last + 1) || s.has m) := set_has s _ _ m
theorem born_nd (m : Int) (kind : Int) (data : M.Bs) : (s.born kind data).nd m = if m = s.last + 1 then { kind := kind, data := if kind = 3 then data else [] } else s.nd m := set_nd s _ _ m
theorem Wz.born (h : Wz 0 k d s) (kind : Int) (data : M.Bs) (hk : kind = 1 ∨ kind = 2 ∨ kind = 3) (hdt : kind = 3 → data.length ≤ 100) : Wz (s.last + 1) (k + 1) d (s.born kind data) := by
  have hno := h.wf.free
  have hm1 : ∀ m, m ≠ s.last + 1 → (s.born kind data).has m = true → s.has m = true := fun m e hm => by
    rw [born_has] at hm; simpa [e] using hm
  have hm2 : ∀ m, s.has m = true → (s.born kind data).has m = true := fun m hm => by rw [born_has, hm]; simp
  have hm3 : ∀ m, s.has m = true → m ≠ s.last + 1 := fun m hm e => by rw [e, hno] at hm; cases hm
  have hnd : ∀ m, m ≠ s.last + 1 → (s.born kind data).nd m = s.nd m := fun m e => by rw [born_nd, if_neg e]
  have hnn : (s.born kind data).nd (s.last + 1) = { kind := kind, data := if kind = 3 then data else [] } := by rw [born_nd, if_pos rfl]
  have hcn : ∀ c, Go.Proofs.YtpfaccpmgldkeaaGreatDoor.cnt (s.born kind data) c = Go.Proofs.YtpfaccpmgldkeaaGreatDoor.cnt s c := fun c => by
    have := cnt_set h.srt (s.last + 1) { kind := kind, data := if kind = 3 then data else [] } c
    rw [nd_none hno] at this
    simp only [tgt_nil] at this
    exact this
  have hl := h.last
  refine ⟨put_srt ltI_ok _ _ _ h.srt, hm2 1 h.root, by rw [hnd 1 (hm3 1 h.root)]; exact h.rootK, by rw [hnd 1 (hm3 1 h.root)]; exact h.rootA, by rw [hnd 1 (hm3 1 h.root)]; exact h.rootL, ?_, ?_, ?_, ?_, ?_, ?_, ?_, ?_, h.droot, ?_, ?_, ?_, ?_, ?_, ?_, ?_, ?_, ?_, ?_, h.fd16, ?_, ?_, ?_⟩
  · show 1 ≤ s.last + 1 ∧ s.last + 1 ≤ k + 1 + 1; omega
  · intro m hm
    show 1 ≤ m ∧ m ≤ s.last + 1
    by_cases e : m = s.last + 1
    · omega
    · have := h.num m (hm1 m e hm); omega
  · intro m hm
    by_cases e : m = s.last + 1
    · rw [e, hnn]; exact hk
    · rw [hnd m e]; exact h.kind m (hm1 m e hm)
  · intro m hm
    by_cases e : m = s.last + 1
    · rw [e, hnn]; exact fun _ => ⟨rfl, rfl⟩
    · rw [hnd m e]; exact h.leaf m (hm1 m e hm)
  · intro m hm
    by_cases e : m = s.last + 1
    · rw [e, hnn]; exact List.Pairwise.nil
    · rw [hnd m e]; exact h.nsrt m (hm1 m e hm)
  · intro n hn m c hg
    by_cases e : n = s.last + 1
    · rw [e, hnn] at hg; simp [M.get] at hg
    · rw [hnd n e] at hg
      obtain ⟨a1, a2⟩ := h.child n (hm1 n e hn) m c hg
      rw [hnd c (hm3 c a1)]
      exact ⟨hm2 c a1, a2⟩
  · intro m e hm ha
    rw [hnd m e] at ha ⊢
    have hm' := hm1 m e hm
    obtain ⟨a1, a2⟩ := h.up m (h.ne0 hm') hm' ha
    rw [hnd _ (hm3 _ a1)]
    exact ⟨hm2 _ a1, a2⟩
  · intro m e hm ha
    rw [hnd m e] at ha ⊢
    have hm' := hm1 m e hm
    exact h.tall m (h.ne0 hm') hm' ha
  · intro m e hm
    rw [hnd m e]
    have hm' := hm1 m e hm
    exact h.det m (h.ne0 hm') hm'
  · intro m e hm h1
    rw [hnd m e, hcn]
    have hm' := hm1 m e hm
    exact h.cnt m (h.ne0 hm') hm' h1
  · intro m e hm
    rw [hnd m e]
    have hm' := hm1 m e hm
    exact h.dlk m (h.ne0 hm') hm'
  · intro m hm
    by_cases e : m = s.last + 1
    · rw [e, hnn]; have := h.went; simp; omega
    · rw [hnd m e]; have := h.most m (hm1 m e hm); omega
  · intro m hm
    by_cases e : m = s.last + 1
    · rw [e, hnn]; have := h.went; simp; omega
    · rw [hnd m e]; have := h.links m (hm1 m e hm); omega
  · intro m hm
    by_cases e : m = s.last + 1
    · rw [e, hnn]; simp
    · rw [hnd m e]; exact h.high m (hm1 m e hm)
  · intro m hm
    by_cases e : m = s.last + 1
    · rw [e, hnn]
      refine ⟨?_, by simp⟩
      simp only
      split
      · rename_i h3; have := hdt h3; omega
      · simp
    · rw [hnd m e]; exact h.data m (hm1 m e hm)
  · intro m hm
    by_cases e : m = s.last + 1
    · rw [e, hnn]
      simp only
      intro h3
      rw [if_pos h3]; exact hdt h3
    · rw [hnd m e]; exact h.target m (hm1 m e hm)
  · intro m hm
    by_cases e : m = s.last + 1
    · rw [e, hnn]
      simp only
      intro h3
      have h4 : ¬ kind = 3 := by omega
      first | exact if_neg h4 | exact ⟨if_neg h4, rfl⟩ | exact ⟨if_neg h4, trivial⟩
    · rw [hnd m e]; exact h.dir m (hm1 m e hm)
  · intro i hi
    obtain ⟨a1, a2⟩ := h.fds i hi
    exact ⟨hm2 _ a1, a2⟩
  · intro i hi
    show ((s.born kind data).nd (s.fds i).node).kind ≠ 3
    rw [hnd _ (hm3 _ (h.fds i hi).1)]
    exact h.fdk i hi
  · have := h.past; show 0 ≤ s.past ∧ s.past ≤ 5000 * (k + 1); omega
  · have := h.went; show 0 ≤ s.went ∧ s.went ≤ k + 1; omega

theorem Wz.make (h : Wz 0 k d s) {sp : M.Spot} (hq : Spotted s sp) (h0 : sp.node = 0) (kind : Int) (data : M.Bs) (hk : kind = 1 ∨ kind = 2 ∨ kind = 3) (hdt : kind = 3 → data.length ≤ 100) : ∃ d', Wz 0 (k + 2) d' (s.make sp kind data) := by
  have hb := h.born kind data hk hdt
  have hno := h.wf.free
  have hne : s.last + 1 ≠ sp.dir := fun e => by have := hq.has; rw [← e, hno] at this; cases this
  have hnn : (s.born kind data).nd (s.last + 1) = { kind := kind, data := if kind = 3 then data else [] } := by rw [born_nd, if_pos rfl]
  have hnd : (s.born kind data).nd sp.dir = s.nd sp.dir := by rw [born_nd, if_neg hne.symm]
  have hcn : Go.Proofs.YtpfaccpmgldkeaaGreatDoor.cnt (s.born kind data) (s.last + 1) = 0 := by
    have := cnt_set h.srt (s.last + 1) { kind := kind, data := if kind = 3 then data else [] } (s.last + 1)
    rw [nd_none hno, h.no_cnt hno] at this
    simp only [tgt_nil] at this
    exact this
  have hone : ∀ m, Sub (s.born kind data) (s.last + 1) m → m = s.last + 1 := fun m hs => by
    induction hs with
    | refl => rfl
    | @step m h1 h2 h3 _ ih =>
      rw [born_nd, if_neg h1] at ih h3
      have hm : s.has m = true := by rw [born_has] at h2; simpa [h1] using h2
      have := (h.up m (h.ne0 hm) hm h3).1
      rw [ih, hno] at this
      cases this
  rw [show k + 2 = k + 1 + 1 by omega]
  refine hb.add (by rw [born_has]; simp) (by have := h.last; omega) (by rw [born_has, hq.has]; simp) (by rw [hnd]; exact hq.kind) hne (by rw [hnd]; exact hq.att) (by rw [hnd]; exact hq.none h0) hq.name ?_ (fun _ => hcn) (fun _ hs => hne (hone _ hs).symm) (fun _ m _ hs => ?_)
  · intro _
    rw [hcn, hnn]; rfl
  · rw [hone m hs]
    have := hq.depth h
    omega
end
end Go.Proofs.YtpfaccpmgldkeaaGreatDoor
