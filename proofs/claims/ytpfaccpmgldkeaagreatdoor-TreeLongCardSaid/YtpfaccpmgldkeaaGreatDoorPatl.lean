/- The contracts of package path: Last and Target. -/
import Derived.Test.YtpfaccpmgldkeaaGreatDoorPath
import Derived.Deep.RegionHeld3
set_option linter.unusedVariables false
set_option linter.unusedSimpArgs false
namespace Go.Proofs.YtpfaccpmgldkeaaGreatDoor
open Go.RowKit

theorem splitP_ok {l : M.Bs} (h : (M.splitP l).2 = 0) : (M.splitP l).1 = (M.parts l).1 ∧ (M.parts l).2 = true ∧ l.length ≤ 200 := by
  unfold M.splitP at h ⊢
  split at h
  · cases h
  · rename_i h1
    split at h
    · cases h
    · rename_i h2
      rw [if_neg h1, if_neg h2]
      refine ⟨rfl, ?_, ?_⟩
      · cases hq : (M.parts l).2
        · exact absurd (Or.inl hq) h2
        · rfl
      · rcases Nat.lt_or_ge 200 l.length with h3 | h3
        · exact absurd (Or.inr h3) h2
        · exact h3

theorem partsGo_len : ∀ (ps out : List M.Bs), (∀ x ∈ out, x.length ≤ 24) → (M.partsGo out ps).2 = true → (M.partsGo out ps).1.length ≤ 20 ∧ ∀ x ∈ (M.partsGo out ps).1, x.length ≤ 24
  | [], out, ho, h => by
    unfold M.partsGo at h ⊢
    exact ⟨by simpa using h, ho⟩
  | p :: ps, out, ho, h => by
    unfold M.partsGo at h ⊢
    split
    · rename_i h1
      rw [if_pos h1] at h
      exact partsGo_len ps out ho h
    · rename_i h1
      rw [if_neg h1] at h
      split
      · rename_i h2
        rw [if_pos h2] at h
        cases h
      · rename_i h2
        rw [if_neg h2] at h
        refine partsGo_len ps _ ?_ h
        intro x hx
        rcases List.mem_append.1 hx with hx | hx
        · exact ho x hx
        · rw [List.mem_singleton.1 hx]; omega

theorem parts_len {l : M.Bs} (h : (M.parts l).2 = true) : (M.parts l).1.length ≤ 20 ∧ ∀ x ∈ (M.parts l).1, x.length ≤ 24 :=
  partsGo_len _ _ (by simp) h

theorem joinL_len : ∀ l : List M.Bs, (∀ x ∈ l, x.length ≤ 24) → (M.joinL l).length ≤ 25 * l.length
  | [], _ => by simp [M.joinL]
  | [x], h => by have := h x (by simp); simp [M.joinL]; omega
  | x :: y :: r, h => by
    have h1 := h x (by simp)
    have h2 := joinL_len (y :: r) (fun z hz => h z (by simp [hz]))
    unfold M.joinL at h2 ⊢
    rw [List.intercalate_cons_cons]
    simp only [List.length_append, List.length_cons, List.length_nil] at h2 ⊢
    omega

def LastPost (l : M.Bs) (w : World) (e : Ending) (w' : World) : Prop :=
  e = .returned (.tuple #[S (M.lastP l).1, S (M.lastP l).2.1, .int .i64 (M.lastP l).2.2]) ∧ Below w.heap.size w w'

theorem StrsAt.take {w : World} {b o c n : Nat} {l : List M.Bs} (hc : ∀ j x, l[j]? = some x → w.cell? ⟨b, o + j, none⟩ = some (S x)) (hb : b < w.heap.size) (hn : n ≤ l.length) (hcap : l.length ≤ c) : StrsAt w (.slice (some ⟨b, o, none⟩) n c) (l.take n) := by
  have hlen : (l.take n).length = n := by simp; omega
  refine Or.inr ⟨b, o, c, by rw [hlen], by omega, hb, fun j x hx => hc j x ?_⟩
  rw [List.getElem?_take] at hx
  split at hx
  · exact hx
  · cases hx

set_option maxRecDepth 100000 in
set_option maxHeartbeats 1000000 in
theorem last_path (l : M.Bs) (w : World) (hl : l.length ≤ 1000000) (hm : GMax w) :
    Calls Tryz.prog 124 #[S l] w (LastPost l w) := by
  have HS := Lib.hid (split_path l w hl hm)
  clear hl hm
  by_cases hc : (M.splitP l).2 = 0
  · obtain ⟨hp1, hp2, _⟩ := splitP_ok hc
    obtain ⟨hp3, hp4⟩ := parts_len hp2
    rw [← hp1] at hp3 hp4
    have hr : M.lastP l = match (M.splitP l).1.getLast? with
        | none => ([], [], 2)
        | some x => if x = M.dots then ([], [], 2) else (M.joinP (M.splitP l).1.dropLast, x, 0) := by
      unfold M.lastP
      rw [if_neg (by rw [hc]; simp)]
      rfl
    have HR := Lib.hid hr
    have HC := Lib.hid hc
    clear hr hc hp1 hp2
    generalize hq : (M.splitP l).1 = ps at *
    have HQ := Lib.hid hq; clear hq
    have HP3 := Lib.hid hp3; clear hp3
    have HP4 := Lib.hid hp4; clear hp4
    rcases List.eq_nil_or_concat ps with h0 | ⟨qs, x, h0⟩
    · have H0 := Lib.hid h0; clear h0
      go_enter Tryz.func124, Tryz.ntmps124
      go_wp2_with fail
      (with_reducible refine HS.out.mono ?_)
      rintro e w1 ⟨v, rfl, hs, hb⟩
      rw [HC.out]
      rw [HQ.out, H0.out] at hs
      have HB := Lib.hid hb; clear hb
      rcases strs_form hs with ⟨rfl, _⟩ | ⟨g, c, rfl⟩
      all_goals
        clear hs
        go_wp2
        go_ret3
        exact ⟨by rw [HR.out, H0.out]; rfl, HB.out⟩
    · rw [List.concat_eq_append] at h0
      have H0 := Lib.hid h0; clear h0
      have hlq : qs.length ≤ 19 := by have := HP3.out; rw [H0.out] at this; simp at this; omega
      have hlast : ps.getLast? = some x := by rw [H0.out]; simp
      rw [hlast] at HR
      clear hlast
      have hpl : ps.length = qs.length + 1 := by rw [H0.out]; simp
      have HPL := Lib.hid hpl; clear hpl
      have hel : ∀ (g : Nat) (wr : World), (∀ j y, ps[j]? = some y → wr.cell? ⟨g, 0 + j, none⟩ = some (S y)) → wr.cell? ⟨g, qs.length, none⟩ = some (S x) := by
        intro g wr hh
        have := hh qs.length x (by rw [H0.out]; simp)
        rwa [Nat.zero_add] at this
      have HEL := Lib.hid hel; clear hel
      by_cases hx : x = M.dots
      · have hr2 : M.lastP l = ([], [], 2) := by rw [HR.out]; simp [hx]
        have HR2 := Lib.hid hr2; clear hr2
        subst hx
        go_enter Tryz.func124, Tryz.ntmps124
        go_wp2_with fail
        (with_reducible refine HS.out.mono ?_)
        rintro e w1 ⟨v, rfl, hs, hb⟩
        rw [HC.out]
        rw [HQ.out] at hs
        have HB := Lib.hid hb; clear hb
        rcases hs.at with ⟨p, c, rfl, hn⟩ | ⟨g, o, c, hv, _, _, hcs⟩
        · rw [hn] at HPL; exact absurd HPL.out (by simp)
        · rcases strs_form hs with ⟨_, hn⟩ | ⟨g', c', hv'⟩
          · rw [hn] at HPL; exact absurd HPL.out (by simp)
          · rw [hv'] at hv
            simp only [Value.slice.injEq, Option.some.injEq, Addr.mk.injEq, and_true, true_and] at hv
            obtain ⟨⟨rfl, rfl⟩, rfl⟩ := hv
            rw [HPL.out] at hv'
            have hx0 := HEL.out g' w1 hcs
            subst hv'
            unfold M.dots at hx0
            clear hs hcs
            go_wp2
            go_ret3
            exact ⟨by rw [HR2.out]; rfl, HB.out⟩
      · have hr2 : M.lastP l = (M.joinP qs, x, 0) := by rw [HR.out]; simp only; rw [if_neg hx, H0.out, List.dropLast_concat]
        have HR2 := Lib.hid hr2; clear hr2
        have hxb : (x == [46, 46]) = false := by simpa [M.dots] using hx
        clear hx
        have hjl : (M.joinL qs).length ≤ 1000000 := by
          have := joinL_len qs (fun y hy => HP4.out y (by rw [H0.out]; simp [hy]))
          omega
        have HJL := Lib.hid hjl; clear hjl
        go_enter Tryz.func124, Tryz.ntmps124
        go_wp2_with fail
        (with_reducible refine HS.out.mono ?_)
        rintro e w1 ⟨v, rfl, hs, hb⟩
        rw [HC.out]
        rw [HQ.out] at hs
        have HB := Lib.hid hb; clear hb
        rcases hs.at with ⟨p, c, rfl, hn⟩ | ⟨g, o, c, hv, hcap, hgb, hcs⟩
        · rw [hn] at HPL; exact absurd HPL.out (by simp)
        · rcases strs_form hs with ⟨_, hn⟩ | ⟨g', c', hv'⟩
          · rw [hn] at HPL; exact absurd HPL.out (by simp)
          · rw [hv'] at hv
            simp only [Value.slice.injEq, Option.some.injEq, Addr.mk.injEq, and_true, true_and] at hv
            obtain ⟨⟨rfl, rfl⟩, rfl⟩ := hv
            have hqs : StrsAt w1 (.slice (some ⟨g', 0, none⟩) qs.length c') qs := by
              have h1 := StrsAt.take (n := qs.length) hcs hgb (by rw [HPL.out]; omega) hcap
              rw [H0.out, List.take_left' rfl] at h1
              exact h1
            have HQS := Lib.hid hqs; clear hqs
            rw [HPL.out] at hv' hcap
            have hx0 := HEL.out g' w1 hcs
            subst hv'
            clear hs hcs
            have i0 : (0 : Int) ≤ (qs.length : Int) := by omega
            have i1 : (qs.length : Int) < (qs.length : Int) + 1 := by omega
            have i2 : (qs.length : Int) ≤ (c' : Int) := by omega
            go_wp2_with fail
            go_region_held3 (fun w' => w'.cell? ⟨g', qs.length, none⟩ = some (S x)) (first | go_keep | exact cell_later (by assumption) (by assumption))
              (first
                | (go_at_call 172; (with_reducible refine (join_path _ qs _ (HQS.out.below (Below.refl _ _).drew) HJL.out (by omega)).mono ?_); rintro e w' ⟨rfl, hb2⟩))
            have HB2 := Lib.hid (HB.out.drew.trans (hb2.mono HB.out.size)); clear hb2
            go_wp2
            go_ret3
            exact ⟨by rw [HR2.out]; rfl, HB2.out⟩
  · have hr : M.lastP l = ([], [], (M.splitP l).2) := by unfold M.lastP; rw [if_pos hc]
    have HR := Lib.hid hr; clear hr
    have hcb : ((M.splitP l).2 != 0) = true := by simpa using hc
    generalize hcc : (M.splitP l).2 = c at *
    have HCC := Lib.hid hcc; clear hcc
    clear hc
    go_enter Tryz.func124, Tryz.ntmps124
    go_wp2_with fail
    (with_reducible refine HS.out.mono ?_)
    rintro e w1 ⟨v, rfl, hs, hb⟩
    rw [HCC.out]
    have HB := Lib.hid hb; clear hb hs
    go_wp2
    go_ret3
    exact ⟨by rw [HR.out]; rfl, HB.out⟩

def TargetPost (l : M.Bs) (w : World) (e : Ending) (w' : World) : Prop :=
  ∃ v, e = .returned (.tuple #[v, .bool (M.targetP l).2.1, .int .i64 (M.targetP l).2.2]) ∧ Strs w.heap.size w' v (M.targetP l).1 ∧ Below w.heap.size w w'

set_option maxRecDepth 100000 in
set_option maxHeartbeats 1000000 in
theorem target_path (l : M.Bs) (w : World) (hl : l.length ≤ 1000000) (hm : GMax w) :
    Calls Tryz.prog 121 #[S l] w (TargetPost l w) := by
  have HN := Lib.hid (nul_any l w)
  have HQ := Lib.hid (parts_any l w hl hm)
  by_cases h1 : l = []
  · have hr : M.targetP l = ([], false, 2) := by rw [M.targetP, if_pos (Or.inl h1)]
    have Hr := Lib.hid hr; clear hr hl
    subst h1
    have hee : ((⟨#[]⟩ : ByteArray).toList == (⟨#[]⟩ : ByteArray).toList) = true := by simp
    go_enter Tryz.func121, Tryz.ntmps121
    go_wp2
    go_ret3
    exact ⟨_, by rw [Hr.out]; rfl, by rw [Hr.out]; exact strs_nil _ _, Below.refl _ _⟩
  · have he : l.isEmpty = false := by cases l <;> simp_all
    by_cases h2 : (0 : UInt8) ∈ l
    · have hr : M.targetP l = ([], false, 2) := by rw [M.targetP, if_pos (Or.inr h2)]
      have Hr := Lib.hid hr
      rw [decide_eq_true h2] at HN
      clear hr h1 h2 hl
      go_enter Tryz.func121, Tryz.ntmps121
      go_wp2_with fail
      (with_reducible refine HN.out.mono ?_)
      rintro e w1 ⟨rfl, rfl⟩
      go_wp2
      go_ret3
      exact ⟨_, by rw [Hr.out]; rfl, by rw [Hr.out]; exact strs_nil _ _, Below.refl _ _⟩
    · have hx : ¬ (l = [] ∨ (0 : UInt8) ∈ l) := by rintro (h | h); exact h1 h; exact h2 h
      rw [decide_eq_false h2] at HN
      have hr : M.targetP l = if (M.parts l).2 = false ∨ 100 < l.length then ([], false, 11) else ((M.parts l).1, decide (l.head? = some M.slash), 0) := by rw [M.targetP, if_neg hx]
      have Hr := Lib.hid hr
      have HP := Lib.hid (fun wx => prefix_any l wx)
      generalize decide (l.head? = some M.slash) = hd at *
      have hl63 : l.length ≤ 9223372036854775807 := by omega
      clear hr h1 h2 hl hx
      by_cases h4 : 100 < l.length
      all_goals
        cases h3 : (M.parts l).2
        all_goals
          have H3 := Lib.hid h3
          clear h3
          go_enter Tryz.func121, Tryz.ntmps121
          go_wp2_with fail
          (with_reducible refine HN.out.mono ?_)
          rintro e w1 ⟨rfl, rfl⟩
          go_wp2_with fail
          (with_reducible refine HQ.out.mono ?_)
          rintro e w1 ⟨v, rfl, hs, hb⟩
          have HS := Lib.hid hs; clear hs
          have HB := Lib.hid hb; clear hb
          rw [H3.out]
          go_wp2_with (with_reducible refine (HP.out _).mono ?_; rintro e w2 ⟨rfl, rfl⟩)
          go_ret3
          first
            | exact ⟨_, by rw [Hr.out, if_pos (Or.inl H3.out)]; rfl, by rw [Hr.out, if_pos (Or.inl H3.out)]; exact strs_nil _ _, HB.out⟩
            | exact ⟨_, by rw [Hr.out, if_pos (Or.inr h4)]; rfl, by rw [Hr.out, if_pos (Or.inr h4)]; exact strs_nil _ _, HB.out⟩
            | exact ⟨_, by rw [Hr.out, if_neg (by rw [H3.out]; rintro (h | h); exact absurd h (by decide); exact h4 h)]; rfl, by rw [Hr.out, if_neg (by rw [H3.out]; rintro (h | h); exact absurd h (by decide); exact h4 h)]; exact HS.out, HB.out⟩

end Go.Proofs.YtpfaccpmgldkeaaGreatDoor
