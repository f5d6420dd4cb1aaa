/- The contracts of package path. -/
import Derived.Test.YtpfaccpmgldkeaaGreatDoorMap
import Derived.Test.YtpfaccpmgldkeaaGreatDoorShelf
import Derived.WalkLawsBesides
import Derived.StillTailTactics
set_option linter.unusedVariables false
set_option linter.unusedSimpArgs false
namespace Go.Proofs.YtpfaccpmgldkeaaGreatDoor
open Go.RowKit

/-- A string's value. -/
abbrev S (l : M.Bs) : Value := .string ⟨l.toArray⟩
/-- A slice of strings that lies in memory from base on. -/
def Strs (base : Nat) (w : World) (v : Value) (l : List M.Bs) : Prop := w.ownsRow base 9 1 v l.length (l.map S)
/-- The library's one variable that is read holds some int. -/
def GMax (w : World) : Prop := ∃ m, w.cell? ⟨0, 0, none⟩ = some (.int .i64 m)

theorem GMax.below {w w' : World} (h : GMax w) (hb : Below w.heap.size w w') : GMax w' := let ⟨m, hm⟩ := h; ⟨m, cell_later hb hm⟩

theorem infoStr : (Tryz.prog.info? 9).map (fun i => (i.zero, i.size, i.bytes)) = some (some (.string ⟨#[]⟩), 1, 16) := by kernel_rfl

theorem cutAt_miss : ∀ (l acc : M.Bs), Lib.indexByte l 47 = -1 → M.cutAt acc l = [acc.reverse ++ l]
  | [], acc, _ => by simp [M.cutAt]
  | c :: l, acc, h => by
    unfold Lib.indexByte at h
    by_cases hc : c = 47
    · simp [hc] at h
    · have hge := Lib.indexByte_ge l 47
      have h' : Lib.indexByte l 47 = -1 := by
        simp [hc] at h
        omega
      simp [M.cutAt, M.slash, hc, cutAt_miss l (c :: acc) h']

theorem cutAt_hit : ∀ (l acc : M.Bs) (o : Nat), Lib.indexByte l 47 = o → M.cutAt acc l = (acc.reverse ++ l.take o) :: M.cutAt [] (l.drop (o + 1))
  | [], acc, o, h => by simp [Lib.indexByte] at h
  | c :: l, acc, o, h => by
    unfold Lib.indexByte at h
    by_cases hc : c = 47
    · simp [hc] at h
      have : o = 0 := by omega
      subst this
      simp [M.cutAt, M.slash, hc]
    · have hge := Lib.indexByte_ge l 47
      simp [hc] at h
      obtain ⟨o', rfl⟩ : ∃ o', o = o' + 1 := ⟨o - 1, by omega⟩
      have h' : Lib.indexByte l 47 = o' := by omega
      simp [M.cutAt, M.slash, hc, cutAt_hit l (c :: acc) o' h']

theorem pieces_splitB : ∀ (k : Nat) (s : ByteArray), Lib.countB s ⟨#[47]⟩ = k → (Lib.splitB ⟨#[47]⟩ 0 k s).map (·.data.toList) = M.cutAt [] s.data.toList := by
  intro k
  have hone : ∀ s : ByteArray, Lib.indexB s ⟨#[47]⟩ = Lib.indexByte s.data.toList 47 := fun s => Lib.one s ⟨#[47]⟩ rfl
  induction k with
  | zero =>
    intro s hk
    rcases Lib.indexB_cases s ⟨#[47]⟩ with hix | ⟨i, hix, _⟩
    · rw [Lib.splitB_zero, cutAt_miss _ _ (by rw [← hone]; exact hix)]
      simp
    · rw [Lib.countB_hit s _ i (by decide) hix] at hk
      omega
  | succ k ih =>
    intro s hk
    rcases Lib.indexB_cases s ⟨#[47]⟩ with hix | ⟨i, hix, _⟩
    · rw [Lib.countB_miss s _ hix] at hk
      cases hk
    · rw [Lib.countB_hit s _ i (by decide) hix] at hk
      rw [Lib.splitB_hit _ _ _ _ i hix, List.map_cons, ih _ (by omega), cutAt_hit s.data.toList _ i (by rw [← hone]; exact hix), Lib.extract_from_zero, Lib.extract_to_end]
      rfl

theorem pieces_split (l : M.Bs) : ((Lib.splitB ⟨#[47]⟩ 0 (Lib.countB ⟨l.toArray⟩ ⟨#[47]⟩) ⟨l.toArray⟩).map (·.data.toList)) = M.pieces l := by
  rw [pieces_splitB _ _ rfl]
  rfl

set_option maxHeartbeats 400000 in
theorem clone_any (l : M.Bs) (w : World) (hl : l.length ≤ 1000000) :
    Calls Tryz.prog 183 #[S l] w fun e w' => e = .returned (S l) ∧ Below w.heap.size w w' := by
  go_enter Tryz.func183, Tryz.ntmps183
  go_wp2_with fail
  (with_reducible refine (Tryz.stringslite_Clone _ _ ?_).mono ?_)
  · show l.toArray.size ≤ _; simp; omega
  rintro e w1 ⟨rfl, hb⟩
  go_wp2
  go_ret
  exact ⟨rfl, hb⟩

theorem pieces_len (l : M.Bs) : (M.pieces l).length ≤ l.length + 1 := by
  have : ∀ (l acc : M.Bs), (M.cutAt acc l).length ≤ l.length + 1 := by
    intro l
    induction l with
    | nil => intro acc; simp [M.cutAt]
    | cons c l ih =>
      intro acc
      unfold M.cutAt
      split
      · have := ih []; simp; omega
      · have := ih (c :: acc); simp; omega
  exact this l []

theorem partsGo_start (l : M.Bs) : M.parts l = M.partsGo [] (M.pieces l) := rfl

theorem split_any (l : M.Bs) (w : World) (hl : l.length ≤ 1000000) (hm : GMax w) :
    Calls Tryz.prog 182 #[S l, .string ⟨#[47]⟩] w fun e w' => e = .returned (.slice (some ⟨w.heap.size, 0, none⟩) (M.pieces l).length (M.pieces l).length) ∧ w' = w.alloc (.cells ((M.pieces l).map S).toArray 9) := by
  obtain ⟨m, hm⟩ := hm
  have hs : (⟨l.toArray⟩ : ByteArray).size < 4294967281 := by show l.toArray.size < _; simp; omega
  refine (Tryz.strings_Split ⟨l.toArray⟩ ⟨#[47]⟩ m w hs hm (by decide)).mono fun e w' ⟨he, hw⟩ => ?_
  have h1 := Lib.splitB_all ⟨#[47]⟩ (by decide) 0 _ ⟨l.toArray⟩ rfl
  have h2 := pieces_split l
  have h3 : (M.pieces l).length = Lib.countB ⟨l.toArray⟩ ⟨#[47]⟩ + 1 := by rw [← h2, List.length_map, h1]
  refine ⟨by rw [he, h3], ?_⟩
  rw [hw, ← h2, List.map_map]
  rfl

theorem cell_app {w : World} {n : Nat} (h : n = w.heap.size) (v : Value) {e : TypeId} : ∀ j u, [v][j]? = some u → (w.alloc (.cells #[v] e)).cell? ((⟨n, 0, none⟩ : Addr).add j) = some u := by
  subst h
  intro j u hj
  cases j with
  | zero =>
    simp at hj
    subst hj
    rw [Addr.add_lit, cell_of_row _ _ _ _ _ _ (heap_alloc_new w _)]
    simp
  | succ j => simp at hj

theorem strs_form {base : Nat} {w : World} {v : Value} {l : List M.Bs} (h : Strs base w v l) : (v = .slice none 0 0 ∧ l = []) ∨ ∃ g c, v = .slice (some ⟨g, 0, none⟩) l.length c := by
  rcases h.2 with ⟨h1, h2⟩ | ⟨g, cap, cur, h1, _⟩
  · exact Or.inl ⟨h1, List.eq_nil_of_length_eq_zero h2⟩
  · exact Or.inr ⟨g, cap, h1⟩

theorem Strs.mono {base base' : Nat} {w : World} {v : Value} {l : List M.Bs} (h : Strs base w v l) (hb : base' ≤ base) : Strs base' w v l := by
  refine ⟨h.1, ?_⟩
  rcases h.2 with h2 | ⟨g, cap, cur, h1, h2, h3⟩
  · exact Or.inl h2
  · exact Or.inr ⟨g, cap, cur, h1, Nat.le_trans hb h2, h3⟩

theorem decide_natCast (a b : Nat) : decide (a ≤ b) = decide ((a : Int) ≤ (b : Int)) := by
  rw [decide_eq_decide]; omega

def PartsPost (l : M.Bs) (w : World) (e : Ending) (w' : World) : Prop :=
  ∃ v, e = .returned (.tuple #[v, .bool (M.parts l).2]) ∧ Strs w.heap.size w' v (M.parts l).1 ∧ Below w.heap.size w w'

set_option maxRecDepth 100000 in
set_option maxHeartbeats 1000000 in
theorem parts_any (l : M.Bs) (w : World) (hl : l.length ≤ 1000000) (hm : GMax w) :
    Calls Tryz.prog 142 #[S l] w (PartsPost l w) := by
  have HS := Lib.hid (split_any l w hl hm); clear hm
  have hpl := pieces_len l
  have hst := partsGo_start l
  generalize M.pieces l = ps at *
  generalize hN : ps.length = N at *
  have HN := Lib.hid hN; clear hN
  have hN63 : N ≤ 9223372036854775807 := by omega
  have HL := Lib.hid hpl; clear hpl
  have HLL := Lib.hid hl; clear hl
  have Hst := Lib.hid hst; clear hst
  obtain ⟨i0, hi, hz0, hz1, hz2⟩ := info_parts infoStr
  have HI := Lib.hid hi; clear hi
  have Z0 := Lib.hid hz0; clear hz0
  have Z1 := Lib.hid hz1; clear hz1
  have Z2 := Lib.hid hz2; clear hz2
  go_enter Tryz.func142, Tryz.ntmps142
  go_wp2_with fail
  go_step3
  go_wp2_with fail
  go_step3
  go_wp2_with fail
  (with_reducible refine HS.out.mono ?_)
  rintro e w1 ⟨rfl, rfl⟩
  go_wp2_with fail
  go_loopw [4, 10] (fun v i wr => ∃ (k : Nat) (out : List M.Bs), k ≤ N ∧ i = .int .i64 k ∧ Strs (w.heap.size + 1) wr v out ∧ out.length ≤ k ∧ M.parts l = M.partsGo out (ps.drop k) ∧ Below w.heap.size w wr
      ∧ ∀ j x, ps[j]? = some x → wr.cell? ⟨w.heap.size, j, none⟩ = some (S x)) (fun _ i _ => N - (intOf i).toNat)
  case atStart =>
    refine ⟨0, [], by omega, rfl, World.ownsRow_nil _ _ _ _, by simp, by rw [Hst.out]; simp, (Below.refl _ _).alloc (Nat.le_refl _) _, fun j x hx => ?_⟩
    rw [cell_of_row _ _ _ _ _ _ (heap_alloc_new w _)]
    simp [hx]
  case round =>
    obtain ⟨k, out, hk, rfl, hown, hol, hpg, hbel, hcs⟩ := hrel
    have HO := Lib.hid hown; clear hown
    have HP := Lib.hid hpg; clear hpg
    have HB := Lib.hid hbel; clear hbel
    have HC := Lib.hid hcs; clear hcs
    by_cases hlt : k < N
    · obtain ⟨p, hp⟩ : ∃ p, ps[k]? = some p := ⟨ps[k]'(by have := HN.out; omega), by simp⟩
      have hc := HC.out k p hp
      have hd : ps.drop k = p :: ps.drop (k + 1) := by
        rw [List.drop_eq_getElem_cons (by have := HN.out; omega)]
        congr 1
        have := (List.getElem?_eq_some_iff.1 hp).2
        exact this
      have HPk := Lib.hid hp
      have HD := Lib.hid hd; clear hd hp
      have g1 : (0 : Int) ≤ (k : Int) := by omega
      have g2 : (k : Int) < (N : Int) := by omega
      by_cases h0 : p = []
      · have hn : M.parts l = M.partsGo out (ps.drop (k + 1)) := by rw [HP.out, HD.out, M.partsGo, if_pos (Or.inl h0)]
        have Hn := Lib.hid hn; clear hn HD
        subst h0
        have hee : ((⟨#[]⟩ : ByteArray).toList == (⟨#[]⟩ : ByteArray).toList) = true := by simp
        go_wp2_with fail
        go_roundw
        case rel => exact ⟨k + 1, out, by omega, by go_num, HO.out, by omega, Hn.out, HB.out, HC.out⟩
        case measure => simp [intOf]; omega
      · by_cases h1 : p = M.dot
        · have hn : M.parts l = M.partsGo out (ps.drop (k + 1)) := by rw [HP.out, HD.out, M.partsGo, if_pos (Or.inr h1)]
          have Hn := Lib.hid hn; clear hn HD h0
          subst h1
          unfold M.dot at hc
          go_wp2_with fail
          go_roundw
          case rel => exact ⟨k + 1, out, by omega, by go_num, HO.out, by omega, Hn.out, HB.out, HC.out⟩
          case measure => simp [intOf]; omega
        · have H0 := Lib.hid h0
          have H1 := Lib.hid h1
          have e0 : p.isEmpty = false := by cases p <;> simp_all
          have e1 : (p == [46]) = false := by simpa [M.dot] using h1
          have hplen : p.length ≤ 9223372036854775807 ∨ True := Or.inr trivial
          clear hplen
          by_cases h2 : 24 < p.length
          · have hn : M.parts l = ([], false) := by rw [HP.out, HD.out, M.partsGo, if_neg (by rintro (h | h); exact h0 h; exact h1 h), if_pos h2]
            have Hn := Lib.hid hn; clear hn HD h0 h1
            go_wp2_with fail
            rw [Exit.noGoto_ret]
            go_ret2
            exact ⟨.slice none 0 0, by rw [Hn.out]; rfl, by rw [Hn.out]; exact World.ownsRow_nil _ _ _ _, HB.out⟩
          · have hn : M.parts l = M.partsGo (out ++ [p]) (ps.drop (k + 1)) := by rw [HP.out, HD.out, M.partsGo, if_neg (by rintro (h | h); exact h0 h; exact h1 h), if_neg h2]
            have Hn := Lib.hid hn; clear hn HD h0 h1
            go_wp2_with fail
            (with_reducible refine (clone_any p _ (by omega)).mono ?_)
            rintro e w2 ⟨rfl, hb⟩
            have HB2 := Lib.hid (HB.out.trans (hb.mono HB.out.size))
            have HC2 := Lib.hid (fun j x (hx : ps[j]? = some x) => cell_later hb (HC.out j x hx))
            have HO2 := Lib.hid (World.ownsRow.kept (row := none) HO.out ⟨hb.os, hb.tape, hb.output, hb.size, fun k hk _ => hb.block k hk⟩ (by cases u4.ownBlock <;> simp))
            have HBw := Lib.hid hb.size
            clear hb
            have HolN := Lib.hid (show out.length ≤ N from by omega)
            have HBs := Lib.hid (show w.heap.size + 1 ≤ w2.heap.size from Nat.lt_of_lt_of_le (World.block_lt_of_cell? _ _ (HC.out _ _ HPk.out)) HBw.out)
            go_wp2_with (at_builtin; refine wpList_append_own _ rfl _ _ 27 rfl (w.heap.size + 1) 9 i0 (.string ⟨#[]⟩) 1 16 Tryz.underlying27 HI.out Z0.out Z1.out Z2.out rfl (by decide) _ _ _ rfl (World.ownsRow.alloc HO2.out _) ⟨w2.heap.size, 0, none⟩ 1 1 [S p] rfl rfl ?c1 ?c2 ?c3 ?c4 ?c5 ?_)
            case c1 => exact cell_app rfl _
            case c2 => simp [Value.oneCell']
            case c3 => have := HolN.out; have := HL.out; have := HLL.out; unfold maxLen; omega
            case c4 => have := HolN.out; have := HL.out; have := HLL.out; omega
            case c5 => have := HBs.out; simp; omega
            intro v1 w3 hown hgrow _
            have hlt4 := World.ownsRow.lt HO.out
            have HB3 := Lib.hid ((HB2.out.alloc HB2.out.size _).grown hgrow (by have := HB2.out.size; simp; omega) (fun q hq => by have := (hlt4 q hq).1; omega))
            have HO3 : Hid (Strs (w.heap.size + 1) w3 v1 (out ++ [p])) := Lib.hid (by unfold Strs; simpa using hown)
            have HC3 := Lib.hid (fun j x (hx : ps[j]? = some x) => (World.cell?_of_block (a := ⟨w.heap.size, j, none⟩) (hgrow.block w.heap.size (by have := HBs.out; simp; omega) (by intro e; have := (hlt4 _ e.symm).1; omega))).trans (cell_later ((Below.refl _ _).alloc (Nat.le_refl _) _) (HC2.out j x hx)))
            clear hown hgrow
            have Hol := Lib.hid hol
            go_wp2
            go_roundw
            case rel => exact ⟨k + 1, out ++ [p], by omega, by go_num, HO3.out, by simp; omega, Hn.out, HB3.out, HC3.out⟩
            case measure => simp [intOf]; omega
    · have hn : M.parts l = (out, decide (out.length ≤ 20)) := by
        rw [HP.out, List.drop_eq_nil_of_le (by have := HN.out; omega), M.partsGo]
      have Hn := Lib.hid hn; clear hn
      have HolN := Lib.hid hol; clear hol
      rcases strs_form HO.out with ⟨rfl, rfl⟩ | ⟨g, c, rfl⟩
      · clear hk
        go_wp2_with fail
        rw [Exit.noGoto_ret]
        go_ret2
        exact ⟨_, by rw [Hn.out]; rfl, by rw [Hn.out]; exact HO.out.mono (Nat.le_succ _), HB.out⟩
      · have hb63 : out.length ≤ 9223372036854775807 := by have := HolN.out; omega
        go_wp2_with fail
        rw [Exit.noGoto_ret]
        go_ret2
        exact ⟨_, by rw [Hn.out, decide_natCast]; rfl, by rw [Hn.out]; exact HO.out.mono (Nat.le_succ _), HB.out⟩

theorem hasPrefix_slash (l : M.Bs) : Lib.hasPrefix l [47] = decide (l.head? = some M.slash) := by
  cases l with
  | nil => rfl
  | cons c l =>
    by_cases h : c = 47
    · simp [Lib.hasPrefix, M.slash, h]
    · have h' : ¬ 47 = c := fun e => h e.symm
      simp [Lib.hasPrefix, M.slash, h, h', List.isPrefixOf]

theorem contains_zero (l : M.Bs) (c : UInt8) : decide (0 ≤ Lib.indexByte l c) = decide (c ∈ l) := by
  rw [decide_eq_decide]
  induction l with
  | nil => simp [Lib.indexByte]
  | cons b l ih =>
    have hge := Lib.indexByte_ge l c
    unfold Lib.indexByte
    by_cases h : b = c
    · simp [h]
    · have h' : ¬ c = b := fun e => h e.symm
      by_cases h2 : Lib.indexByte l c = -1
      · have : ¬ c ∈ l := fun hm => by have := ih.2 hm; omega
        simp [h, h', h2, this]
      · have : c ∈ l := ih.1 (by omega)
        simp [h, h2, this]
        omega

theorem prefix_any (l : M.Bs) (w : World) :
    Calls Tryz.prog 140 #[S l, .string ⟨#[47]⟩] w fun e w' => e = .returned (.bool (decide (l.head? = some M.slash))) ∧ w' = w :=
  (Tryz.strings_HasPrefix _ _ w).mono fun e w' ⟨he, hw⟩ => ⟨by rw [he, ← hasPrefix_slash], hw⟩

theorem nul_any (l : M.Bs) (w : World) :
    Calls Tryz.prog 141 #[S l, .string ⟨#[0]⟩] w fun e w' => e = .returned (.bool (decide ((0 : UInt8) ∈ l))) ∧ w' = w :=
  (Tryz.strings_Contains_one _ 0 w).mono fun e w' ⟨he, hw⟩ => ⟨by rw [he, ← contains_zero], hw⟩

def SplitPost (l : M.Bs) (w : World) (e : Ending) (w' : World) : Prop :=
  ∃ v, e = .returned (.tuple #[v, .int .i64 (M.splitP l).2]) ∧ Strs w.heap.size w' v (M.splitP l).1 ∧ Below w.heap.size w w'

theorem strs_nil (base : Nat) (w : World) : Strs base w (.slice none 0 0) [] := World.ownsRow_nil _ _ _ _

set_option maxRecDepth 100000 in
set_option maxHeartbeats 1000000 in
theorem split_path (l : M.Bs) (w : World) (hl : l.length ≤ 1000000) (hm : GMax w) :
    Calls Tryz.prog 88 #[S l] w (SplitPost l w) := by
  have HP := Lib.hid (prefix_any l w)
  have HN := Lib.hid (nul_any l w)
  have HQ := Lib.hid (parts_any l w hl hm)
  by_cases h1 : l.head? = some M.slash
  · by_cases h2 : (0 : UInt8) ∈ l
    · have hr : M.splitP l = ([], 2) := by rw [M.splitP, if_pos (Or.inr h2)]
      have Hr := Lib.hid hr
      rw [decide_eq_true h1] at HP
      rw [decide_eq_true h2] at HN
      clear hr h1 h2 hl
      go_enter Tryz.func88, Tryz.ntmps88
      go_wp2_with fail
      (with_reducible refine HP.out.mono ?_)
      rintro e w1 ⟨rfl, rfl⟩
      go_wp2_with fail
      (with_reducible refine HN.out.mono ?_)
      rintro e w1 ⟨rfl, rfl⟩
      go_wp2
      go_ret2
      exact ⟨_, by rw [Hr.out]; rfl, by rw [Hr.out]; exact strs_nil _ _, Below.refl _ _⟩
    · have hx : ¬ (l.head? ≠ some M.slash ∨ (0 : UInt8) ∈ l) := by rintro (h | h); exact h h1; exact h2 h
      rw [decide_eq_true h1] at HP
      rw [decide_eq_false h2] at HN
      have hr : M.splitP l = if (M.parts l).2 = false ∨ 200 < l.length then ([], 11) else ((M.parts l).1, 0) := by rw [M.splitP, if_neg hx]
      have Hr := Lib.hid hr
      have hl63 : l.length ≤ 9223372036854775807 := by omega
      clear hr h1 h2 hl hx
      by_cases h4 : 200 < l.length
      all_goals
        cases h3 : (M.parts l).2
        all_goals
          have H3 := Lib.hid h3
          clear h3
          go_enter Tryz.func88, Tryz.ntmps88
          go_wp2_with fail
          (with_reducible refine HP.out.mono ?_)
          rintro e w1 ⟨rfl, rfl⟩
          go_wp2_with fail
          (with_reducible refine HN.out.mono ?_)
          rintro e w1 ⟨rfl, rfl⟩
          go_wp2_with fail
          (with_reducible refine HQ.out.mono ?_)
          rintro e w1 ⟨v, rfl, hs, hb⟩
          have HS := Lib.hid hs; clear hs
          have HB := Lib.hid hb; clear hb
          rw [H3.out]
          go_wp2
          go_ret2
          first
            | exact ⟨_, by rw [Hr.out, if_pos (Or.inl H3.out)]; rfl, by rw [Hr.out, if_pos (Or.inl H3.out)]; exact strs_nil _ _, HB.out⟩
            | exact ⟨_, by rw [Hr.out, if_pos (Or.inr h4)]; rfl, by rw [Hr.out, if_pos (Or.inr h4)]; exact strs_nil _ _, HB.out⟩
            | exact ⟨_, by rw [Hr.out, if_neg (by rw [H3.out]; rintro (h | h); exact absurd h (by decide); exact h4 h)]; rfl, by rw [Hr.out, if_neg (by rw [H3.out]; rintro (h | h); exact absurd h (by decide); exact h4 h)]; exact HS.out, HB.out⟩
  · have hr : M.splitP l = ([], 2) := by rw [M.splitP, if_pos (Or.inl h1)]
    have Hr := Lib.hid hr
    rw [decide_eq_false h1] at HP
    clear hr h1 hl
    go_enter Tryz.func88, Tryz.ntmps88
    go_wp2_with fail
    (with_reducible refine HP.out.mono ?_)
    rintro e w1 ⟨rfl, rfl⟩
    go_wp2
    go_ret2
    exact ⟨_, by rw [Hr.out]; rfl, by rw [Hr.out]; exact strs_nil _ _, Below.refl _ _⟩

theorem bytes_append (a b : M.Bs) : (⟨a.toArray⟩ : ByteArray) ++ ⟨b.toArray⟩ = ⟨(a ++ b).toArray⟩ := by
  apply ByteArray.ext
  rw [ByteArray.data_append]
  simp

/-- A slice of strings that can be read: its cells at a place of a block. -/
def StrsAt (w : World) (v : Value) (l : List M.Bs) : Prop :=
  (∃ p c, v = .slice p 0 c ∧ l = []) ∨ ∃ b o c, v = .slice (some ⟨b, o, none⟩) l.length c ∧ l.length ≤ c ∧ b < w.heap.size ∧ ∀ j x, l[j]? = some x → w.cell? ⟨b, o + j, none⟩ = some (S x)

theorem Strs.at {base : Nat} {w : World} {v : Value} {l : List M.Bs} (h : Strs base w v l) : StrsAt w v l := by
  rcases h.2 with ⟨h1, h2⟩ | ⟨g, cap, cur, h1, h2, h3, h4, _⟩
  · exact Or.inl ⟨none, 0, h1, List.eq_nil_of_length_eq_zero h2⟩
  · refine Or.inr ⟨g, 0, cap, h1, h4, (Array.getElem?_eq_some_iff.1 h3).1, fun j x hx => ?_⟩
    subst h1
    have hj : j < l.length := (List.getElem?_eq_some_iff.1 hx).1
    rw [Nat.zero_add, World.ownsRow.cellAt h j (by omega)]
    simp [hx]

theorem StrsAt.below {w w' : World} {v : Value} {l : List M.Bs} (h : StrsAt w v l) (hb : Below w.heap.size w w') : StrsAt w' v l := by
  rcases h with h | ⟨b, o, c, h1, h2, h3, h4⟩
  · exact Or.inl h
  · exact Or.inr ⟨b, o, c, h1, h2, Nat.lt_of_lt_of_le h3 hb.size, fun j x hx => cell_later hb (h4 j x hx)⟩

set_option maxRecDepth 100000 in
set_option maxHeartbeats 1000000 in
theorem join_path (v : Value) (l : List M.Bs) (w : World) (h : StrsAt w v l) (hl : (M.joinL l).length ≤ 1000000) (hn : l.length ≤ 1000000) :
    Calls Tryz.prog 172 #[v] w fun e w' => e = .returned (S (M.joinP l)) ∧ Below w.heap.size w w' := by
  have hj : Calls Tryz.prog 192 #[v, .string ⟨#[47]⟩] w fun e w' => e = .returned (S (M.joinL l)) ∧ Below w.heap.size w w' := by
    rcases h with ⟨p, c, rfl, rfl⟩ | ⟨b, o, c, rfl, h2, h3, h4⟩
    · exact (Tryz.strings_Join_none p c _ w).mono fun e w' ⟨he, hw⟩ => ⟨by rw [he]; rfl, hw ▸ Below.refl _ _⟩
    · have := Tryz.strings_Join b o c (l.map fun x => (⟨x.toArray⟩ : ByteArray)) ⟨#[47]⟩ w (fun j x hx => by
        rw [List.getElem?_map] at hx
        cases hq : l[j]? with
        | none => simp [hq] at hx
        | some y =>
          simp only [hq, Option.map_some, Option.some.injEq] at hx
          rw [h4 j y hq, ← hx]) h3 (by simp; omega) (by simpa using h2) (by
        have e : (List.map (·.data.toList) (l.map fun x => (⟨x.toArray⟩ : ByteArray))) = l := by simp [List.map_map, Function.comp_def]
        rw [e]
        show (M.joinL l).length ≤ _
        omega)
      have e : (List.map (·.data.toList) (l.map fun x => (⟨x.toArray⟩ : ByteArray))) = l := by simp [List.map_map, Function.comp_def]
      rw [e, List.length_map] at this
      exact this
  have HJ := Lib.hid hj
  clear hj h
  go_enter Tryz.func172, Tryz.ntmps172
  go_wp2_with fail
  (with_reducible refine HJ.out.mono ?_)
  rintro e w1 ⟨rfl, hb⟩
  have HB := Lib.hid hb; clear hb
  go_wp2
  go_ret
  exact ⟨congrArg (fun x => Ending.returned (Value.string x)) (bytes_append _ _), HB.out⟩

end Go.Proofs.YtpfaccpmgldkeaaGreatDoor
