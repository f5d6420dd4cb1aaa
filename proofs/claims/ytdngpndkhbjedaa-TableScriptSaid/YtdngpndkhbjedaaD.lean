/- The contracts of the small helpers (Low, SameInts, OverInts), and of the statement's own 'awake'. -/
import Derived.Test.YtdngpndkhbjedaaC
namespace Go.Proofs.Ytdngpndkhbjedaa
open Go.RowKit

/-- A slice of ints that can be read. -/
def IntsIn (w : World) (v : Value) (l : List Nat) : Prop :=
  (∃ p c, v = .slice p 0 c ∧ l = []) ∨ ∃ g c, v = .slice (some ⟨g, 0, none⟩) l.length c ∧ ∀ j, j < l.length → w.cell? ⟨g, j, none⟩ = some (.int .i64 (l.getD j 0 : Nat))

theorem Owned.reads {base : Nat} {w : World} {v : Value} {l : List Nat} (h : Owned base w v l) : IntsIn w v l := by
  rcases h.2 with ⟨h1, h2⟩ | ⟨g, cap, cur, h1, h2⟩
  · exact Or.inl ⟨none, 0, h1, List.eq_nil_of_length_eq_zero h2⟩
  · refine Or.inr ⟨g, cap, h1, fun j hj => ?_⟩
    subst h1
    rw [World.ownsRow.cellAt h j (by omega)]
    simp [ints, hj]

set_option maxHeartbeats 1000000 in
theorem same_ne (p q : Option Addr) (n m c d : Nat) (w : World) (h : n ≠ m) (hn : n ≤ 9223372036854775807) (hm : m ≤ 9223372036854775807) :
    Calls Try.prog 17 #[.slice p n c, .slice q m d] w fun e w' => e = .returned (.bool false) ∧ w' = w := by
  have h' : ((n : Int) == (m : Int)) = false := by simpa using (by omega : (n : Int) ≠ m)
  have h'' : ((n : Int) != (m : Int)) = true := by simpa using (by omega : (n : Int) ≠ m)
  clear h
  go_enter Try.func17, Try.ntmps17
  go_wp2
  go_ret
  exact ⟨rfl, rfl⟩

set_option maxHeartbeats 1000000 in
theorem same_nil (p q : Option Addr) (c d : Nat) (w : World) :
    Calls Try.prog 17 #[.slice p 0 c, .slice q 0 d] w fun e w' => e = .returned (.bool true) ∧ ∃ m, w' = w.drewN m := by
  go_enter Try.func17, Try.ntmps17
  go_wp2
  go_loop [5] (fun i => i = .int .i64 0) (fun _ => 0)
  case atStart => rfl
  case round =>
    subst hrel
    go_wp2
    go_ret
    exact ⟨rfl, 0, rfl⟩

set_option maxHeartbeats 1000000 in
theorem same_cells (g1 g2 n c d : Nat) (xs ys : List Nat) (w : World) (hn : n ≤ 9223372036854775807)
    (h1 : ∀ j, j < n → w.cell? ⟨g1, j, none⟩ = some (.int .i64 (xs.getD j 0 : Nat))) (h2 : ∀ j, j < n → w.cell? ⟨g2, j, none⟩ = some (.int .i64 (ys.getD j 0 : Nat))) :
    Calls Try.prog 17 #[.slice (some ⟨g1, 0, none⟩) n c, .slice (some ⟨g2, 0, none⟩) n d] w fun e w' => e = .returned (.bool (decide (∀ j, j < n → xs.getD j 0 = ys.getD j 0))) ∧ ∃ m, w' = w.drewN m := by
  have H1 := Lib.hid h1; clear h1
  have H2 := Lib.hid h2; clear h2
  go_enter Try.func17, Try.ntmps17
  go_wp2
  go_loopw [5] (fun i wr => ∃ k : Nat, k ≤ n ∧ i = .int .i64 k ∧ (∀ j, j < k → xs.getD j 0 = ys.getD j 0) ∧ ∃ m, wr = w.drewN m) (fun i _ => n - (intOf i).toNat)
  case atStart => exact ⟨0, by omega, rfl, fun j hj => by omega, 0, rfl⟩
  case round =>
    obtain ⟨k, hk, rfl, hall, m, rfl⟩ := hrel
    have Ha := Lib.hid hall; clear hall
    by_cases hlt : k < n
    · have a1 := H1.out k hlt
      have a2 := H2.out k hlt
      have b0 : (0 : Int) ≤ (k : Int) := by omega
      have b1 : (k : Int) < (n : Int) := by omega
      by_cases he : xs.getD k 0 = ys.getD k 0
      · have Hs : Hid (∀ j, j < k + 1 → xs.getD j 0 = ys.getD j 0) := Lib.hid (fun j hj => by
          by_cases e : j = k
          · rw [e]; exact he
          · exact Ha.out j (by omega))
        rw [← he] at a2
        clear he
        generalize xs.getD k 0 = x at a1 a2
        go_wp2_with fail
        go_quiet (fail)
        go_wp2
        go_roundw
        case rel => exact ⟨k + 1, by omega, by go_num, Hs.out, _, rfl⟩
        case measure => simp [intOf]; omega
      · have hF : Hid (decide (∀ j, j < n → xs.getD j 0 = ys.getD j 0) = false) := Lib.hid (by simp only [decide_eq_false_iff_not]; exact fun h => he (h k hlt))
        generalize hx : xs.getD k 0 = x at a1 he
        generalize hy : ys.getD k 0 = y at a2 he
        clear hx hy
        have he' : ((x : Int) != (y : Int)) = true := by simpa using (by omega : (x : Int) ≠ (y : Int))
        clear he
        go_wp2_with fail
        go_quiet (fail)
        go_wp2
        go_ret
        exact ⟨by rw [hF.out]; rfl, m + nq, World.drewN_drewN _ _ _⟩
    · have hT : Hid (decide (∀ j, j < n → xs.getD j 0 = ys.getD j 0) = true) := Lib.hid (by simp only [decide_eq_true_eq]; exact fun j hj => Ha.out j (by omega))
      go_wp2
      go_ret
      exact ⟨by rw [hT.out]; rfl, _, rfl⟩

theorem eq_of_getD {l m : List Nat} (h : l.length = m.length) (hh : ∀ j, j < l.length → l.getD j 0 = m.getD j 0) : l = m := by
  apply List.ext_getElem h
  intro i h1 h2
  have := hh i h1
  simpa [h1, h2] using this

theorem same_any (w : World) (v u : Value) (l m : List Nat) (h1 : IntsIn w v l) (h2 : IntsIn w u m) (hl : l.length ≤ 9223372036854775807) (hm : m.length ≤ 9223372036854775807) :
    Calls Try.prog 17 #[v, u] w fun e w' => e = .returned (.bool (decide (l = m))) ∧ ∃ q, w' = w.drewN q := by
  by_cases hlen : l.length = m.length
  · rcases h1 with ⟨p, c, rfl, rfl⟩ | ⟨g, c, rfl, hc⟩
    · have hm0 : m = [] := List.eq_nil_of_length_eq_zero hlen.symm
      subst hm0
      rcases h2 with ⟨q, d, rfl, _⟩ | ⟨g', d, rfl, hd⟩
      · exact (same_nil p q c d w).mono fun e w' h => ⟨by rw [h.1]; simp, h.2⟩
      · exact (same_nil p _ c d w).mono fun e w' h => ⟨by rw [h.1]; simp, h.2⟩
    · rcases h2 with ⟨q, d, rfl, rfl⟩ | ⟨g', d, rfl, hd⟩
      · have hl0 : l = [] := List.eq_nil_of_length_eq_zero hlen
        subst hl0
        exact (same_nil _ q c d w).mono fun e w' h => ⟨by rw [h.1]; simp, h.2⟩
      · rw [← hlen] at hd ⊢
        refine (same_cells g g' l.length c d l m w hl hc hd).mono fun e w' h => ⟨?_, h.2⟩
        rw [h.1]
        congr 2
        rw [decide_eq_decide]
        exact ⟨eq_of_getD hlen, fun h j _ => by rw [h]⟩
  · have hF : decide (l = m) = false := by simp only [decide_eq_false_iff_not]; exact fun h => hlen (by rw [h])
    rw [hF]
    have hn : ∀ (w : World) (v : Value) (l : List Nat), IntsIn w v l → ∃ p c, v = .slice p l.length c := by
      intro w v l h
      rcases h with ⟨p, c, rfl, rfl⟩ | ⟨g, c, rfl, _⟩
      · exact ⟨p, c, rfl⟩
      · exact ⟨_, c, rfl⟩
    obtain ⟨p, c, rfl⟩ := hn _ _ _ h1
    obtain ⟨q, d, rfl⟩ := hn _ _ _ h2
    exact (same_ne p q _ _ c d w hlen hl hm).mono fun e w' h => ⟨h.1, 0, h.2⟩

def lowOf (x n : Int) : Int := IntKind.u64.wrap x % n

theorem lowOf_in (x n : Int) (h : 1 ≤ n) : 0 ≤ lowOf x n ∧ lowOf x n < n := by
  unfold lowOf
  exact ⟨Int.emod_nonneg _ (by omega), Int.emod_lt_of_pos _ (by omega)⟩

set_option maxHeartbeats 1000000 in
theorem low_any (x n : Int) (w : World) (h1 : 1 ≤ n) (h2 : n ≤ 9223372036854775807) :
    Calls Try.prog 22 #[.int .i64 x, .int .i64 n] w fun e w' => e = .returned (.int .i64 (lowOf x n)) ∧ w' = w := by
  have hw : 0 ≤ IntKind.u64.wrap x := by unfold IntKind.wrap; simp [IntKind.signed, IntKind.bits]; omega
  have hl := Lib.hid (lowOf_in x n h1)
  go_enter Try.func22, Try.ntmps22
  go_wp2
  go_ret
  have := hl.out
  unfold lowOf at this ⊢
  exact ⟨congrArg (fun z => Ending.returned (Value.int IntKind.i64 z)) (IntWalk.wrap64_in _ (by omega)), rfl⟩

theorem owned_len {base : Nat} {w : World} {v : Value} {l : List Nat} (h : Owned base w v l) : (v = .slice none 0 0 ∧ l = []) ∨ ∃ g c, v = .slice (some ⟨g, 0, none⟩) l.length c ∧ base ≤ g ∧ g < w.heap.size := by
  rcases h.2 with ⟨h1, h2⟩ | ⟨g, cap, cur, h1, h2, h3, _⟩
  · exact Or.inl ⟨h1, List.eq_nil_of_length_eq_zero h2⟩
  · exact Or.inr ⟨g, cap, h1, h2, (Array.getElem?_eq_some_iff.1 h3).1⟩

set_option maxHeartbeats 1000000 in
theorem over_some (base g c n : Nat) (xs : List Value) (w : World) (hb : base ≤ w.heap.size) (hg : base ≤ g) (h : w.ownsRow base 3 1 (.slice (some ⟨g, 0, none⟩) n c) n xs) (hn : n ≤ 1000) :
    Calls Try.prog 21 #[.slice (some ⟨g, 0, none⟩) n c] w fun e w' => e = .returned (.tuple #[]) ∧ Below base w w' := by
  have H := Lib.hid h; clear h
  obtain ⟨i0, hi, hz0, hz1, hz2⟩ := info_parts infoOf3
  have HI := Lib.hid hi; clear hi
  have Z0 := Lib.hid hz0; clear hz0
  have Z1 := Lib.hid hz1; clear hz1
  have Z2 := Lib.hid hz2; clear hz2
  go_enter Try.func21, Try.ntmps21
  go_wp2
  go_loopw [2] (fun i wr => ∃ (k : Nat) (ys : List Value), k ≤ n ∧ i = .int .i64 k ∧ wr.ownsRow base 3 1 (.slice (some ⟨g, 0, none⟩) n c) n ys ∧ Below base w wr) (fun i _ => n - (intOf i).toNat)
  case atStart => exact ⟨0, xs, by omega, rfl, H.out, Below.refl _ _⟩
  case round =>
    obtain ⟨k, ys, hk, rfl, hown, hbel⟩ := hrel
    have HO := Lib.hid hown; clear hown
    have HB := Lib.hid hbel; clear hbel
    by_cases hlt : k < n
    · have hc : ∃ u, wr.cell? ⟨g, k, none⟩ = some u := by
        have h1 := HO.out.cellAt k (by omega)
        have h2 := HO.out.1
        exact ⟨ys[k]'(by omega), by rw [h1]; simp⟩
      obtain ⟨u, hu⟩ := hc
      have hf := HO.out.frozenAt k
      have HS := Lib.hid (HO.out.stored k (.int .i64 (-999)))
      go_wp2
      go_roundw
      case rel => exact ⟨k + 1, _, by omega, by go_num, HS.out.1, HB.out.setCell (p := ⟨g, k, none⟩) hg _⟩
      case measure => simp [intOf]; omega
    · have hsz := HB.out.size
      go_wp2_with (at_builtin; refine wpList_append_own _ rfl _ _ 44 rfl base 3 i0 (.int .i64 0) 1 8 Try.underlying44 HI.out Z0.out Z1.out Z2.out rfl (by decide) _ _ _ rfl (World.ownsRow.alloc HO.out _) ⟨wr.heap.size, 0, none⟩ 1 1 [.int .i64 (-999)] rfl rfl ?c1 ?c2 ?c3 ?c4 ?c5 ?_)
      case c1 => exact cell_app rfl _
      case c2 => simp [Value.oneCell']
      case c3 => unfold maxLen; omega
      case c4 => omega
      case c5 => simp; omega
      intro v1 w2 hown hgrow _
      have HW := Lib.hid ((HB.out.alloc (by omega) _).grown hgrow (by simp; omega) (by intro k hk; simp [Value.ownBlock] at hk; omega))
      clear hown hgrow
      go_wp2
      go_end0
      exact ⟨rfl, HW.out⟩

set_option maxHeartbeats 1000000 in
theorem over_nil (w : World) :
    Calls Try.prog 21 #[.slice none 0 0] w fun e w' => e = .returned (.tuple #[]) ∧ Below w.heap.size w w' := by
  obtain ⟨i0, hi, hz0, hz1, hz2⟩ := info_parts infoOf3
  have HI := Lib.hid hi; clear hi
  have Z0 := Lib.hid hz0; clear hz0
  have Z1 := Lib.hid hz1; clear hz1
  have Z2 := Lib.hid hz2; clear hz2
  go_enter Try.func21, Try.ntmps21
  go_wp2
  go_loop [2] (fun i => i = .int .i64 0) (fun _ => 0)
  case atStart => rfl
  case round =>
    subst hrel
    go_wp2_with (at_builtin; refine wpList_append_own _ rfl _ _ 44 rfl w.heap.size 3 i0 (.int .i64 0) 1 8 Try.underlying44 HI.out Z0.out Z1.out Z2.out rfl (by decide) _ _ _ rfl (World.ownsRow.alloc (World.ownsRow_nil w _ _ _) _) ⟨w.heap.size, 0, none⟩ 1 1 [.int .i64 (-999)] rfl rfl ?c1 ?c2 ?c3 ?c4 ?c5 ?_)
    case c2 => simp [Value.oneCell']
    case c3 => unfold maxLen; omega
    intro v1 w2 hown hgrow _
    have HW := Lib.hid (((Below.refl w.heap.size w).alloc (by omega) _).grown hgrow (by simp) (by intro k hk; simp [Value.ownBlock] at hk))
    clear hown hgrow
    go_wp2
    go_end0
    exact ⟨rfl, HW.out⟩

theorem over_any (base : Nat) (w : World) (v : Value) (l : List Nat) (h : Owned base w v l) (hb : base ≤ w.heap.size) (hl : l.length ≤ 1000) :
    Calls Try.prog 21 #[v] w fun e w' => e = .returned (.tuple #[]) ∧ Below base w w' := by
  rcases owned_len h with ⟨rfl, rfl⟩ | ⟨g, c, rfl, h1, h2⟩
  · exact (over_nil w).mono fun e w' h => ⟨h.1, h.2.mono hb⟩
  · exact over_some base g c l.length _ w hb h1 h hl

theorem below_drewN {B : Nat} {w w1 : World} {q : Nat} (h : Below B w w1) : Below B w (w1.drewN q) := ⟨h.os, h.tape, h.output, h.size, h.block⟩

theorem intsIn_one {w : World} {b c : Nat} {x : Nat} (h : w.cell? ⟨b, 0, none⟩ = some (.int .i64 (x : Nat))) : IntsIn w (.slice (some ⟨b, 0, none⟩) 1 c) [x] :=
  Or.inr ⟨b, c, rfl, fun j hj => by
    have : j = 0 := by simp at hj; omega
    subst this
    simpa using h⟩

/-- The list of a table of which slot 0 alone is open. -/
theorem opens_first (s : Slot) (hs : s.opn = true) : opensTo (tset (fun _ => zeroSlot) 0 s) 16 = [0] := by
  unfold opensTo
  simp [List.range_succ, tset, hs, zeroSlot]

set_option maxHeartbeats 2000000 in
theorem awake_any (w : World) :
    Calls Try.prog 6 #[] w fun e w' => e = .returned (.bool true) ∧ Below w.heap.size w w' := by
  go_enter Try.func6, Try.ntmps6
  go_wp2_with fail
  refine (new_any _).mono ?_
  rintro e w1 ⟨rfl, ht, hb⟩
  have H := Lib.hid ht; clear ht
  have B1 := Lib.hid hb; clear hb
  go_wp2_with fail
  refine (open_any _ _ _ 7 3 H.out).mono ?_
  rintro e w2 ⟨hb, hp⟩
  have B2 := Lib.hid (B1.out.trans (hb.below (B := w.heap.size) B1.out.size (by intro k hk hs; unfold One at hs; omega))); clear hb
  rcases hp with ⟨k, hk, rfl, ho, hmin, ht⟩ | ⟨rfl, hfull, _⟩
  · have : k = 0 := by
      rcases Nat.eq_zero_or_pos k with h | h
      · exact h
      · have := hmin 0 h; simp [zeroSlot] at this
    subst this
    have H2 := Lib.hid ht; clear ht ho hmin hk
    go_wp2_with fail
    refine (get_any _ _ _ 0 H2.out).mono ?_
    rintro e w3 ⟨hb, hp⟩
    have H3 := Lib.hid (H2.out.below hb H2.out.lt)
    have B3 := Lib.hid (B2.out.trans (hb.mono B2.out.size)); clear hb
    rcases hp with ⟨k, hk, hk0, ho, rfl⟩ | ⟨hno, _⟩
    · have : k = 0 := by omega
      subst this
      clear hk hk0 ho
      go_wp2_with fail
      refine (get_any _ _ _ 1 (H3.out.below ((Below.refl w3.heap.size _).alloc (Nat.le_refl _) _) H3.out.lt)).mono ?_
      rintro e w4 ⟨hb, hp⟩
      have H4 := Lib.hid ((H3.out.below ((Below.refl w3.heap.size _).alloc (Nat.le_refl _) (.cells #[.int .i64 7, .int .i64 0, .int .i64 3] 40)) H3.out.lt).below hb (by have := H3.out.lt; simp; omega))
      have B4 := Lib.hid ((B3.out.alloc B3.out.size _).trans (hb.mono (by have := B3.out.size; simp; omega)))
      have hf : ∀ j v, (#[Value.int .i64 7, .int .i64 0, .int .i64 3] : Array Value)[j]? = some v → w4.cell? ⟨w3.heap.size, j, none⟩ = some v := fun j v hj =>
        cell_later hb (by rw [cell_of_row _ _ _ _ _ _ (heap_alloc_new w3 _)]; exact hj)
      have hf0 := hf 0 _ rfl
      have hf1 := hf 1 _ rfl
      have hf2 := hf 2 _ rfl
      clear hf
      have hsz : w3.heap.size < w4.heap.size := by have := hb.size; simp at this; omega
      clear hb
      rcases hp with ⟨k, hk, hk0, ho, rfl⟩ | ⟨hno, rfl⟩
      · exfalso
        have : k = 1 := by omega
        subst this
        simp [tset, zeroSlot] at ho
      · clear hno
        go_wp2_with fail
        refine (holds_any _ _ _ 7 (H4.out.below ((Below.refl w4.heap.size _).alloc (Nat.le_refl _) _) H4.out.lt)).mono ?_
        rintro e w5 ⟨rfl, hb⟩
        have H5 := Lib.hid ((H4.out.below ((Below.refl w4.heap.size _).alloc (Nat.le_refl _) (.cells #[.int .i64 0, .int .i64 0, .int .i64 0] 40)) H4.out.lt).below hb (by have := H4.out.lt; simp; omega))
        have B5 := Lib.hid ((B4.out.alloc B4.out.size _).trans (hb.mono (by have := B4.out.size; simp; omega)))
        clear hb
        have hh : holdsB (tset (fun _ => zeroSlot) 0 ⟨7, 0, 3, true⟩) 7 = true := holdsB_yes (k := 0) (by omega) rfl
        simp only [hh]
        clear hh
        go_wp2_with fail
        refine (list_any _ _ _ H5.out).mono ?_
        rintro e w6 ⟨v, rfl, hown, hb⟩
        have B6 := Lib.hid (B5.out.trans (hb.mono B5.out.size))
        rw [opens_first _ rfl] at hown
        have HO := Lib.hid hown
        clear hown hb
        go_wp2_with fail
        refine (same_any _ v _ [0] [0] (Owned.reads (World.ownsRow.alloc HO.out _)) (intsIn_one (by simp [go_sem])) (by simp) (by simp)).mono ?_
        rintro e w7 ⟨rfl, q, rfl⟩
        go_wp2
        go_ret
        exact ⟨rfl, below_drewN (B6.out.alloc B6.out.size _)⟩
    · exact (hno ⟨by omega, by omega, rfl⟩).elim
  · have := hfull 0 (by omega); simp [zeroSlot] at this

end Go.Proofs.Ytdngpndkhbjedaa
