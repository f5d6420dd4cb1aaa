/- The walk of the statement TableStands: it returns true, and leaves all that was there as it was. -/
import Derived.Test.YtdngpndkhbjedaaE
namespace Go.Proofs.Ytdngpndkhbjedaa
open Go.RowKit

/-- An argument of ints, as it can be read. -/
def IntsArg (W : World) (v : Value) (l : List Int) : Prop :=
  (∃ p c, v = .slice p 0 c ∧ l = []) ∨ ∃ b o c, v = .slice (some ⟨b, o, none⟩) l.length c ∧ ∀ j, j < l.length → W.cell? ⟨b, o + j, none⟩ = some (.int .i64 (l.getD j 0))

theorem IntsArg.len {W : World} {v : Value} {l : List Int} (h : IntsArg W v l) : ∃ p c, v = .slice p l.length c := by
  rcases h with ⟨p, c, rfl, rfl⟩ | ⟨b, o, c, rfl, _⟩
  · exact ⟨p, c, rfl⟩
  · exact ⟨_, c, rfl⟩

def stT (k : Nat) (o : Nat → Int) : Tab := fun j => if j < k then ⟨100 + (j : Int), o j, j, true⟩ else zeroSlot
theorem stT_shut {k j : Nat} {o : Nat → Int} (h : ¬ j < k) : (stT k o j).opn = false := by simp [stT, h, zeroSlot]
theorem stT_open {k j : Nat} {o : Nat → Int} (h : j < k) : (stT k o j).opn = true := by simp [stT, h]
theorem stT_succ (k : Nat) : tset (stT k fun _ => 0) k ⟨100 + (k : Int), 0, k, true⟩ = stT (k + 1) fun _ => 0 := by
  funext j
  simp only [tset, stT]
  by_cases h : j = k
  · subst h; simp
  · rw [if_neg h]
    by_cases h2 : j < k
    · rw [if_pos h2, if_pos (by omega)]
    · rw [if_neg h2, if_neg (by omega)]
def fset (o : Nat → Int) (k : Nat) (x : Int) : Nat → Int := fun j => if j = k then x else o j
theorem stT_move (o : Nat → Int) (k : Nat) (x : Int) (hk : k < 5) : tset (stT 5 o) k { stT 5 o k with off := x } = stT 5 (fset o k x) := by
  funext j
  simp only [tset, stT, fset]
  by_cases h : j = k
  · subst h; simp [hk]
  · simp [h]

theorem tch_cell {w w' : World} {b ob j : Nat} (h : Tch (One b) w w') (hlt : ob < w.heap.size) (hne : ob ≠ b) : w'.cell? ⟨ob, j, none⟩ = w.cell? ⟨ob, j, none⟩ :=
  World.cell?_of_block (h.block ob hlt hne)
theorem tch_free {w w' : World} {b ob j : Nat} (h : Tch (One b) w w') (hlt : ob < w.heap.size) (hne : ob ≠ b) : w'.frozen? ⟨ob, j, none⟩ = w.frozen? ⟨ob, j, none⟩ :=
  World.frozen?_of_block (h.block ob hlt hne)

/-- The array of five ints at a block. -/
def ArrAt (w : World) (b : Nat) (o : Nat → Int) : Prop := b < w.heap.size ∧ (∀ j, j < 5 → w.cell? ⟨b, j, none⟩ = some (.int .i64 (o j))) ∧ ∀ j, j < 5 → w.frozen? ⟨b, j, none⟩ = false

theorem ArrAt.tch {w w' : World} {b ob : Nat} {o : Nat → Int} (h : ArrAt w ob o) (ht : Tch (One b) w w') (hne : ob ≠ b) : ArrAt w' ob o :=
  ⟨Nat.lt_of_lt_of_le h.1 ht.size, fun j hj => (tch_cell ht h.1 hne).trans (h.2.1 j hj), fun j hj => (tch_free ht h.1 hne).trans (h.2.2 j hj)⟩
theorem ArrAt.below {w w' : World} {ob B : Nat} {o : Nat → Int} (h : ArrAt w ob o) (ht : Below B w w') (hB : ob < B) : ArrAt w' ob o :=
  ⟨Nat.lt_of_lt_of_le h.1 ht.size, fun j hj => (ht.cell (p := ⟨ob, j, none⟩) hB).trans (h.2.1 j hj), fun j hj => (ht.frozen (p := ⟨ob, j, none⟩) hB).trans (h.2.2 j hj)⟩
theorem ArrAt.set {w : World} {ob : Nat} {o : Nat → Int} (h : ArrAt w ob o) (k : Nat) (hk : k < 5) (x : Int) : ArrAt (w.setCell ⟨ob, k, none⟩ (.int .i64 x)) ob (fset o k x) := by
  refine ⟨by simpa [World.setCell] using h.1, fun j hj => ?_, fun j hj => ?_⟩
  · by_cases e : j = k
    · subst e
      rw [World.cell?_setCell_same _ _ _ (h.2.1 j hj)]
      simp [fset]
    · rw [World.cell?_setCell_other _ _ _ _ (by intro h; simp only [Addr.mk.injEq] at h; omega), h.2.1 j hj]
      simp [fset, e]
  · rw [World.frozen?_setCell]
    exact h.2.2 j hj

theorem TabAt.drewN {w : World} {b q : Nat} {t : Tab} (h : TabAt w b t) : TabAt (w.drewN q) b t := h.same rfl
theorem ArrAt.drewN {w : World} {b q : Nat} {o : Nat → Int} (h : ArrAt w b o) : ArrAt (w.drewN q) b o := h

theorem TabAt.step {w w' : World} {b : Nat} {t : Tab} {o : Obj} (h : TabAt w b t) (hb : Below (w.alloc o).heap.size (w.alloc o) w') : TabAt w' b t :=
  (h.below ((Below.refl w.heap.size _).alloc (Nat.le_refl _) o) h.lt).below hb (by have := h.lt; simp; omega)
theorem ArrAt.step {w w' : World} {b : Nat} {t : Nat → Int} {o : Obj} (h : ArrAt w b t) (hb : Below (w.alloc o).heap.size (w.alloc o) w') : ArrAt w' b t :=
  (h.below ((Below.refl w.heap.size _).alloc (Nat.le_refl _) o) h.1).below hb (by have := h.1; simp; omega)
theorem below_step {W w w' : World} {o : Obj} (h : Below W.heap.size W w) (hb : Below (w.alloc o).heap.size (w.alloc o) w') : Below W.heap.size W w' :=
  (h.alloc h.size o).trans (hb.mono (by have := h.size; simp; omega))
theorem new_step {w w' : World} {cs : Array Value} {ty : TypeId} (hb : Below (w.alloc (.cells cs ty)).heap.size (w.alloc (.cells cs ty)) w') : ∀ j, w'.cell? ⟨w.heap.size, j, none⟩ = cs[j]? := fun j => by
  rw [hb.cell (p := ⟨w.heap.size, j, none⟩) (by simp), cell_of_row _ _ _ _ _ _ (heap_alloc_new w _)]
theorem lt_step {w w' : World} {o : Obj} (hb : Below (w.alloc o).heap.size (w.alloc o) w') : w.heap.size < w'.heap.size := by
  have := hb.size; simp at this; omega

theorem TabAt.setOther {w : World} {b ob k : Nat} {t : Tab} (h : TabAt w b t) (hne : b ≠ ob) (x : Value) : TabAt (w.setCell ⟨ob, k, none⟩ x) b t :=
  h.same (Below.heap_setCell _ _ _ _ hne)

theorem get_at {w : World} {b : Nat} {t : Tab} (k : Nat) (h : TabAt w b t) (hk : k < 16) (hf : (t k).opn = true) :
    Calls Try.prog 14 #[.pointer (some ⟨b, 0, none⟩), .int .i64 k] w fun e w' => e = .returned (.tuple #[.agg #[.int .i64 (t k).node, .int .i64 (t k).off, .int .i64 (t k).flags], .int .i64 0]) ∧ Below w.heap.size w w' := by
  refine (get_any w b t k h).mono ?_
  rintro e w' ⟨hb, ⟨k', hk', hkk, ho, rfl⟩ | ⟨hno, _⟩⟩
  · have : k' = k := by omega
    subst this
    exact ⟨rfl, hb⟩
  · exact (hno ⟨by omega, by omega, by rw [Int.toNat_natCast]; exact hf⟩).elim

theorem move_ok {w : World} {b : Nat} {t : Tab} (k : Nat) (off : Int) (h : TabAt w b t) (hk : k < 16) (hf : (t k).opn = true) (ho : 0 ≤ off) :
    Calls Try.prog 12 #[.pointer (some ⟨b, 0, none⟩), .int .i64 k, .int .i64 off] w fun e w' => e = .returned (.int .i64 0) ∧ Tch (One b) w w' ∧ TabAt w' b (tset t k { t k with off := off }) := by
  refine (move_any w b t k off h).mono ?_
  rintro e w' ⟨hb, ⟨k', hk', hkk, _, ⟨hneg, _⟩ | ⟨_, rfl, htab⟩⟩ | ⟨hno, _⟩⟩
  · omega
  · have : k' = k := by omega
    subst this
    exact ⟨rfl, hb, htab⟩
  · exact (hno ⟨by omega, by omega, by rw [Int.toNat_natCast]; exact hf⟩).elim

theorem move_neg {w : World} {b : Nat} {t : Tab} (k : Nat) (off : Int) (h : TabAt w b t) (hk : k < 16) (hf : (t k).opn = true) (ho : off < 0) :
    Calls Try.prog 12 #[.pointer (some ⟨b, 0, none⟩), .int .i64 k, .int .i64 off] w fun e w' => e = .returned (.int .i64 2) ∧ Tch (One b) w w' ∧ TabAt w' b t := by
  refine (move_any w b t k off h).mono ?_
  rintro e w' ⟨hb, ⟨k', hk', hkk, _, ⟨_, rfl, htab⟩ | ⟨hpos, _⟩⟩ | ⟨hno, _⟩⟩
  · exact ⟨rfl, hb, htab⟩
  · omega
  · exact (hno ⟨by omega, by omega, by rw [Int.toNat_natCast]; exact hf⟩).elim

/-- Between the loops: the table, the array, and all else as it was. -/
def StRel (W : World) (tb ob : Nat) (wr : World) : Prop := ∃ o : Nat → Int, TabAt wr tb (stT 5 o) ∧ ArrAt wr ob o ∧ Below W.heap.size W wr

def SeenAll (_ : Tab) (_ : Nat) : Prop := True

/-- The cell of an argument, read at whatever later world. -/
theorem arg_cell {w wr : World} {b o k : Nat} {n : Nat} {l : List Int} (hn : l.length = n) (hc : ∀ j, j < l.length → w.cell? ⟨b, o + j, none⟩ = some (.int .i64 (l.getD j 0))) (hb : Below w.heap.size w wr) (hk : k < n) :
    ∃ x : Int, wr.cell? ⟨b, o + k, none⟩ = some (.int .i64 x) :=
  ⟨_, cell_later hb (hc k (by omega))⟩

theorem low5 (x : Int) : ∃ m : Nat, m < 5 ∧ ∀ wx, Calls Try.prog 22 #[.int .i64 x, .int .i64 5] wx fun e w' => e = .returned (.int .i64 (m : Int)) ∧ w' = wx := by
  have h := lowOf_in x 5 (by omega)
  refine ⟨(lowOf x 5).toNat, by omega, fun wx => ?_⟩
  have := low_any x 5 wx (by omega) (by omega)
  rw [show lowOf x 5 = ((lowOf x 5).toNat : Int) by omega] at this
  exact this

theorem low41 (x : Int) : ∃ m : Nat, m < 2199023255552 ∧ ∀ wx, Calls Try.prog 22 #[.int .i64 x, .int .i64 2199023255552] wx fun e w' => e = .returned (.int .i64 (m : Int)) ∧ w' = wx := by
  have h := lowOf_in x 2199023255552 (by omega)
  refine ⟨(lowOf x 2199023255552).toNat, by omega, fun wx => ?_⟩
  have := low_any x 2199023255552 wx (by omega) (by omega)
  rw [show lowOf x 2199023255552 = ((lowOf x 2199023255552).toNat : Int) by omega] at this
  exact this

theorem fin_close (o : Nat → Int) (m : Nat) (hm : m < 5) : (stT 5 o m).node = 100 + (m : Int) ∧ (tset (stT 5 o) m zeroSlot m).opn = false ∧ ∀ j, j < m → (tset (stT 5 o) m zeroSlot j).opn = true :=
  ⟨by simp [stT, hm], by simp [tset, zeroSlot], fun j hj => by simp [tset, Nat.ne_of_lt hj, stT, show j < 5 by omega]⟩

set_option maxRecDepth 100000 in
set_option maxHeartbeats 8000000 in
theorem stands_some (bb1 oo1 c1 bb2 oo2 c2 n1 n2 : Nat) (l1 l2 : List Int) (which : Int) (w : World) (b1 : n1 ≤ 30) (b2 : n2 ≤ 30) (N1 : Hid (l1.length = n1)) (N2 : Hid (l2.length = n2))
    (A1 : Hid (∀ j, j < l1.length → w.cell? ⟨bb1, oo1 + j, none⟩ = some (.int .i64 (l1.getD j 0)))) (A2 : Hid (∀ j, j < l2.length → w.cell? ⟨bb2, oo2 + j, none⟩ = some (.int .i64 (l2.getD j 0)))) :
    Calls Try.prog 5 #[.slice (some ⟨bb1, oo1, none⟩) n1 c1, .slice (some ⟨bb2, oo2, none⟩) n2 c2, .int .i64 which] w fun e w' => e = .returned (.bool true) ∧ Below w.heap.size w w' := by
  obtain ⟨m, hm, hl⟩ := low5 which
  have HL := Lib.hid hl; clear hl
  go_enter Try.func5, Try.ntmps5
  go_wp2_with fail
  refine (new_any _).mono ?_
  rintro e w1 ⟨rfl, ht, hb⟩
  have H := Lib.hid ht; clear ht
  have B1 := Lib.hid hb; clear hb
  have hne : w.heap.size ≠ w1.heap.size := by have := H.out.lt; omega
  have Hne := Lib.hid hne; clear hne
  have hw1 : w.heap.size < w1.heap.size := H.out.lt
  have Hw1 := Lib.hid hw1; clear hw1
  go_wp2_with fail
  go_loopw [9] (fun i wr => ∃ k : Nat, k ≤ 5 ∧ i = .int .i64 k ∧ TabAt wr w.heap.size (stT k fun _ => 0) ∧ ArrAt wr w1.heap.size (fun _ => 0) ∧ Below w.heap.size w wr) (fun i _ => 5 - (intOf i).toNat)
  case atStart =>
    refine ⟨0, by omega, rfl, ?_, ?_, B1.out.alloc B1.out.size _⟩
    · refine (H.out.below ((Below.refl w1.heap.size _).alloc (Nat.le_refl _) _) H.out.lt).same rfl
    · refine ⟨by simp, fun j hj => ?_, fun j _ => ?_⟩
      · rw [cell_of_row _ _ _ _ _ _ (heap_alloc_new w1 _)]
        have : j = 0 ∨ j = 1 ∨ j = 2 ∨ j = 3 ∨ j = 4 := by omega
        rcases this with rfl | rfl | rfl | rfl | rfl <;> rfl
      · exact frozen_of_row _ _ _ _ _ (heap_alloc_new w1 _)
  case round =>
    clear H B1
    obtain ⟨k, hk, rfl, htab, harr, hbel⟩ := hrel
    have H := Lib.hid htab; clear htab
    have A := Lib.hid harr; clear harr
    have B1 := Lib.hid hbel; clear hbel
    by_cases hlt : k < 5
    · go_wp2_with fail
      refine (open_at k H.out (by omega) (stT_shut (by omega)) (fun j hj => stT_open hj)).mono ?_
      rintro e w2 ⟨rfl, ht, htab⟩
      rw [stT_succ] at htab
      have H2 := Lib.hid htab; clear htab
      have X2 := Lib.hid (A.out.tch ht Hne.out.symm)
      have B2 := Lib.hid (one_below B1.out ht (Nat.le_refl _)); clear ht
      go_wp2
      go_roundw
      case rel => exact ⟨k + 1, by omega, by go_num, H2.out, X2.out, B2.out⟩
      case measure => simp [intOf]; omega
    · have h5 : k = 5 := by omega
      have ht := H.out
      rw [h5] at ht
      have H := Lib.hid ht
      clear ht h5
      go_wp2_with fail
      go_loopw [12] (fun i wr => ∃ k : Nat, k ≤ n1 ∧ k ≤ n2 ∧ i = .int .i64 k ∧ StRel w w.heap.size w1.heap.size wr) (fun i _ => 30 - (intOf i).toNat)
      case atStart => exact ⟨0, by omega, by omega, rfl, _, H.out, A.out, B1.out⟩
      case round =>
        clear H A B1
        obtain ⟨i, hk1, hk2, rfl, o, htab, harr, hbel⟩ := hrel
        have H := Lib.hid htab; clear htab
        have A := Lib.hid harr; clear harr
        have B1 := Lib.hid hbel; clear hbel
        by_cases hl12 : i < n1 ∧ i < n2
        · obtain ⟨hl1, hl2⟩ := hl12
          obtain ⟨x, hx⟩ := arg_cell N1.out A1.out B1.out hl1
          obtain ⟨y, hy⟩ := arg_cell N2.out A2.out B1.out hl2
          obtain ⟨fd, hfd, hcx⟩ := low5 x
          obtain ⟨at_, hat, hcy⟩ := low41 y
          have CX := Lib.hid hcx; clear hcx
          have CY := Lib.hid hcy; clear hcy
          have g1 : (0 : Int) ≤ (i : Int) := by omega
          have g2 : (i : Int) < (n1 : Int) := by omega
          have g3 : (i : Int) < (n2 : Int) := by omega
          go_wp2_with fail
          go_quiet (first | with_reducible exact Calls.quiet_of_same (CX.out _) | with_reducible exact Calls.quiet_of_same (CY.out _))
          go_wp2_with fail
          (with_reducible refine (move_ok fd at_ H.out.drewN (by omega) (stT_open (by omega)) (by omega)).mono ?_)
          rintro e w2 ⟨rfl, ht, htab⟩
          rw [stT_move o fd at_ hfd] at htab
          have H2 := Lib.hid htab; clear htab
          have X2 := Lib.hid (ArrAt.tch A.out.drewN ht Hne.out.symm)
          have B2 := Lib.hid (one_below (below_drewN B1.out) ht (Nat.le_refl _)); clear ht
          go_wp2_with fail
          (with_reducible refine (move_neg fd (-1 - at_) H2.out (by omega) (stT_open (by omega)) (by omega)).mono ?_)
          rintro e w3 ⟨rfl, ht, htab⟩
          have H3 := Lib.hid htab; clear htab
          have X3 := Lib.hid (ArrAt.tch X2.out ht Hne.out.symm)
          have B3 := Lib.hid (one_below B2.out ht (Nat.le_refl _)); clear ht
          have hc := X3.out.2.1 fd hfd
          have hf := X3.out.2.2 fd hfd
          go_wp2
          go_roundw
          case rel => exact ⟨i + 1, by omega, by omega, by go_num, _, H3.out.setOther Hne.out _, X3.out.set fd hfd _, B3.out.setCell (p := ⟨w1.heap.size, fd, none⟩) (Nat.le_of_lt Hw1.out) _⟩
          case measure => simp [intOf]; omega
        · have hor : n1 ≤ i ∨ (i < n1 ∧ n2 ≤ i) := by omega
          clear hl12
          have hz0 := Lib.hid (fin_close o m hm)
          rcases hor with hge | ⟨hl1, hge⟩
          all_goals
            go_wp2_with fail
            (with_reducible refine (HL.out _).mono ?_)
            rintro e w2x ⟨rfl, rfl⟩
            go_wp2_with fail
            (with_reducible refine (close_at m H.out (by omega) (stT_open (by omega))).mono ?_)
            rintro e w2 ⟨rfl, ht, htab⟩
            rw [hz0.out.1]
            have H2 := Lib.hid htab; clear htab
            have X2 := Lib.hid (ArrAt.tch A.out ht Hne.out.symm)
            have B2 := Lib.hid (one_below B1.out ht (Nat.le_refl _)); clear ht
            go_wp2_with fail
            (with_reducible refine (open_at m H2.out (by omega) hz0.out.2.1 hz0.out.2.2).mono ?_)
            rintro e w3 ⟨rfl, ht, htab⟩
            rw [tset_tset] at htab
            have H3 := Lib.hid htab; clear htab
            have X3 := Lib.hid (ArrAt.tch X2.out ht Hne.out.symm)
            have B3 := Lib.hid (one_below B2.out ht (Nat.le_refl _)); clear ht
            have hc := X3.out.2.1 m hm
            have hf := X3.out.2.2 m hm
            go_wp2_with fail
            clear hc hf
            go_loopw [19] (fun x wr => ∃ q : Nat, q ≤ 5 ∧ x = .int .i64 q ∧ TabAt wr w.heap.size (tset (stT 5 o) m ⟨200, 0, 63, true⟩) ∧ ArrAt wr w1.heap.size (fset o m 0) ∧ Below w.heap.size w wr) (fun x _ => 5 - (intOf x).toNat)
            case atStart => exact ⟨0, by omega, rfl, H3.out.setOther Hne.out _, X3.out.set m hm _, B3.out.setCell (p := ⟨w1.heap.size, m, none⟩) (Nat.le_of_lt Hw1.out) _⟩
            case round =>
              clear H2 X2 B2 H3 X3 B3 H A B1
              obtain ⟨q, hq, rfl, htab, harr, hbel⟩ := hrel
              have H := Lib.hid htab; clear htab
              have A := Lib.hid harr; clear harr
              have B1 := Lib.hid hbel; clear hbel
              by_cases hlt : q < 5
              · have hc := A.out.2.1 q hlt
                have ha := A.out.1
                by_cases hqm : q = m
                · obtain rfl : q = m := hqm
                  have hg := get_at q (w := wr.alloc (.cells #[.int .i64 200, .int .i64 0, .int .i64 63] 40)) (H.out.below ((Below.refl wr.heap.size _).alloc (Nat.le_refl _) _) H.out.lt) (by omega) (by simp [tset])
                  simp only [tset, if_true] at hg
                  have HG := Lib.hid hg; clear hg
                  go_wp2_with fail
                  (with_reducible refine HG.out.mono ?_)
                  rintro e w4 ⟨rfl, hb⟩
                  have H4 := Lib.hid (H.out.step hb)
                  have A4 := Lib.hid (A.out.step hb)
                  have B4 := Lib.hid (below_step B1.out hb)
                  have c0 := new_step hb 0
                  have c1 := new_step hb 1
                  have c2 := new_step hb 2
                  simp only [List.getElem?_toArray, List.getElem?_cons_zero, List.getElem?_cons_succ] at c0 c1 c2
                  have hlt4 := lt_step hb
                  clear hb
                  go_wp2
                  go_roundw
                  case rel => exact ⟨q + 1, by omega, by go_num, H4.out.below ((Below.refl w4.heap.size _).alloc (Nat.le_refl _) _) H4.out.lt, A4.out.below ((Below.refl w4.heap.size _).alloc (Nat.le_refl _) _) A4.out.1, B4.out.alloc B4.out.size _⟩
                  case measure => simp [intOf]; omega
                · have hqb : ((q : Int) == (m : Int)) = false := by rw [beq_eq_false_iff_ne]; omega
                  have hfs : fset o m 0 q = o q := by simp [fset, hqm]
                  rw [hfs] at hc
                  clear hfs
                  have hg := get_at q (w := wr.alloc (.cells #[.int .i64 (100 + (q : Int)), .int .i64 (o q), .int .i64 q] 40)) (H.out.below ((Below.refl wr.heap.size _).alloc (Nat.le_refl _) _) H.out.lt) (by omega) (by simp [tset, hqm, stT, hlt])
                  simp only [tset, if_neg hqm, stT, if_pos hlt] at hg
                  have HG := Lib.hid hg; clear hg hqm
                  go_wp2_with fail
                  (with_reducible refine HG.out.mono ?_)
                  rintro e w4 ⟨rfl, hb⟩
                  have H4 := Lib.hid (H.out.step hb)
                  have A4 := Lib.hid (A.out.step hb)
                  have B4 := Lib.hid (below_step B1.out hb)
                  have c0 := new_step hb 0
                  have c1 := new_step hb 1
                  have c2 := new_step hb 2
                  simp only [List.getElem?_toArray, List.getElem?_cons_zero, List.getElem?_cons_succ] at c0 c1 c2
                  have hlt4 := lt_step hb
                  clear hb
                  go_wp2
                  go_roundw
                  case rel => exact ⟨q + 1, by omega, by go_num, H4.out.below ((Below.refl w4.heap.size _).alloc (Nat.le_refl _) _) H4.out.lt, A4.out.below ((Below.refl w4.heap.size _).alloc (Nat.le_refl _) _) A4.out.1, B4.out.alloc B4.out.size _⟩
                  case measure => simp [intOf]; omega
              · go_wp2_with fail
                (with_reducible refine (awake_any _).mono ?_)
                rintro e w9 ⟨rfl, hb⟩
                have B9 := Lib.hid (B1.out.trans (hb.mono B1.out.size)); clear hb
                go_wp2
                go_ret
                exact ⟨rfl, B9.out⟩

set_option maxRecDepth 100000 in
set_option maxHeartbeats 8000000 in
theorem stands_zero (p1 p2 : Option Addr) (c1 c2 n1 n2 : Nat) (which : Int) (w : World) (b1 : n1 ≤ 30) (b2 : n2 ≤ 30) (hz : n1 = 0 ∨ n2 = 0) :
    Calls Try.prog 5 #[.slice p1 n1 c1, .slice p2 n2 c2, .int .i64 which] w fun e w' => e = .returned (.bool true) ∧ Below w.heap.size w w' := by
  have Hz := Lib.hid hz; clear hz
  obtain ⟨m, hm, hl⟩ := low5 which
  have HL := Lib.hid hl; clear hl
  go_enter Try.func5, Try.ntmps5
  go_wp2_with fail
  refine (new_any _).mono ?_
  rintro e w1 ⟨rfl, ht, hb⟩
  have H := Lib.hid ht; clear ht
  have B1 := Lib.hid hb; clear hb
  have hne : w.heap.size ≠ w1.heap.size := by have := H.out.lt; omega
  have Hne := Lib.hid hne; clear hne
  have hw1 : w.heap.size < w1.heap.size := H.out.lt
  have Hw1 := Lib.hid hw1; clear hw1
  go_wp2_with fail
  go_loopw [9] (fun i wr => ∃ k : Nat, k ≤ 5 ∧ i = .int .i64 k ∧ TabAt wr w.heap.size (stT k fun _ => 0) ∧ ArrAt wr w1.heap.size (fun _ => 0) ∧ Below w.heap.size w wr) (fun i _ => 5 - (intOf i).toNat)
  case atStart =>
    refine ⟨0, by omega, rfl, ?_, ?_, B1.out.alloc B1.out.size _⟩
    · refine (H.out.below ((Below.refl w1.heap.size _).alloc (Nat.le_refl _) _) H.out.lt).same rfl
    · refine ⟨by simp, fun j hj => ?_, fun j _ => ?_⟩
      · rw [cell_of_row _ _ _ _ _ _ (heap_alloc_new w1 _)]
        have : j = 0 ∨ j = 1 ∨ j = 2 ∨ j = 3 ∨ j = 4 := by omega
        rcases this with rfl | rfl | rfl | rfl | rfl <;> rfl
      · exact frozen_of_row _ _ _ _ _ (heap_alloc_new w1 _)
  case round =>
    clear H B1
    obtain ⟨k, hk, rfl, htab, harr, hbel⟩ := hrel
    have H := Lib.hid htab; clear htab
    have A := Lib.hid harr; clear harr
    have B1 := Lib.hid hbel; clear hbel
    by_cases hlt : k < 5
    · go_wp2_with fail
      refine (open_at k H.out (by omega) (stT_shut (by omega)) (fun j hj => stT_open hj)).mono ?_
      rintro e w2 ⟨rfl, ht, htab⟩
      rw [stT_succ] at htab
      have H2 := Lib.hid htab; clear htab
      have X2 := Lib.hid (A.out.tch ht Hne.out.symm)
      have B2 := Lib.hid (one_below B1.out ht (Nat.le_refl _)); clear ht
      go_wp2
      go_roundw
      case rel => exact ⟨k + 1, by omega, by go_num, H2.out, X2.out, B2.out⟩
      case measure => simp [intOf]; omega
    · have h5 : k = 5 := by omega
      have ht := H.out
      rw [h5] at ht
      have H := Lib.hid ht
      clear ht h5
      go_wp2_with fail
      go_loopw [12] (fun i wr => ∃ k : Nat, k ≤ n1 ∧ k ≤ n2 ∧ i = .int .i64 k ∧ StRel w w.heap.size w1.heap.size wr) (fun i _ => 30 - (intOf i).toNat)
      case atStart => exact ⟨0, by omega, by omega, rfl, _, H.out, A.out, B1.out⟩
      case round =>
        clear H A B1
        obtain ⟨i, hk1, hk2, rfl, o, htab, harr, hbel⟩ := hrel
        have H := Lib.hid htab; clear htab
        have A := Lib.hid harr; clear harr
        have B1 := Lib.hid hbel; clear hbel
        by_cases hl12 : i < n1 ∧ i < n2
        · obtain ⟨hl1, hl2⟩ := hl12
          exfalso; have := Hz.out; omega
        · have hor : n1 ≤ i ∨ (i < n1 ∧ n2 ≤ i) := by omega
          clear hl12
          have hz0 := Lib.hid (fin_close o m hm)
          rcases hor with hge | ⟨hl1, hge⟩
          all_goals
            go_wp2_with fail
            (with_reducible refine (HL.out _).mono ?_)
            rintro e w2x ⟨rfl, rfl⟩
            go_wp2_with fail
            (with_reducible refine (close_at m H.out (by omega) (stT_open (by omega))).mono ?_)
            rintro e w2 ⟨rfl, ht, htab⟩
            rw [hz0.out.1]
            have H2 := Lib.hid htab; clear htab
            have X2 := Lib.hid (ArrAt.tch A.out ht Hne.out.symm)
            have B2 := Lib.hid (one_below B1.out ht (Nat.le_refl _)); clear ht
            go_wp2_with fail
            (with_reducible refine (open_at m H2.out (by omega) hz0.out.2.1 hz0.out.2.2).mono ?_)
            rintro e w3 ⟨rfl, ht, htab⟩
            rw [tset_tset] at htab
            have H3 := Lib.hid htab; clear htab
            have X3 := Lib.hid (ArrAt.tch X2.out ht Hne.out.symm)
            have B3 := Lib.hid (one_below B2.out ht (Nat.le_refl _)); clear ht
            have hc := X3.out.2.1 m hm
            have hf := X3.out.2.2 m hm
            go_wp2_with fail
            clear hc hf
            go_loopw [19] (fun x wr => ∃ q : Nat, q ≤ 5 ∧ x = .int .i64 q ∧ TabAt wr w.heap.size (tset (stT 5 o) m ⟨200, 0, 63, true⟩) ∧ ArrAt wr w1.heap.size (fset o m 0) ∧ Below w.heap.size w wr) (fun x _ => 5 - (intOf x).toNat)
            case atStart => exact ⟨0, by omega, rfl, H3.out.setOther Hne.out _, X3.out.set m hm _, B3.out.setCell (p := ⟨w1.heap.size, m, none⟩) (Nat.le_of_lt Hw1.out) _⟩
            case round =>
              clear H2 X2 B2 H3 X3 B3 H A B1
              obtain ⟨q, hq, rfl, htab, harr, hbel⟩ := hrel
              have H := Lib.hid htab; clear htab
              have A := Lib.hid harr; clear harr
              have B1 := Lib.hid hbel; clear hbel
              by_cases hlt : q < 5
              · have hc := A.out.2.1 q hlt
                have ha := A.out.1
                by_cases hqm : q = m
                · obtain rfl : q = m := hqm
                  have hg := get_at q (w := wr.alloc (.cells #[.int .i64 200, .int .i64 0, .int .i64 63] 40)) (H.out.below ((Below.refl wr.heap.size _).alloc (Nat.le_refl _) _) H.out.lt) (by omega) (by simp [tset])
                  simp only [tset, if_true] at hg
                  have HG := Lib.hid hg; clear hg
                  go_wp2_with fail
                  (with_reducible refine HG.out.mono ?_)
                  rintro e w4 ⟨rfl, hb⟩
                  have H4 := Lib.hid (H.out.step hb)
                  have A4 := Lib.hid (A.out.step hb)
                  have B4 := Lib.hid (below_step B1.out hb)
                  have c0 := new_step hb 0
                  have c1 := new_step hb 1
                  have c2 := new_step hb 2
                  simp only [List.getElem?_toArray, List.getElem?_cons_zero, List.getElem?_cons_succ] at c0 c1 c2
                  have hlt4 := lt_step hb
                  clear hb
                  go_wp2
                  go_roundw
                  case rel => exact ⟨q + 1, by omega, by go_num, H4.out.below ((Below.refl w4.heap.size _).alloc (Nat.le_refl _) _) H4.out.lt, A4.out.below ((Below.refl w4.heap.size _).alloc (Nat.le_refl _) _) A4.out.1, B4.out.alloc B4.out.size _⟩
                  case measure => simp [intOf]; omega
                · have hqb : ((q : Int) == (m : Int)) = false := by rw [beq_eq_false_iff_ne]; omega
                  have hfs : fset o m 0 q = o q := by simp [fset, hqm]
                  rw [hfs] at hc
                  clear hfs
                  have hg := get_at q (w := wr.alloc (.cells #[.int .i64 (100 + (q : Int)), .int .i64 (o q), .int .i64 q] 40)) (H.out.below ((Below.refl wr.heap.size _).alloc (Nat.le_refl _) _) H.out.lt) (by omega) (by simp [tset, hqm, stT, hlt])
                  simp only [tset, if_neg hqm, stT, if_pos hlt] at hg
                  have HG := Lib.hid hg; clear hg hqm
                  go_wp2_with fail
                  (with_reducible refine HG.out.mono ?_)
                  rintro e w4 ⟨rfl, hb⟩
                  have H4 := Lib.hid (H.out.step hb)
                  have A4 := Lib.hid (A.out.step hb)
                  have B4 := Lib.hid (below_step B1.out hb)
                  have c0 := new_step hb 0
                  have c1 := new_step hb 1
                  have c2 := new_step hb 2
                  simp only [List.getElem?_toArray, List.getElem?_cons_zero, List.getElem?_cons_succ] at c0 c1 c2
                  have hlt4 := lt_step hb
                  clear hb
                  go_wp2
                  go_roundw
                  case rel => exact ⟨q + 1, by omega, by go_num, H4.out.below ((Below.refl w4.heap.size _).alloc (Nat.le_refl _) _) H4.out.lt, A4.out.below ((Below.refl w4.heap.size _).alloc (Nat.le_refl _) _) A4.out.1, B4.out.alloc B4.out.size _⟩
                  case measure => simp [intOf]; omega
              · go_wp2_with fail
                (with_reducible refine (awake_any _).mono ?_)
                rintro e w9 ⟨rfl, hb⟩
                have B9 := Lib.hid (B1.out.trans (hb.mono B1.out.size)); clear hb
                go_wp2
                go_ret
                exact ⟨rfl, B9.out⟩

theorem stands_short (v1 v2 : Value) (l1 l2 : List Int) (which : Int) (w : World) (h1 : IntsArg w v1 l1) (h2 : IntsArg w v2 l2) (b1 : l1.length ≤ 30) (b2 : l2.length ≤ 30) :
    Calls Try.prog 5 #[v1, v2, .int .i64 which] w fun e w' => e = .returned (.bool true) ∧ Below w.heap.size w w' := by
  rcases h1 with ⟨p1, c1, rfl, rfl⟩ | ⟨bb1, oo1, c1, rfl, hc1⟩
  · obtain ⟨p2, c2, rfl⟩ := h2.len
    exact stands_zero p1 p2 c1 c2 0 _ which w (by omega) b2 (Or.inl rfl)
  · rcases h2 with ⟨p2, c2, rfl, rfl⟩ | ⟨bb2, oo2, c2, rfl, hc2⟩
    · exact stands_zero _ p2 c1 c2 _ 0 which w b1 (by omega) (Or.inr rfl)
    · exact stands_some bb1 oo1 c1 bb2 oo2 c2 _ _ l1 l2 which w b1 b2 (Lib.hid rfl) (Lib.hid rfl) (Lib.hid hc1) (Lib.hid hc2)

set_option maxHeartbeats 1000000 in
theorem stands_long (p1 p2 : Option Addr) (c1 c2 n1 n2 : Nat) (which : Int) (w : World) (b1 : n1 ≤ 9223372036854775807) (b2 : n2 ≤ 9223372036854775807) (h : 30 < n1 ∨ 30 < n2) :
    Calls Try.prog 5 #[.slice p1 n1 c1, .slice p2 n2 c2, .int .i64 which] w fun e w' => e = .returned (.bool true) ∧ Below w.heap.size w w' := by
  by_cases h1 : 30 < n1
  all_goals
    try (have h2 : 30 < n2 := by omega)
    clear h
    go_enter Try.func5, Try.ntmps5
    go_wp2_with fail
    (with_reducible refine (awake_any _).mono ?_)
    rintro e w9 ⟨rfl, hb⟩
    go_wp2
    go_ret
    exact ⟨rfl, hb⟩

theorem stands_walk (v1 v2 : Value) (l1 l2 : List Int) (which : Int) (w : World) (h1 : IntsArg w v1 l1) (h2 : IntsArg w v2 l2) (b1 : l1.length ≤ 9223372036854775807) (b2 : l2.length ≤ 9223372036854775807) :
    Calls Try.prog 5 #[v1, v2, .int .i64 which] w fun e w' => e = .returned (.bool true) ∧ Below w.heap.size w w' := by
  by_cases h : 30 < l1.length ∨ 30 < l2.length
  · obtain ⟨p1, c1, rfl⟩ := h1.len
    obtain ⟨p2, c2, rfl⟩ := h2.len
    exact stands_long p1 p2 c1 c2 _ _ which w b1 b2 h
  · exact stands_short v1 v2 l1 l2 which w h1 h2 (by omega) (by omega)

end Go.Proofs.Ytdngpndkhbjedaa
