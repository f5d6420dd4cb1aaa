/- The invariant of a tree behind so many operations, and what contracts need of it. Contracts of find, long. slices.Reverse at strings, of a row of one's own. Contract of way. -/
import Derived.Test.YtpfaccpmgldkeaaGreatDoorWalk
import Derived.Test.YtpfaccpmgldkeaaGreatDoorAid
set_option linter.unusedVariables false
set_option linter.unusedSimpArgs false
namespace Go.Proofs.YtpfaccpmgldkeaaGreatDoor
open Go.RowKit Go.MapKept Go.ChangeMaps

/-- How far a directory is from the root: each step up comes nearer, and none is farther than 20. -/
def Tall (s : M.St) (d : Int → Nat) : Prop := ∀ n, s.has n = true → (s.nd n).above ≠ 0 → d n = d (s.nd n).above + 1 ∧ d n ≤ 20

/-- A tree behind at most k operations. -/
structure Wf (k : Int) (s : M.St) : Prop where
  srt : Srt M.ltI s.nodes
  root : s.has 1 = true
  rootK : (s.nd 1).kind = 2
  rootA : (s.nd 1).above = 0
  last : 1 ≤ s.last ∧ s.last ≤ k + 1
  num : ∀ n, s.has n = true → 1 ≤ n ∧ n ≤ s.last
  kind : ∀ n, s.has n = true → (s.nd n).kind = 1 ∨ (s.nd n).kind = 2 ∨ (s.nd n).kind = 3
  leaf : ∀ n, s.has n = true → (s.nd n).kind ≠ 2 → (s.nd n).names = [] ∧ (s.nd n).above = 0
  nsrt : ∀ n, s.has n = true → Srt M.ltB (s.nd n).names
  child : ∀ n, s.has n = true → ∀ m c, M.get (s.nd n).names m = some c → s.has c = true ∧ c ≠ 1 ∧ m.length ≤ 24 ∧ M.slash ∉ m ∧ m ≠ [] ∧ ((s.nd c).kind = 2 → (s.nd c).above = n)
  one : ∀ n, s.has n = true → ∀ m m' c, M.get (s.nd n).names m = some c → M.get (s.nd n).names m' = some c → (s.nd c).kind = 2 → m = m'
  up : ∀ n, s.has n = true → (s.nd n).above ≠ 0 → s.has (s.nd n).above = true ∧ (s.nd (s.nd n).above).kind = 2 ∧ ∃ m, M.get (s.nd (s.nd n).above).names m = some n
  tall : ∃ d, Tall s d
  most : ∀ n, s.has n = true → ((s.nd n).names.length : Int) ≤ (s.nd n).most ∧ (s.nd n).most ≤ k
  links : ∀ n, s.has n = true → 0 ≤ (s.nd n).links ∧ (s.nd n).links ≤ k + 1
  high : ∀ n, s.has n = true → 0 ≤ (s.nd n).high ∧ (s.nd n).high ≤ 5000
  data : ∀ n, s.has n = true → (s.nd n).data.length ≤ 20736 ∧ (s.nd n).written.length ≤ 162
  target : ∀ n, s.has n = true → (s.nd n).kind = 3 → (s.nd n).data.length ≤ 100
  dir : ∀ n, s.has n = true → (s.nd n).kind = 2 → (s.nd n).data = [] ∧ (s.nd n).written = []
  fds : ∀ i, (s.fds i).opn = true → s.has (s.fds i).node = true ∧ (0 ≤ (s.fds i).off ∧ (s.fds i).off ≤ 1099511627776) ∧ (0 ≤ (s.fds i).flags ∧ (s.fds i).flags < 64)
  fdk : ∀ i, (s.fds i).opn = true → (s.nd (s.fds i).node).kind ≠ 3
  past : 0 ≤ s.past ∧ s.past ≤ 5000 * k
  went : 0 ≤ s.went ∧ s.went ≤ k

section
variable {k : Int} {s : M.St}
theorem Wf.small (h : Wf k s) (hk : k ≤ 10000) {n : Int} (hn : s.has n = true) : Small (s.nd n) := by
  have h1 := h.most n hn
  have h2 := h.links n hn
  have h3 := h.high n hn
  have h4 := h.data n hn
  exact ⟨by omega, by omega, by omega, h4.1, h4.2, by omega⟩
theorem Wf.smallT (h : Wf k s) (hk : k ≤ 10000) : SmallT s := by
  have h1 := h.past
  have h2 := h.went
  have h3 := h.last
  exact ⟨by omega, by omega, by omega⟩
theorem Wf.above (h : Wf k s) {n : Int} (hn : s.has n = true) : s.has (s.above n) = true := by
  unfold M.St.above
  split
  · exact (h.up n hn (by assumption)).1
  · exact hn
theorem Wf.cl (h : Wf k s) : Cl s := ⟨h.root, fun n hn m c hc => (h.child n hn m c hc).1, fun n hn => h.above hn, fun n hn hk => by have := h.target n hn hk; omega⟩
theorem Wf.free (h : Wf k s) : s.has (s.last + 1) = false := by
  cases hh : s.has (s.last + 1) with
  | false => rfl
  | true => have := h.num _ hh; omega
theorem Wf.child_dir (h : Wf k s) {n : Int} (hn : s.has n = true) {m : M.Bs} {c : Int} (hc : M.get (s.nd n).names m = some c) : (s.nd n).kind = 2 := by
  cases hk : decide ((s.nd n).kind = 2) with
  | true => simpa using hk
  | false =>
    have := (h.leaf n hn (by simpa using hk)).1
    rw [this] at hc
    simp [M.get] at hc
end
end Go.Proofs.YtpfaccpmgldkeaaGreatDoor

namespace Go.Proofs.YtpfaccpmgldkeaaGreatDoor
open Go.RowKit Go.MapKept Go.ChangeMaps
set_option maxRecDepth 100000

theorem spot_new (w : World) (sp : M.Spot) : SpotAt (w.alloc (.cells #[I sp.node, I sp.dir, S sp.name] 86)) w.heap.size sp := heap_alloc_new _ _
theorem spot_zero (w : World) : SpotAt (w.alloc (.cells #[I 0, I 0, S []] 86)) w.heap.size {} := heap_alloc_new _ _

theorem find_any (tb : Nat) (L : Lay) (s : M.St) (p : M.Bs) (follow : Bool) (w : World) (h : TreeAt w tb L s) (hcl : Cl s) (hl : p.length ≤ 1000000) (hm : GMax w) :
    Calls Tryz.prog 52 #[Pt tb, S p, .bool follow] w (WalkPost (s.find p follow) w) := by
  have HS := Lib.hid (fun w1 (hb : Below w.heap.size w w1) => split_path p w1 hl (hm.below hb))
  have H := Lib.hid h; clear h
  have HM := Lib.hid hm; clear hm
  have s0 := spot_zero w
  have HS0 := Lib.hid s0; clear s0
  by_cases hc : (M.splitP p).2 = 0
  · obtain ⟨hp1, hp2, _⟩ := splitP_ok hc
    obtain ⟨hp3, hp4⟩ := parts_len hp2
    rw [← hp1] at hp3 hp4
    have HR := Lib.hid (show s.find p follow = s.walk follow (M.fuel (M.splitP p).1 0) { node := 1 } 0 (M.splitP p).1 by unfold M.St.find; rw [if_neg (by rw [hc]; simp)])
    have HC := Lib.hid hc; clear hc hp1 hp2
    have HP4 := Lib.hid hp4; clear hp4
    go_enter Tryz.func52, Tryz.ntmps52
    go_wp2_with fail
    (with_reducible refine (HS.out _ ?_).mono ?_)
    · exact (Below.refl _ _).alloc (Nat.le_refl _) _
    rintro e w1 ⟨v, rfl, hs, hb⟩
    rw [HC.out]
    have HB := Lib.hid (((Below.refl w.heap.size w).alloc (Nat.le_refl _) _).trans (hb.mono (by simp))); 
    have HST := Lib.hid hs
    have HS1 := Lib.hid (HS0.out.below hb); clear hb hs
    go_wp2_with fail
    (with_reducible refine (walk_any tb L s 1 v (M.splitP p).1 follow w1 (H.out.below HB.out) hcl hcl.root HST.out.at hp3 ?_ (HM.out.below HB.out)).mono ?_)
    · exact fun q hq => (World.ownsRow.lt HST.out q hq).2
    rintro e w2 ⟨rfl, hb2⟩
    rw [← HR.out]
    have HS2 := Lib.hid (HS1.out.below hb2)
    have HB2 := Lib.hid (HB.out.trans (hb2.mono HB.out.size)); clear hb2
    obtain ⟨a0, a1, a2, af, alt⟩ := HS2.out.cells
    generalize s.find p follow = R at *
    unfold M.Spot.val
    go_wp2_with fail
    obtain ⟨r0, r1, r2, -, -⟩ := (HS2.out.store R.1).cells
    refine bodyPost_ret (v := (.tuple #[R.1.val, I R.2])) (by simp [results, Tryz.results52, go_sem, M.Spot.val, r0, r1, r2]) rfl ?_
    exact ⟨rfl, Below.store3 HB2.out _ (Nat.le_refl _) _ _ _⟩
  · have HR := Lib.hid (show s.find p follow = ({}, (M.splitP p).2) by unfold M.St.find; rw [if_pos hc])
    have hb1 : ((M.splitP p).2 != 0) = true := by simpa using hc
    clear hc
    go_enter Tryz.func52, Tryz.ntmps52
    go_wp2_with fail
    (with_reducible refine (HS.out _ ?_).mono ?_)
    · exact (Below.refl _ _).alloc (Nat.le_refl _) _
    rintro e w1 ⟨v, rfl, hs, hb⟩
    have HB := Lib.hid (((Below.refl w.heap.size w).alloc (Nat.le_refl _) _).trans (hb.mono (by simp)))
    have HS1 := Lib.hid (HS0.out.below hb); clear hb hs
    obtain ⟨a0, a1, a2, af, alt⟩ := HS1.out.cells
    go_wp2_with fail
    obtain ⟨r0, r1, r2, -, -⟩ := (HS1.out.store {}).cells
    refine bodyPost_ret (v := (.tuple #[M.Spot.val {}, I (M.splitP p).2])) (by simp [results, Tryz.results52, go_sem, M.Spot.val, r0, r1, r2]) rfl ?_
    exact ⟨by rw [HR.out], Below.store3 HB.out _ (Nat.le_refl _) _ _ _⟩

theorem joinL_le (l : List M.Bs) (h : ∀ x ∈ l, x.length ≤ 24) (hl : l.length ≤ 1000) : (M.joinL l).length ≤ 1000000 := by
  have := joinL_len l h
  omega

theorem long_any (v : Value) (l : List M.Bs) (w : World) (h : StrsAt w v l) (hl : ∀ x ∈ l, x.length ≤ 24) (hn : l.length ≤ 1000) :
    Calls Tryz.prog 164 #[v] w fun e w' => e = .returned (.bool (M.long l)) ∧ Below w.heap.size w w' := by
  have HJ := Lib.hid (join_path v l w h (joinL_le l hl hn) (by omega))
  obtain ⟨p, c, rfl⟩ := strsAt_form h
  clear h hl
  unfold M.long
  by_cases h1 : 20 < l.length
  · have hd : decide (20 < l.length) = true := by simpa using h1
    have hd' : decide ((20 : Int) < l.length) = true := decide_eq_true (by omega)
    go_enter Tryz.func164, Tryz.ntmps164
    go_wp2_with fail
    go_ret
    exact ⟨by simp [hd], Below.refl _ _⟩
  · have hd : decide (20 < l.length) = false := by simpa using h1
    have hd' : decide ((20 : Int) < l.length) = false := decide_eq_false (by omega)
    go_enter Tryz.func164, Tryz.ntmps164
    go_wp2_with fail
    (with_reducible refine HJ.out.mono ?_)
    rintro e w1 ⟨rfl, hb⟩
    have HB := Lib.hid hb; clear hb
    go_wp2_with fail
    go_ret
    exact ⟨by simp [hd] <;> omega, HB.out⟩
end Go.Proofs.YtpfaccpmgldkeaaGreatDoor

namespace Go.Proofs.YtpfaccpmgldkeaaGreatDoor
open Go.RowKit Go.MapKept Go.ChangeMaps
set_option maxRecDepth 100000

theorem holds_strs {base : Nat} {w : World} {g cap : Nat} {l : List M.Bs} (h : Strs base w (.slice (some ⟨g, 0, none⟩) l.length cap) l) : Go.Sort.Holds encStr w g 0 l.toArray := by
  intro j hj
  rcases h.2 with ⟨h1, _⟩ | ⟨g', cap', cur, h1, h2, h3, h4, _⟩
  · cases h1
  · cases h1
    have hj' : j < l.length := by simpa using hj
    rw [Nat.zero_add]
    refine ⟨?_, frozen_of_row w g _ _ _ h3⟩
    have := World.ownsRow.cells h (g := g) rfl j (S l[j]) (by simp [hj'])
    rw [Addr.add_lit, Nat.zero_add] at this
    rw [this]
    simp [encStr, S, hj']

theorem putRow_strs {base : Nat} {w : World} {g cap : Nat} {l l' : List M.Bs} (h : Strs base w (.slice (some ⟨g, 0, none⟩) l.length cap) l) (hl : l'.length = l.length) (n : Nat) :
    Strs base (Go.Sort.putRow encStr (Go.Sort.ahead w n) g 0 l'.toArray) (.slice (some ⟨g, 0, none⟩) l.length cap) l' ∧ w.grownBy (Go.Sort.putRow encStr (Go.Sort.ahead w n) g 0 l'.toArray) (some g) := by
  rcases h.2 with ⟨h1, _⟩ | ⟨g', cap', cur, h1, h2, h3, h4, h5, h6, h7⟩
  · cases h1
  cases h1
  constructor
  · refine ⟨by simp, Or.inr ⟨g, cap, Go.Sort.putCells encStr 0 l'.toArray cur, by rw [hl], h2, ?_, by omega, h5, by simp [Go.Sort.putCells, h6], ?_⟩⟩
    · show (w.heap.modify g _)[g]? = _
      rw [Array.getElem?_modify, if_pos rfl, h3]
      rfl
    · apply List.ext_getElem?
      intro j
      simp only [List.length_map, Nat.mul_one] at h7 h6 ⊢
      by_cases hj : j < l'.length
      · rw [List.getElem?_take, if_pos hj, Array.getElem?_toList]
        have : j < cur.size := by omega
        simp [Go.Sort.putCells, this, hj, encStr, S]
      · rw [List.getElem?_eq_none (by simp; omega), List.getElem?_eq_none (by simp; omega)]
  · refine ⟨rfl, rfl, rfl, by simp [Go.Sort.putRow, Go.Sort.mapBlock, Go.Sort.ahead], fun k _ hne => ?_⟩
    show (w.heap.modify g _)[k]? = _
    rw [Array.getElem?_modify, if_neg (fun e => hne (by rw [e]))]

def RevPost (base : Nat) (v : Value) (l : List M.Bs) (w : World) (e : Ending) (w' : World) : Prop := e = .returned (.tuple #[]) ∧ Strs base w' v l ∧ w.grownBy w' v.ownBlock

theorem reverse_any (base : Nat) (v : Value) (l : List M.Bs) (w : World) (h : Strs base w v l) (hl : l.length ≤ 1000000) :
    Calls Tryz.prog 174 #[v] w (RevPost base v l.reverse w) := by
  rcases strs_form h with ⟨rfl, rfl⟩ | ⟨g, c, rfl⟩
  · refine (Tryz.slices_Reverse_string_empty none 0 w).mono ?_
    rintro e w' ⟨rfl, rfl⟩
    exact ⟨rfl, h, ⟨rfl, rfl, rfl, Nat.le_refl _, fun _ _ _ => rfl⟩⟩
  · refine (Tryz.slices_Reverse_string g 0 c l w (holds_strs h) (by omega)).mono ?_
    rintro e w' ⟨rfl, n, rfl⟩
    obtain ⟨h1, h2⟩ := putRow_strs h (l' := l.reverse) (by simp) n
    exact ⟨rfl, h1, h2⟩
end Go.Proofs.YtpfaccpmgldkeaaGreatDoor

namespace Go.Proofs.YtpfaccpmgldkeaaGreatDoor
open Go.RowKit Go.MapKept Go.ChangeMaps
set_option maxRecDepth 100000

theorem srt_nodup {l : List (M.Bs × Int)} (h : Srt M.ltB l) : (l.map (·.1)).Nodup := by
  unfold Srt at h
  unfold List.Nodup
  rw [List.pairwise_map]
  exact h.imp fun {a b} hab e => by rw [e, ltB_irr] at hab; cases hab

/-- One name alone leads to a node: what a look for it finds. -/
theorem filter_one {n : Int} {m : M.Bs} : ∀ {l : List (M.Bs × Int)}, (l.map (·.1)).Nodup → (∀ m', (m', n) ∈ l → m' = m) → (l.filter fun p => decide (p.2 = n)).map (·.1) = if (m, n) ∈ l then [m] else []
  | [], _, _ => by simp
  | p :: l, hn, hu => by
    rw [List.map_cons, List.nodup_cons] at hn
    have ih := filter_one hn.2 (fun m' h => hu m' (List.mem_cons_of_mem _ h))
    by_cases h : p.2 = n
    · have hp : p.1 = m := hu p.1 (by rw [← h]; exact List.mem_cons_self)
      have hm : (m, n) ∉ l := fun hm => hn.1 (hp ▸ List.mem_map.2 ⟨_, hm, rfl⟩)
      rw [if_neg hm] at ih
      have hpe : p = (m, n) := by rw [← hp, ← h]
      rw [List.filter_cons, if_pos (by simpa using h), List.map_cons, ih, if_pos (by rw [hpe]; exact List.mem_cons_self), hp]
    · rw [List.filter_cons, if_neg (by simpa using h), ih]
      have : (m, n) ∈ p :: l ↔ (m, n) ∈ l := by
        rw [List.mem_cons]
        constructor
        · rintro (e | e)
          · exact absurd (by rw [← e]) h
          · exact e
        · exact Or.inr
      simp only [this]

theorem way_end {s : M.St} {n : Int} (h : n = 1 ∨ (s.nd n).above = 0) (f : Nat) : s.way f n = [] := by
  cases f with
  | zero => rfl
  | succ f => unfold M.St.way; rw [if_pos h]

/-- The name of a directory in the one above it. -/
theorem way_step {k : Int} {s : M.St} (h : Wf k s) {n : Int} (hn : s.has n = true) (h1 : n ≠ 1) (ha : (s.nd n).above ≠ 0) :
    ∃ m, M.get (s.nd (s.nd n).above).names m = some n ∧ (∀ m', (m', n) ∈ (s.nd (s.nd n).above).names → m' = m) ∧ m.length ≤ 24 ∧ ∀ f, s.way (f + 1) n = s.way f (s.nd n).above ++ [m] := by
  obtain ⟨u1, u2, m, u3⟩ := h.up n hn ha
  have hk : (s.nd n).kind = 2 := by
    cases hk : decide ((s.nd n).kind = 2) with
    | true => simpa using hk
    | false => exact absurd (h.leaf n hn (by simpa using hk)).2 ha
  have hs := h.nsrt _ u1
  have hd := srt_nodup hs
  have hu : ∀ m', (m', n) ∈ (s.nd (s.nd n).above).names → m' = m := fun m' hm => h.one _ u1 m' m n (get_mem hd hm) u3 hk
  refine ⟨m, u3, hu, (h.child _ u1 m n u3).2.2.1, fun f => ?_⟩
  conv => lhs; unfold M.St.way
  rw [if_neg (by rintro (e | e); exact h1 e; exact ha e), filter_one hd hu, if_pos (mem_of_get u3)]
  rfl

def WayPost (l : List M.Bs) (w : World) (e : Ending) (w' : World) : Prop := ∃ v, e = .returned v ∧ Strs w.heap.size w' v l ∧ Below w.heap.size w w'

theorem infoOfStr : (Tryz.prog.info? 9).map (fun i => (i.zero, i.size, i.bytes)) = some (some (.string ⟨#[]⟩), 1, 16) := infoStr

set_option maxHeartbeats 4000000 in
theorem way_any (tb : Nat) (L : Lay) (k : Int) (s : M.St) (n : Int) (w : World) (h : TreeAt w tb L s) (hwf : Wf k s) (hn : s.has n = true) :
    Calls Tryz.prog 127 #[Pt tb, I n] w (WayPost (s.way s.deepest n) w) := by
  obtain ⟨d, hd⟩ := hwf.tall
  have H := Lib.hid h; clear h
  have HD := Lib.hid hd; clear hd
  generalize hR : s.way s.deepest n = R
  have HR := Lib.hid hR; clear hR
  have HHN := Lib.hid hn; clear hn
  go_enter Tryz.func127, Tryz.ntmps127
  go_wp2_with fail
  go_loopw [1, 5, 6, 7, 8] (fun nv v _ _ _ wr => ∃ (f : Nat) (c : Int) (out : List M.Bs), nv = I c ∧ s.has c = true ∧ ((s.nd c).above ≠ 0 → d c ≤ f) ∧ s.way f c ++ out.reverse = R ∧ f + out.length = 21 ∧ Strs w.heap.size wr v out ∧ Below w.heap.size w wr)
    (fun nv _ _ _ _ _ => if (s.nd (intOf nv)).above = 0 then 0 else d (intOf nv) + 1)
  case atStart => exact ⟨21, n, [], rfl, HHN.out, fun ha => by have := (HD.out n HHN.out ha).2; omega, by rw [← HR.out]; simp [M.St.deepest], rfl, strs_nil _ _, Below.refl _ _⟩
  case round =>
    obtain ⟨f, c, out, rfl, hc, hdf, hway, hfl, hst, hbel⟩ := hrel
    obtain ⟨wo, rfl⟩ : ∃ wo : World, wo = wr := ⟨_, rfl⟩
    have HT := Lib.hid (H.out.below hbel)
    have HB := Lib.hid hbel; clear hbel
    have HST := Lib.hid hst; clear hst
    have HW := Lib.hid hway; clear hway
    have HF := Lib.hid hdf; clear hdf
    obtain ⟨t0, -, -, -, -, tf, htb⟩ := HT.out.cells5
    have hl := HT.out.look hc
    obtain ⟨dv, wv, mv, hnode⟩ := HT.out.nodeOf hc
    obtain ⟨-, -, -, -, -, -, n6, -, nf, hnb⟩ := hnode.cells8
    have HN := Lib.hid hnode; clear hnode
    by_cases h1 : c = 1
    · have HE := Lib.hid (show out.reverse = R by rw [← HW.out, way_end (Or.inl h1)]; rfl)
      subst h1
      go_wp2_with fail
      (with_reducible refine (reverse_any w.heap.size _ out wo HST.out (by omega)).mono ?_)
      rintro e w2 ⟨rfl, hs2, hg2⟩
      have HB2 := Lib.hid (HB.out.grown hg2 HB.out.size (fun q hq => (World.ownsRow.lt HST.out q hq).1)); clear hg2
      have HS2 := Lib.hid hs2; clear hs2
      go_wp2_with fail
      go_ret
      exact ⟨_, rfl, by rw [← HE.out]; exact HS2.out, HB2.out⟩
    · have b1 : (c != 1) = true := by simpa using h1
      by_cases ha : (s.nd c).above = 0
      · have HE := Lib.hid (show out.reverse = R by rw [← HW.out, way_end (Or.inr ha)]; rfl)
        have b2 : ((s.nd c).above != 0) = false := by simpa using ha
        clear h1 ha
        go_wp2_with fail
        (with_reducible refine (reverse_any w.heap.size _ out wo HST.out (by omega)).mono ?_)
        rintro e w2 ⟨rfl, hs2, hg2⟩
        have HB2 := Lib.hid (HB.out.grown hg2 HB.out.size (fun q hq => (World.ownsRow.lt HST.out q hq).1)); clear hg2
        have HS2 := Lib.hid hs2; clear hs2
        go_wp2_with fail
        go_ret
        exact ⟨_, rfl, by rw [← HE.out]; exact HS2.out, HB2.out⟩
      · have b2 : ((s.nd c).above != 0) = true := by simpa using ha
        obtain ⟨u1, u2, -⟩ := hwf.up c hc ha
        obtain ⟨m, hg, hu, hm24, hstep⟩ := way_step hwf hc h1 ha
        have hl2 := HT.out.look u1
        obtain ⟨da, wa, ma, hna⟩ := HT.out.nodeOf u1
        obtain ⟨q, rfl, hoq, hsrt, hmap⟩ := hna.dir u2
        obtain ⟨-, -, -, a3, -, -, -, -, -, -⟩ := hna.cells8
        have HA := Lib.hid hna; clear hna
        have HM := Lib.hid hmap; clear hmap
        have HG := Lib.hid hg; clear hg
        have HU := Lib.hid hu; clear hu
        have HSTEP := Lib.hid hstep; clear hstep
        have H1 := Lib.hid h1; clear h1
        have HAA := Lib.hid ha; clear ha
        generalize hav : (s.nd c).above = a at *
        have HAV := Lib.hid hav; clear hav
        have hnd : (s.nd a).names.Nodup := by
          have := srt_nodup hsrt
          unfold List.Nodup at this ⊢
          exact (List.pairwise_map.1 this).imp fun h e => h (by rw [e])
        have HND := Lib.hid hnd; clear hnd
        go_wp2_with (first | (at_range; refine wpList_range_mine rfl _ 69 rfl 9 3 Tryz.underlying69 q _ rfl HM.out ?_; intro w0 hit0 hb0) | fail)
        have HIT := Lib.hid hit0; clear hit0
        have HB0 := Lib.hid hb0; clear hb0
        have HMEM := Lib.hid (mem_of_get HG.out)
        go_frame
        go_loopw [5, 7, 8] (fun v _ _ wi => ∃ left, IterAt S I wi wo.heap.size q (s.nd a).names left ∧ Strs w.heap.size wi v (out ++ if (m, c) ∈ left then [] else [m]) ∧ Below w.heap.size w wi ∧ (∀ p ∈ left, p ∈ (s.nd a).names) ∧ left.Nodup) (fun _ _ _ wi => wi.rangeLeft q wo.heap.size)
        case atStart => exact ⟨_, HIT.out, by rw [if_pos HMEM.out, List.append_nil]; exact row_below HST.out HB0.out, HB.out.trans (HB0.out.mono HB.out.size), fun _ h => h, HND.out⟩
        case round =>
          obtain ⟨left, hit, hso, hbi, hsub, hnl⟩ := hrel
          have HNL := Lib.hid hnl; clear hnl
          have HI := Lib.hid hit; clear hit
          have HSO := Lib.hid hso; clear hso
          have HBI := Lib.hid hbi; clear hbi
          have HSUB := Lib.hid hsub; clear hsub
          go_wp2_with (first | (at_next; refine wpList_next_mine rfl _ rfl wo.heap.size q _ _ rfl HI.out ?_ ?_) | fail)
          · intro hl0
            subst hl0
            go_wp2_with fail
            obtain ⟨f', rfl⟩ : ∃ g, f = g + 1 := ⟨f - 1, by have := HF.out HAA.out; have h2 := HD.out c hc (by rw [HAV.out]; exact HAA.out); omega⟩
            go_roundw
            case rel => exact ⟨f', a, out ++ [m], rfl, u1, fun ha2 => by have := HF.out HAA.out; have h2 := HD.out c hc (by rw [HAV.out]; exact HAA.out); rw [HAV.out] at h2; omega, by rw [← HW.out, HSTEP.out]; simp, by simp; omega, by simpa using HSO.out, HBI.out⟩
            case measure =>
              show (if (s.nd a).above = 0 then 0 else d a + 1) < (if (s.nd c).above = 0 then 0 else d c + 1)
              have h2 := (HD.out c hc (by rw [HAV.out]; exact HAA.out)).1
              rw [HAV.out] at h2 ⊢
              rw [if_neg HAA.out]
              split <;> omega
          · intro x cc left' w1 hperm hit1 hgrow hsz hen
            have HI1 := Lib.hid hit1; clear hit1
            have HSO1 := Lib.hid (row_iter HSO.out HI.out hgrow)
            have HBI1 := Lib.hid (Below.iter HBI.out HI.out HB.out.size HBI.out.size hgrow)
            have HP := Lib.hid hperm; clear hperm
            have HL := Lib.hid (show left'.length < left.length by rw [HP.out.length_eq]; simp)
            have HSUB' := Lib.hid (show ∀ p ∈ left', p ∈ (s.nd a).names from fun p hp => HSUB.out p (HP.out.mem_iff.2 (List.mem_cons_of_mem _ hp)))
            have HXI := Lib.hid (HSUB.out (x, cc) (HP.out.mem_iff.2 List.mem_cons_self))
            clear hgrow hsz
            have HND2 := Lib.hid (HP.out.nodup_iff.1 HNL.out)
            by_cases hcc : cc = c
            · subst hcc
              have hxm : x = m := HU.out x HXI.out
              subst hxm
              have HY := Lib.hid (show (x, cc) ∈ left from HP.out.mem_iff.2 List.mem_cons_self)
              have HNO := Lib.hid (List.nodup_cons.1 HND2.out)
              rw [if_pos HY.out, List.append_nil] at HSO1
              go_wp2_with (first | (at_builtin; refine wpList_append_strs rfl _ _ rfl w.heap.size _ _ out [x] rfl (World.ownsRow.alloc HSO1.out _) rfl (strsAt_one _ _ _) (by simp; omega) (by have := HBI1.out.size; simp; omega) ?_; intro v2 w2 hs2 hg2) | fail)
              have HI2 := Lib.hid ((HI1.out.below ((Below.refl _ _).alloc (Nat.le_refl _) _)).append (World.ownsRow.alloc HSO1.out _) hg2)
              have HS2 := Lib.hid hs2; clear hs2
              have HB2 := Lib.hid ((HBI1.out.alloc HBI1.out.size (.cells #[S x] 9)).grown hg2 (by have := HBI1.out.size; simp; omega) (fun q hq => (World.ownsRow.lt HSO1.out q hq).1)); clear hg2
              go_wp2_with fail
              go_roundw
              case rel => exact ⟨left', HI2.out, by rw [if_neg HNO.out.1]; exact HS2.out, HB2.out, HSUB'.out, (List.nodup_cons.1 HND2.out).2⟩
              case measure => rw [HI2.out.left_eq, HI.out.left_eq]; exact HL.out
            · have bcc : (cc == c) = false := by simpa using hcc
              have HE := Lib.hid (show (m, c) ∈ left ↔ (m, c) ∈ left' by rw [HP.out.mem_iff, List.mem_cons]; constructor; (rintro (e | e); (exact absurd (by cases e; rfl) hcc); exact e); exact Or.inr)
              go_wp2_with fail
              go_roundw
              case rel => exact ⟨left', HI1.out, by have := HSO1.out; simp only [HE.out] at this; exact this, HBI1.out, HSUB'.out, (List.nodup_cons.1 HND2.out).2⟩
              case measure => rw [HI1.out.left_eq, HI.out.left_eq]; exact HL.out
end Go.Proofs.YtpfaccpmgldkeaaGreatDoor
