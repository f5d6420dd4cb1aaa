/- Contract of way. -/
import Derived.Test.YtpfaccpmgldkeaaGreatDoorRev
namespace Go.Proofs.YtpfaccpmgldkeaaGreatDoor
open Go.RowKit Go.MapKept Go.ChangeMaps
set_option maxRecDepth 100000

theorem srt_nodup {l : List (M.Bs × Int)} (h : Srt M.ltB l) : (l.map (·.1)).Nodup := by
  unfold Srt at h
  unfold List.Nodup
  rw [List.pairwise_map]
  exact h.imp fun {a b} hab e => by rw [e, ltB_irr] at hab; cases hab

/-- One name alone leads to a node: what a look for it finds. -/
theorem filter_one {n : Int} {m : M.Bs} : ∀ {l : List (M.Bs × Int)}, (l.map (·.1)).Nodup → (∀ m', (m', n) ∈ l → m' = m) → (l.filter fun p => decide (p.2 = n)).map (·.1) = if (m, n) ∈ l then [m] else []
  | [], _, _ => by simp
  | p :: l, hn, hu => by
    rw [List.map_cons, List.nodup_cons] at hn
    have ih := filter_one hn.2 (fun m' h => hu m' (List.mem_cons_of_mem _ h))
    by_cases h : p.2 = n
    · have hp : p.1 = m := hu p.1 (by rw [← h]; exact List.mem_cons_self)
      have hm : (m, n) ∉ l := fun hm => hn.1 (hp ▸ List.mem_map.2 ⟨_, hm, rfl⟩)
      rw [if_neg hm] at ih
      have hpe : p = (m, n) := by rw [← hp, ← h]
      rw [List.filter_cons, if_pos (by simpa using h), List.map_cons, ih, if_pos (by rw [hpe]; exact List.mem_cons_self), hp]
    · rw [List.filter_cons, if_neg (by simpa using h), ih]
      have : (m, n) ∈ p :: l ↔ (m, n) ∈ l := by
        rw [List.mem_cons]
        constructor
        · rintro (e | e)
          · exact absurd (by rw [← e]) h
          · exact e
        · exact Or.inr
      simp only [this]

theorem way_end {s : M.St} {n : Int} (h : n = 1 ∨ (s.nd n).above = 0) (f : Nat) : s.way f n = [] := by
  cases f with
  | zero => rfl
  | succ f => unfold M.St.way; rw [if_pos h]

/-- The name of a directory in the one above it. -/
theorem way_step {k : Int} {s : M.St} (h : Wf k s) {n : Int} (hn : s.has n = true) (h1 : n ≠ 1) (ha : (s.nd n).above ≠ 0) :
    ∃ m, M.get (s.nd (s.nd n).above).names m = some n ∧ (∀ m', (m', n) ∈ (s.nd (s.nd n).above).names → m' = m) ∧ m.length ≤ 24 ∧ ∀ f, s.way (f + 1) n = s.way f (s.nd n).above ++ [m] := by
  obtain ⟨u1, u2, m, u3⟩ := h.up n hn ha
  have hk : (s.nd n).kind = 2 := by
    cases hk : decide ((s.nd n).kind = 2) with
    | true => simpa using hk
    | false => exact absurd (h.leaf n hn (by simpa using hk)).2 ha
  have hs := h.nsrt _ u1
  have hd := srt_nodup hs
  have hu : ∀ m', (m', n) ∈ (s.nd (s.nd n).above).names → m' = m := fun m' hm => h.one _ u1 m' m n (get_mem hd hm) u3 hk
  refine ⟨m, u3, hu, (h.child _ u1 m n u3).2.2.1, fun f => ?_⟩
  conv => lhs; unfold M.St.way
  rw [if_neg (by rintro (e | e); exact h1 e; exact ha e), filter_one hd hu, if_pos (mem_of_get u3)]
  rfl

def WayPost (l : List M.Bs) (w : World) (e : Ending) (w' : World) : Prop := ∃ v, e = .returned v ∧ Strs w.heap.size w' v l ∧ Below w.heap.size w w'

theorem infoOfStr : (Tryz.prog.info? 9).map (fun i => (i.zero, i.size, i.bytes)) = some (some (.string ⟨#[]⟩), 1, 16) := infoStr

set_option maxHeartbeats 4000000 in
theorem way_any (tb : Nat) (L : Lay) (k : Int) (s : M.St) (n : Int) (w : World) (h : TreeAt w tb L s) (hwf : Wf k s) (hn : s.has n = true) :
    Calls Tryz.prog 127 #[Pt tb, I n] w (WayPost (s.way s.deepest n) w) := by
  obtain ⟨d, hd⟩ := hwf.tall
  have H := Lib.hid h; clear h
  have HD := Lib.hid hd; clear hd
  generalize hR : s.way s.deepest n = R
  have HR := Lib.hid hR; clear hR
  have HHN := Lib.hid hn; clear hn
  go_enter Tryz.func127, Tryz.ntmps127
  go_wp2_with fail
  go_loopw [1, 5, 6, 7, 8] (fun nv v _ _ _ wr => ∃ (f : Nat) (c : Int) (out : List M.Bs), nv = I c ∧ s.has c = true ∧ ((s.nd c).above ≠ 0 → d c ≤ f) ∧ s.way f c ++ out.reverse = R ∧ f + out.length = 21 ∧ Strs w.heap.size wr v out ∧ Below w.heap.size w wr)
    (fun nv _ _ _ _ _ => if (s.nd (intOf nv)).above = 0 then 0 else d (intOf nv) + 1)
  case atStart => exact ⟨21, n, [], rfl, HHN.out, fun ha => by have := (HD.out n HHN.out ha).2; omega, by rw [← HR.out]; simp [M.St.deepest], rfl, strs_nil _ _, Below.refl _ _⟩
  case round =>
    obtain ⟨f, c, out, rfl, hc, hdf, hway, hfl, hst, hbel⟩ := hrel
    obtain ⟨wo, rfl⟩ : ∃ wo : World, wo = wr := ⟨_, rfl⟩
    have HT := Lib.hid (H.out.below hbel)
    have HB := Lib.hid hbel; clear hbel
    have HST := Lib.hid hst; clear hst
    have HW := Lib.hid hway; clear hway
    have HF := Lib.hid hdf; clear hdf
    obtain ⟨t0, -, -, -, -, tf, htb⟩ := HT.out.cells5
    have hl := HT.out.look hc
    obtain ⟨dv, wv, mv, hnode⟩ := HT.out.nodeOf hc
    obtain ⟨-, -, -, -, -, -, n6, -, nf, hnb⟩ := hnode.cells8
    have HN := Lib.hid hnode; clear hnode
    by_cases h1 : c = 1
    · have HE := Lib.hid (show out.reverse = R by rw [← HW.out, way_end (Or.inl h1)]; rfl)
      subst h1
      go_wp2_with fail
      (with_reducible refine (reverse_any w.heap.size _ out wo HST.out (by omega)).mono ?_)
      rintro e w2 ⟨rfl, hs2, hg2⟩
      have HB2 := Lib.hid (HB.out.grown hg2 HB.out.size (fun q hq => (World.ownsRow.lt HST.out q hq).1)); clear hg2
      have HS2 := Lib.hid hs2; clear hs2
      go_wp2_with fail
      go_ret
      exact ⟨_, rfl, by rw [← HE.out]; exact HS2.out, HB2.out⟩
    · have b1 : (c != 1) = true := by simpa using h1
      by_cases ha : (s.nd c).above = 0
      · have HE := Lib.hid (show out.reverse = R by rw [← HW.out, way_end (Or.inr ha)]; rfl)
        have b2 : ((s.nd c).above != 0) = false := by simpa using ha
        clear h1 ha
        go_wp2_with fail
        (with_reducible refine (reverse_any w.heap.size _ out wo HST.out (by omega)).mono ?_)
        rintro e w2 ⟨rfl, hs2, hg2⟩
        have HB2 := Lib.hid (HB.out.grown hg2 HB.out.size (fun q hq => (World.ownsRow.lt HST.out q hq).1)); clear hg2
        have HS2 := Lib.hid hs2; clear hs2
        go_wp2_with fail
        go_ret
        exact ⟨_, rfl, by rw [← HE.out]; exact HS2.out, HB2.out⟩
      · have b2 : ((s.nd c).above != 0) = true := by simpa using ha
        obtain ⟨u1, u2, -⟩ := hwf.up c hc ha
        obtain ⟨m, hg, hu, hm24, hstep⟩ := way_step hwf hc h1 ha
        have hl2 := HT.out.look u1
        obtain ⟨da, wa, ma, hna⟩ := HT.out.nodeOf u1
        obtain ⟨q, rfl, hoq, hsrt, hmap⟩ := hna.dir u2
        obtain ⟨-, -, -, a3, -, -, -, -, -, -⟩ := hna.cells8
        have HA := Lib.hid hna; clear hna
        have HM := Lib.hid hmap; clear hmap
        have HG := Lib.hid hg; clear hg
        have HU := Lib.hid hu; clear hu
        have HSTEP := Lib.hid hstep; clear hstep
        have H1 := Lib.hid h1; clear h1
        have HAA := Lib.hid ha; clear ha
        generalize hav : (s.nd c).above = a at *
        have HAV := Lib.hid hav; clear hav
        have hnd : (s.nd a).names.Nodup := by
          have := srt_nodup hsrt
          unfold List.Nodup at this ⊢
          exact (List.pairwise_map.1 this).imp fun h e => h (by rw [e])
        have HND := Lib.hid hnd; clear hnd
        go_wp2_with (first | (at_range; refine wpList_range_mine rfl _ 69 rfl 9 3 Tryz.underlying69 q _ rfl HM.out ?_; intro w0 hit0 hb0) | fail)
        have HIT := Lib.hid hit0; clear hit0
        have HB0 := Lib.hid hb0; clear hb0
        have HMEM := Lib.hid (mem_of_get HG.out)
        go_frame
        go_loopw [5, 7, 8] (fun v _ _ wi => ∃ left, IterAt S I wi wo.heap.size q (s.nd a).names left ∧ Strs w.heap.size wi v (out ++ if (m, c) ∈ left then [] else [m]) ∧ Below w.heap.size w wi ∧ (∀ p ∈ left, p ∈ (s.nd a).names) ∧ left.Nodup) (fun _ _ _ wi => wi.rangeLeft q wo.heap.size)
        case atStart => exact ⟨_, HIT.out, by rw [if_pos HMEM.out, List.append_nil]; exact row_below HST.out HB0.out, HB.out.trans (HB0.out.mono HB.out.size), fun _ h => h, HND.out⟩
        case round =>
          obtain ⟨left, hit, hso, hbi, hsub, hnl⟩ := hrel
          have HNL := Lib.hid hnl; clear hnl
          have HI := Lib.hid hit; clear hit
          have HSO := Lib.hid hso; clear hso
          have HBI := Lib.hid hbi; clear hbi
          have HSUB := Lib.hid hsub; clear hsub
          go_wp2_with (first | (at_next; refine wpList_next_mine rfl _ rfl wo.heap.size q _ _ rfl HI.out ?_ ?_) | fail)
          · intro hl0
            subst hl0
            go_wp2_with fail
            obtain ⟨f', rfl⟩ : ∃ g, f = g + 1 := ⟨f - 1, by have := HF.out HAA.out; have h2 := HD.out c hc (by rw [HAV.out]; exact HAA.out); omega⟩
            go_roundw
            case rel => exact ⟨f', a, out ++ [m], rfl, u1, fun ha2 => by have := HF.out HAA.out; have h2 := HD.out c hc (by rw [HAV.out]; exact HAA.out); rw [HAV.out] at h2; omega, by rw [← HW.out, HSTEP.out]; simp, by simp; omega, by simpa using HSO.out, HBI.out⟩
            case measure =>
              show (if (s.nd a).above = 0 then 0 else d a + 1) < (if (s.nd c).above = 0 then 0 else d c + 1)
              have h2 := (HD.out c hc (by rw [HAV.out]; exact HAA.out)).1
              rw [HAV.out] at h2 ⊢
              rw [if_neg HAA.out]
              split <;> omega
          · intro x cc left' w1 hperm hit1 hgrow hsz hen
            have HI1 := Lib.hid hit1; clear hit1
            have HSO1 := Lib.hid (row_iter HSO.out HI.out hgrow)
            have HBI1 := Lib.hid (Below.iter HBI.out HI.out HB.out.size HBI.out.size hgrow)
            have HP := Lib.hid hperm; clear hperm
            have HL := Lib.hid (show left'.length < left.length by rw [HP.out.length_eq]; simp)
            have HSUB' := Lib.hid (show ∀ p ∈ left', p ∈ (s.nd a).names from fun p hp => HSUB.out p (HP.out.mem_iff.2 (List.mem_cons_of_mem _ hp)))
            have HXI := Lib.hid (HSUB.out (x, cc) (HP.out.mem_iff.2 List.mem_cons_self))
            clear hgrow hsz
            have HND2 := Lib.hid (HP.out.nodup_iff.1 HNL.out)
            by_cases hcc : cc = c
            · subst hcc
              have hxm : x = m := HU.out x HXI.out
              subst hxm
              have HY := Lib.hid (show (x, cc) ∈ left from HP.out.mem_iff.2 List.mem_cons_self)
              have HNO := Lib.hid (List.nodup_cons.1 HND2.out)
              rw [if_pos HY.out, List.append_nil] at HSO1
              go_wp2_with (first | (at_builtin; refine wpList_append_strs rfl _ _ rfl w.heap.size _ _ out [x] rfl (World.ownsRow.alloc HSO1.out _) rfl (strsAt_one _ _ _) (by simp; omega) (by have := HBI1.out.size; simp; omega) ?_; intro v2 w2 hs2 hg2) | fail)
              have HI2 := Lib.hid ((HI1.out.below ((Below.refl _ _).alloc (Nat.le_refl _) _)).append (World.ownsRow.alloc HSO1.out _) hg2)
              have HS2 := Lib.hid hs2; clear hs2
              have HB2 := Lib.hid ((HBI1.out.alloc HBI1.out.size (.cells #[S x] 9)).grown hg2 (by have := HBI1.out.size; simp; omega) (fun q hq => (World.ownsRow.lt HSO1.out q hq).1)); clear hg2
              go_wp2_with fail
              go_roundw
              case rel => exact ⟨left', HI2.out, by rw [if_neg HNO.out.1]; exact HS2.out, HB2.out, HSUB'.out, (List.nodup_cons.1 HND2.out).2⟩
              case measure => rw [HI2.out.left_eq, HI.out.left_eq]; exact HL.out
            · have bcc : (cc == c) = false := by simpa using hcc
              have HE := Lib.hid (show (m, c) ∈ left ↔ (m, c) ∈ left' by rw [HP.out.mem_iff, List.mem_cons]; constructor; (rintro (e | e); (exact absurd (by cases e; rfl) hcc); exact e); exact Or.inr)
              go_wp2_with fail
              go_roundw
              case rel => exact ⟨left', HI1.out, by have := HSO1.out; simp only [HE.out] at this; exact this, HBI1.out, HSUB'.out, (List.nodup_cons.1 HND2.out).2⟩
              case measure => rw [HI1.out.left_eq, HI.out.left_eq]; exact HL.out
end Go.Proofs.YtpfaccpmgldkeaaGreatDoor
