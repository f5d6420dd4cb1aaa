/- Rows: append of zeros; slices.Grow, slices.Concat of strings; slices.Clone of bytes. -/
import Derived.Test.YtpfaccpmgldkeaaGreatDoorRep
import Derived.Lib.AppendZeros
import Derived.Lib.SliceRun
import Derived.Deep.Upon
set_option linter.unusedVariables false
set_option linter.unusedSimpArgs false
namespace Go.Proofs.YtpfaccpmgldkeaaGreatDoor
open Go.RowKit
set_option maxRecDepth 100000

theorem add_plain (g j : Nat) : (⟨g, 0, none⟩ : Addr).add j = ⟨g, j, none⟩ := by unfold Addr.add; split <;> simp_all
theorem blk_frozen {w : World} {g : Nat} {t : TypeId} {cs : Array Value} (h : w.heap[g]? = some (.cells cs t (0, 0))) (j : Nat) : w.frozen? ⟨g, j, none⟩ = false := frozen_of_row w g _ _ _ h

theorem setCells_far {g : Nat} : ∀ (vs : List Value) (o : Nat) {w : World} (k : Nat), k ≠ g → (w.setCells g o vs).heap[k]? = w.heap[k]?
  | [], _, _, _, _ => rfl
  | v :: r, o, w, k, hk => by
    rw [World.setCells, setCells_far r (o + 1) k hk]
    exact Below.heap_setCell w ⟨g, o, none⟩ v k hk
theorem setCells_same (g : Nat) : ∀ (vs : List Value) (o : Nat) (w : World), (w.setCells g o vs).os = w.os ∧ (w.setCells g o vs).tape = w.tape ∧ (w.setCells g o vs).output = w.output ∧ (w.setCells g o vs).heap.size = w.heap.size
  | [], _, _ => ⟨rfl, rfl, rfl, rfl⟩
  | v :: r, o, w => by
    obtain ⟨h1, h2, h3, h4⟩ := setCells_same g r (o + 1) (w.setCell ⟨g, o, none⟩ v)
    rw [World.setCells]
    exact ⟨h1, h2, h3, by rw [h4]; simp [World.setCell]⟩
theorem setCells_row {g : Nat} {e : TypeId} : ∀ (vs : List Value) (o : Nat) (w : World) (cur : Array Value), w.heap[g]? = some (.cells cur e (0, 0)) → o + vs.length ≤ cur.size →
    ∃ cur', (w.setCells g o vs).heap[g]? = some (.cells cur' e (0, 0)) ∧ cur'.size = cur.size ∧ cur'.toList = cur.toList.take o ++ vs ++ cur.toList.drop (o + vs.length)
  | [], o, w, cur, h, _ => ⟨cur, h, rfl, by simp⟩
  | v :: r, o, w, cur, h, hl => by
    have h2 := heap_setCell_same w g o cur e v h
    simp only [List.length_cons] at hl
    obtain ⟨cur', h3, h4, h5⟩ := setCells_row r (o + 1) (w.setCell ⟨g, o, none⟩ v) _ h2 (by simp; omega)
    refine ⟨cur', h3, by rw [h4]; simp, ?_⟩
    rw [h5, Array.toList_setIfInBounds]
    have ho : o < cur.toList.length := by rw [Array.length_toList]; omega
    rw [List.take_set, List.drop_set_of_lt (by omega)]
    simp only [List.length_cons]
    rw [show o + 1 + r.length = o + (r.length + 1) by omega]
    congr 1
    rw [List.take_succ_eq_append_getElem ho, List.set_append_right _ _ (by rw [List.length_take]; omega)]
    have ho' : o < cur.size := by omega
    simp [Nat.min_eq_left (Nat.le_of_lt ho')]
section
variable {P : Program}
theorem run_append_zeros_own (w : World) (base : Nat) (t ti ty e : TypeId) (i : TypeInfo) (z : Value) (size bytes : Nat) (ht : P.underlying t = some (.slice e)) {k : IntKind} (hti : P.underlying ti = some (.int k)) (hi : P.info? e = some i) (hz : i.zero = some z)
    (hsize : i.size = size) (hby : i.bytes = bytes) (hzs : z.cells.size = size) (hsz : 0 < size) (hb0 : 0 < bytes)
    (v : Value) (n : Nat) (xs : List Value) (hown : w.ownsRow base e size v n xs) (kx : IntKind) (m : Nat) (h1 : ∀ u ∈ (Builtin.zeroCells z.cells m).toList, u.oneCell' = true)
    (hbytes : (n + m) * bytes ≤ 140737488355328) (hbase : base ≤ w.heap.size) :
    ∃ v' w', (Builtin.append_ #[t, ti] ty #[v, .int kx m]).run P w = .ok v' w' ∧ w'.ownsRow base e size v' (n + m) (xs ++ (Builtin.zeroCells z.cells m).toList) ∧ w.grownBy w' v.ownBlock ∧
      (v'.ownBlock = v.ownBlock ∨ v'.ownBlock = some w.heap.size) := by
  subst hsize
  subst hby
  have hle : n + m ≤ 140737488355328 := Nat.le_trans (Nat.le_mul_of_pos_right _ hb0) hbytes
  have h63 : n + m ≤ maxLen := by simp only [maxLen]; omega
  have hw : IntKind.i64.wrap (m : Int) = m := by rw [IntKind.wrap_i64]; omega
  have hw0 : IntKind.i64.wrap 0 = 0 := by rw [IntKind.wrap_i64]; rfl
  have hneg : ¬ ((m : Int) < 0) := by omega
  have hmb : m * i.bytes ≤ 140737488355328 := Nat.le_trans (Nat.mul_le_mul_right _ (Nat.le_add_left m n)) hbytes
  have hbig : ¬ (281474976710656 < (m : Int) * (i.bytes : Int)) := by
    rw [← Int.natCast_mul]
    omega
  have hsn : i.size ≠ 0 := by omega
  obtain ⟨news, hnews⟩ : ∃ news, news = (Builtin.zeroCells z.cells m).toList := ⟨_, rfl⟩
  rw [← hnews] at h1 ⊢
  have hl : news.length = m * i.size := by rw [hnews, Array.length_toList, size_zeroCells, hzs]
  have hna : Builtin.zeroCells z.cells m = news.toArray := by rw [hnews]
  have hlen : (xs ++ news).length = (n + m) * i.size := by rw [List.length_append, hown.1, hl, Nat.add_mul]
  have hnil : m = 0 → news = [] := fun h => List.eq_nil_of_length_eq_zero (by rw [hl, h, Nat.zero_mul])
  have grown : ∀ (old : Nat), old < n + m → ∀ (row : Option Nat),
      (w.drew.alloc (.cells (xs.toArray ++ news.toArray ++ Builtin.zeroCells z.cells (grownCap w (n + m) old e - (n + m))) e)).ownsRow base e i.size
        (.slice (some ⟨w.heap.size, 0, none⟩) (n + m) (grownCap w (n + m) old e)) (n + m) (xs ++ news) ∧
      w.grownBy (w.drew.alloc (.cells (xs.toArray ++ news.toArray ++ Builtin.zeroCells z.cells (grownCap w (n + m) old e - (n + m))) e)) row := by
    intro old ho row
    have hge := grownCap_ge w (n + m) old e
    have hcm : grownCap w (n + m) old e ≤ maxLen := grownCap_le_maxLen w (n + m) old e h63
    refine ⟨⟨hlen, .inr ⟨w.heap.size, _, _, rfl, hbase, heap_alloc_new w.drew _, hge, hcm, ?_, ?_⟩⟩, ⟨rfl, rfl, rfl, by simp, fun k hk _ => heap_alloc_old w.drew _ hk⟩⟩
    · simp only [Array.size_append, List.size_toArray, size_zeroCells, hzs, hown.1, hl, ← Nat.add_mul]
      congr 1
      omega
    · simp only [Array.toList_append, List.append_assoc]
      rw [← List.append_assoc, ← hlen]
      exact List.take_left
  have runs : ∀ (A : Option Addr) (cap : Nat), cap < n + m → (Builtin.firstCells i.size n (.slice A n cap)).run P w.drew = .ok xs.toArray w.drew → (Builtin.append_ #[t, ti] ty #[.slice A n cap, .int kx m]).run P w =
      .ok (.slice (some ⟨w.heap.size, 0, none⟩) (n + m) (grownCap w (n + m) cap e)) (w.drew.alloc (.cells (xs.toArray ++ news.toArray ++ Builtin.zeroCells z.cells (grownCap w (n + m) cap e - (n + m))) e)) := by
    intro A cap hcap hfo
    have hn : ¬ (n + m ≤ cap) := by omega
    have h63' : ¬ (9223372036854775807 < ((n : Int) + (m : Int))) := by omega
    have hfit := growslice_fits hcap hbytes
    have h48' : ¬ (281474976710656 < Builtin.nextslicecap (n + m) cap * i.bytes) := by omega
    by_cases hm : m = 0
    · have hnl := hnil hm
      subst hm
      rw [hnl]
      simp only [Nat.add_zero] at hn h63' h48' ⊢
      have h63'' : ¬ (9223372036854775807 < (n : Int)) := by omega
      simp [Builtin.append_, run_underlying ht, run_underlying hti, sizeOf, typeInfo, zeroValue, hi, hz, asInt, asIntOf, hw0, hn, h63'', h48', Question.forced, hfo, newRow, grownCap]
    · have hmz : ¬ (m * i.size = 0) := Nat.mul_ne_zero hm hsn
      simp [Builtin.append_, run_underlying ht, run_underlying hti, sizeOf, typeInfo, zeroValue, hi, hz, asInt, asIntOf, hw, hneg, hbig, hn, h63', h48', Question.forced, hfo, newRow, grownCap, hmz, hna]
      congr 2
      apply Array.ext'
      simp [List.append_assoc]
  rcases hown.2 with ⟨rfl, rfl⟩ | ⟨g, cap, cur, rfl, hbg, hg, hnc, hcm, hcs, htake⟩
  · have hx : xs = [] := List.eq_nil_of_length_eq_zero (by simpa using hown.1)
    subst hx
    by_cases hm : m = 0
    · have hnl := hnil hm
      subst hm
      rw [hnl]
      refine ⟨.slice none 0 0, w, ?_, World.ownsRow_nil w base e i.size, ⟨rfl, rfl, rfl, Nat.le_refl _, fun _ _ _ => rfl⟩, Or.inl rfl⟩
      simp [Builtin.append_, run_underlying ht, run_underlying hti, sizeOf, typeInfo, hi, asInt, asIntOf, hw0]
    · have hgr := grown 0 (by omega) (Value.ownBlock (.slice none 0 0))
      exact ⟨_, _, runs none 0 (by omega) (by simp [Builtin.firstCells]), hgr.1, hgr.2, Or.inr rfl⟩
  · by_cases hroom : n + m ≤ cap
    · have hfit : n * i.size + news.length ≤ cur.size := by rw [hl, hcs, ← Nat.add_mul]; exact Nat.mul_le_mul_right _ hroom
      obtain ⟨cur', h3, h4, h5⟩ := setCells_row news (n * i.size) w cur hg hfit
      obtain ⟨s1, s2, s3, s4⟩ := setCells_same g news (n * i.size) w
      have hst := run_storeCells_cells (P := P) g (n * i.size) news 0 w (fun j hj => by rw [cell_of_row w g _ cur e (0, 0) hg]; simp; omega) (fun j _ => blk_frozen hg _) h1
      simp only [Nat.add_zero] at hst
      refine ⟨.slice (some ⟨g, 0, none⟩) (n + m) cap, w.setCells g (n * i.size) news, ?_, ⟨hlen, .inr ⟨g, cap, cur', rfl, hbg, h3, hroom, hcm, by rw [h4, hcs], ?_⟩⟩, ⟨s1, s2, s3, by rw [s4]; exact Nat.le_refl _, fun k _ hk => setCells_far news _ k (fun e => hk (by simp [Value.ownBlock, e]))⟩, Or.inl rfl⟩
      · by_cases hm : m = 0
        · have hnl := hnil hm
          subst hm
          rw [hnl] at hst ⊢
          simp [Builtin.append_, run_underlying ht, run_underlying hti, sizeOf, typeInfo, hi, asInt, asIntOf, hw0, hnc, add_plain, hst]
        · have hmz : ¬ (m * i.size = 0) := Nat.mul_ne_zero hm hsn
          simp [Builtin.append_, run_underlying ht, run_underlying hti, sizeOf, typeInfo, zeroValue, hi, hz, asInt, asIntOf, hw, hneg, hbig, hroom, hmz, hna, add_plain, hst]
      · rw [h5]
        have h6 : cur.toList.take (n * i.size) = xs := htake
        rw [h6, ← hlen]
        exact List.take_left
    · have holds : ∀ j u, xs[j]? = some u → w.cell? ((⟨g, 0, none⟩ : Addr).add j) = some u := hown.cells (g := g) rfl
      have hgr := grown cap (by omega) (Value.ownBlock (.slice (some ⟨g, 0, none⟩) n cap))
      exact ⟨_, _, runs (some ⟨g, 0, none⟩) cap (by omega) (run_firstCells_some (P := P) w.drew i.size n _ n cap xs hown.1 (by simpa using holds)), hgr.1, hgr.2, Or.inr rfl⟩

/-- append(v, make([]T, m)...), for the walk. -/
theorem wpList_append_zeros_own {w : World} {ops : Array Oper} {rest : List Oper} {o : Oper} {a : Act} {Q : Exit → Act → World → Prop} (hgd : o.guard = none) (s x : Operand) (t ti : TypeId)
    (ho : o.op = .call { callee := .builtin .append, args := #[s, x], argTypes := #[t, ti] })
    (base : Nat) (e : TypeId) (i : TypeInfo) (z : Value) (size bytes : Nat) (ht : P.underlying t = some (.slice e)) {k : IntKind} (hti : P.underlying ti = some (.int k)) (hi : P.info? e = some i) (hz : i.zero = some z)
    (hsize : i.size = size) (hby : i.bytes = bytes) (hzs : z.cells.size = size) (hsz : 0 < size) (hb0 : 0 < bytes)
    (v : Value) (n : Nat) (xs : List Value) (hs : a.eval s = v) (hown : w.ownsRow base e size v n xs) (kx : IntKind) (m : Nat) (hx : a.eval x = .int kx m) (h1 : ∀ u ∈ (Builtin.zeroCells z.cells m).toList, u.oneCell' = true)
    (hbytes : (n + m) * bytes ≤ 140737488355328) (hbase : base ≤ w.heap.size)
    (h : ∀ v' w', w'.ownsRow base e size v' (n + m) (xs ++ (Builtin.zeroCells z.cells m).toList) → w.grownBy w' v.ownBlock → (v'.ownBlock = v.ownBlock ∨ v'.ownBlock = some w.heap.size) → wpList P ops Q rest (a.put o.dst v') w') : wpList P ops Q (o :: rest) a w := by
  obtain ⟨v', w', hr, h2, h3, h4⟩ := run_append_zeros_own w base t ti o.type e i z size bytes ht hti hi hz hsize hby hzs hsz hb0 v n xs hown kx m h1 hbytes hbase
  exact Lib.wpList_append_run w hgd s x t ti ho v (.int kx m) hs hx v' w' hr (h v' w' h2 h3 h4)
end

theorem zeros_str (m : Nat) : (Builtin.zeroCells (Value.string ⟨#[]⟩).cells m).toList = List.replicate m (S []) := by
  have : ∀ i, [Value.string ⟨#[]⟩][i % 1]?.getD default = S [] := fun i => by rw [Nat.mod_one]; rfl
  simp only [Builtin.zeroCells, Value.cells]
  simp [this, List.map_const']

theorem grow_form {w : World} {base n : Nat} {v : Value} {xs : List Value} (h : w.ownsRow base 9 1 v (0 + n) xs) (hn : 0 < n) : ∃ g cap, v = .slice (some ⟨g, 0, none⟩) n cap ∧ Strs base w (.slice (some ⟨g, 0, none⟩) 0 cap) [] := by
  rcases h.2 with ⟨_, h2⟩ | ⟨g, cap, cur, h1, h2, h3, h4, h5, h6, h7⟩
  · omega
  · exact ⟨g, cap, by rw [h1, Nat.zero_add], by simp [Strs], Or.inr ⟨g, cap, cur, rfl, h2, h3, Nat.zero_le _, h5, h6, by simp⟩⟩

def GrowPost (w : World) (e : Ending) (w' : World) : Prop := ∃ v, e = .returned v ∧ Strs w.heap.size w' v [] ∧ Below w.heap.size w w'

theorem grow_nil (n : Nat) (w : World) (hn : n ≤ 1000000) :
    Calls Tryz.prog 184 #[.slice none 0 0, I n] w (GrowPost w) := by
  obtain ⟨i0, hi, hz0, hz1, hz2⟩ := info_parts infoStr
  have HI := Lib.hid hi; clear hi
  have Z0 := Lib.hid hz0; clear hz0
  have Z1 := Lib.hid hz1; clear hz1
  have Z2 := Lib.hid hz2; clear hz2
  by_cases h0 : n = 0
  · subst h0
    go_enter Tryz.func184, Tryz.ntmps184
    go_wp2_with fail
    go_ret
    exact ⟨_, rfl, World.ownsRow_nil _ _ _ _, Below.refl _ _⟩
  · go_enter Tryz.func184, Tryz.ntmps184
    go_wp2_with (first | (at_builtin; refine wpList_append_zeros_own rfl _ _ 27 3 rfl w.heap.size 9 i0 (.string ⟨#[]⟩) 1 16 Tryz.underlying27 Tryz.underlying3 HI.out Z0.out Z1.out Z2.out rfl (by decide) (by decide) (.slice none 0 0) 0 [] rfl (World.ownsRow_nil _ _ _ _) .i64 n rfl (by rw [zeros_str]; simp [Value.oneCell']) (by omega) (Nat.le_refl _) ?_; intro v1 w1 hown hgrow hor; have hf := grow_form hown (by omega); obtain ⟨g, cap, rfl, hst⟩ := hf; clear hown hor) | fail)
    go_ret
    exact ⟨_, rfl, hst, (Below.refl _ _).grown hgrow (Nat.le_refl _) (by simp [Value.ownBlock])⟩

/-- append(v, parts...) of strings, whatever parts is. -/
theorem wpList_append_strs {w : World} {ops : Array Oper} {rest : List Oper} {o : Oper} {a : Act} {Q : Exit → Act → World → Prop} (hgd : o.guard = none) (s x : Operand)
    (ho : o.op = .call { callee := .builtin .append, args := #[s, x], argTypes := #[27, 27] }) (base : Nat) (v vx : Value) (xs l : List M.Bs)
    (hs : a.eval s = v) (hown : Strs base w v xs) (hx : a.eval x = vx) (hat : StrsAt w vx l) (hsm : xs.length + l.length ≤ 1000000) (hbase : base ≤ w.heap.size)
    (h : ∀ v' w', Strs base w' v' (xs ++ l) → w.grownBy w' v.ownBlock → wpList Tryz.prog ops Q rest (a.put o.dst v') w') : wpList Tryz.prog ops Q (o :: rest) a w := by
  obtain ⟨i0, hi, hz0, hz1, hz2⟩ := info_parts infoStr
  have nil_case : ∀ p c, vx = .slice p 0 c → l = [] → wpList Tryz.prog ops Q (o :: rest) a w := by
    intro p c hv hl
    subst hl
    have hsrc : Src Tryz.prog i0.size 27 (.slice p 0 c) 0 [] w := by
      cases p with
      | none => exact Src.ofNil w Tryz.underlying27 c
      | some a => exact Src.ofSlice w Tryz.underlying27 a 0 c [] (by simp) (by simp) (by simp)
    rcases hown.2 with ⟨h1, h2⟩ | ⟨g, cap, cur, h1, h2, h3, h4, h5, h6, h7⟩
    · have hr := run_append_nothing w 27 27 o.type 9 i0 Tryz.underlying27 hi none 0 0 (Nat.le_refl _) _ hsrc
      exact Lib.wpList_append_run w hgd s x _ _ ho _ _ (hs.trans h1) (hx.trans hv) _ _ hr (h _ _ (by simpa [h1] using hown) (by rw [h1]; exact ⟨rfl, rfl, rfl, Nat.le_refl _, fun _ _ _ => rfl⟩))
    · have hr := run_append_nothing w 27 27 o.type 9 i0 Tryz.underlying27 hi (some ⟨g, 0, none⟩) xs.length cap h4 _ hsrc
      exact Lib.wpList_append_run w hgd s x _ _ ho _ _ (hs.trans h1) (hx.trans hv) _ _ hr (h _ _ (by simpa [h1] using hown) ⟨rfl, rfl, rfl, Nat.le_refl _, fun _ _ _ => rfl⟩)
  rcases hat with ⟨p, c, hv, hl⟩ | ⟨b, off, c, hv, hcap, hlt, hc⟩
  · exact nil_case p c hv hl
  · refine wpList_append_own w hgd s x 27 ho base 9 i0 (.string ⟨#[]⟩) 1 16 Tryz.underlying27 hi hz0 hz1 hz2 rfl (by decide) v xs.length (xs.map S) hs hown ⟨b, off, none⟩ l.length c (l.map S) (hx.trans hv) (by simp) (fun j u hu => ?_) (by simp [Value.oneCell']) (by unfold maxLen; omega) (by omega) hbase (fun v' w' h1 h2 _ => h v' w' ?_ h2)
    · have hu' : ∃ y, l[j]? = some y ∧ S y = u := by simpa using hu
      obtain ⟨y, hy, rfl⟩ := hu'
      rw [Addr.add_lit]
      exact hc j y hy
    · unfold Strs
      simpa using h1


def ConcatPost (l : List M.Bs) (w : World) (e : Ending) (w' : World) : Prop := ∃ v, e = .returned v ∧ Strs w.heap.size w' v l ∧ Below w.heap.size w w'

theorem strsAt_form {w : World} {v : Value} {l : List M.Bs} (h : StrsAt w v l) : ∃ p c, v = .slice p l.length c := by
  rcases h with ⟨p, c, h1, h2⟩ | ⟨b, o, c, h1, _⟩
  · exact ⟨p, c, by rw [h1, h2]; rfl⟩
  · exact ⟨_, c, h1⟩

/-- slices.Concat of two slices of strings, which lie in a block g. -/
theorem concat_two (g c : Nat) (v1 v2 : Value) (l1 l2 : List M.Bs) (w : World) (hg : g < w.heap.size) (c1 : w.cell? ⟨g, 0, none⟩ = some v1) (c2 : w.cell? ⟨g, 1, none⟩ = some v2) (h1 : StrsAt w v1 l1) (h2 : StrsAt w v2 l2) (hl : l1.length + l2.length ≤ 1000) :
    Calls Tryz.prog 144 #[.slice (some ⟨g, 0, none⟩) 2 c] w (ConcatPost (l1 ++ l2) w) := by
  obtain ⟨p1, k1, rfl⟩ := strsAt_form h1
  obtain ⟨p2, k2, rfl⟩ := strsAt_form h2
  have H1 := Lib.hid h1; clear h1
  have H2 := Lib.hid h2; clear h2
  have HG := Lib.hid (grow_nil (l1.length + l2.length) w (by omega))
  rw [Int.natCast_add] at HG
  go_enter Tryz.func144, Tryz.ntmps144
  go_wp2_with fail
  refine wp_loop_rounds 3 ?_
  rw [rounds_succ]; go_wp2_with fail
  rw [rounds_succ]; go_wp2_with fail
  rw [rounds_succ]; go_wp2_with fail
  (with_reducible refine HG.out.mono ?_)
  rintro e w1 ⟨v, rfl, hs, hb⟩
  have d1 := cell_later hb c1
  have d2 := cell_later hb c2
  have HS := Lib.hid hs; clear hs
  have HB := Lib.hid hb; clear hb
  have H1' := Lib.hid (H1.out.below HB.out)
  go_wp2_with fail
  refine wp_loop_rounds 3 ?_
  rw [rounds_succ]
  go_wp2_with (first | (at_builtin; refine wpList_append_strs rfl _ _ rfl w.heap.size _ _ [] l1 rfl HS.out rfl H1'.out (by simp; omega) HB.out.size ?_; intro v2 w2 hs2 hg2) | fail)
  have HB2 := Lib.hid (HB.out.grown hg2 HB.out.size (fun q hq => (World.ownsRow.lt HS.out q hq).1)); clear hg2
  have HS2 := Lib.hid hs2; clear hs2
  have e2 := cell_later HB2.out c2
  have H2' := Lib.hid (H2.out.below HB2.out)
  clear d1 d2
  rw [rounds_succ]
  go_wp2_with (first | (at_builtin; refine wpList_append_strs rfl _ _ rfl w.heap.size _ _ ([] ++ l1) l2 rfl HS2.out rfl H2'.out (by simp; omega) HB2.out.size ?_; intro v3 w3 hs3 hg3) | fail)
  have HB3 := Lib.hid (HB2.out.grown hg3 HB2.out.size (fun q hq => (World.ownsRow.lt HS2.out q hq).1)); clear hg3
  have HS3 := Lib.hid hs3; clear hs3
  rw [rounds_succ]
  go_wp2_with fail
  go_ret
  exact ⟨_, rfl, HS3.out, HB3.out⟩

/-- .. which the caller has just laid. -/
theorem concat_lit (T : TypeId) (v1 v2 : Value) (l1 l2 : List M.Bs) (w : World) (h1 : StrsAt w v1 l1) (h2 : StrsAt w v2 l2) (hl : l1.length + l2.length ≤ 1000) :
    Calls Tryz.prog 144 #[.slice (some ⟨w.heap.size, 0, none⟩) 2 2] (w.alloc (.cells #[v1, v2] T)) (ConcatPost (l1 ++ l2) (w.alloc (.cells #[v1, v2] T))) :=
  concat_two w.heap.size 2 v1 v2 l1 l2 _ (by simp) (by rw [cell_of_row _ _ _ _ _ _ (heap_alloc_new w _)]; rfl) (by rw [cell_of_row _ _ _ _ _ _ (heap_alloc_new w _)]; rfl)
    (h1.below ((Below.refl _ _).alloc (Nat.le_refl _) _)) (h2.below ((Below.refl _ _).alloc (Nat.le_refl _) _)) hl
end Go.Proofs.YtpfaccpmgldkeaaGreatDoor
