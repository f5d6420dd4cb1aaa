/- Maps in memory, at the operations: range, next, entry, store, delete. Over whatever program. -/
import Derived.Test.YtpfaccpmgldkeaaGreatDoorMap
import Derived.Maps.RangeWalk
set_option linter.unusedVariables false
set_option linter.unusedSimpArgs false
namespace Go.Proofs.YtpfaccpmgldkeaaGreatDoor
open Go.RowKit Go.MapKept Go.ChangeMaps

section
variable {κ ν : Type} {d : TypeDesc} {kv : κ → Value} {vv : ν → Value} {w : World} {b r : Nat} {l left : List (κ × ν)}

/-- A loop over a map is under way: which pairs are still to come. -/
def IterAt (kv : κ → Value) (vv : ν → Value) (w : World) (r b : Nat) (l left : List (κ × ν)) : Prop :=
  ∃ es clock since seen c0, w.heap[b]? = some (.map es clock) ∧ Stamped es clock ∧ (es.toList.map fun e => (e.key, e.val)).Perm (l.map fun p => (kv p.1, vv p.2)) ∧
    w.heap[r]? = some (.mapIter (some b) since seen c0) ∧ (∀ x ∈ es.toList, x.born < since) ∧ since ≤ c0 ∧ since ≤ clock ∧ ((leftOf es seen).toList.map fun e => (e.key, e.val)).Perm (left.map fun p => (kv p.1, vv p.2))

theorem IterAt.lt (h : IterAt kv vv w r b l left) : r < w.heap.size := by
  obtain ⟨es, clock, since, seen, c0, _, _, _, hr, _⟩ := h
  exact (Array.getElem?_eq_some_iff.1 hr).1
theorem IterAt.ltMap (h : IterAt kv vv w r b l left) : b < w.heap.size := by
  obtain ⟨es, clock, since, seen, c0, hb, _⟩ := h
  exact (Array.getElem?_eq_some_iff.1 hb).1
theorem IterAt.same {w' : World} (h : IterAt kv vv w r b l left) (hr : w'.heap[r]? = w.heap[r]?) (hb : w'.heap[b]? = w.heap[b]?) : IterAt kv vv w' r b l left := by
  obtain ⟨es, clock, since, seen, c0, h1, h2, h3, h4, h5⟩ := h
  exact ⟨es, clock, since, seen, c0, hb.trans h1, h2, h3, hr.trans h4, h5⟩
theorem IterAt.map (h : IterAt kv vv w r b l left) : MapAt d kv vv w b l := by
  obtain ⟨es, clock, since, seen, c0, h1, h2, h3, _⟩ := h
  exact ⟨es, clock, h1, h2, h3⟩
theorem IterAt.ne (h : IterAt kv vv w r b l left) : r ≠ b := by
  obtain ⟨es, clock, since, seen, c0, h1, _, _, h4, _⟩ := h
  intro e
  rw [e, h1] at h4
  cases h4

theorem left_none (es : Array MapEntry) : leftOf es #[] = es := by
  unfold leftOf
  simp

theorem left_push {es : Array MapEntry} {seen : Array Nat} {e : MapEntry} (hn : (es.toList.map (·.born)).Nodup) (he : e ∈ (leftOf es seen).toList) : (leftOf es seen).toList.Perm (e :: (leftOf es (seen.push e.born)).toList) := by
  have h1 : (leftOf es (seen.push e.born)).toList = (leftOf es seen).toList.filter fun x => !decide (x.born = e.born) := by
    unfold leftOf
    rw [Array.toList_filter, Array.toList_filter, List.filter_filter]
    apply List.filter_congr
    intro x _
    rw [contains_push]
    by_cases h : x.born = e.born <;> simp [h]
  rw [h1]
  have hn2 : ((leftOf es seen).toList.map (·.born)).Nodup := by
    unfold leftOf
    rw [Array.toList_filter]
    exact hn.sublist (List.filter_sublist.map _)
  obtain ⟨s, t, hst⟩ := List.append_of_mem he
  rw [hst] at hn2 ⊢
  have hp : (s.map (·.born) ++ e.born :: t.map (·.born)).Nodup := by simpa using hn2
  rw [List.nodup_append] at hp
  obtain ⟨p1, p2, p3⟩ := hp
  rw [List.nodup_cons] at p2
  rw [List.filter_append, List.filter_cons]
  simp only [decide_true, Bool.not_true, Bool.false_eq_true, if_false]
  rw [List.filter_eq_self.2 (fun x hx => by
    have := p3 x.born (List.mem_map.2 ⟨x, hx, rfl⟩) e.born List.mem_cons_self
    simpa using this), List.filter_eq_self.2 (fun x hx => by
    have : x.born ≠ e.born := fun h => p2.1 (h ▸ List.mem_map.2 ⟨x, hx, rfl⟩)
    simpa using this)]
  exact List.perm_middle

section laws
variable {P : Program} {ops : Array Oper} {rest : List Oper} {o : Oper} {a : Act} {Q : Exit → Act → World → Prop}

theorem wpList_range_mine (hg : o.guard = none) (m : Operand) (t : TypeId) (hop : o.op = Op.range t m) (k e : TypeId) (ht : P.underlying t = some (.map k e)) (b : Nat) (l : List (κ × ν))
    (hm : a.eval m = .map (some b)) (h : MapAt d kv vv w b l)
    (hK : ∀ w', IterAt kv vv w' w.heap.size b l l → Below w.heap.size w w' → wpList P ops Q rest (a.put o.dst (.pointer (some ⟨w.heap.size, 0, none⟩))) w') :
    wpList P ops Q (o :: rest) a w := by
  refine wpList_plain hg fun K' hK' => ?_
  have hlt := h.lt
  obtain ⟨es, clock, h1, h2, h3⟩ := h
  have hrun := run_range_map w t k e b es clock ht h1
  unfold Oper.wp
  simp [execOp, hop, hm, hrun, Result.andThen]
  refine hK' _ _ (hK _ ⟨es, clock, clock, #[], clock, ((MapKept.heap_alloc w _).2 b hlt).trans h1, h2, h3, (MapKept.heap_alloc w _).1, h2.1, Nat.le_refl _, Nat.le_refl _, ?_⟩ ((Below.refl _ _).alloc (Nat.le_refl _) _))
  rw [left_none]
  exact h3

theorem wpList_next_mine (hg : o.guard = none) (it : Operand) (hop : o.op = Op.next it false) (r b : Nat) (l left : List (κ × ν))
    (hit : a.eval it = .pointer (some ⟨r, 0, none⟩)) (h : IterAt kv vv w r b l left)
    (hDone : left = [] → wpList P ops Q rest (a.put o.dst (.tuple #[.bool false])) w)
    (hMore : ∀ (x : κ) (c : ν) (left' : List (κ × ν)) (w' : World), left.Perm ((x, c) :: left') → IterAt kv vv w' r b l left' → w.grownBy w' (some r) → w'.heap.size = w.heap.size →
      (Instr.entry (.pointer (some ⟨r, 0, none⟩))).run P w' = .ok (.tuple #[kv x, vv c]) w' → wpList P ops Q rest (a.put o.dst (.tuple #[.bool true, kv x, vv c])) w') :
    wpList P ops Q (o :: rest) a w := by
  refine wpList_plain hg fun K' hK' => ?_
  have hne := h.ne
  obtain ⟨es, clock, since, seen, c0, h1, h2, h3, h4, h5, h6, h7, h8⟩ := h
  unfold Oper.wp
  rcases run_next_at (P := P) w o.type r b since c0 seen es clock h4 h1 h5 h6 with ⟨h0, hrun⟩ | ⟨e, he, w1, hal, hrun⟩
  · simp [execOp, hop, hit, hrun, Result.andThen]
    refine hK' _ _ (hDone ?_)
    have := h8.length_eq
    simp only [List.length_map, Array.length_toList, h0] at this
    exact List.eq_nil_of_length_eq_zero this.symm
  · have hp := left_push h2.2.1 he
    have hmem : (e.key, e.val) ∈ (left.map fun p => (kv p.1, vv p.2)) := h8.subset (List.mem_map.2 ⟨e, he, rfl⟩)
    obtain ⟨⟨x, c⟩, hp1, hp2⟩ := List.mem_map.1 hmem
    have ek : kv x = e.key := congrArg Prod.fst hp2
    have ev : vv c = e.val := congrArg Prod.snd hp2
    obtain ⟨s, t, hst⟩ := List.append_of_mem hp1
    have hpl : left.Perm ((x, c) :: (s ++ t)) := by rw [hst]; exact List.perm_middle
    have hr1 : w1.heap[r]? = some (.mapIter (some b) since seen c0) := by rcases hal with rfl | rfl <;> exact h4
    have hb1 : w1.heap[b]? = some (.map es clock) := by rcases hal with rfl | rfl <;> exact h1
    have hset := heap_set (o' := .mapIter (some b) since (seen.push e.born) clock) hr1
    have hb' : (setBlock w1 r (.mapIter (some b) since (seen.push e.born) clock)).heap[b]? = some (.map es clock) := (hset.2 b (fun e1 => hne e1.symm)).trans hb1
    have hen := run_entry_at (P := P) _ r b since seen es clock e hset.1 hb' (mem_left he).1 h2.2.1
    simp [execOp, hop, hit, hrun, Result.andThen]
    rw [← ek, ← ev]
    refine hK' _ _ (hMore x c (s ++ t) _ hpl ⟨es, clock, since, seen.push e.born, clock, hb', h2, h3, hset.1, h5, h7, h7, ?_⟩ ?_ ?_ (by rw [ek, ev]; exact hen))
    · have q1 := hp.map fun e => (e.key, e.val)
      have q2 := hpl.map fun p : κ × ν => (kv p.1, vv p.2)
      have q3 := (q1.symm.trans h8).trans q2
      simp only [List.map_cons, ek, ev] at q3
      exact List.Perm.cons_inv q3
    · rcases hal with rfl | rfl <;> exact ⟨rfl, rfl, rfl, by simp [setBlock], fun i _ hi => hset.2 i (fun e1 => hi (by rw [e1]))⟩
    · rcases hal with rfl | rfl <;> simp [setBlock]

theorem wpList_update_mine [DecidableEq κ] {lt : κ → κ → Bool} (O : LtOk lt) (K : Keys d kv) (hg : o.guard = none) (m xk xv : Operand) (t : TypeId) (hop : o.op = Op.mapUpdate t m xk xv) (k e : TypeId) (ht : P.underlying t = some (.map k e)) (hd : P.underlying k = some d)
    (b : Nat) (l : List (κ × ν)) (x : κ) (v : ν) (hm : a.eval m = .map (some b)) (hk : a.eval xk = kv x) (hv : a.eval xv = vv v) (h : MapAt d kv vv w b l) (hs : Srt lt l)
    (hK : ∀ ob, MapAt d kv vv (setBlock w b ob) b (M.put lt x v l) → wpList P ops Q rest (a.put o.dst undef) (setBlock w b ob)) :
    wpList P ops Q (o :: rest) a w := by
  refine wpList_plain hg fun K' hK' => ?_
  obtain ⟨ob, hrun, hat⟩ := run_update (P := P) (T := t) (kt := k) (et := e) O K ht hd h hs x v
  unfold Oper.wp
  simp [execOp, hop, hm, hk, hv, hrun, Result.andThen]
  exact hK' _ _ (hK ob hat)

theorem wpList_delete_mine [DecidableEq κ] (K : Keys d kv) (hg : o.guard = none) (m xk : Operand) (t k : TypeId) (hop : o.op = Op.call { callee := Callee.builtin Builtin.delete, args := #[m, xk], argTypes := #[t, k] }) (e : TypeId) (ht : P.underlying t = some (.map k e)) (hd : P.underlying k = some d)
    (b : Nat) (l : List (κ × ν)) (x : κ) (hm : a.eval m = .map (some b)) (hk : a.eval xk = kv x) (h : MapAt d kv vv w b l)
    (hK : ∀ ob, MapAt d kv vv (setBlock w b ob) b (M.del l x) → wpList P ops Q rest (a.put o.dst (.tuple #[])) (setBlock w b ob)) :
    wpList P ops Q (o :: rest) a w := by
  refine wpList_plain hg fun K' hK' => ?_
  obtain ⟨ob, hrun, hat⟩ := run_delete (P := P) (T := t) (kt := k) (et := e) K ht hd h x k o.type
  unfold Oper.wp
  simp [execOp, hop, resolve, invoke, builtin, hm, hk, hrun, Result.andThen]
  exact hK' _ _ (hK ob hat)

end laws
end
end Go.Proofs.YtpfaccpmgldkeaaGreatDoor
