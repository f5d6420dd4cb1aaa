/- Maps in memory: what a map's block holds, as a sorted list of pairs; lookup, store, delete, len, range. Over whatever program. -/
import Derived.Test.YtpfaccpmgldkeaaGreatDoorMod
import Derived.WalkKit
import Derived.WalkSpells
import Derived.MapKept
import Derived.Maps.RangeRun
import Derived.Lib.Hide
import Derived.BigQuiet
set_option linter.unusedVariables false
set_option linter.unusedSimpArgs false
namespace Go.Proofs.YtpfaccpmgldkeaaGreatDoor
open Go.RowKit Go.MapKept Go.ChangeMaps

/-- All that was there is as it was, but for the blocks of S. -/
structure Tch (S : Nat → Prop) (w w' : World) : Prop where
  os : w'.os = w.os
  tape : w'.tape = w.tape
  output : w'.output = w.output
  size : w.heap.size ≤ w'.heap.size
  block : ∀ k, k < w.heap.size → ¬ S k → w'.heap[k]? = w.heap[k]?

theorem Tch.refl (S : Nat → Prop) (w : World) : Tch S w w := ⟨rfl, rfl, rfl, Nat.le_refl _, fun _ _ _ => rfl⟩
theorem Tch.trans {S : Nat → Prop} {a b c : World} (h : Tch S a b) (k : Tch S b c) : Tch S a c :=
  ⟨k.os.trans h.os, k.tape.trans h.tape, k.output.trans h.output, Nat.le_trans h.size k.size, fun i hi hs => (k.block i (Nat.lt_of_lt_of_le hi h.size) hs).trans (h.block i hi hs)⟩
theorem Tch.mono {S S' : Nat → Prop} {a b : World} (h : Tch S a b) (hs : ∀ k, k < a.heap.size → S k → S' k) : Tch S' a b :=
  ⟨h.os, h.tape, h.output, h.size, fun k hk hn => h.block k hk fun hS => hn (hs k hk hS)⟩
theorem Tch.ofBelow {S : Nat → Prop} {a b : World} (h : Below a.heap.size a b) : Tch S a b :=
  ⟨h.os, h.tape, h.output, h.size, fun k hk _ => h.block k hk⟩
theorem Tch.below {S : Nat → Prop} {a b : World} {B : Nat} (h : Tch S a b) (hB : B ≤ a.heap.size) (hS : ∀ k, k < B → ¬ S k) : Below B a b :=
  ⟨h.os, h.tape, h.output, h.size, fun k hk => h.block k (Nat.lt_of_lt_of_le hk hB) (hS k hk)⟩
theorem Tch.alloc {S : Nat → Prop} {a w : World} (h : Tch S a w) (o : Obj) : Tch S a (w.alloc o) :=
  h.trans (Tch.ofBelow ((Below.refl _ _).alloc (Nat.le_refl _) o))
theorem Tch.drew {S : Nat → Prop} {a w : World} (h : Tch S a w) : Tch S a w.drew := ⟨h.os, h.tape, h.output, h.size, h.block⟩
theorem Tch.drewN {S : Nat → Prop} {a w : World} (h : Tch S a w) (n : Nat) : Tch S a (w.drewN n) := ⟨h.os, h.tape, h.output, h.size, h.block⟩
theorem Tch.setCell {S : Nat → Prop} {a w : World} (h : Tch S a w) {p : Addr} (hp : S p.block) (u : Value) : Tch S a (w.setCell p u) :=
  h.trans ⟨rfl, rfl, rfl, by simp [World.setCell], fun k _ hS => Below.heap_setCell _ _ _ _ (fun e => hS (e ▸ hp))⟩
/-- A store into a block that is new since a. -/
theorem Tch.setNew {S : Nat → Prop} {a w : World} (h : Tch S a w) {p : Addr} (hp : a.heap.size ≤ p.block) (u : Value) : Tch S a (w.setCell p u) :=
  ⟨h.os, h.tape, h.output, Nat.le_trans h.size (by simp [World.setCell]), fun k hk hS => (Below.heap_setCell _ _ _ _ (by omega)).trans (h.block k hk hS)⟩
theorem Tch.setBlock {S : Nat → Prop} {a w : World} (h : Tch S a w) {b : Nat} (hp : S b) (o : Obj) : Tch S a (ChangeMaps.setBlock w b o) :=
  h.trans ⟨rfl, rfl, rfl, by simp [ChangeMaps.setBlock], fun k _ hS => by
    have : b ≠ k := fun e => hS (e ▸ hp)
    simp [ChangeMaps.setBlock, this]⟩
theorem Tch.setBlockNew {S : Nat → Prop} {a w : World} (h : Tch S a w) {b : Nat} (hp : a.heap.size ≤ b) (o : Obj) : Tch S a (ChangeMaps.setBlock w b o) :=
  ⟨h.os, h.tape, h.output, Nat.le_trans h.size (by simp [ChangeMaps.setBlock]), fun k hk hS => by
    have : b ≠ k := by omega
    simp only [ChangeMaps.setBlock, Array.getElem?_setIfInBounds]
    rw [if_neg this]
    exact h.block k hk hS⟩
theorem Tch.grown {S : Nat → Prop} {a w w' : World} {row : Option Nat} (h : Tch S a w) (hg : w.grownBy w' row) (hr : ∀ k, row = some k → S k) : Tch S a w' :=
  h.trans ⟨hg.os, hg.tape, hg.output, hg.size, fun k hk hS => hg.block k hk (fun e => hS (hr k e.symm))⟩
theorem Tch.grownNew {S : Nat → Prop} {a w w' : World} {row : Option Nat} (h : Tch S a w) (hg : w.grownBy w' row) (hr : ∀ k, row = some k → a.heap.size ≤ k) : Tch S a w' :=
  ⟨hg.os.trans h.os, hg.tape.trans h.tape, hg.output.trans h.output, Nat.le_trans h.size hg.size,
   fun k hk hS => (hg.block k (Nat.lt_of_lt_of_le hk h.size) (fun e => by have := hr k e.symm; omega)).trans (h.block k hk hS)⟩
/-- A step in a later world that touches S alone. -/
theorem Tch.andNew {S T : Nat → Prop} {a b c : World} (h : Tch S a b) (k : Tch T b c) (hT : ∀ i, i < a.heap.size → T i → S i) : Tch S a c :=
  ⟨k.os.trans h.os, k.tape.trans h.tape, k.output.trans h.output, Nat.le_trans h.size k.size, fun i hi hs => (k.block i (Nat.lt_of_lt_of_le hi h.size) (fun ht => hs (hT i hi ht))).trans (h.block i hi hs)⟩

section
variable {κ ν : Type}

/-- A family of keys: one value for each, of the key's type. -/
structure Keys (d : TypeDesc) (kv : κ → Value) : Prop where
  inj : ∀ a b, kv a = kv b → a = b
  key : ∀ a, IsKey d (kv a)

/-- Block b of w is a map that holds l. -/
def MapAt (d : TypeDesc) (kv : κ → Value) (vv : ν → Value) (w : World) (b : Nat) (l : List (κ × ν)) : Prop :=
  ∃ es clock, w.heap[b]? = some (.map es clock) ∧ Stamped es clock ∧ (es.toList.map fun e => (e.key, e.val)).Perm (l.map fun p => (kv p.1, vv p.2))

variable {d : TypeDesc} {kv : κ → Value} {vv : ν → Value} {w : World} {b : Nat} {l : List (κ × ν)}

theorem MapAt.same {w' : World} (h : MapAt d kv vv w b l) (hb : w'.heap[b]? = w.heap[b]?) : MapAt d kv vv w' b l := by
  obtain ⟨es, clock, h1, h2⟩ := h
  exact ⟨es, clock, hb.trans h1, h2⟩
theorem MapAt.lt (h : MapAt d kv vv w b l) : b < w.heap.size := by
  obtain ⟨es, clock, h1, _⟩ := h
  exact (Array.getElem?_eq_some_iff.1 h1).1
theorem MapAt.new (d : TypeDesc) (kv : κ → Value) (vv : ν → Value) (w : World) : MapAt d kv vv (w.alloc (.map #[] 0)) w.heap.size ([] : List (κ × ν)) :=
  ⟨#[], 0, heap_alloc_new w _, ⟨by simp, by simp, by simp⟩, by simp⟩

theorem MapAt.len {es : Array MapEntry} (h : (es.toList.map fun e => (e.key, e.val)).Perm (l.map fun p => (kv p.1, vv p.2))) : es.size = l.length := by
  have := h.length_eq
  simpa using this

theorem keys_nodup (K : Keys d kv) {es : Array MapEntry} {clock : Nat} (hs : Stamped es clock) (h : (es.toList.map fun e => (e.key, e.val)).Perm (l.map fun p => (kv p.1, vv p.2))) : (l.map (·.1)).Nodup := by
  have h1 : (es.toList.map (·.key)).Perm (l.map fun p => kv p.1) := by
    have := h.map Prod.fst
    simpa [List.map_map, Function.comp_def] using this
  have h2 := h1.nodup_iff.1 hs.2.2
  have : (l.map fun p => kv p.1) = (l.map (·.1)).map kv := by simp [List.map_map, Function.comp_def]
  rw [this] at h2
  exact List.Pairwise.of_map kv (fun a b hne e => hne (by rw [e])) h2

theorem get_mem [DecidableEq κ] : ∀ {l : List (κ × ν)}, (l.map (·.1)).Nodup → ∀ {k : κ} {v : ν}, (k, v) ∈ l → M.get l k = some v := by
  intro l
  induction l with
  | nil => intro _ k v h; cases h
  | cons p l ih =>
    intro hn k v h
    simp only [List.map_cons, List.nodup_cons] at hn
    unfold M.get
    by_cases e : p.1 = k
    · simp only [List.find?_cons, e, decide_true, Option.map_some]
      rcases List.mem_cons.1 h with h | h
      · rw [← h]
      · exact absurd (List.mem_map.2 ⟨(k, v), h, rfl⟩) (e ▸ hn.1)
    · simp only [List.find?_cons, e, decide_false]
      rcases List.mem_cons.1 h with h | h
      · exact absurd (by rw [← h]) e
      · exact ih hn.2 h

theorem get_none [DecidableEq κ] : ∀ {l : List (κ × ν)} {k : κ}, (∀ v, (k, v) ∉ l) → M.get l k = none := by
  intro l k h
  unfold M.get
  rw [List.find?_eq_none.2]
  · rfl
  · intro p hp e
    simp only [decide_eq_true_eq] at e
    exact h p.2 (by rw [← e]; exact hp)

theorem mem_of_get [DecidableEq κ] : ∀ {l : List (κ × ν)} {k : κ} {v : ν}, M.get l k = some v → (k, v) ∈ l := by
  intro l k v h
  unfold M.get at h
  cases hf : l.find? fun p => decide (p.1 = k) with
  | none => simp [hf] at h
  | some p =>
    simp only [hf, Option.map_some, Option.some.injEq] at h
    have h1 := List.mem_of_find?_eq_some hf
    have h2 := List.find?_some hf
    simp only [decide_eq_true_eq] at h2
    rw [← h2, ← h]; exact h1

/-- What a search finds. -/
theorem MapAt.find [DecidableEq κ] (K : Keys d kv) {es : Array MapEntry} {clock : Nat} (hs : Stamped es clock) (h : (es.toList.map fun e => (e.key, e.val)).Perm (l.map fun p => (kv p.1, vv p.2))) (k : κ) :
    (Instr.findNow d (kv k) es.toList 0 = some none ∧ M.get l k = none ∧ ∀ e ∈ es.toList, e.key ≠ kv k) ∨
    ∃ j e v, Instr.findNow d (kv k) es.toList 0 = some (some (j, vv v)) ∧ M.get l k = some v ∧ es[j]? = some e ∧ e.key = kv k ∧ e.val = vv v := by
  have hk : ∀ x ∈ es.toList, IsKey d x.key := by
    intro x hx
    have : (x.key, x.val) ∈ (l.map fun p => (kv p.1, vv p.2)) := h.subset (List.mem_map.2 ⟨x, hx, rfl⟩)
    obtain ⟨p, _, hp⟩ := List.mem_map.1 this
    have hp1 : kv p.1 = x.key := congrArg Prod.fst hp
    rw [← hp1]
    exact K.key _
  have hn := keys_nodup K hs h
  rcases findNow_spec (K.key k) es.toList 0 hk with ⟨h1, h2⟩ | ⟨j, e, h1, h2, h3⟩
  · refine .inl ⟨h1, get_none fun v hv => ?_, h2⟩
    have : (kv k, vv v) ∈ (es.toList.map fun e => (e.key, e.val)) := h.symm.subset (List.mem_map.2 ⟨(k, v), hv, rfl⟩)
    obtain ⟨x, hx, hxe⟩ := List.mem_map.1 this
    exact h2 x hx (congrArg Prod.fst hxe)
  · have hmem : e ∈ es.toList := List.mem_of_getElem? h2
    have : (e.key, e.val) ∈ (l.map fun p => (kv p.1, vv p.2)) := h.subset (List.mem_map.2 ⟨e, hmem, rfl⟩)
    obtain ⟨p, hp, hpe⟩ := List.mem_map.1 this
    have hpe1 : kv p.1 = e.key := congrArg Prod.fst hpe
    have hpe2 : vv p.2 = e.val := congrArg Prod.snd hpe
    have hpk : p.1 = k := K.inj _ _ (hpe1.trans h3)
    refine .inr ⟨j, e, p.2, by rw [h1, ← hpe2]; simp, get_mem hn (by rw [← hpk]; exact hp), by simpa using h2, h3, hpe2.symm⟩

section runs
variable {P : Program} {T kt et : TypeId}

theorem run_lookup_some [DecidableEq κ] (K : Keys d kv) (hT : P.underlying T = some (.map kt et)) (hd : P.underlying kt = some d) (h : MapAt d kv vv w b l) {k : κ} {v : ν} (hg : M.get l k = some v) (ok : Bool) :
    (Instr.lookup T (.map (some b)) (kv k) ok).run P w = .ok (if ok then .tuple #[vv v, .bool true] else vv v) w := by
  obtain ⟨es, clock, h1, h2, h3⟩ := h
  rcases MapAt.find K h2 h3 k with ⟨_, hn, _⟩ | ⟨j, e, v', hf, hv, _⟩
  · rw [hg] at hn; cases hn
  · rw [hg] at hv
    cases hv
    simp [Instr.lookup, run_underlying hT, MapKept.run_getObj_map h1, run_checkKey hd (K.key k), run_findKey hd hf, Result.andThen]

theorem run_lookup_none [DecidableEq κ] (K : Keys d kv) (hT : P.underlying T = some (.map kt et)) (hd : P.underlying kt = some d) (h : MapAt d kv vv w b l) {k : κ} (hg : M.get l k = none) {z : Value} (hz : (zeroValue et).run P w = .ok z w) (ok : Bool) :
    (Instr.lookup T (.map (some b)) (kv k) ok).run P w = .ok (if ok then .tuple #[z, .bool false] else z) w := by
  obtain ⟨es, clock, h1, h2, h3⟩ := h
  rcases MapAt.find K h2 h3 k with ⟨hf, _, _⟩ | ⟨j, e, v', hf, hv, _⟩
  · simp [Instr.lookup, run_underlying hT, MapKept.run_getObj_map h1, run_checkKey hd (K.key k), run_findKey hd hf, Result.andThen, hz]
  · rw [hg] at hv; cases hv

theorem run_len_map (hT : P.underlying T = some (.map kt et)) (h : MapAt d kv vv w b l) (ty : TypeId) :
    (Builtin.len_ #[T] ty #[.map (some b)]).run P w = .ok (.int .i64 l.length) w := by
  obtain ⟨es, clock, h1, h2, h3⟩ := h
  have hl := MapAt.len h3
  simp [Builtin.len_, run_underlying hT, MapKept.run_getObj_map h1, Result.andThen, goInt, hl]

/- STORE AND DELETE -/
theorem put_new [DecidableEq κ] (lt : κ → κ → Bool) (k : κ) (v : ν) : ∀ l : List (κ × ν), M.get l k = none → (M.put lt k v l).Perm ((k, v) :: l)
  | [], _ => List.Perm.refl _
  | p :: l, h => by
    have hne : p.1 ≠ k := fun e => by simp [M.get, e] at h
    have h' : M.get l k = none := by simpa [M.get, hne] using h
    unfold M.put
    rw [if_neg hne]
    split
    · exact List.Perm.refl _
    · exact ((put_new lt k v l h').cons p).trans (List.Perm.swap _ _ _)

/-- Strictly rising keys. -/
def Srt (lt : κ → κ → Bool) (l : List (κ × ν)) : Prop := l.Pairwise fun a b => lt a.1 b.1 = true
structure LtOk (lt : κ → κ → Bool) : Prop where
  irr : ∀ a, lt a a = false
  trans : ∀ a b c, lt a b = true → lt b c = true → lt a c = true
  tot : ∀ a b, a ≠ b → lt a b = true ∨ lt b a = true

theorem put_old [DecidableEq κ] {lt : κ → κ → Bool} (O : LtOk lt) (k : κ) (v : ν) : ∀ l : List (κ × ν), Srt lt l → ∀ v0, M.get l k = some v0 → M.put lt k v l = l.map fun p => if p.1 = k then (k, v) else p
  | [], _, v0, h => by simp [M.get] at h
  | p :: l, hs, v0, h => by
    unfold Srt at hs
    rw [List.pairwise_cons] at hs
    unfold M.put
    by_cases e : p.1 = k
    · rw [if_pos e, List.map_cons, if_pos e]
      congr 1
      symm
      rw [List.map_congr_left (g := id)]
      · simp
      · intro q hq
        have hlt := hs.1 q hq
        have : q.1 ≠ k := fun e' => by rw [e, ← e', O.irr] at hlt; cases hlt
        simp [this]
    · rw [if_neg e, List.map_cons, if_neg e]
      have h' : M.get l k = some v0 := by simpa [M.get, e] using h
      have hm := mem_of_get h'
      have hlt : lt k p.1 = false := by
        have h1 := hs.1 _ hm
        rw [Bool.eq_false_iff]
        intro h2
        have := O.trans _ _ _ h1 h2
        rw [O.irr] at this
        cases this
      rw [hlt]
      simp only [Bool.false_eq_true, if_false]
      rw [put_old O k v l hs.2 v0 h']

theorem put_mem [DecidableEq κ] (lt : κ → κ → Bool) (k : κ) (v : ν) : ∀ l : List (κ × ν), ∀ q ∈ M.put lt k v l, q = (k, v) ∨ q ∈ l
  | [], q, h => by simp [M.put] at h; exact .inl h
  | p :: l, q, h => by
    unfold M.put at h
    split at h
    · rcases List.mem_cons.1 h with h | h
      · exact .inl h
      · exact .inr (List.mem_cons_of_mem _ h)
    · split at h
      · rcases List.mem_cons.1 h with h | h
        · exact .inl h
        · exact .inr h
      · rcases List.mem_cons.1 h with h | h
        · exact .inr (h ▸ List.mem_cons_self)
        · rcases put_mem lt k v l q h with h | h
          · exact .inl h
          · exact .inr (List.mem_cons_of_mem _ h)

theorem put_srt [DecidableEq κ] {lt : κ → κ → Bool} (O : LtOk lt) (k : κ) (v : ν) : ∀ l : List (κ × ν), Srt lt l → Srt lt (M.put lt k v l)
  | [], _ => by simp [M.put, Srt]
  | p :: l, hs => by
    have hs' := hs
    unfold Srt at hs
    rw [List.pairwise_cons] at hs
    unfold M.put
    by_cases e : p.1 = k
    · rw [if_pos e]
      unfold Srt
      rw [List.pairwise_cons]
      exact ⟨fun q hq => by have := hs.1 q hq; rw [e] at this; exact this, hs.2⟩
    · rw [if_neg e]
      by_cases hlt : lt k p.1 = true
      · rw [if_pos hlt]
        unfold Srt
        rw [List.pairwise_cons]
        refine ⟨fun q hq => ?_, hs'⟩
        rcases List.mem_cons.1 hq with h | h
        · rw [h]; exact hlt
        · exact O.trans _ _ _ hlt (hs.1 q h)
      · rw [if_neg hlt]
        unfold Srt
        rw [List.pairwise_cons]
        refine ⟨fun q hq => ?_, put_srt O k v l hs.2⟩
        rcases put_mem lt k v l q hq with h | h
        · rw [h]
          rcases O.tot p.1 k e with h1 | h1
          · exact h1
          · exact absurd h1 hlt
        · exact hs.1 q h

theorem del_srt [DecidableEq κ] {lt : κ → κ → Bool} (k : κ) {l : List (κ × ν)} (hs : Srt lt l) : Srt lt (M.del l k) := List.Pairwise.filter _ hs

theorem modify_eq_map {es : Array MapEntry} {key : Value} (hn : (es.toList.map (·.key)).Nodup) {j : Nat} {e : MapEntry} (hj : es[j]? = some e) (he : e.key = key) (f : MapEntry → MapEntry) [DecidablePred fun x : MapEntry => x.key = key] :
    (es.modify j f).toList = es.toList.map fun x => if x.key = key then f x else x := by
  apply List.ext_getElem?
  intro i
  simp only [Array.getElem?_toList, Array.getElem?_modify, List.getElem?_map]
  by_cases hij : j = i
  · subst hij
    simp [hj, he]
  · rw [if_neg hij]
    cases hi : es[i]? with
    | none => rfl
    | some x =>
      have hx : x.key ≠ key := by
        intro hx
        have h1 : (es.toList.map (·.key))[i]? = some key := by simp [hi, hx]
        have h2 : (es.toList.map (·.key))[j]? = some key := by simp [hj, he]
        obtain ⟨hi1, hi2⟩ := List.getElem?_eq_some_iff.1 h1
        obtain ⟨hj1, hj2⟩ := List.getElem?_eq_some_iff.1 h2
        rcases Nat.lt_or_gt_of_ne hij with hlt | hlt
        · exact List.pairwise_iff_getElem.1 hn _ _ hj1 hi1 hlt (hj2.trans hi2.symm)
        · exact List.pairwise_iff_getElem.1 hn _ _ hi1 hj1 hlt (hi2.trans hj2.symm)
      simp [hx]

theorem erase_eq_filter {es : Array MapEntry} {key : Value} (hn : (es.toList.map (·.key)).Nodup) {j : Nat} {e : MapEntry} (hj : es[j]? = some e) (he : e.key = key) [DecidablePred fun x : MapEntry => x.key = key] :
    (es.eraseIdxIfInBounds j).toList = es.toList.filter fun x => !decide (x.key = key) := by
  have hlt : j < es.size := (Array.getElem?_eq_some_iff.1 hj).1
  unfold Array.eraseIdxIfInBounds
  rw [dif_pos hlt, Array.toList_eraseIdx]
  have hsplit : es.toList = es.toList.take j ++ e :: es.toList.drop (j + 1) := by
    have h1 : es.toList[j]'(by simpa using hlt) = e := by
      have := (Array.getElem?_eq_some_iff.1 hj).2
      simpa using this
    conv => lhs; rw [← List.take_append_drop j es.toList]
    rw [List.drop_eq_getElem_cons (by simpa using hlt), h1]
  rw [List.eraseIdx_eq_take_drop_succ]
  have hk : ∀ x ∈ es.toList.take j ++ es.toList.drop (j + 1), x.key ≠ key := by
    rw [hsplit] at hn
    have hn2 : (e.key :: (es.toList.take j ++ es.toList.drop (j + 1)).map (·.key)).Nodup := by
      refine (List.Perm.nodup_iff ?_).1 hn
      simp only [List.map_append, List.map_cons]
      exact List.perm_middle
    rw [List.nodup_cons] at hn2
    intro x hx hxe
    exact hn2.1 (List.mem_map.2 ⟨x, hx, by rw [hxe, he]⟩)
  conv => rhs; rw [hsplit]
  rw [List.filter_append, List.filter_cons]
  simp only [he, decide_true, Bool.not_true, Bool.false_eq_true, if_false]
  rw [List.filter_eq_self.2 (fun x hx => by simpa using hk x (List.mem_append_left _ hx)), List.filter_eq_self.2 (fun x hx => by simpa using hk x (List.mem_append_right _ hx))]

open Classical in
theorem run_update [DecidableEq κ] {lt : κ → κ → Bool} (O : LtOk lt) (K : Keys d kv) (hT : P.underlying T = some (.map kt et)) (hd : P.underlying kt = some d) (h : MapAt d kv vv w b l) (hs : Srt lt l) (k : κ) (v : ν) :
    ∃ o, (Instr.mapUpdate T (.map (some b)) (kv k) (vv v)).run P w = .ok () (setBlock w b o) ∧ MapAt d kv vv (setBlock w b o) b (M.put lt k v l) := by
  obtain ⟨es, clock, h1, h2, h3⟩ := h
  rcases MapAt.find K h2 h3 k with ⟨hf, hn, hno⟩ | ⟨j, e, v', hf, hv, hj, hek, hev⟩
  · refine ⟨.map (es.push { key := kv k, val := vv v, born := clock }) (clock + 1), ?_, _, _, (heap_set h1).1, ?_, ?_⟩
    · simp [Instr.mapUpdate, run_underlying hT, MapKept.run_getObj_map h1, run_checkKey hd (K.key k), run_findKey hd hf, MapKept.run_setObj_map _ h1, Result.andThen, setBlock]
    · obtain ⟨s1, s2, s3⟩ := h2
      refine ⟨?_, ?_, ?_⟩
      · intro x hx
        simp only [Array.toList_push, List.mem_append, List.mem_singleton] at hx
        rcases hx with hx | hx
        · have := s1 x hx; omega
        · rw [hx]; exact Nat.lt_succ_self _
      · simp only [Array.toList_push, List.map_append, List.map_cons, List.map_nil]
        rw [List.nodup_append]
        refine ⟨s2, by simp, ?_⟩
        intro a ha c hc
        simp only [List.mem_singleton] at hc
        obtain ⟨x, hx, rfl⟩ := List.mem_map.1 ha
        have := s1 x hx
        omega
      · simp only [Array.toList_push, List.map_append, List.map_cons, List.map_nil]
        rw [List.nodup_append]
        refine ⟨s3, by simp, ?_⟩
        intro a ha c hc
        simp only [List.mem_singleton] at hc
        obtain ⟨x, hx, rfl⟩ := List.mem_map.1 ha
        rw [hc]
        exact hno x hx
    · simp only [Array.toList_push, List.map_append, List.map_cons, List.map_nil]
      exact (List.perm_append_comm.trans (h3.cons _)).trans ((put_new lt k v l hn).map _).symm
  · refine ⟨.map (es.modify j fun e => { e with key := kv k, val := vv v }) clock, ?_, _, _, (heap_set h1).1, ?_, ?_⟩
    · have hkey : ((es[j]?).map (·.key)).getD (kv k) = kv k := by simp [hj, hek]
      simp only [Instr.mapUpdate, Sem.run_bind, run_underlying hT, MapKept.run_getObj_map h1, run_checkKey hd (K.key k), run_findKey hd hf, Result.andThen, hkey, run_keyThatStays (K.key k)]
      exact MapKept.run_setObj_map _ h1
    · have hm := modify_eq_map h2.2.2 hj hek (fun e => { e with key := kv k, val := vv v })
      obtain ⟨s1, s2, s3⟩ := h2
      have e1 : (es.modify j fun e => { e with key := kv k, val := vv v }).toList.map (·.born) = es.toList.map (·.born) := by
        rw [hm, List.map_map]
        apply List.map_congr_left
        intro x _
        simp only [Function.comp_apply]
        split <;> rfl
      have e2 : (es.modify j fun e => { e with key := kv k, val := vv v }).toList.map (·.key) = es.toList.map (·.key) := by
        rw [hm, List.map_map]
        apply List.map_congr_left
        intro x _
        simp only [Function.comp_apply]
        split
        · rename_i hx; exact hx.symm
        · rfl
      refine ⟨?_, by rw [e1]; exact s2, by rw [e2]; exact s3⟩
      intro x hx
      have : x.born ∈ es.toList.map (·.born) := e1 ▸ List.mem_map.2 ⟨x, hx, rfl⟩
      obtain ⟨y, hy, hyx⟩ := List.mem_map.1 this
      rw [← hyx]; exact s1 y hy
    · rw [modify_eq_map h2.2.2 hj hek, put_old O k v l hs v' hv]
      have hp := h3.map (fun q : Value × Value => if q.1 = kv k then (kv k, vv v) else q)
      rw [List.map_map, List.map_map] at hp
      rw [List.map_map, List.map_map]
      refine List.Perm.trans (List.Perm.of_eq ?_) (hp.trans (List.Perm.of_eq ?_))
      · apply List.map_congr_left
        intro x _
        simp only [Function.comp_apply]
        split <;> simp_all
      · apply List.map_congr_left
        intro p _
        simp only [Function.comp_apply]
        by_cases e : p.1 = k
        · simp [e]
        · have : kv p.1 ≠ kv k := fun h => e (K.inj _ _ h)
          simp [e, this]

open Classical in
theorem run_delete [DecidableEq κ] (K : Keys d kv) (hT : P.underlying T = some (.map kt et)) (hd : P.underlying kt = some d) (h : MapAt d kv vv w b l) (k : κ) (T' ty : TypeId) :
    ∃ o, (Builtin.delete_ #[T, T'] ty #[.map (some b), kv k]).run P w = .ok (.tuple #[]) (setBlock w b o) ∧ MapAt d kv vv (setBlock w b o) b (M.del l k) := by
  obtain ⟨es, clock, h1, h2, h3⟩ := h
  rcases MapAt.find K h2 h3 k with ⟨hf, hn, hno⟩ | ⟨j, e, v', hf, hv, hj, hek, hev⟩
  · refine ⟨.map es clock, ?_, _, _, (heap_set h1).1, h2, ?_⟩
    · simp [Builtin.delete_, run_underlying hT, MapKept.run_getObj_map h1, run_checkKey hd (K.key k), run_findKey hd hf, MapKept.run_setObj_map _ h1, Result.andThen, setBlock]
    · have : M.del l k = l := by
        unfold M.del
        rw [List.filter_eq_self]
        intro p hp
        have hne : p.1 ≠ k := by
          intro e
          have hm := get_mem (keys_nodup K h2 h3) (k := p.1) (v := p.2) hp
          rw [e, hn] at hm
          cases hm
        simp [hne]
      rw [this]; exact h3
  · refine ⟨.map (es.eraseIdxIfInBounds j) clock, ?_, _, _, (heap_set h1).1, stamped_erase h2 j, ?_⟩
    · simp [Builtin.delete_, run_underlying hT, MapKept.run_getObj_map h1, run_checkKey hd (K.key k), run_findKey hd hf, MapKept.run_setObj_map _ h1, Result.andThen, setBlock]
    · rw [erase_eq_filter h2.2.2 hj hek]
      unfold M.del
      have hp := h3.filter (fun q : Value × Value => !decide (q.1 = kv k))
      rw [List.filter_map, List.filter_map] at hp
      refine List.Perm.trans (List.Perm.of_eq ?_) (hp.trans (List.Perm.of_eq ?_))
      · rfl
      · congr 1
        apply List.filter_congr
        intro p _
        simp only [Function.comp_apply]
        by_cases e : p.1 = k
        · simp [e]
        · have : kv p.1 ≠ kv k := fun h => e (K.inj _ _ h)
          simp [e, this]

end runs
end

end Go.Proofs.YtpfaccpmgldkeaaGreatDoor
