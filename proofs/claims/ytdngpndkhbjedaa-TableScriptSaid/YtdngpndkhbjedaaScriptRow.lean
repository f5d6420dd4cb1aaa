/-
  Whatever list of acts is handed in, TableScript returns true: of at most eighty acts each call of the table answers as the document's own table does, and leaves the same descriptors; the argument reads as it did.
-/
import Derived.Test.YtdngpndkhbjedaaH
import Derived.Test.YtdngpndkhbjedaaPost
import Derived.Test.YtdngpndkhbjedaaSl
import Derived.WalkKit
import Derived.ProofKit
import Derived.OpenShut
namespace Go.Proofs.Ytdngpndkhbjedaa.tableScript
open Go.ChangeShapes Go.WideShapes Go.ChangeAt Go.RowKit

theorem own : ownKnob Try.prog.godebug = none := by kernel_rfl
theorem laidOut : laidOutB Try.prog = true := by kernel_rfl

theorem trod_int_value {H : Type} {enc : TypeId × Value → H} {P : Program} {w : World} {base : Nat} {spare : Nat → Bool} {held : Bool} {n : Nat} {t : TypeId} {v : Value} {y : DataW H × List MemPlace}
    (ht : P.underlying t = some (.int .i64)) (h : DataW.trod enc P w base spare held n t [v] = some y) : ∃ x, v = .int .i64 x := by
  obtain ⟨x, hx, _⟩ := DataW.trod_int ht h
  exact ⟨x, by simpa using hx⟩

theorem acts_arg {H : Type} {enc : TypeId × Value → H} {W : World} {base : Nat} {v : Value} {d : DataW H} {p : List MemPlace} (hv : Value.okWide Try.prog W .any base 22 v)
    (h : DataW.Trod enc Try.prog W 0 (fun _ => true) true 22 v d p) : ∃ l, ActsArg W v l ∧ l.length ≤ 9223372036854775807 := by
  obtain ⟨a0, len, cap, rfl⟩ := okWide_slice Try.underlying22 hv
  obtain ⟨fuel, hf⟩ := h
  rcases open_slice_fields Try.underlying22 Try.underlying33 (by kernel_rfl) (by kernel_rfl) hf with ⟨hcs, hx⟩ | ⟨a, len', cap', m, D, Pl, hcs, _, hl, hm, hmm, hx, hcell⟩
  · simp [Value.cells] at hcs
    obtain ⟨rfl, rfl, rfl⟩ := hcs
    exact ⟨[], Or.inl ⟨_, _, rfl, rfl⟩, by simp⟩
  · simp [Value.cells] at hcs
    obtain ⟨rfl, rfl, rfl⟩ := hcs
    simp only [if_true] at hmm
    unfold maxLen at hm
    by_cases hl0 : len = 0
    · subst hl0
      exact ⟨[], Or.inl ⟨_, _, rfl, rfl⟩, by simp⟩
    · obtain ⟨b, off, spot⟩ := a
      have hspot : spot = none := by
        obtain ⟨ys, n, _, _, _, hf0⟩ := hcell 0 (by omega)
        obtain ⟨v, y, hc, _, _⟩ := hf0 0 _ rfl
        simpa [Addr.add] using World.cell?_spot hc
      subst hspot
      have each : ∀ i, ∃ x : Int × Int × Int × Int, i < len → W.cell? ⟨b, off + i * 4, none⟩ = some (.int .i64 x.1) ∧ W.cell? ⟨b, off + i * 4 + 1, none⟩ = some (.int .i64 x.2.1) ∧ W.cell? ⟨b, off + i * 4 + 2, none⟩ = some (.int .i64 x.2.2.1) ∧ W.cell? ⟨b, off + i * 4 + 3, none⟩ = some (.int .i64 x.2.2.2) := by
        intro i
        by_cases hi : i < len
        · obtain ⟨ys, n, _, _, _, hf0⟩ := hcell i (by omega)
          have one : ∀ j f, (Try.prog.underlying 33).bind (fun t => match t with | .struct fs => fs[j]? | _ => none) = some f → f.type = 3 → ∃ x : Int, W.cell? ⟨b, off + i * 4 + j, none⟩ = some (.int .i64 x) := by
            intro j f hj ht
            rw [Try.underlying33] at hj
            obtain ⟨v, y, hc, _, hy⟩ := hf0 j f hj
            rw [Addr.add_lit] at hc
            rw [ht] at hy
            obtain ⟨x, hx⟩ := trod_int_value Try.underlying3 hy
            exact ⟨x, by rw [← hx, ← hc]; congr 2; simp; omega⟩
          obtain ⟨x0, h0⟩ := one 0 _ (by rw [Try.underlying33]; rfl) rfl
          obtain ⟨x1, h1⟩ := one 1 _ (by rw [Try.underlying33]; rfl) rfl
          obtain ⟨x2, h2⟩ := one 2 _ (by rw [Try.underlying33]; rfl) rfl
          obtain ⟨x3, h3⟩ := one 3 _ (by rw [Try.underlying33]; rfl) rfl
          exact ⟨(x0, x1, x2, x3), fun _ => ⟨h0, h1, h2, h3⟩⟩
        · exact ⟨(0, 0, 0, 0), fun h => absurd h hi⟩
      have hlen : ((List.range len).map fun i => Classical.choose (each i)).length = len := by simp
      refine ⟨(List.range len).map fun i => Classical.choose (each i), Or.inr ⟨b, off, cap, by rw [hlen], fun j x hx => ?_⟩, by rw [hlen]; omega⟩
      rw [List.getElem?_map] at hx
      by_cases hj : j < len
      · rw [List.getElem?_range hj] at hx
        simp only [Option.map_some, Option.some.injEq] at hx
        subst hx
        exact Classical.choose_spec (each j) hj
      · rw [List.getElem?_eq_none (by simpa using hj)] at hx
        cases hx

set_option maxRecDepth 100000 in
theorem lifted (os : Os) (started : os.Started) (H : Type) (enc : TypeId × Value → H) :
    ReturnsInHanded {} Try.checked os 3 .any (Rows.tableScriptSpec.pre6 enc Try.prog Try.f3 Rows.tableScriptRow.domain false) (Rows.tableScriptSpec.post enc Try.prog Try.f3 false true false false) := by
  refine returnsInHanded_of_change (C := Try.checked) own started (by kernel_rfl) Try.func3
    (ChangeSpec.witness6 (enc := enc) (C := Try.checked) false ⟨#[], #[.slice none 0 0], []⟩ 8 (by kernel_rfl) (by kernel_rfl) (by kernel_rfl) (by kernel_rfl)) ?_
  intro W base args ds gs before hval0 hW hcnd _
  have hval : ∀ (j : Nat) t v, Try.f3.params[j]? = some t → args[j]? = some v → Value.okWide Try.prog W .any base t v := hval0
  have hW' := hW
  obtain ⟨p, q, hA0, hV, rfl, hfz, hnd⟩ := hW
  have hA : DataW.TrodAll enc Try.prog W 0 (fun _ => true) true Try.f3.params.toList args.toList ds p := hA0
  rw [Try.params3] at hA hval
  obtain ⟨v0, vs0, d0, ds0, p0, q0, hargs, rfl, rfl, h0, r0⟩ := trodAll_cons hA
  obtain ⟨rfl, rfl, rfl⟩ := trodAll_nil r0
  obtain rfl : args = #[v0] := by cases args; simp_all
  obtain ⟨rfl, rfl⟩ := trodVars_none hV
  have h0k := h0
  clear hA0 hval0
  simp only [List.append_nil] at hW'
  have hlt0 : ∀ x ∈ p0, x.block < W.heap.size := fun x hx => by simpa using hW'.lt x (by simp [hx])
  obtain ⟨l, hl, hb⟩ := acts_arg (hval 0 22 v0 rfl rfl) h0
  refine (script_walk v0 l W hl hb).mono fun e W' ⟨he, hg⟩ => ?_
  subst he
  exact ⟨_, rfl, post_of_below (pa := p0) (pv := []) hW' (fun _ _ _ => (trodAll_cons_mk (shut_bool Try.underlying4 _) trodAll_mk0))
    (fun sp hsp => by
      have k0 := WideElems.Trod_stays (sp' := sp) laidOut (by kernel_rfl) (of_decide_eq_true (by kernel_rfl)) h0k (fun x hx => hg.same (hlt0 x hx)) (fun x hx => hsp x (by simp [hx]))
      have k := trodAll_cons_mk k0 trodAll_mk0
      simp only [List.append_nil] at k
      exact k)
    (fun _ _ => rfl) (by simp) hg (ok_one (by kernel_rfl) rfl (okWide_bool_mk Try.underlying4 _))⟩

theorem over : Rows.tableScriptRow.holds Try.pinned (OpenSpec.ofChange Rows.tableScriptSpec) :=
  OpenClaim.holds_of_wide 3 Try.f3 rfl rfl rfl rfl rfl rfl rfl ⟨rfl, rfl, rfl, rfl, rfl⟩ rfl rfl rfl rfl rfl (by kernel_rfl) Try.func3 (by kernel_rfl)
    (of_decide_eq_true (by kernel_rfl)) (by unfold Func.isWrapper; first | (rw [if_pos (by decide +kernel)]; kernel_rfl) | (rw [if_neg (by decide +kernel)]; exact ⟨rfl, rfl⟩))
    (fun os started H enc _ => lifted os started H enc)

/-- ████ THE STATEMENT ████ -/
theorem proved : Rows.TableScriptSaid :=
  over
#print axioms proved
end Go.Proofs.Ytdngpndkhbjedaa.tableScript
