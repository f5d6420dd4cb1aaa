/-
  Whatever number and whatever bool are handed in, TreeLong returns true: directories one in the other go as deep as may be, and one more is told to be too long, however it is asked for; its arguments read as they did. Condition: the two listed tables of unicode/utf8 hold at the call's beginning what the program's text lays there (the card ties them to that text).
-/
import Derived.Test.YtpfaccpmgldkeaaGreatDoorLong
import Derived.Test.YtpfaccpmgldkeaaGreatDoorRowk
import Derived.Test.YtpfaccpmgldkeaaGreatDoorTie
import Derived.Test.YtpfaccpmgldkeaaGreatDoorCards
import Derived.WalkKit
import Derived.ProofKit
import Derived.OpenShut
import Derived.Lay
import Derived.LaidOnce
import Derived.SevenTiedAt
set_option linter.unusedVariables false
set_option linter.unusedSimpArgs false
namespace Go.Proofs.YtpfaccpmgldkeaaGreatDoor.treeLong
open Go.ChangeShapes Go.WideShapes Go.ChangeAt Go.RowKit

set_option maxRecDepth 100000
noncomputable def lw (os : Os) : World := (World.laidAll Tryz.prog os Rows.treeLongRow.laid).forCall (fun _ _ => 0) ⟨#[], #[.int .i64 0, .bool false], []⟩
theorem w1 (os : Os) : (lw os).Shaped Tryz.prog := World.shaped_of_ZipB (by kernel_rfl) (by kernel_rfl)
theorem w2 (os : Os) : Input.okWideB Tryz.checked.prog (lw os) 8 ⟨#[], #[.int .i64 0, .bool false], []⟩ = true := by kernel_rfl
theorem w3 (os : Os) (H : Type) (enc : TypeId × Value → H) : Rows.treeLongSpec.preB enc Tryz.checked.prog Tryz.f8 [] false (lw os).memory #[.int .i64 0, .bool false] 8 = true := by kernel_rfl
theorem w4 (os : Os) (H : Type) (enc : TypeId × Value → H) : Rows.treeLongSpec.sizedB enc Tryz.checked.prog Tryz.f8 false (lw os).memory #[.int .i64 0, .bool false] 8 = true := by kernel_rfl
theorem w5 (os : Os) : laidMetH Tryz.prog Rows.treeLongRow.laid (lw os).memory := by
  rw [MakeChecks.laidMetH_plain _ _ _ (by kernel_rfl)]
  exact laidMet_laidAll _ (by kernel_rfl) (by kernel_rfl)
def X (w : World) (_ : Array Value) : Prop := laidMetH Tryz.prog Rows.treeLongRow.laid w
theorem X_heap (w w' : World) (args : Array Value) (hh : w.heap = w'.heap) (h : X w args) : X w' args := by
  unfold X at h ⊢
  exact h.of_heap hh
theorem wit (os : Os) (H : Type) (enc : TypeId × Value → H) : ∃ (w : World) (tape : Tape) (i : Input), w.os = os ∧ (w.forCall tape i).Shaped Tryz.checked.prog ∧ i.vars = [] ∧ Input.okWide Tryz.checked.prog (w.forCall tape i) .any w.heap.size 8 i ∧
      ((Rows.treeLongSpec.pre enc Tryz.checked.prog Tryz.f8 [] false (w.forCall tape i).memory i.args ∧ X (w.forCall tape i).memory i.args) ∧ sizedMet enc Tryz.checked.prog Tryz.f8 (OpenSpec.ofChange Rows.treeLongSpec) false (w.forCall tape i).memory i.args) ∧ ({ modest := false } : Assume).holds Tryz.checked.prog (lone (Frame.enter Tryz.checked.prog 8 i.args .normal) [] (w.forCall tape i)) :=
  ChangeSpec.witness_shaped (enc := enc) (C := Tryz.checked) (os := os) (X := X) false (World.laidAll Tryz.prog os Rows.treeLongRow.laid) #[.int .i64 0, .bool false] 8 (World.laidAll_os _ _ _) (w1 os) (w2 os) (w3 os H enc) (w4 os H enc) (w5 os)
#print axioms wit

set_option maxHeartbeats 400000 in
theorem lifted (os : Os) (started : os.Started) (H : Type) (enc : TypeId × Value → H) :
    ReturnsInHanded {} Tryz.checked os 8 .any (fun w args => (Rows.treeLongSpec.pre enc Tryz.prog Tryz.f8 [] false w args ∧ X w args) ∧ sizedMet enc Tryz.prog Tryz.f8 (OpenSpec.ofChange Rows.treeLongSpec) false w args)
      (Rows.treeLongSpec.post enc Tryz.prog Tryz.f8 false true false false) := by
  refine returns_of_shape (C := Tryz.checked) (X := X) X_heap own_knob started (by kernel_rfl) Tryz.func8 (wit os H enc) ?_
  intro W base args ds gs before hval0 hW _ hsh
  have hval : ∀ (j : Nat) t v, Tryz.f8.params[j]? = some t → args[j]? = some v → Value.okWide Tryz.prog W .any base t v := hval0
  have hW' := hW
  obtain ⟨p, q, hA0, hV, rfl, hfz, hnd⟩ := hW
  have hA : DataW.TrodAll enc Tryz.prog W 0 (fun _ => true) true Tryz.f8.params.toList args.toList ds p := hA0
  rw [Tryz.params8] at hA hval
  obtain ⟨v0, vs0, d0, ds0, p0, q0, hargs, rfl, rfl, h0, r0⟩ := trodAll_cons hA
  obtain ⟨v1, vs1, d1, ds1, p1, q1, rfl, rfl, rfl, h1, r1⟩ := trodAll_cons r0
  obtain ⟨rfl, rfl, rfl⟩ := trodAll_nil r1
  obtain rfl : args = #[v0, v1] := by cases args; simp_all
  obtain ⟨rfl, rfl⟩ := trodVars_none hV
  obtain ⟨a0, rfl, rfl, rfl, w0⟩ := open_int Tryz.underlying3 (hval 0 3 v0 rfl rfl) h0
  obtain ⟨a1, rfl, rfl, rfl⟩ := open_bool Tryz.underlying4 (hval 1 4 v1 rfl rfl) h1
  clear hA0 hval0
  simp only [List.append_nil] at hW'
  refine (long_walk a0 a1 W (gmax_of_shape hsh)).mono fun e W' ⟨he, hg⟩ => ?_
  subst he
  refine ⟨_, rfl, ?_⟩
  have hW2 : DataW.Whole enc Tryz.prog Tryz.f8.params.toList Rows.treeLongSpec.vars false W #[Value.int .i64 a0, Value.bool a1].toList [.lit (.int .i64 a0), .lit (.bool a1)] [] [] := hW'
  have hres : ∀ (b : Nat) (sp : Nat → Bool) (hd : Bool), DataW.TrodAll enc Tryz.prog W' b sp hd [4] [Value.bool true] [DataW.lit (.bool true)] [] := fun _ _ _ => trodAll_cons_mk (shut_bool Tryz.underlying4 _) trodAll_mk0
  have hag : ∀ (sp : Nat → Bool), DataW.TrodAll enc Tryz.prog W' 0 sp true [3, 4] [Value.int .i64 a0, Value.bool a1] [.lit (.int .i64 a0), .lit (.bool a1)] [] := fun _ => trodAll_cons_mk (shut_int Tryz.underlying3 w0) (trodAll_cons_mk (shut_bool Tryz.underlying4 _) trodAll_mk0)
  have hok : ∀ (j : Nat) (t : TypeId) (r : Value), Tryz.f8.resultTypes[j]? = some t → ((Value.bool true).resultList Tryz.f8.resultTypes.size)[j]? = some r → Value.okWide Tryz.prog W' .any 0 t r := ok_one (by kernel_rfl) rfl (okWide_bool_mk Tryz.underlying4 _)
  exact post_of_below (P := Tryz.prog) (f := Tryz.f8) (s := Rows.treeLongSpec) (pa := []) (pv := []) hW2 hres (fun sp _ => hag sp) (fun _ _ => rfl) rfl hg hok

theorem over : Rows.TreeLongSaid :=
  OpenClaim.holds_of_wide 8 Tryz.f8 rfl rfl rfl rfl rfl rfl rfl ⟨rfl, rfl, rfl, rfl, rfl⟩ rfl rfl rfl rfl rfl (by kernel_rfl) Tryz.func8 (by kernel_rfl)
    (of_decide_eq_true (by kernel_rfl)) (by unfold Func.isWrapper; first | (rw [if_pos (by decide +kernel)]; kernel_rfl) | (rw [if_neg (by decide +kernel)]; exact ⟨rfl, rfl⟩))
    (fun os started H enc _ => lifted os started H enc)

theorem card_holds : Rows.TreeLongCardSaid :=
  Claim7.holds_tied_plain_at .later [] [.data, .pinned] true (true, "187f05d3b9b999c89bb49891de94360b9c36fe0e4134066031f865856c00c0c8") true over (fun _ h => by cases h) (by kernel_rfl) (fun _ h => by cases h) treeLong_row_tie rfl ⟨rfl, rfl⟩ (by kernel_rfl) rfl
    (fun f fn hf hfn => by
      obtain rfl : f = 8 := Option.some.inj ((show Tryz.prog.funcNamed "purlin/purlinlaw14.TreeLong" = some 8 by kernel_rfl).symm.trans hf) |>.symm
      obtain rfl : fn = Tryz.f8 := (Option.some.inj (Tryz.func8.symm.trans hfn)).symm
      exact ⟨by kernel_rfl, fun j t ht => by
        rw [Tryz.params8] at ht
        have hm : t ∈ [3, 4] := by simpa using Array.mem_of_getElem? ht
        have hall : ([3, 4].all fun u => !Tryz.prog.wantsStandIn u) = true := by kernel_rfl
        exact (show Tryz.prog.wantsStandIn t = false by simpa using List.all_eq_true.1 hall t hm)⟩)
    (by kernel_rfl)
#print axioms card_holds
end Go.Proofs.YtpfaccpmgldkeaaGreatDoor.treeLong
