/-
ReportRoundTrips: its row and its tied card. Conditions: none beyond the given statement's.
-/
import Derived.Test.YtolilamofgildaaGreatDoorAmX6
import Derived.Test.YtolilamofgildaaGreatDoorAmOpenO
import Derived.Test.YtolilamofgildaaGreatDoorCards
import Derived.Test.YtolilamofgildaaGreatDoorTie
import Derived.WalkKit
import Derived.Deep.DeepHandedRow
set_option linter.unusedSimpArgs false
set_option linter.unusedVariables false
set_option maxRecDepth 100000
namespace Go.Proofs.YtolilamofgildaaGreatDoor.reportRoundTrips
open Go.ChangeShapes Go.WideShapes Go.ChangeAt Go.RowKit Go.Am
open Go.ChangeMaps (open_string)

theorem contract (H : Type) (enc : TypeId × Value → H) (W : World) (base : Nat) (args : Array Value) (ds gs : List (DataW H)) (before : List MemPlace)
    (hval : ∀ (j : Nat) t v, Tryz.f3.params[j]? = some t → args[j]? = some v → Value.okWide Tryz.prog W .any base t v)
    (hW : DataW.Whole enc Tryz.prog Tryz.f3.params.toList Rows.reportRoundTripsSpec.vars false W args.toList ds gs before) (hL : laidMetH Tryz.prog Rows.reportRoundTripsRow.laid W) (hS : W.ShapedOpen Tryz.prog) :
    Calls Tryz.prog 3 args W fun e W' => ∃ v, e = .returned v ∧ Rows.reportRoundTripsSpec.post enc Tryz.prog Tryz.f3 false true false false W args v W' := by
  have hW' := hW
  obtain ⟨p, q, hA0, hV, rfl, hfz, hnd⟩ := hW'
  have hA : DataW.TrodAll enc Tryz.prog W 0 (fun _ => true) true Tryz.f3.params.toList args.toList ds p := hA0
  rw [Tryz.params3] at hA hval
  obtain ⟨v0, vs0, d0, ds0, p0, q0, hargs, rfl, rfl, h0, r0⟩ := trodAll_cons hA
  obtain ⟨v1, vs1, d1, ds1, p1, q1, rfl, rfl, rfl, h1, r1⟩ := trodAll_cons r0
  obtain ⟨rfl, rfl, rfl⟩ := trodAll_nil r1
  obtain rfl : args = #[v0, v1] := by cases args; simp_all
  obtain ⟨rfl, rfl⟩ := trodVars_none hV
  have hT := Tryz.laid_tab hL
  obtain ⟨e0, t0, a0⟩ := Tryz.cell_arg (by kernel_rfl) (Tryz.slice_cells Tryz.underlying22 (hval 0 _ v0 rfl rfl)) (hval 0 _ v0 rfl rfl) h0
  obtain ⟨e1, t1, a1⟩ := Tryz.cell_arg (by kernel_rfl) (Tryz.slice_cells Tryz.underlying23 (hval 1 _ v1 rfl rfl)) (hval 1 _ v1 rfl rfl) h1
  have z0 := RdyD.start 8 W
  obtain ⟨s0, φ1, H1, z1, hx0, dv0, le1, nx1, kp1⟩ := RdyD.build a0 z0
  obtain ⟨s1, φ2, H2, z2, hx1, dv1, le2, nx2, kp2⟩ := RdyD.build a1 z1
  replace hx0 := VRs.mono le2 hx0
  replace dv0 := dv0.old nx2 kp2
  obtain ⟨u0, y0, rfl, ty0⟩ := Tryz.rows_of t0 dv0
  obtain ⟨u1, y1, rfl, ty1⟩ := Tryz.outs_of t1 dv1
  have hrel : Rel (Tryz.base W.heap.size (Tryz.tab_pos hT)) φ2 H2 W := z2.rel (Tryz.know hT hS) rfl rfl
  obtain ⟨HE, hE⟩ := Tryz.lawRoundTrips H2 z2.names (Nat.le_of_eq z2.floor) u0 y0 ty0 u1 y1 ty1
  refine (law_callsH (vs := [v0, v1]) Tryz.func3 (by kernel_rfl) (by kernel_rfl) (Tryz.call_ok _ _) hE hrel (VRs.cons hx0 (VRs.cons hx1 .nil)) (Tryz.globs z2.globs) z2.free (noFoot z2.noFoot)).mono fun e W' ⟨he, hb⟩ => ?_
  subst he
  exact ⟨_, rfl, law_post (tb := 4) Tryz.laidOut hW rfl (by kernel_rfl) Tryz.underlying4 (by kernel_rfl) rfl rfl rfl hb⟩

theorem reads (os : Os) {H : Type} (enc : TypeId × Value → H) : ∃ places, DataW.whole enc Tryz.prog ((Tryz.laidWorld os).forCall (fun _ _ => 0) ⟨#[], #[.slice none 0 0, .slice none 0 0], []⟩).memory Tryz.f3.params.toList Rows.reportRoundTripsSpec.vars false (#[.slice none 0 0, .slice none 0 0] : Array Value).toList 8 = some ([.nil, .nil], [], places) :=
  ⟨[], by kernel_rfl⟩
theorem laid_met (os : Os) : laidMet Tryz.prog Rows.reportRoundTripsRow.laid ((Tryz.laidWorld os).forCall (fun _ _ => 0) ⟨#[], #[.slice none 0 0, .slice none 0 0], []⟩).memory :=
  laidMet_of_run' 8 (by kernel_rfl) (by kernel_rfl)

theorem lifted (os : Os) (started : os.Started) (H : Type) (enc : TypeId × Value → H) (F : Stop.Interp) :
    ReturnsInHanded {} Tryz.checked os 3 .any ((OpenSpec.ofChange Rows.reportRoundTripsSpec).preRow enc Tryz.prog Tryz.f3 Rows.reportRoundTripsRow.domain false Rows.reportRoundTripsRow.laid) (((OpenSpec.ofChange Rows.reportRoundTripsSpec).at F).post enc Tryz.prog Tryz.f3 false true false false) := by
  obtain ⟨places, hx⟩ := reads os enc
  refine returnsInHanded_of_row (C := Tryz.checked) (s := OpenSpec.ofChange Rows.reportRoundTripsSpec) Tryz.own started (by kernel_rfl) Tryz.func3
    (witness_row_atRef (enc := enc) (C := Tryz.checked) false (Tryz.laidWorld os) #[.slice none 0 0, .slice none 0 0] rfl (by kernel_rfl) (by kernel_rfl) (by kernel_rfl)
      (OpenSpec.preRow_of_cond 8 hx (by kernel_rfl) (fun k hk => by cases hk) (by kernel_rfl) (laid_met os))) ?_
  intro W base args ds gs before hval hW _ _ _ hL hS _
  exact contract H enc W base args ds gs before hval hW hL hS

theorem said : Rows.ReportRoundTripsSaid :=
  OpenClaim.holds_of_cond 3 Tryz.f3 rfl rfl rfl rfl rfl rfl rfl ⟨rfl, rfl, rfl, rfl, rfl⟩ rfl rfl rfl rfl rfl (by kernel_rfl) Tryz.func3 (by kernel_rfl)
    (of_decide_eq_true (by kernel_rfl)) (by unfold Func.isWrapper; first | (rw [if_pos (by decide +kernel)]; kernel_rfl) | (rw [if_neg (by decide +kernel)]; exact ⟨rfl, rfl⟩))
    (fun os started H enc _ F => by rw [OpenClaim.pre_eq_preRow]; exact lifted os started H enc F)

theorem plain (f : FuncId) (fn : Func) (hf : Tryz.pinned.checked.prog.funcNamed "signalbench/signalbenchlaw56.ReportRoundTrips" = some f) (hfn : Tryz.pinned.checked.prog.funcs[f]? = some fn) :
    true = Tryz.pinned.checked.prog.looks [] ∧ ∀ (j : Nat) t, fn.params[j]? = some t → Tryz.pinned.checked.prog.wantsStandIn t = false := by
  obtain rfl : f = 3 := Option.some.inj ((show Tryz.prog.funcNamed "signalbench/signalbenchlaw56.ReportRoundTrips" = some 3 by kernel_rfl).symm.trans hf) |>.symm
  obtain rfl : fn = Tryz.f3 := (Option.some.inj (Tryz.func3.symm.trans hfn)).symm
  refine ⟨by kernel_rfl, fun j t ht => ?_⟩
  have hall : (Tryz.f3.params.toList.all fun u => !Tryz.prog.wantsStandIn u) = true := by kernel_rfl
  have hm : t ∈ Tryz.f3.params.toList := by simpa using Array.mem_of_getElem? ht
  exact (show Tryz.prog.wantsStandIn t = false by simpa using List.all_eq_true.1 hall t hm)

/-- The tied card of ReportRoundTrips. -/
theorem card : Rows.ReportRoundTripsCardSaid :=
  Claim7.holds_tied_plain_at .later [] _ _ _ _ said (fun _ h => by cases h) (by kernel_rfl) (fun _ h => by cases h) reportRoundTrips_row_tie rfl ⟨rfl, rfl⟩ (by kernel_rfl) rfl plain (by kernel_rfl)
#print axioms card
end Go.Proofs.YtolilamofgildaaGreatDoor.reportRoundTrips
