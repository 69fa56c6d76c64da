/-
ReportTables on the machine. Conditions: the rows are read from the first heap.
-/
import Derived.Test.YtolilamofgildaaDoorAmJ
set_option linter.unusedSimpArgs false
set_option linter.unusedVariables false
namespace Go.Am

theorem Tryd.lives (H : AH) : Tryd.call 8 [] H = some (.ok (.bool true), H) :=
  ecall_of 6 [] _ _ (congrFun Tryd.awake_run H)

theorem smallB_le {rows : List (List (List UInt8))} (h : smallB rows = true) : rows.length ≤ 60 ∧ ∀ r ∈ rows, r.length ≤ 60 ∧ ∀ s ∈ r, s.length ≤ 1000 := by
  simp only [smallB, smallRow, Bool.and_eq_true, decide_eq_true_eq, List.all_eq_true] at h
  exact ⟨h.1, fun r hr => ⟨(h.2 r hr).1, fun s hs => (h.2 r hr).2 s hs⟩⟩

theorem Tryd.lawTables (H : AH) (hNm : Names H) (hfl : H.floor ≤ H.next) (v : AV) (rows : List (List (List UInt8))) (hv : TabV H.next H v rows) : ∃ H', Tryd.call 3 [v] H = some (.ok (.bool true), H') := by
  have hlv := Tryd.lives H
  have hsm := Tryd.small H.next H v rows hv
  obtain ⟨vs, H', rfl, hc⟩ := ecall_E 6 [] (lk Tryd.ext) (lk Tryd.tab) (f := 3) (fn := Tryd.fn3) (args := [v]) (H := H) (R := fun vs H' => vs = [.bool true]) rfl rfl rfl (by
    show W Tryd.call _ _ _ _ _
    cases hb : smallB rows with
    | false =>
      rw [hb] at hsm
      simp only [Tryd.fn3, Tryd.fn3_r0, Tryd.fn3_r1, hlv, AmR, kp, pushA, exe, number, Arg.val, Env.at, lk, putd, ok1, okM, Option.getD_some, if_true, if_false, Bool.not_true, reduceCtorEq, Nat.reduceEqDiff, aun, List.map_nil]
      simp only [Tryd.fn3_r3, hsm, AmR, kp, pushA, exe, Arg.val, Env.at, lk, putd, ok1, okM, Option.getD_some, if_true, if_false, Bool.not_false, reduceCtorEq, Nat.reduceEqDiff, aun, List.map_cons, List.map_nil]
      simp only [Tryd.fn3_r4, endK_ret, AmR, kp, exe, Arg.val, Env.at, lk, putd, ok1, Option.getD_some, if_true, if_false, reduceCtorEq, Nat.reduceEqDiff, resAll, resOf, Option.some.injEq, exists_eq_left']
    | true =>
      rw [hb] at hsm
      obtain ⟨h1, h2⟩ := smallB_le hb
      have hs : ∀ r ∈ rows, r.length ≤ 4000000 ∧ ∀ s ∈ r, s.length ≤ 4000000 := fun r hr => ⟨by have := (h2 r hr).1; omega, fun s hs => by have := (h2 r hr).2 s hs; omega⟩
      obtain ⟨H1, a1, a2, a3⟩ := Tryd.table H hNm hfl v rows hv hs (by omega)
      have hv1 : TabV H1.next H1 v rows := hv.old a2.2.1 a2.2.2
      obtain ⟨H2, b1, b2, b3⟩ := Tryd.tableRef H1 a3 (by have h1 := a2.1; have h2 := a2.2.1; omega) v rows hv1 hs (by omega)
      simp only [Tryd.fn3, Tryd.fn3_r0, Tryd.fn3_r1, hlv, AmR, kp, pushA, exe, number, Arg.val, Env.at, lk, putd, ok1, okM, Option.getD_some, if_true, if_false, Bool.not_true, reduceCtorEq, Nat.reduceEqDiff, aun, List.map_nil]
      simp only [Tryd.fn3_r3, hsm, AmR, kp, pushA, exe, Arg.val, Env.at, lk, putd, ok1, okM, Option.getD_some, if_true, if_false, Bool.not_true, reduceCtorEq, Nat.reduceEqDiff, aun, List.map_cons, List.map_nil]
      simp only [Tryd.fn3_r5, a1, AmR, kp, exe, Arg.val, Env.at, lk, putd, ok1, okM, Option.getD_some, if_true, if_false, List.getElem?_cons_zero, List.getElem?_cons_succ, reduceCtorEq, Nat.reduceEqDiff, List.map_cons, List.map_nil]
      simp only [Tryd.fn3_r6, b1, AmR, kp, exe, Arg.val, Env.at, lk, putd, ok1, okM, Option.getD_some, if_true, if_false, List.getElem?_cons_zero, List.getElem?_cons_succ, reduceCtorEq, Nat.reduceEqDiff, List.map_cons, List.map_nil]
      simp only [Tryd.fn3_r7, beq_self_eq_true, endK_ret, AmR, kp, exe, Arg.val, Env.at, lk, putd, ok1, okM, abin, Option.getD_some, if_true, if_false, Nat.reduceEqDiff, resAll, resOf, Option.some.injEq, exists_eq_left'])
  exact ⟨H', hc⟩

end Go.Am
