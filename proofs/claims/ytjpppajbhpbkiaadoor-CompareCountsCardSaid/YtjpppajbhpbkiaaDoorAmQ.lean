/-
The change that a match is. Conditions: the match names events.
-/
import Derived.Test.YtjpppajbhpbkiaaDoorAmP
set_option linter.unusedSimpArgs false
set_option linter.unusedVariables false
namespace Go.Am

def dV (a b : List Ev) (m : Mt) (sh : Int) : Int := IntKind.i64.wrap (IntKind.i64.wrap (fAt b m.r - fAt a m.l) - sh)
/-- The change that a match is; kind 0 if it is none. -/
def changeV (a b : List Ev) (m : Mt) (sh tol : Int) : Ch :=
  if m.r < 0 then ⟨1, m.l, -1⟩ else if m.l < 0 then ⟨2, -1, m.r⟩ else
    if tol < dV a b m sh ∨ tol < IntKind.i64.wrap (0 - dV a b m sh) then ⟨3, m.l, m.r⟩ else ⟨0, 0, 0⟩

theorem Tryd.change (a b : List Ev) (m : Mt) (sh tol : Int) (hfit : m.fits a b) (va vb : AV) (H : AH) (ha : EvS H va a) (hb : EvS H vb b) :
    Tryd.call 28 [va, vb, .agg m.cells, .int .i64 sh, .int .i64 tol] H = some (.ok (.agg (changeV a b m sh tol).cells), H) := by
  obtain ⟨w1, w2, bs, kq, hvw, s1, s2, hN, _, n1, n2⟩ := views_two ha hb (evs_flat a) (evs_flat b) 4 (rest := [.agg m.cells, .int .i64 sh, .int .i64 tol]) (us := [.agg m.cells, .int .i64 sh, .int .i64 tol]) fun k => views_agg rfl (views_flat rfl (views_flat rfl (views_nil H k)))
  refine ecall_flat 4 [] _ _ (out := [.agg (changeV a b m sh tol).cells]) rfl rfl rfl hvw rfl ?_
  show W Tryd.call _ _ _ _ _
  generalize hH : (⟨bs ++ [], kq, kq⟩ : AH) = H0 at s1 s2 hN ⊢
  have hfl : H0.floor ≤ H0.next := by rw [← hH]; exact Nat.le_refl _
  have hn : H0.next = kq := by rw [← hH]
  subst hn
  have hN1 := hN.push 56 true m.cells
  have g7 : ∀ cs, ((H0.push 56 true m.cells).push 48 true cs).get H0.next = some ⟨m.cells, false, 56, true, true⟩ := fun cs => (get_push_old _ _ _ _ (Nat.lt_succ_self _)).trans (get_push_new _ _ _ _)
  have st : ∀ vs, vs.length = 3 → vs.all solid = true → ((H0.push 56 true m.cells).push 48 true [.int .i64 0, .int .i64 0, .int .i64 0]).store (H0.push 56 true m.cells).next 0 vs = some ((H0.push 56 true m.cells).push 48 true vs) := fun vs h1 h2 => store_push _ _ _ _ _ (Nat.le_succ_of_le hfl) h1.symm h2
  have cc : ∀ vs : List AV, vs.length = 3 → ((H0.push 56 true m.cells).push 48 true vs).cellsAt (H0.push 56 true m.cells).next 0 3 = some vs := fun vs h => cellsAt_new _ _ _ _ h
  have s1' : EvS ((H0.push 56 true m.cells).push 48 true [.int .i64 0, .int .i64 0, .int .i64 0]) w1 a := (SliceV.grow s1 (Grow.push _ _ _ _) n1).grow (Grow.push _ _ _ _) fun i o z n c e => Nat.lt_succ_of_lt (n1 i o z n c e)
  have s2' : EvS ((H0.push 56 true m.cells).push 48 true [.int .i64 0, .int .i64 0, .int .i64 0]) w2 b := (SliceV.grow s2 (Grow.push _ _ _ _) n2).grow (Grow.push _ _ _ _) fun i o z n c e => Nat.lt_succ_of_lt (n2 i o z n c e)
  have c0 : m.cells[0]? = some (.int .i64 m.l) := rfl
  have c1 : m.cells[1]? = some (.int .i64 m.r) := rfl
  simp only [Tryd.fn28, Tryd.fn28_r0, Tryd.fn28_r1, g7, c1, Nat.zero_add, AmR, kp, pushA, exe, number, Arg.val, Env.at, lk, putd, AV.cells?, ok1, okM, abin, Option.getD_some, if_true, if_false, reduceCtorEq, Nat.reduceEqDiff, Nat.reduceAdd]
  refine ⟨fun hr => ?_, fun hr => ?_⟩
  · have hc : changeV a b m sh tol = ⟨1, m.l, -1⟩ := by unfold changeV; rw [if_pos hr]
    rw [hc]
    simp only [Tryd.fn28_r2, g7, c0, st, cc, AmR, kp, exe, Arg.val, Env.at, lk, putd, AV.cells?, ok1, okM, Option.getD_some, if_true, if_false, reduceCtorEq, Nat.reduceEqDiff, Nat.reduceAdd, resAll, resOf, Option.some.injEq, List.cons.injEq, and_true, Nat.reduceLeDiff, List.map_cons, List.map_nil, putAt, solid, List.all_cons, List.all_nil, Bool.and_self, List.length_cons, List.length_nil, Option.map_some, afill, Int.reduceNeg, List.set_cons_zero, List.set_cons_succ]
    rfl
  · simp only [Tryd.fn28_r3, g7, c0, AmR, kp, pushA, exe, Arg.val, Env.at, lk, putd, ok1, okM, abin, Option.getD_some, if_true, if_false, reduceCtorEq, Nat.reduceEqDiff, Nat.reduceAdd]
    refine ⟨fun hl => ?_, fun hl => ?_⟩
    · have hc : changeV a b m sh tol = ⟨2, -1, m.r⟩ := by unfold changeV; rw [if_neg hr, if_pos hl]
      rw [hc]
      simp only [Tryd.fn28_r4, g7, c1, st, cc, Nat.zero_add, AmR, kp, exe, Arg.val, Env.at, lk, putd, AV.cells?, ok1, okM, Option.getD_some, if_true, if_false, reduceCtorEq, Nat.reduceEqDiff, Nat.reduceAdd, resAll, resOf, Option.some.injEq, List.cons.injEq, and_true, Nat.reduceLeDiff, List.map_cons, List.map_nil, putAt, solid, List.all_cons, List.all_nil, Bool.and_self, List.length_cons, List.length_nil, Option.map_some, afill, Int.reduceNeg, List.set_cons_zero, List.set_cons_succ]
      rfl
    · have hlr := hfit.1 (by omega)
      have hrr := hfit.2 (by omega)
      rcases s1'.cases with ⟨rfl, h, _⟩ | ⟨rfl, h, _⟩ | ⟨qa, oa, ca, ba, rfl, hba, hla, hca⟩
      · omega
      · omega
      rcases s2'.cases with ⟨rfl, h, _⟩ | ⟨rfl, h, _⟩ | ⟨qb, ob, cb, bb, rfl, hbb, hlb, hcb⟩
      · omega
      · omega
      obtain ⟨x, hxa⟩ : ∃ x, a[m.l.toNat]? = some x := ⟨_, List.getElem?_eq_getElem hlr⟩
      obtain ⟨y, hyb⟩ : ∃ x, b[m.r.toNat]? = some x := ⟨_, List.getElem?_eq_getElem hrr⟩
      have a1 : ba.cells[oa + m.l.toNat * 7 + 1]? = some (.int .i64 x.f) := by rw [cell_rowO Ev.cells_len hca hxa (by omega)]; rfl
      have b1 : bb.cells[ob + m.r.toNat * 7 + 1]? = some (.int .i64 y.f) := by rw [cell_rowO Ev.cells_len hcb hyb (by omega)]; rfl
      have hd : IntKind.i64.wrap (IntKind.i64.wrap (y.f - x.f) - sh) = dV a b m sh := by unfold dV fAt; rw [hxa, hyb]; rfl
      have hnew := (hN1.push 48 true [.int .i64 0, .int .i64 0, .int .i64 0]).new
      have g7z := g7 [.int .i64 0, .int .i64 0, .int .i64 0]
      generalize (H0.push 56 true m.cells).push 48 true [.int .i64 0, .int .i64 0, .int .i64 0] = HH at *
      have ga : ∀ nx fl, (AH.mk HH.blks nx fl).get qa = some ba := fun _ _ => hba
      have gb : ∀ nx fl, (AH.mk HH.blks nx fl).get qb = some bb := fun _ _ => hbb
      have gm : ∀ nx fl, (AH.mk HH.blks nx fl).get H0.next = some ⟨m.cells, false, 56, true, true⟩ := fun _ _ => g7z
      have c1' : (0 : Int) ≤ m.l ∧ m.l < (a.length : Int) := by omega
      have c2' : (0 : Int) ≤ m.r ∧ m.r < (b.length : Int) := by omega
      refine W_drawn' (by kernel_rfl) ?_
      simp only [Tryd.fn28_r5, Tryd.fn28_r5a, Tryd.fn28_r5b, c1'.1, c1'.2, c2'.1, c2'.2, and_self, ga, gb, gm, c0, c1, a1, b1, hd, hnew, Nat.add_zero, Nat.zero_add, AmR, kp, exe, Arg.val, Env.at, lk, putd, ok1, okM, abin, Option.getD_some, if_true, if_false, reduceCtorEq, Nat.reduceEqDiff, Nat.reduceAdd, true_and, List.nil_append, visH, List.filter_nil, List.flatMap_nil, List.contains_cons, List.contains_nil, Bool.or_false]
      simp only [Tryd.fn28_r6, AmR, kp, pushA, exe, Arg.val, Env.at, lk, putd, ok1, okM, abin, Option.getD_some, if_true, if_false, Nat.reduceEqDiff, aun]
      have hmx : ∀ d e : Int, (tol < (if e > d then e else d)) ↔ (tol < d ∨ tol < e) := fun d e => by split <;> omega
      refine ⟨fun h => ?_, fun h => ?_⟩
      · have hc : changeV a b m sh tol = ⟨3, m.l, m.r⟩ := by unfold changeV; rw [if_neg hr, if_neg hl, if_pos ((hmx _ _).1 h)]
        rw [hc]
        simp only [Tryd.fn28_r7, g7z, c0, c1, st, cc, Nat.zero_add, AmR, kp, exe, Arg.val, Env.at, lk, putd, AV.cells?, ok1, okM, Option.getD_some, if_true, if_false, Nat.reduceEqDiff, Nat.reduceAdd, resAll, resOf, Option.some.injEq, List.cons.injEq, and_true, Nat.reduceLeDiff, List.map_cons, List.map_nil, putAt, solid, List.all_cons, List.all_nil, Bool.and_self, List.length_cons, List.length_nil, Option.map_some, afill, List.set_cons_zero, List.set_cons_succ]
        rfl
      · have hc : changeV a b m sh tol = ⟨0, 0, 0⟩ := by unfold changeV; rw [if_neg hr, if_neg hl, if_neg (fun x => h ((hmx _ _).2 x))]
        rw [hc]
        simp only [Tryd.fn28_r8, st, cc, AmR, kp, exe, Arg.val, Env.at, lk, putd, AV.cells?, okM, Option.getD_some, if_true, if_false, Nat.reduceEqDiff, Nat.reduceAdd, resAll, resOf, Option.some.injEq, List.cons.injEq, and_true, List.map_nil, solid, List.all_cons, List.all_nil, Bool.and_self, List.length_cons, List.length_nil, Option.map_some, afill]
        rfl

end Go.Am
