/-
The law of counts. Conditions: those that each theorem names.
-/
import Derived.Test.YtolilamofgildaaDoorAmU
import Derived.Test.YtolilamofgildaaDoorAmK
set_option linter.unusedSimpArgs false
set_option linter.unusedVariables false
namespace Go.Am

theorem cell_row9 {α : Type} {f : α → List AV} {m : Nat} (hf : ∀ x, (f x).length = m) {o : Nat} {b : Blk} {l : List α} {i j : Nat} {x : α} (hc : (b.cells.drop o).take (l.length * m) = rowsOf f l) (h : l[i]? = some x) (hj : j < m) : b.cells[o + i * m + j]? = (f x)[j]? := by
  have hi : i < l.length := (List.getElem?_eq_some_iff.1 h).1
  have h2 : i * m + m ≤ l.length * m := by
    have := Nat.mul_le_mul_right m (show i + 1 ≤ l.length by omega)
    rw [Nat.add_mul, Nat.one_mul] at this
    exact this
  have h3 := rowsOf_at hf h
  have h4 := congrArg (fun l => l[j]?) h3
  simp only [List.getElem?_take, if_pos hj, List.getElem?_drop] at h4
  rw [← h4, ← hc, List.getElem?_take, if_pos (by omega), List.getElem?_drop]
  congr 1
  omega

theorem add_wrapV {a b : Nat} (h : a + b ≤ 4611686018427387904) : IntKind.i64.wrap ((a : Int) + (b : Int)) = ((a + b : Nat) : Int) := by rw [IntWalk.i64_in _ (by omega)]; omega

/-! ### Outs that may be examined -/

def dataSum (l : List OutR) : Nat := (l.map fun x => x.ev.d.length).sum
def shortB (l : List OutR) : Bool := decide (l.length ≤ 300) && (l.all fun x => decide (x.ev.d.length ≤ 5000)) && decide (dataSum l ≤ 50000)

theorem Tryd.shortLoop (l : List OutR) (hl : l.length ≤ 300) (u : AV) (H0 : AH) (hv : SliceV H0 9 u l.length (rowsOf OutR.cells l)) (K : AX → St → Prop) (ks : List Fr) (L : ACode) (hL : L = .loop (some [0, 3, 4]) Tryd.fn12_l0) :
    ∀ (m i s : Nat), m + i = l.length → s ≤ i * 5000 →
      ((l.drop i).all (fun x => decide (x.ev.d.length ≤ 5000)) = true → ∀ a b, Nx Tryd.call K ks [(11, .bool false), (0, u), (3, .int .i64 (s + dataSum (l.drop i) : Nat)), (4, a), (11, b)] H0) →
      ((l.drop i).all (fun x => decide (x.ev.d.length ≤ 5000)) = false → ∀ e, e.at 2 = .bool false → Rt Tryd.call K ks e H0) →
      W Tryd.call K (.block 0 :: ks) [(0, u), (3, .int .i64 s), (4, .int .i64 i)] H0 L := by
  have hwl := hv.lenS
  intro m
  induction m with
  | zero =>
    intro i s hi hs hd hf
    refine W_loopN hL ?_
    have hi' : i = l.length := by omega
    subst hi'
    have hlt : ((l.length : Int) < (l.length : Int)) = False := eq_false (by omega)
    rw [List.drop_length] at hd
    simp only [Tryd.fn12_l0, Tryd.fn12_r5, hwl, hlt, AmR, kp, pushA, exe, Arg.val, Env.at, lk, putd, ok1, okM, abin, Option.getD_some, if_true, if_false, reduceCtorEq, Nat.reduceEqDiff, decide_false, Option.map_some, ↓exe_lenl]
    exact hd rfl _ _
  | succ m ih =>
    intro i s hi hs hd hf
    refine W_loopN hL ?_
    obtain ⟨x, hx⟩ : ∃ x, l[i]? = some x := ⟨_, List.getElem?_eq_getElem (by omega)⟩
    have h0 : (0 : Int) ≤ (i : Int) := by omega
    have h1 : ((i : Int) < (l.length : Int)) = True := eq_true (by omega)
    have hw := succ_wrap (i := i) (by omega)
    rcases hv.cases with ⟨rfl, h, _⟩ | ⟨rfl, h, _⟩ | ⟨q1, o, cc, bm, rfl, hbm, hlm, hcm⟩
    · omega
    · omega
    have hc7 : bm.cells[o + (i * 9 + 7)]? = some (.str x.ev.d) := (by rw [← Nat.add_assoc]; exact cell_row9 OutR.cells_len hcm hx (j := 7) (by omega))
    rw [drop_cons' hx, List.all_cons] at hd hf
    have hds : dataSum (x :: l.drop (i + 1)) = x.ev.d.length + dataSum (l.drop (i + 1)) := by simp [dataSum]
    rw [hds] at hd
    simp only [Tryd.fn12_l0, Tryd.fn12_r5, hwl, h1, AmR, kp, pushA, exe, Arg.val, Env.at, lk, putd, ok1, okM, abin, Option.getD_some, if_true, if_false, reduceCtorEq, Nat.reduceEqDiff, decide_true, Option.map_some, ↓exe_lenl]
    by_cases hbig : (x.ev.d.length : Int) > 5000
    · have e1 : ((x.ev.d.length : Int) > 5000) = True := eq_true hbig
      simp only [Tryd.fn12_r6, h0, h1, hbm, hc7, e1, Int.toNat_natCast, and_self, Nat.add_assoc, Nat.reduceAdd, AmR, kp, pushA, exe, Arg.val, Env.at, lk, putd, ok1, okM, abin, Option.getD_some, if_true, if_false, reduceCtorEq, Nat.reduceEqDiff, Nat.reduceAdd, decide_true]
      simp only [Tryd.fn12_r7, AmR, kp, exe, Arg.val, Env.at, lk, putd, ok1, Option.getD_some, if_true, if_false, reduceCtorEq, Nat.reduceEqDiff]
      exact hf (by rw [decide_eq_false (by omega)]; rfl) _ rfl
    · have e1 : ((x.ev.d.length : Int) > 5000) = False := eq_false hbig
      have ws := add_wrapV (a := s) (b := x.ev.d.length) (by omega)
      simp only [Tryd.fn12_r6, h0, h1, hbm, hc7, e1, Int.toNat_natCast, and_self, Nat.add_assoc, Nat.reduceAdd, AmR, kp, pushA, exe, Arg.val, Env.at, lk, putd, ok1, okM, abin, Option.getD_some, if_true, if_false, reduceCtorEq, Nat.reduceEqDiff, Nat.reduceAdd, decide_false]
      simp only [Tryd.fn12_r8, h0, h1, hbm, hc7, ws, Int.toNat_natCast, and_self, Nat.add_assoc, Nat.reduceAdd, AmR, kp, exe, Arg.val, Env.at, lk, putd, ok1, okM, abin, Option.getD_some, if_true, if_false, reduceCtorEq, Nat.reduceEqDiff, Nat.reduceAdd]
      simp only [Tryd.fn12_r9, hw, AmR, kp, exe, Arg.val, Env.at, lk, putd, ok1, okM, abin, Option.getD_some, if_true, if_false, reduceCtorEq, Nat.reduceEqDiff]
      have dt : decide (x.ev.d.length ≤ 5000) = true := decide_eq_true (by omega)
      refine ih (i + 1) (s + x.ev.d.length) (by omega) (by omega) (fun h a b => ?_) fun h => hf (by rw [h, dt]; rfl)
      have := hd (by rw [h, dt]; rfl) a b
      rw [Nat.add_assoc]
      exact this

theorem Tryd.short (v : AV) (l : List OutR) (H : AH) (hv : SliceV H 9 v l.length (rowsOf OutR.cells l)) : Tryd.call 12 [v] H = some (.ok (.bool (shortB l)), H) := by
  obtain ⟨w, bs, kq, hvw, sw, hN0, _, hw⟩ := views_one hv (outs_flat l) 6 (rest := []) (us := []) fun k => views_nil H k
  refine ecall_flat 6 [] _ _ (out := [.bool (shortB l)]) rfl rfl rfl hvw rfl ?_
  show W Tryd.call _ _ _ _ _
  generalize hH : (⟨bs ++ [], kq, kq⟩ : AH) = H0 at *
  have hwl := sw.lenS
  by_cases hbig : (l.length : Int) > 300
  · have e1 : ((l.length : Int) > 300) = True := eq_true hbig
    have hs : shortB l = false := by unfold shortB; rw [decide_eq_false (by omega)]; rfl
    rw [hs]
    simp only [Tryd.fn12, Tryd.fn12_r0, AmR, kp, exe, number, Arg.val, Env.at, lk, putd, ok1, Option.getD_some, if_true, if_false, reduceCtorEq]
    simp only [Tryd.fn12_r1, hwl, e1, AmR, kp, pushA, exe, Arg.val, Env.at, lk, putd, ok1, okM, abin, Option.getD_some, if_true, if_false, reduceCtorEq, Nat.reduceEqDiff, decide_true, Option.map_some, ↓exe_lenl]
    simp only [Tryd.fn12_r2, AmR, kp, exe, Arg.val, Env.at, lk, putd, ok1, Option.getD_some, if_true, if_false, reduceCtorEq, Nat.reduceEqDiff, resAll, resOf]
  · have e1 : ((l.length : Int) > 300) = False := eq_false hbig
    simp only [Tryd.fn12, Tryd.fn12_r0, AmR, kp, exe, number, Arg.val, Env.at, lk, putd, ok1, Option.getD_some, if_true, if_false, reduceCtorEq]
    simp only [Tryd.fn12_r1, hwl, e1, AmR, kp, pushA, exe, Arg.val, Env.at, lk, putd, ok1, okM, abin, Option.getD_some, if_true, if_false, reduceCtorEq, Nat.reduceEqDiff, decide_false, Option.map_some, ↓exe_lenl]
    simp only [Tryd.fn12_r3, AmR, kp, exe, Arg.val, Env.at, lk, putd, ok1, Option.getD_some, if_true, if_false, reduceCtorEq, Nat.reduceEqDiff]
    simp only [Tryd.fn12_r4, AmR, kp, exe, Arg.val, Env.at, lk, putd, ok1, Option.getD_some, if_true, if_false, reduceCtorEq, Nat.reduceEqDiff]
    refine Tryd.shortLoop l (by omega) w H0 sw _ _ _ rfl l.length 0 0 (by omega) (by omega) (fun h a b => ?_) fun h e he => ?_
    · rw [List.drop_zero] at h ⊢
      have hs : shortB l = decide (dataSum l ≤ 50000) := by unfold shortB; rw [h, decide_eq_true (show l.length ≤ 300 by omega)]; simp
      have hle : decide (((0 + dataSum l : Nat) : Int) ≤ 50000) = decide (dataSum l ≤ 50000) := by rw [decide_eq_decide]; omega
      rw [hs]
      simp only [Tryd.fn12_r10, hle, AmR, kp, exe, Arg.val, Env.at, lk, putd, ok1, okM, abin, Option.getD_some, if_true, if_false, reduceCtorEq, Nat.reduceEqDiff, resAll, resOf]
    · rw [List.drop_zero] at h
      have hs : shortB l = false := by unfold shortB; rw [h]; simp
      rw [hs]
      simp only [Rt_code, Rt_nil, AmR, Env.at, resAll, resOf, Option.some.injEq, List.cons.injEq, and_true]
      exact he

end Go.Am
