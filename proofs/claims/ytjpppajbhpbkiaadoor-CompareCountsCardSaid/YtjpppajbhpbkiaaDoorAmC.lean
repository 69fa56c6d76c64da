/-
Whether two lists of changes are the same. Conditions: they hold the same.
-/
import Derived.Test.YtjpppajbhpbkiaaDoorAmB
set_option linter.unusedSimpArgs false
set_option linter.unusedVariables false
namespace Go.Am

/-- A change. -/
structure Ch where
  k : Int
  l : Int
  r : Int
def Ch.cells (x : Ch) : List AV := [.int .i64 x.k, .int .i64 x.l, .int .i64 x.r]
theorem Ch.cells_len (x : Ch) : x.cells.length = 3 := rfl
theorem chs_flat (l : List Ch) : (rowsOf Ch.cells l).all flat1 = true := rowsOf_flat (fun _ => rfl) l
/-- A slice of changes. -/
def ChS (H : AH) (v : AV) (l : List Ch) : Prop := SliceV H 3 v l.length (rowsOf Ch.cells l)

theorem aeqs_ch (x : Ch) : aeqs [(0, .none, .int), (1, .none, .int), (2, .none, .int)] x.cells x.cells = some true := by
  simp [aeqs, aeq, Ch.cells]

theorem Tryd.equalLoop (l : List Ch) (hl : l.length ≤ 1000000) (K : AX → St → Prop) (ks : List Fr) (L : ACode) (hL : L = .loop (some [0, 1, 5]) Tryd.fn12_l0) (H : AH) (hN : Names H) (v w : AV) (hv : ChS H v l) (hw0 : ChS H w l) :
    ∀ (n i : Nat), n + i = l.length → (∀ e, Nx Tryd.call K ks e H) →
    W Tryd.call K (.block 0 :: ks) [(0, v), (1, w), (5, .int .i64 i)] H L := by
  intro n
  induction n with
  | zero =>
    intro i hi hk
    refine W_loopN hL ?_
    have hi' : i = l.length := by omega
    subst hi'
    have e1 := hv.lenS
    simp only [Tryd.fn12_l0, Tryd.fn12_r4, e1, AmR, kp, pushA, exe, Arg.val, Env.at, lk, putd, ok1, okM, abin, Option.getD_some, if_true, if_false, reduceCtorEq, Nat.reduceEqDiff, Option.map_some, ↓exe_lenl]
    refine ⟨fun h => absurd h (by omega), fun _ => hk _⟩
  | succ n ih =>
    intro i hi hk
    have ih' := ih
    refine W_loopN hL ?_
    obtain ⟨x, hx⟩ : ∃ x, l[i]? = some x := ⟨_, List.getElem?_eq_getElem (by omega)⟩
    have h0 : (0 : Int) ≤ (i : Int) := by omega
    have h1 : ((i : Int) < (l.length : Int)) = True := eq_true (by omega)
    have hw : IntKind.i64.wrap ((i : Int) + 1) = ((i + 1 : Nat) : Int) := by rw [IntWalk.i64_in _ (by omega)]; omega
    have hnew := hN.new
    have e1 := hv.lenS
    have he := aeqs_ch x
    rcases hv.cases with ⟨rfl, h, _⟩ | ⟨rfl, h, _⟩ | ⟨q, o, c, b, rfl, hb, hlb, hcs⟩
    · omega
    · omega
    · rcases hw0.cases with ⟨rfl, h, _⟩ | ⟨rfl, h, _⟩ | ⟨q', o', c', b', rfl, hb', hlb', hcs'⟩
      · omega
      · omega
      · have hcx : ∀ nx fl, (AH.mk H.blks nx fl).cellsAt q (o + i * 3) 3 = some x.cells := fun nx fl => cellsAt_rowO (H := ⟨H.blks, nx, fl⟩) Ch.cells_len hb hlb hcs hx
        have hcy : ∀ nx fl, (AH.mk H.blks nx fl).cellsAt q' (o' + i * 3) 3 = some x.cells := fun nx fl => cellsAt_rowO (H := ⟨H.blks, nx, fl⟩) Ch.cells_len hb' hlb' hcs' hx
        simp only [Tryd.fn12_l0, Tryd.fn12_r4, h1, AmR, kp, pushA, exe, Arg.val, Env.at, lk, putd, ok1, okM, abin, Option.getD_some, if_true, if_false, reduceCtorEq, Nat.reduceEqDiff, decide_true, Option.map_some, ↓exe_lenl, lenS_sl]
        refine W_drawn' (by kernel_rfl) ?_
        simp only [Tryd.fn12_r5, Tryd.fn12_r5a, Tryd.fn12_r7, hw, hnew, h0, h1, Int.toNat_natCast, and_self, hcx, hcy, he, AmR, kp, pushA, exe, Arg.val, Env.at, lk, putd, ok1, okM, abin, Option.getD_some, if_true, if_false, reduceCtorEq, Nat.reduceEqDiff, Nat.reduceAdd, true_and, List.nil_append, visH, List.filter_nil, List.flatMap_nil, List.contains_cons, List.contains_nil, Bool.or_false, Option.map_some, aeqv, bne_self_eq_false]
        exact ih (i + 1) (by omega) hk

theorem Tryd.equal (l : List Ch) (v w : AV) (H : AH) (hl : l.length ≤ 1000000) (hv : ChS H v l) (hw : ChS H w l) : Tryd.call 12 [v, w] H = some (.ok (.bool true), H) := by
  obtain ⟨v', w', bs, kq, hvw, s1, s2, hN, _, _, _⟩ := views_two hv hw (chs_flat l) (chs_flat l) 4 (rest := []) fun k => views_nil H k
  refine ecall_flat 4 [] _ _ (out := [.bool true]) rfl rfl rfl hvw rfl ?_
  show W Tryd.call _ _ _ _ _
  have e1 := s1.lenS
  have e2 := s2.lenS
  simp only [Tryd.fn12, Tryd.fn12_r0, Tryd.fn12_r1, Tryd.fn12_r3, e1, e2, bne_self_eq_false, AmR, kp, pushA, exe, number, Arg.val, Env.at, lk, putd, ok1, okM, abin, Option.getD_some, if_true, if_false, reduceCtorEq, Nat.reduceEqDiff, Nat.reduceAdd, List.append_nil, Option.map_some, bne_self_eq_false, ↓exe_lenl]
  refine Tryd.equalLoop l hl _ _ _ rfl _ ?_ v' w' ?_ ?_ l.length 0 (by omega) ?_
  · first | exact hN | (rw [List.append_nil] at hN; exact hN)
  · first | exact s1 | (rw [List.append_nil] at s1; exact s1)
  · first | exact s2 | (rw [List.append_nil] at s2; exact s2)
  · intro e
    simp only [Tryd.fn12_r8, AmR, kp, exe, Arg.val, Env.at, lk, putd, ok1, Option.getD_some, if_true, resAll, resOf]

end Go.Am
