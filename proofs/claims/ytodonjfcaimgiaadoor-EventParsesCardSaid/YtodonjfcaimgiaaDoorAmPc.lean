/-
The words and the numbers of a line of an event, continued. Conditions: those that each theorem names.
-/
import Derived.Test.YtodonjfcaimgiaaDoorAmPb
set_option linter.unusedSimpArgs false
set_option linter.unusedVariables false
namespace Go.Am

theorem drop_at {α : Type} {l : List α} {i : Nat} {x : α} (h : l[i]? = some x) : l.drop i = x :: l.drop (i + 1) := by
  obtain ⟨hi, rfl⟩ := List.getElem?_eq_some_iff.1 h
  exact List.drop_eq_getElem_cons hi

/-- What Index gives. -/
def idxZ (o : Option Nat) : Int := match o with
  | some q => q
  | none => -1

theorem Tryd.indexLoop (w : List UInt8) (xs : List (List UInt8)) (hx : xs.length ≤ 1000000) (H : AH) (q : Nat) (b : Blk) (cp : Option Nat) (hb : H.get q = some b) (hbc : b.cells = xs.map .str) (K : AX → St → Prop) (ks : List Fr) (L : ACode) (hL : L = .loop (some [0, 1, 7, 8]) Tryd.fn37_l0) (r : Option Nat)
    (hk : r = none → ∀ e, Nx Tryd.call K ks e H) (hr : ∀ j, r = some j → ∀ e, e.at 4 = .int .i64 (j : Int) → Rt Tryd.call K ks e H) : ∀ (n i : Nat), n + i = xs.length → idx w (xs.drop i) i = r →
    W Tryd.call K (.block 0 :: ks) [(0, .sl q 0 1 xs.length cp), (1, .str w), (7, .int .i64 xs.length), (8, .int .i64 i)] H L := by
  intro n
  induction n with
  | zero =>
    intro i hi hrr
    refine W_loopN hL ?_
    have hi' : i = xs.length := by omega
    subst hi'
    rw [List.drop_length] at hrr
    simp only [Tryd.fn37_l0, Tryd.fn37_r2, AmR, kp, pushA, exe, Arg.val, Env.at, lk, putd, okM, abin, Option.getD_some, if_true, if_false, reduceCtorEq, Nat.reduceEqDiff]
    exact ⟨fun h => absurd h (by omega), fun _ => hk hrr.symm _⟩
  | succ n ih =>
    intro i hi hrr
    refine W_loopN hL ?_
    obtain ⟨x, hxi⟩ : ∃ x, xs[i]? = some x := ⟨_, List.getElem?_eq_getElem (by omega)⟩
    have h0 : (0 : Int) ≤ (i : Int) := by omega
    have h1 : ((i : Int) < (xs.length : Int)) = True := eq_true (by omega)
    have hw : IntKind.i64.wrap ((i : Int) + 1) = ((i + 1 : Nat) : Int) := by rw [IntWalk.i64_in _ (by omega)]; omega
    have e0 : b.cells[i]? = some (.str x) := by rw [hbc, List.getElem?_map, hxi]; rfl
    rw [drop_at hxi, idx] at hrr
    simp only [Tryd.fn37_l0, Tryd.fn37_r2, h1, AmR, kp, pushA, exe, Arg.val, Env.at, lk, putd, okM, abin, Option.getD_some, if_true, if_false, reduceCtorEq, Nat.reduceEqDiff, decide_true]
    simp only [Tryd.fn37_r3, AmR, kp, exe, Arg.val, Env.at, lk, putd, ok1, Option.getD_some, if_true, if_false, reduceCtorEq, Nat.reduceEqDiff]
    simp only [Tryd.fn37_r4, h0, h1, Int.toNat_natCast, and_self, hb, e0, Nat.zero_add, Nat.mul_one, AmR, Cd_beq, kp, pushA, exe, Arg.val, Env.at, lk, putd, ok1, okM, abin, Option.getD_some, if_true, if_false, reduceCtorEq, Nat.reduceEqDiff]
    refine ⟨fun h => ?_, fun h => ?_⟩
    · rw [if_pos h.symm] at hrr
      simp only [Tryd.fn37_r5, AmR, kp, exe, Arg.val, Env.at, lk, putd, ok1, Option.getD_some, if_true, if_false, reduceCtorEq, Nat.reduceEqDiff]
      exact hr i hrr.symm _ rfl
    · rw [if_neg (fun e => h e.symm)] at hrr
      simp only [Tryd.fn37_r6, hw, AmR, kp, exe, Arg.val, Env.at, lk, putd, ok1, okM, abin, Option.getD_some, if_true, if_false, reduceCtorEq, Nat.reduceEqDiff]
      exact ih (i + 1) (by omega) hrr

theorem Tryd.index (w : List UInt8) (xs : List (List UInt8)) (hx : xs.length ≤ 1000000) (H : AH) (q : Nat) (b : Blk) (cp : Option Nat) (hb : H.get q = some b) (hbc : b.cells = xs.map .str) : Tryd.call 37 [.sl q 0 1 xs.length cp, .str w] H = some (.ok (.int .i64 (idxZ (idx w xs 0))), H) := by
  have hv : SliceV H 1 (.sl q 0 1 xs.length cp) xs.length (xs.map .str) := by
    have := SliceV.sl (H := H) (z := 1) (i := q) (o := 0) (n := xs.length) (c := cp) hb (by rw [hbc, List.length_map]; omega)
    rw [List.drop_zero, hbc, List.take_of_length_le (by rw [List.length_map]; omega)] at this
    exact this
  have hf : (xs.map AV.str).all flat1 = true := by simp [flat1]
  have h1 : 0 + xs.length * 1 ≤ b.cells.length := by rw [hbc, List.length_map]; omega
  refine ecall_flat 8 [] _ _ (out := [.int .i64 (idxZ (idx w xs 0))]) rfl rfl rfl (viewS hb h1 (by rw [List.drop_zero, hbc, List.take_of_length_le (by rw [List.length_map]; omega)]) hf (views_flat rfl (views_nil H _))) rfl ?_
  show W Tryd.call _ _ _ _ _
  generalize hB : (⟨xs.map .str, b.ro, b.ty, false, false⟩ : Blk) = B
  have hBc : B.cells = xs.map .str := by rw [← hB]
  simp only [Tryd.fn37, Tryd.fn37_r0, AmR, kp, exe, number, Arg.val, Env.at, lk, putd, ok1, Option.getD_some, if_true, if_false, reduceCtorEq, Nat.reduceEqDiff, Nat.reduceAdd, List.append_nil]
  simp only [Tryd.fn37_r1, AmR, kp, exe, Arg.val, Env.at, lk, putd, ok1, okM, Option.getD_some, if_true, if_false, reduceCtorEq, Nat.reduceEqDiff, Option.map_some, ↓exe_lenl, lenS_sl]
  refine Tryd.indexLoop w xs hx _ 8 B cp ?_ hBc _ _ _ rfl (idx w xs 0) ?_ ?_ xs.length 0 (by omega) (by rw [List.drop_zero])
  · simp [AH.get, lk]
  · intro hr e
    rw [hr]
    simp only [Tryd.fn37_r7, idxZ, AmR, kp, exe, Arg.val, Env.at, lk, putd, ok1, Option.getD_some, if_true, resAll, resOf, Int.reduceNeg]
  · intro j hr e h4
    rw [hr]
    simp only [Rt_code, Rt_nil, flatK_ret, resAll, resOf, h4, idxZ]

/-! ### Kinds of the specification -/

def kindZ (o : Option Nat) : Int := match o with
  | some q => (q : Int) + 1
  | none => 0

theorem Tryd.kindLoop (w : List UInt8) (H : AH) (q : Nat) (b : Blk) (cp : Option Nat) (hb : H.get q = some b) (hbc : b.cells = kindNames.map .str) (K : AX → St → Prop) (ks : List Fr) (L : ACode) (hL : L = .loop (some [0, 3, 4]) Tryd.fn41_l0) (r : Option Nat)
    (hk : r = none → ∀ e, Nx Tryd.call K ks e H) (hr : ∀ j, r = some j → ∀ e, e.at 2 = .int .i64 ((j : Int) + 1) → Rt Tryd.call K ks e H) : ∀ (n i : Nat), n + i = 8 → idx w (kindNames.drop i) i = r →
    W Tryd.call K (.block 0 :: ks) [(0, .str w), (3, .sl q 0 1 8 cp), (4, .int .i64 i)] H L := by
  intro n
  induction n with
  | zero =>
    intro i hi hrr
    refine W_loopN hL ?_
    have hi' : i = 8 := by omega
    subst hi'
    simp only [Tryd.fn41_l0, Tryd.fn41_r3, AmR, kp, pushA, exe, Arg.val, Env.at, lk, putd, ok1, okM, abin, Option.getD_some, if_true, if_false, reduceCtorEq, Nat.reduceEqDiff, decide_false, Option.map_some, Int.reduceLT, Int.cast_ofNat_Int, ↓exe_lenl, lenS_sl]
    exact hk hrr.symm _
  | succ n ih =>
    intro i hi hrr
    refine W_loopN hL ?_
    have hl : kindNames.length = 8 := rfl
    obtain ⟨x, hxi⟩ : ∃ x, kindNames[i]? = some x := ⟨_, List.getElem?_eq_getElem (by omega)⟩
    have h0 : (0 : Int) ≤ (i : Int) := by omega
    have h1 : ((i : Int) < 8) = True := eq_true (by omega)
    have h1' : ((i : Int) < ((8 : Nat) : Int)) = True := eq_true (by omega)
    have hw : IntKind.i64.wrap ((i : Int) + 1) = ((i + 1 : Nat) : Int) := by rw [IntWalk.i64_in _ (by omega)]; omega
    have hw' : ((i + 1 : Nat) : Int) = (i : Int) + 1 := by omega
    have e0 : b.cells[i]? = some (.str x) := by rw [hbc, List.getElem?_map, hxi]; rfl
    rw [drop_at hxi, idx] at hrr
    simp only [Tryd.fn41_l0, Tryd.fn41_r3, h1, AmR, kp, pushA, exe, Arg.val, Env.at, lk, putd, ok1, okM, abin, Option.getD_some, if_true, if_false, reduceCtorEq, Nat.reduceEqDiff, decide_true, Option.map_some, Int.cast_ofNat_Int, ↓exe_lenl, lenS_sl]
    simp only [Tryd.fn41_r4, h0, h1, Int.toNat_natCast, and_self, hb, e0, Nat.zero_add, Nat.mul_one, AmR, Cd_beq, kp, pushA, exe, Arg.val, Env.at, lk, putd, ok1, okM, abin, Option.getD_some, if_true, if_false, reduceCtorEq, Nat.reduceEqDiff, Int.cast_ofNat_Int]
    refine ⟨fun h => ?_, fun h => ?_⟩
    · rw [if_pos h] at hrr
      simp only [Tryd.fn41_r5, hw, AmR, kp, exe, Arg.val, Env.at, lk, putd, ok1, okM, abin, Option.getD_some, if_true, if_false, reduceCtorEq, Nat.reduceEqDiff]
      exact hr i hrr.symm _ rfl
    · rw [if_neg h] at hrr
      simp only [Tryd.fn41_r6, hw, AmR, kp, exe, Arg.val, Env.at, lk, putd, ok1, okM, abin, Option.getD_some, if_true, if_false, reduceCtorEq, Nat.reduceEqDiff]
      exact ih (i + 1) (by omega) hrr

theorem Tryd.kindRef (w : List UInt8) (H : AH) : Tryd.call 41 [.str w] H = some (.ok (.int .i64 (kindZ (idx w kindNames 0))), H) := by
  refine ecall_flat 8 [] _ _ (out := [.int .i64 (kindZ (idx w kindNames 0))]) rfl rfl rfl (views_flat rfl (views_nil H 8)) rfl ?_
  show W Tryd.call _ _ _ _ _
  have hn := Tryd.names
  simp only [Tryd.fn41, Tryd.fn41_r0, AmR, kp, exe, number, Arg.val, Env.at, lk, putd, ok1, Option.getD_some, if_true, if_false, reduceCtorEq, List.append_nil]
  simp only [Tryd.fn41_r1, hn, AmR, kp, exe, Arg.val, Env.at, lk, putd, ok1, Option.getD_some, if_true, if_false, reduceCtorEq, Nat.reduceEqDiff, Nat.reduceAdd, List.map_nil, AH.take1]
  simp only [Tryd.fn41_r2, AmR, kp, exe, Arg.val, Env.at, lk, putd, ok1, Option.getD_some, if_true, if_false, reduceCtorEq, Nat.reduceEqDiff]
  refine Tryd.kindLoop w _ 8 kindBlk (some 8) ?_ rfl _ _ _ rfl (idx w kindNames 0) ?_ ?_ 8 0 (by omega) (by rw [List.drop_zero])
  · simp [AH.get, lk]
  · intro hr e
    rw [hr]
    simp only [Tryd.fn41_r7, kindZ, AmR, kp, exe, Arg.val, Env.at, lk, putd, ok1, Option.getD_some, if_true, resAll, resOf]
  · intro j hr e h4
    rw [hr]
    simp only [Rt_code, Rt_nil, flatK_ret, resAll, resOf, h4, kindZ]

/-! ### Words of the specification -/

theorem bnds_lo {n m : Nat} {k : IntKind} {l : Int} (h0 : 0 ≤ l) (h1 : l ≤ (n : Int)) : bnds n m (some (.int k l)) none = some (l.toNat, n) := by
  have a1 : (0 : Int) ≤ l ∧ l ≤ (n : Int) := ⟨h0, h1⟩
  simp only [bnds, bnd, a1, and_self, if_true]
theorem bnds_hi {n m : Nat} {k : IntKind} {h : Int} (h0 : 0 ≤ h) (h1 : h ≤ (m : Int)) : bnds n m none (some (.int k h)) = some (0, h.toNat) := by
  have a1 : (0 : Int) ≤ h ∧ h ≤ (m : Int) := ⟨h0, h1⟩
  simp only [bnds, bnd, a1, and_self, if_true]

theorem take_not {s : List UInt8} {i : Nat} {c : UInt8} (h : s[i]? = some c) (hc : c ≠ 32) (hi : (32 : UInt8) ∉ s.take i) : (32 : UInt8) ∉ s.take (i + 1) := by
  rw [List.take_add_one, h, Option.toList_some, List.mem_append, List.mem_singleton]
  rintro (h1 | h1)
  · exact hi h1
  · exact hc h1.symm

theorem Tryd.wordLoop (s : List UInt8) (hs : s.length ≤ 1000000) (H : AH) (K : AX → St → Prop) (ks : List Fr) (L : ACode) (hL : L = .loop (some [0, 5]) Tryd.fn40_l0)
    (hk : wordO s = none → ∀ e, Nx Tryd.call K ks e H) (hr : ∀ w r, wordO s = some (w, r) → ∀ e, e.at 2 = .str w → e.at 3 = .str r → e.at 4 = .bool true → Rt Tryd.call K ks e H) : ∀ (n i : Nat), n + i = s.length → (32 : UInt8) ∉ s.take i →
    W Tryd.call K (.block 0 :: ks) [(0, .str s), (5, .int .i64 i)] H L := by
  intro n
  induction n with
  | zero =>
    intro i hi hn
    refine W_loopN hL ?_
    have hi' : i = s.length := by omega
    subst hi'
    rw [List.take_length] at hn
    simp only [Tryd.fn40_l0, Tryd.fn40_r2, AmR, kp, pushA, exe, Arg.val, Env.at, lk, putd, ok1, okM, abin, Option.getD_some, if_true, if_false, reduceCtorEq, Nat.reduceEqDiff]
    exact ⟨fun h => absurd h (by omega), fun _ => hk (wordO_miss hn) _⟩
  | succ n ih =>
    intro i hi hn
    refine W_loopN hL ?_
    obtain ⟨c, hc⟩ : ∃ c, s[i]? = some c := ⟨_, List.getElem?_eq_getElem (by omega)⟩
    have h0 : (0 : Int) ≤ (i : Int) := by omega
    have h1 : ((i : Int) < (s.length : Int)) = True := eq_true (by omega)
    have hw : IntKind.i64.wrap ((i : Int) + 1) = ((i + 1 : Nat) : Int) := by rw [IntWalk.i64_in _ (by omega)]; omega
    simp only [Tryd.fn40_l0, Tryd.fn40_r2, h1, AmR, kp, pushA, exe, Arg.val, Env.at, lk, putd, ok1, okM, abin, Option.getD_some, if_true, if_false, reduceCtorEq, Nat.reduceEqDiff, decide_true]
    simp only [Tryd.fn40_r3, h0, Int.toNat_natCast, hc, AmR, Cd_beq, kp, pushA, exe, Arg.val, Env.at, lk, putd, ok1, okM, abin, Option.getD_some, if_true, if_false, reduceCtorEq, Nat.reduceEqDiff, Option.map_some]
    refine ⟨fun h => ?_, fun h => ?_⟩
    · have c32 : c = 32 := UInt8.toNat_inj.1 (by show c.toNat = 32; omega)
      have hwo : wordO s = some (s.take i, s.drop (i + 1)) := by
        have e := List.take_append_drop i s
        rw [drop_at hc, c32] at e
        rw [← wordO_hit (s.drop (i + 1)) hn, e]
      have b1 : bnds s.length s.length none (some (.int .i64 (i : Int))) = some (0, i) := by rw [bnds_hi (by omega) (by omega)]; rfl
      have b2 : bnds s.length s.length (some (.int .i64 ((i + 1 : Nat) : Int))) none = some (i + 1, s.length) := by rw [bnds_lo (by omega) (by omega)]; rfl
      have htk : (s.drop (i + 1)).take (s.length - (i + 1)) = s.drop (i + 1) := List.take_of_length_le (by rw [List.length_drop]; omega)
      refine W_drawn' (by kernel_rfl) ?_
      simp only [Tryd.fn40_r4, Tryd.fn40_r4a, hw, b1, b2, htk, Nat.sub_zero, AmR, kp, exe, Arg.val, Env.at, lk, putd, ok1, okM, abin, Option.getD_some, if_true, if_false, reduceCtorEq, Nat.reduceEqDiff, Nat.reduceAdd, true_and, List.nil_append, visH, List.flatMap_nil, List.drop_zero, Option.map_some, Option.map_none]
      exact hr _ _ hwo _ rfl rfl rfl
    · have c32 : c ≠ 32 := by rintro rfl; simp at h
      simp only [Tryd.fn40_r5, hw, AmR, kp, exe, Arg.val, Env.at, lk, putd, ok1, okM, abin, Option.getD_some, if_true, if_false, reduceCtorEq, Nat.reduceEqDiff]
      exact ih (i + 1) (by omega) (take_not hc c32 hn)

def wordR (s : List UInt8) : List AV := match wordO s with
  | some (w, r) => [.str w, .str r, .bool true]
  | none => [.str [], .str [], .bool false]

theorem Tryd.wordRef (s : List UInt8) (hs : s.length ≤ 1000000) (H : AH) : Tryd.call 40 [.str s] H = some (.ok (.tup (wordR s)), H) := by
  have hp : pack (wordR s) = .tup (wordR s) := by unfold wordR; split <;> rfl
  rw [← hp]
  refine ecall_flat 8 [] _ _ (out := wordR s) rfl rfl rfl (views_flat rfl (views_nil H 8)) (by unfold wordR; split <;> rfl) ?_
  show W Tryd.call _ _ _ _ _
  simp only [Tryd.fn40, Tryd.fn40_r0, AmR, kp, exe, number, Arg.val, Env.at, lk, putd, ok1, Option.getD_some, if_true, if_false, reduceCtorEq, List.append_nil]
  simp only [Tryd.fn40_r1, AmR, kp, exe, Arg.val, Env.at, lk, putd, ok1, Option.getD_some, if_true, if_false, reduceCtorEq]
  refine Tryd.wordLoop s hs _ _ _ _ rfl ?_ ?_ s.length 0 (by omega) (by simp)
  · intro hn e
    have hr : wordR s = [.str [], .str [], .bool false] := by unfold wordR; rw [hn]
    rw [hr]
    simp only [Tryd.fn40_r6, AmR, kp, exe, Arg.val, Env.at, lk, putd, ok1, Option.getD_some, if_true, if_false, Nat.reduceEqDiff, resAll, resOf]
  · intro w r hn e h2 h3 h4
    have hr : wordR s = [.str w, .str r, .bool true] := by unfold wordR; rw [hn]
    simp only [Rt_code, Rt_nil, flatK_ret, resAll, resOf, h2, h3, h4, hr]

end Go.Am
