/-
Rows of strings as arguments; small rows. Conditions: those that each theorem names.
-/
import Derived.Test.YtolilamofgildaaDoorAmC0
import Derived.Test.YtolilamofgildaaDoorAmA
set_option linter.unusedSimpArgs false
set_option linter.unusedVariables false
namespace Go.Am

/-- u is a slice of these strings; its block's name is below n. -/
def StrsV (n : Nat) (H : AH) (u : AV) (r : List (List UInt8)) : Prop := SliceV H 1 u r.length (r.map AV.str) ∧ ∀ i o z m c, u = .sl i o z m c → i < n
/-- v is a slice of slices of strings. -/
def TabV (n : Nat) (H : AH) (v : AV) (rows : List (List (List UInt8))) : Prop := (∀ i o z m c, v = .sl i o z m c → i < n) ∧ ∃ us, us.length = rows.length ∧ SliceV H 1 v rows.length us ∧ ∀ (i : Nat) u r, us[i]? = some u → rows[i]? = some r → StrsV n H u r

theorem SliceV.old {H H' : AH} {z : Nat} {v : AV} {n lo : Nat} {cs : List AV} (h : SliceV H z v n cs) (hn : ∀ i o z n c, v = .sl i o z n c → i < lo) (hk : ∀ i, i < lo → H'.get i = H.get i) : SliceV H' z v n cs := by
  cases h with
  | nil => exact .nil
  | emp => exact .emp
  | sl hb hl => exact .sl ((hk _ (hn _ _ _ _ _ rfl)).trans hb) hl

theorem StrsV.old {n n' : Nat} {H H' : AH} {u : AV} {r : List (List UInt8)} (h : StrsV n H u r) (hn : n ≤ n') (hk : ∀ i, i < n → H'.get i = H.get i) : StrsV n' H' u r :=
  ⟨h.1.old h.2 hk, fun i o z m c e => Nat.lt_of_lt_of_le (h.2 i o z m c e) hn⟩
theorem TabV.old {n n' : Nat} {H H' : AH} {v : AV} {rows : List (List (List UInt8))} (h : TabV n H v rows) (hn : n ≤ n') (hk : ∀ i, i < n → H'.get i = H.get i) : TabV n' H' v rows := by
  obtain ⟨h1, us, h2, h3, h4⟩ := h
  exact ⟨fun i o z m c e => Nat.lt_of_lt_of_le (h1 i o z m c e) hn, us, h2, h3.old h1 hk, fun i u r hu hr => (h4 i u r hu hr).old hn hk⟩

/-- An element of a slice. -/
theorem SliceV.at {H : AH} {v : AV} {n : Nat} {cs : List AV} (h : SliceV H 1 v n cs) {i : Nat} (hi : i < n) {x : AV} (hx : cs[i]? = some x) : ∃ q o c b, v = .sl q o 1 n c ∧ H.get q = some b ∧ b.cells[o + i * 1]? = some x := by
  rcases h.cases with ⟨rfl, h, _⟩ | ⟨rfl, h, _⟩ | ⟨q, o, c, b, rfl, hb, hl, hcs⟩
  · omega
  · omega
  · refine ⟨q, o, c, b, rfl, hb, ?_⟩
    rw [← hcs, List.getElem?_take, if_pos (by omega), List.getElem?_drop] at hx
    rw [Nat.mul_one]
    exact hx

theorem TabV.lenS {n : Nat} {H : AH} {v : AV} {rows : List (List (List UInt8))} (h : TabV n H v rows) : lenS v = some rows.length := by
  obtain ⟨_, us, _, h3, _⟩ := h; exact h3.lenS
theorem StrsV.lenS {n : Nat} {H : AH} {u : AV} {r : List (List UInt8)} (h : StrsV n H u r) : lenS u = some r.length := h.1.lenS

/-- A row of such a slice. -/
theorem TabV.row {n : Nat} {H : AH} {v : AV} {rows : List (List (List UInt8))} (h : TabV n H v rows) {i : Nat} {r : List (List UInt8)} (hr : rows[i]? = some r) : ∃ q o c b u, v = .sl q o 1 rows.length c ∧ H.get q = some b ∧ b.cells[o + i * 1]? = some u ∧ StrsV n H u r := by
  obtain ⟨_, us, h2, h3, h4⟩ := h
  have hi : i < rows.length := by
    by_cases hlt : i < rows.length
    · exact hlt
    · rw [List.getElem?_eq_none (by omega)] at hr; cases hr
  have hu : us[i]? = some us[i] := List.getElem?_eq_getElem (by omega)
  obtain ⟨q, o, c, b, e1, e2, e3⟩ := h3.at hi hu
  exact ⟨q, o, c, b, _, e1, e2, e3, h4 i _ r hu hr⟩
theorem StrsV.cell {n : Nat} {H : AH} {u : AV} {r : List (List UInt8)} (h : StrsV n H u r) {k : Nat} {s : List UInt8} (hs : r[k]? = some s) : ∃ q o c b, u = .sl q o 1 r.length c ∧ H.get q = some b ∧ b.cells[o + k * 1]? = some (.str s) := by
  have hk : k < r.length := by
    by_cases hlt : k < r.length
    · exact hlt
    · rw [List.getElem?_eq_none (by omega)] at hs; cases hs
  exact h.1.at hk (by simp [hs])

theorem drop_cons' {α : Type} {l : List α} {i : Nat} {x : α} (h : l[i]? = some x) : l.drop i = x :: l.drop (i + 1) := by
  have hi : i < l.length := by
    by_cases hlt : i < l.length
    · exact hlt
    · rw [List.getElem?_eq_none (by omega)] at h; cases h
  rw [List.drop_eq_getElem_cons hi]
  rw [List.getElem?_eq_getElem hi, Option.some.injEq] at h
  rw [h]

theorem succ_wrap {i : Nat} (h : i ≤ 4611686018427387904) : IntKind.i64.wrap ((i : Int) + 1) = ((i + 1 : Nat) : Int) := by rw [IntWalk.i64_in _ (by omega)]; omega

/-! ### small -/

def smallRow (r : List (List UInt8)) : Bool := decide (r.length ≤ 60) && r.all fun s => decide (s.length ≤ 1000)
def smallB (rows : List (List (List UInt8))) : Bool := decide (rows.length ≤ 60) && rows.all smallRow

theorem Tryd.smallIn (n : Nat) (H : AH) (v : AV) (rows : List (List (List UInt8))) (hv : TabV n H v rows) (i : Nat) (r : List (List UInt8)) (hr : rows[i]? = some r) (hrl : r.length ≤ 60) (hil : i ≤ 60) (K : AX → St → Prop) (ks : List Fr) (L : ACode) (hL : L = .loop (some [0, 3, 4]) Tryd.fn9_l0) :
    ∀ (m k : Nat), m + k = r.length → ((r.drop k).all (fun s => decide (s.length ≤ 1000)) = true → ∀ w w', Nx Tryd.call K ks [(26, .bool false), (0, v), (3, .int .i64 i), (4, w), (26, w')] H) →
      ((r.drop k).all (fun s => decide (s.length ≤ 1000)) = false → ∀ e, e.at 2 = .bool false → Rt Tryd.call K ks e H) →
      W Tryd.call K (.block 2 :: ks) [(0, v), (3, .int .i64 i), (4, .int .i64 k)] H L := by
  obtain ⟨q, o, c, b, u, e1, e2, e3, hu⟩ := hv.row hr
  have hul := hu.lenS
  have hi0 : (0 : Int) ≤ (i : Int) := by omega
  have hilt : i < rows.length := by
    by_cases hlt : i < rows.length
    · exact hlt
    · rw [List.getElem?_eq_none (by omega)] at hr; cases hr
  have hi1 : ((i : Int) < (rows.length : Int)) = True := eq_true (by omega)
  intro m
  induction m with
  | zero =>
    intro k hk hd hf
    refine W_loopN hL ?_
    have hk' : k = r.length := by omega
    subst hk'
    simp only [e1, Tryd.fn9_l0, Tryd.fn9_r8, hi0, hi1, e2, e3, hul, Int.toNat_natCast, and_self, AmR, kp, pushA, exe, Arg.val, Env.at, lk, putd, ok1, okM, abin, Option.getD_some, if_true, if_false, reduceCtorEq, Nat.reduceEqDiff, Option.map_some, ↓exe_lenl]
    exact ⟨fun h => absurd h (by omega), fun _ => by rw [← e1]; exact hd (by simp) _ _⟩
  | succ m ih =>
    intro k hk hd hf
    refine W_loopN hL ?_
    have hkl : k < r.length := by omega
    have hs : r[k]? = some r[k] := List.getElem?_eq_getElem hkl
    obtain ⟨q2, o2, c2, b2, u1, u2, u3⟩ := hu.cell hs
    have hdk := drop_cons' hs
    rw [hdk] at hd hf
    generalize r[k] = s at *
    have hk0 : (0 : Int) ≤ (k : Int) := by omega
    have hk1 : ((k : Int) < (r.length : Int)) = True := eq_true (by omega)
    have hw := succ_wrap (i := k) (by omega)
    subst u1
    simp only [e1, Tryd.fn9_l0, Tryd.fn9_r8, hi0, hi1, e2, e3, hul, hk1, Int.toNat_natCast, and_self, AmR, kp, pushA, exe, Arg.val, Env.at, lk, putd, ok1, okM, abin, Option.getD_some, if_true, if_false, reduceCtorEq, Nat.reduceEqDiff, decide_true, Option.map_some, ↓exe_lenl]
    simp only [Tryd.fn9_r9, hi0, hi1, e2, e3, hk0, hk1, u2, u3, Int.toNat_natCast, and_self, AmR, kp, pushA, exe, Arg.val, Env.at, lk, putd, ok1, okM, abin, Option.getD_some, if_true, if_false, reduceCtorEq, Nat.reduceEqDiff]
    refine ⟨fun hgt => ?_, fun hle => ?_⟩
    · simp only [Tryd.fn9_r10, AmR, kp, exe, Arg.val, Env.at, lk, putd, ok1, Option.getD_some, if_true, if_false, reduceCtorEq, Nat.reduceEqDiff]
      exact hf (by simp; omega) _ rfl
    · simp only [Tryd.fn9_r11, hw, AmR, kp, exe, Arg.val, Env.at, lk, putd, ok1, okM, abin, Option.getD_some, if_true, if_false, reduceCtorEq, Nat.reduceEqDiff]
      rw [← e1]
      have hsl : s.length ≤ 1000 := by omega
      exact ih (k + 1) (by omega) (fun h => hd (by simp [hsl, h])) fun h => hf (by simp [hsl, h])

theorem Tryd.smallOut (n : Nat) (H : AH) (v : AV) (rows : List (List (List UInt8))) (hv : TabV n H v rows) (hrl : rows.length ≤ 60) (K : AX → St → Prop) (ks : List Fr) (L : ACode) (hL : L = .loop (some [0, 3]) Tryd.fn9_l1) :
    ∀ (m i : Nat), m + i = rows.length → ((rows.drop i).all smallRow = true → ∀ e, Nx Tryd.call K ks e H) →
      ((rows.drop i).all smallRow = false → ∀ e, e.at 2 = .bool false → Rt Tryd.call K ks e H) →
      W Tryd.call K (.block 0 :: ks) [(0, v), (3, .int .i64 i)] H L := by
  have hvl := hv.lenS
  intro m
  induction m with
  | zero =>
    intro i hi hd hf
    refine W_loopN hL ?_
    have hi' : i = rows.length := by omega
    subst hi'
    simp only [Tryd.fn9_l1, Tryd.fn9_r4, hvl, AmR, kp, pushA, exe, Arg.val, Env.at, lk, putd, ok1, okM, abin, Option.getD_some, if_true, if_false, reduceCtorEq, Nat.reduceEqDiff, Option.map_some, ↓exe_lenl]
    exact ⟨fun h => absurd h (by omega), fun _ => hd (by simp) _⟩
  | succ m ih =>
    intro i hi hd hf
    refine W_loopN hL ?_
    have hil : i < rows.length := by omega
    have hr : rows[i]? = some rows[i] := List.getElem?_eq_getElem hil
    have hdi := drop_cons' hr
    rw [hdi] at hd hf
    generalize rows[i] = r at *
    obtain ⟨q, o, c, b, u, e1, e2, e3, hu⟩ := hv.row hr
    have hul := hu.lenS
    have hi0 : (0 : Int) ≤ (i : Int) := by omega
    have hi1 : ((i : Int) < (rows.length : Int)) = True := eq_true (by omega)
    have hw := succ_wrap (i := i) (by omega)
    have hin := Tryd.smallIn n H v rows hv i r hr
    subst e1
    simp only [Tryd.fn9_l1, Tryd.fn9_r4, hi1, AmR, kp, pushA, exe, Arg.val, Env.at, lk, putd, ok1, okM, abin, Option.getD_some, if_true, if_false, reduceCtorEq, Nat.reduceEqDiff, decide_true, Option.map_some, ↓exe_lenl, lenS_sl]
    simp only [Tryd.fn9_r5, hi0, hi1, e2, e3, hul, Int.toNat_natCast, and_self, AmR, kp, pushA, exe, Arg.val, Env.at, lk, putd, ok1, okM, abin, Option.getD_some, if_true, if_false, reduceCtorEq, Nat.reduceEqDiff, Option.map_some, ↓exe_lenl]
    refine ⟨fun hgt => ?_, fun hle => ?_⟩
    · simp only [Tryd.fn9_r6, AmR, kp, exe, Arg.val, Env.at, lk, putd, ok1, Option.getD_some, if_true, if_false, reduceCtorEq, Nat.reduceEqDiff]
      exact hf (by simp [smallRow]; omega) _ rfl
    · have hrl : r.length ≤ 60 := by omega
      simp only [Tryd.fn9_r7, AmR, kp, exe, Arg.val, Env.at, lk, putd, ok1, Option.getD_some, if_true, if_false, reduceCtorEq, Nat.reduceEqDiff]
      refine hin hrl (by omega) K _ _ rfl r.length 0 (by omega) (fun hall w w' => ?_) (fun hall e he => ?_)
      · rw [List.drop_zero] at hall
        simp only [Tryd.fn9_r12, hw, AmR, kp, exe, Arg.val, Env.at, lk, putd, ok1, okM, abin, Option.getD_some, if_true, if_false, reduceCtorEq, Nat.reduceEqDiff]
        have hsr : smallRow r = true := by simp [smallRow, hrl, hall]
        exact ih (i + 1) (by omega) (fun h => hd (by simp only [List.all_cons, hsr, h, Bool.and_self])) fun h => hf (by simp only [List.all_cons, hsr, h, Bool.and_false])
      · rw [List.drop_zero] at hall
        have hsr : smallRow r = false := by simp [smallRow, hall]
        simp only [Rt_block, Rt_code]
        exact hf (by simp only [List.all_cons, hsr, Bool.false_and]) e he

theorem Tryd.small (n : Nat) (H : AH) (v : AV) (rows : List (List (List UInt8))) (hv : TabV n H v rows) : Tryd.call 9 [v] H = some (.ok (.bool (smallB rows)), H) := by
  have hvl := hv.lenS
  refine ecall_W 6 [] _ _ (out := [.bool (smallB rows)]) rfl rfl rfl ?_
  show W Tryd.call _ _ _ _ _
  simp only [Tryd.fn9, Tryd.fn9_r0, Tryd.fn9_r1, hvl, AmR, kp, pushA, exe, number, Arg.val, Env.at, lk, putd, ok1, okM, abin, Option.getD_some, if_true, if_false, reduceCtorEq, Nat.reduceEqDiff, Option.map_some, ↓exe_lenl]
  refine ⟨fun hgt => ?_, fun hle => ?_⟩
  · simp only [Tryd.fn9_r2, exactK_ret, AmR, kp, exe, Arg.val, Env.at, lk, putd, ok1, Option.getD_some, if_true, if_false, reduceCtorEq, Nat.reduceEqDiff, resAll, resOf, Option.some.injEq, List.cons.injEq, AV.bool.injEq, and_true]
    simp [smallB]; omega
  · have hrl : rows.length ≤ 60 := by omega
    simp only [Tryd.fn9_r3, AmR, kp, exe, Arg.val, Env.at, lk, putd, ok1, Option.getD_some, if_true, if_false, reduceCtorEq, Nat.reduceEqDiff]
    refine Tryd.smallOut n H v rows hv hrl _ _ _ rfl rows.length 0 (by omega) (fun hall e => ?_) (fun hall e he => ?_)
    · rw [List.drop_zero] at hall
      simp only [Tryd.fn9_r13, exactK_ret, AmR, kp, exe, Arg.val, Env.at, lk, putd, ok1, Option.getD_some, if_true, resAll, resOf, Option.some.injEq, List.cons.injEq, AV.bool.injEq, and_true]
      simp [smallB, hrl, hall]
    · rw [List.drop_zero] at hall
      simp only [Rt_code, Rt_nil, exactK_ret, resAll, resOf, he]
      simp [smallB, hall]

end Go.Am
