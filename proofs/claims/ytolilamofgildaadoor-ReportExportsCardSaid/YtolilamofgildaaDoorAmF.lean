/-
A table's size. Conditions: those that each theorem names.
-/
import Derived.Test.YtolilamofgildaaDoorAmE
set_option linter.unusedSimpArgs false
set_option linter.unusedVariables false
namespace Go.Am

/-- The widths as a slice. -/
def WidV (H : AH) (wv : AV) (w : List Nat) : Prop := SliceV H 1 wv w.length (intsC w)
theorem WidV.at {H : AH} {wv : AV} {w : List Nat} (h : WidV H wv w) {k : Nat} {x : Nat} (hx : w[k]? = some x) : ∃ q o c b, wv = .sl q o 1 w.length c ∧ H.get q = some b ∧ b.cells[o + k * 1]? = some (.int .i64 x) := by
  have hk : k < w.length := by
    by_cases hlt : k < w.length
    · exact hlt
    · rw [List.getElem?_eq_none (by omega)] at hx; cases hx
  exact SliceV.at h hk (by simp [intsC, hx])

def tabLen (w : List Nat) (rows : List (List (List UInt8))) : Nat := (rows.map (lenR w)).sum

theorem Tryd.sizeIn (n : Nat) (H : AH) (v wv : AV) (w : List Nat) (hw : WidV H wv w) (hwb : ∀ x ∈ w, x ≤ 4000000) (L0 i : Nat) (u : AV) (r : List (List UInt8)) (hu : StrsV n H u r) (hs : ∀ s ∈ r, s.length ≤ 4000000) (hrl : r.length ≤ 4000000) (hwr : w.length = r.length) (tot rest : Nat) (K : AX → St → Prop) (ks : List Fr) (L : ACode) (hL : L = .loop (some [1, 5, 7, 10, 11, 12, 16, 17, 18]) Tryd.fn21_l0) :
    ∀ (m k acc : Nat), m + k = r.length → acc ≤ 1048576 → acc + lenR (w.drop k) (r.drop k) + rest = tot →
      (∀ acc' a b, acc' + rest = tot → acc' ≤ 1048576 → Nx Tryd.call K ks [(19, .bool false), (1, wv), (5, .int .i64 (acc' : Nat)), (7, u), (10, v), (11, .int .i64 L0), (12, .int .i64 i), (16, u), (17, .int .i64 r.length), (18, a), (19, b)] H) →
      (∀ e (x : Nat), x ≤ tot → 1048576 < x → e.at 4 = .int .i64 x → Rt Tryd.call K ks e H) →
      W Tryd.call K (.block 2 :: ks) [(1, wv), (5, .int .i64 acc), (7, u), (10, v), (11, .int .i64 L0), (12, .int .i64 i), (16, u), (17, .int .i64 r.length), (18, .int .i64 k)] H L := by
  intro m
  induction m with
  | zero =>
    intro k acc hk ha ht hd hf
    refine W_loopN hL ?_
    have hk' : k = r.length := by omega
    subst hk'
    have : lenR (w.drop r.length) (r.drop r.length) = 0 := by rw [List.drop_length]; cases w.drop r.length <;> rfl
    rw [this] at ht
    simp only [Tryd.fn21_l0, Tryd.fn21_r6, AmR, kp, pushA, exe, Arg.val, Env.at, lk, putd, okM, abin, Option.getD_some, if_true, if_false, Nat.reduceEqDiff]
    exact ⟨fun h => absurd h (by omega), fun _ => hd acc _ _ (by omega) ha⟩
  | succ m ih =>
    intro k acc hk ha ht hd hf
    refine W_loopN hL ?_
    have hkl : k < r.length := by omega
    have hsk : r[k]? = some r[k] := List.getElem?_eq_getElem hkl
    have hwk : w[k]? = some w[k] := List.getElem?_eq_getElem (by omega)
    have hwm := hwb _ (List.mem_of_getElem? hwk)
    obtain ⟨q2, o2, c2, b2, u1, u2, u3⟩ := hu.cell hsk
    obtain ⟨q3, o3, c3, b3, v1, v2, v3⟩ := hw.at hwk
    have hsm := hs _ (List.mem_of_getElem? hsk)
    rw [drop_cons' hsk, drop_cons' hwk] at ht
    unfold lenR at ht
    generalize r[k] = s at *
    generalize w[k] = wk at *
    have hk0 : (0 : Int) ≤ (k : Int) := by omega
    have hk1 : ((k : Int) < (r.length : Int)) = True := eq_true (by omega)
    have hkw : ((k : Int) < (w.length : Int)) = True := eq_true (by omega)
    have hwr' := succ_wrap (i := k) (by omega)
    have hl1 : IntKind.i64.wrap ((r.length : Int) - 1) = ((r.length - 1 : Nat) : Int) := by rw [IntWalk.i64_in _ (by omega)]; omega
    have hul := hu.lenS
    subst u1
    subst v1
    simp only [Tryd.fn21_l0, Tryd.fn21_r6, hk1, AmR, kp, pushA, exe, Arg.val, Env.at, lk, putd, okM, abin, Option.getD_some, if_true, if_false, Nat.reduceEqDiff, decide_true]
    simp only [Tryd.fn21_r7, hk0, hk1, u2, u3, Int.toNat_natCast, and_self, AmR, kp, exe, Arg.val, Env.at, lk, putd, ok1, okM, Option.getD_some, if_true, if_false, Nat.reduceEqDiff]
    have fin : ∀ acc1 : Nat, acc1 + lenR (w.drop (k + 1)) (r.drop (k + 1)) + rest = tot → acc1 ≤ 9000000 →
        W Tryd.call K (.code (.cond (.t 41) (.seq (.seq (.reg Tryd.fn21_r12) (.trim [4])) .ret) .skip) :: .block 3 :: .code (.seq (.reg Tryd.fn21_r13) (.trim [1, 5, 7, 10, 11, 12, 16, 17, 18])) :: .code L :: .block 2 :: ks)
          [(1, .sl q3 o3 1 w.length c3), (5, .int .i64 acc1), (7, .sl q2 o2 1 r.length c2), (10, v), (11, .int .i64 L0), (12, .int .i64 i), (16, .sl q2 o2 1 r.length c2), (17, .int .i64 r.length), (18, .int .i64 k)] H (.seq (.reg Tryd.fn21_r11) (.trim [1, 5, 7, 10, 11, 12, 16, 17, 18, 41])) := by
      intro acc1 h1 h2
      simp only [Tryd.fn21_r11, AmR, kp, pushA, exe, Arg.val, Env.at, lk, putd, ok1, okM, abin, Option.getD_some, if_true, if_false, Nat.reduceEqDiff]
      refine ⟨fun hgt => ?_, fun hle => ?_⟩
      · simp only [Tryd.fn21_r12, AmR, kp, exe, Arg.val, Env.at, lk, putd, ok1, Option.getD_some, if_true, if_false, Nat.reduceEqDiff]
        exact hf _ acc1 (by omega) (by omega) rfl
      · simp only [Tryd.fn21_r13, hwr', AmR, kp, exe, Arg.val, Env.at, lk, putd, ok1, okM, abin, Option.getD_some, if_true, if_false, Nat.reduceEqDiff]
        exact ih (k + 1) acc1 (by omega) (by omega) h1 hd hf
    by_cases hlast : k + 1 = r.length
    · have e1 : ((k : Int) == ((r.length - 1 : Nat) : Int)) = true := by rw [beq_iff_eq]; omega
      have e2 : (r.drop (k + 1)).isEmpty = true := by rw [hlast, List.drop_length]; rfl
      have e3 : lenR (w.drop (k + 1)) (r.drop (k + 1)) = 0 := by rw [hlast, List.drop_length]; cases w.drop r.length <;> rfl
      rw [e2, if_pos rfl] at ht
      have e4 : IntKind.i64.wrap ((s.length : Int) + 1) = ((s.length + 1 : Nat) : Int) := succ_wrap (by omega)
      have e5 : IntKind.i64.wrap ((acc : Int) + ((s.length + 1 : Nat) : Int)) = ((acc + (s.length + 1) : Nat) : Int) := by rw [IntWalk.i64_in _ (by omega)]; omega
      simp only [Tryd.fn21_r8, hul, hl1, e1, AmR, kp, pushA, exe, Arg.val, Env.at, lk, putd, ok1, okM, abin, Option.getD_some, if_true, if_false, Nat.reduceEqDiff, Option.map_some, ↓exe_lenl]
      simp only [Tryd.fn21_r9, e4, e5, AmR, kp, exe, Arg.val, Env.at, lk, putd, ok1, okM, abin, Option.getD_some, if_true, if_false, Nat.reduceEqDiff]
      have := fin (acc + (s.length + 1)) (by rw [e3]; omega) (by omega)
      simpa only [W_seq, W_reg] using this
    · have e1 : ((k : Int) == ((r.length - 1 : Nat) : Int)) = false := beq_eq_false_iff_ne.2 (by omega)
      have e2 : (r.drop (k + 1)).isEmpty = false := by
        cases hd' : r.drop (k + 1) with
        | nil => have := congrArg List.length hd'; simp at this; omega
        | cons => rfl
      rw [e2] at ht
      simp only [Bool.false_eq_true, if_false] at ht
      have e4 : IntKind.i64.wrap ((wk : Int) + 2) = ((wk + 2 : Nat) : Int) := by rw [IntWalk.i64_in _ (by omega)]; omega
      have e5 : IntKind.i64.wrap ((acc : Int) + ((wk + 2 : Nat) : Int)) = ((acc + (wk + 2) : Nat) : Int) := by rw [IntWalk.i64_in _ (by omega)]; omega
      simp only [Tryd.fn21_r8, hul, hl1, e1, AmR, kp, pushA, exe, Arg.val, Env.at, lk, putd, ok1, okM, abin, Option.getD_some, if_true, if_false, Nat.reduceEqDiff, Option.map_some, ↓exe_lenl]
      simp only [Tryd.fn21_r10, hk0, hkw, v2, v3, e4, e5, Int.toNat_natCast, and_self, AmR, kp, exe, Arg.val, Env.at, lk, putd, ok1, okM, abin, Option.getD_some, if_true, if_false, Nat.reduceEqDiff]
      have := fin (acc + (wk + 2)) (by omega) (by omega)
      simpa only [W_seq, W_reg] using this

theorem Tryd.sizeOut (n : Nat) (H : AH) (v wv : AV) (w : List Nat) (hw : WidV H wv w) (hwb : ∀ x ∈ w, x ≤ 4000000) (rows : List (List (List UInt8))) (hv : TabV n H v rows) (hs : ∀ r ∈ rows, r.length ≤ 4000000 ∧ (∀ s ∈ r, s.length ≤ 4000000) ∧ w.length = r.length) (hrl : rows.length ≤ 4000000) (tot : Nat) (K : AX → St → Prop) (ks : List Fr) (L : ACode) (hL : L = .loop (some [1, 5, 10, 11, 12]) Tryd.fn21_l1) :
    ∀ (m i acc : Nat), m + i = rows.length → acc ≤ 1048576 → acc + tabLen w (rows.drop i) = tot →
      (∀ a b, tot ≤ 1048576 → Nx Tryd.call K ks [(13, .bool false), (1, wv), (5, .int .i64 tot), (10, v), (11, .int .i64 rows.length), (12, a), (13, b)] H) →
      (∀ e (x : Nat), x ≤ tot → 1048576 < x → e.at 4 = .int .i64 x → Rt Tryd.call K ks e H) →
      W Tryd.call K (.block 0 :: ks) [(1, wv), (5, .int .i64 acc), (10, v), (11, .int .i64 rows.length), (12, .int .i64 i)] H L := by
  intro m
  induction m with
  | zero =>
    intro i acc hi ha ht hd hf
    refine W_loopN hL ?_
    have hi' : i = rows.length := by omega
    subst hi'
    rw [List.drop_length] at ht
    have ht' : acc = tot := by simpa [tabLen] using ht
    simp only [Tryd.fn21_l1, Tryd.fn21_r3, AmR, kp, pushA, exe, Arg.val, Env.at, lk, putd, okM, abin, Option.getD_some, if_true, if_false, Nat.reduceEqDiff]
    exact ⟨fun h => absurd h (by omega), fun _ => by rw [ht']; exact hd _ _ (by omega)⟩
  | succ m ih =>
    intro i acc hi ha ht hd hf
    refine W_loopN hL ?_
    have hil : i < rows.length := by omega
    have hr : rows[i]? = some rows[i] := List.getElem?_eq_getElem hil
    have hsr := hs _ (List.mem_of_getElem? hr)
    rw [drop_cons' hr] at ht
    generalize rows[i] = r at *
    have ht2 : acc + lenR w r + tabLen w (rows.drop (i + 1)) = tot := by simpa [tabLen, Nat.add_assoc] using ht
    obtain ⟨q, o, c, b, u, e1, e2, e3, hu⟩ := hv.row hr
    have hul := hu.lenS
    have hi0 : (0 : Int) ≤ (i : Int) := by omega
    have hi1 : ((i : Int) < (rows.length : Int)) = True := eq_true (by omega)
    have hwi := succ_wrap (i := i) (by omega)
    have hin := Tryd.sizeIn n H v wv w hw hwb rows.length i u r hu hsr.2.1 hsr.1 hsr.2.2 tot (tabLen w (rows.drop (i + 1)))
    subst e1
    simp only [Tryd.fn21_l1, Tryd.fn21_r3, hi1, AmR, kp, pushA, exe, Arg.val, Env.at, lk, putd, okM, abin, Option.getD_some, if_true, if_false, Nat.reduceEqDiff, decide_true]
    simp only [Tryd.fn21_r4, hi0, hi1, e2, e3, Int.toNat_natCast, and_self, AmR, kp, exe, Arg.val, Env.at, lk, putd, ok1, okM, Option.getD_some, if_true, if_false, Nat.reduceEqDiff]
    simp only [Tryd.fn21_r5, hul, AmR, kp, exe, Arg.val, Env.at, lk, putd, ok1, okM, Option.getD_some, if_true, if_false, Nat.reduceEqDiff, Option.map_some, ↓exe_lenl]
    refine hin K _ _ rfl r.length 0 acc (by omega) ha (by rw [List.drop_zero, List.drop_zero]; exact ht2) (fun acc' a b' h1 h2 => ?_) fun e x h1 h2 h3 => ?_
    · simp only [Tryd.fn21_r14, hwi, AmR, kp, exe, Arg.val, Env.at, lk, putd, ok1, okM, abin, Option.getD_some, if_true, if_false, Nat.reduceEqDiff]
      exact ih (i + 1) acc' (by omega) h2 h1 hd hf
    · simp only [Rt_block, Rt_code]
      exact hf e x h1 h2 h3

theorem Tryd.size (n : Nat) (H : AH) (v wv : AV) (w : List Nat) (hw : WidV H wv w) (hwb : ∀ x ∈ w, x ≤ 4000000) (rows : List (List (List UInt8))) (hv : TabV n H v rows) (hs : ∀ r ∈ rows, r.length ≤ 4000000 ∧ (∀ s ∈ r, s.length ≤ 4000000) ∧ w.length = r.length) (hrl : rows.length ≤ 4000000) :
    ∃ x : Nat, Tryd.call 21 [v, wv] H = some (.ok (.int .i64 x), H) ∧ x ≤ tabLen w rows ∧ (x ≤ 1048576 → tabLen w rows ≤ 1048576) := by
  have hvl := hv.lenS
  obtain ⟨vs, H', ⟨x, rfl, rfl, h1, h2⟩, hc⟩ := ecall_E 6 [] (lk Tryd.ext) (lk Tryd.tab) (f := 21) (fn := Tryd.fn21) (args := [v, wv]) (H := H) (R := fun vs H' => ∃ x : Nat, vs = [.int .i64 x] ∧ H' = H ∧ x ≤ tabLen w rows ∧ (x ≤ 1048576 → tabLen w rows ≤ 1048576)) rfl rfl rfl (by
    show W Tryd.call _ _ _ _ _
    simp only [Tryd.fn21, Tryd.fn21_r0, Tryd.fn21_r1, AmR, kp, exe, number, Arg.val, Env.at, lk, putd, ok1, Option.getD_some, if_true, if_false, reduceCtorEq, Nat.reduceEqDiff, Nat.reduceAdd]
    simp only [Tryd.fn21_r2, hvl, AmR, kp, exe, Arg.val, Env.at, lk, putd, ok1, okM, Option.getD_some, if_true, if_false, reduceCtorEq, Nat.reduceEqDiff, Option.map_some, ↓exe_lenl]
    refine Tryd.sizeOut n H v wv w hw hwb rows hv hs hrl (tabLen w rows) _ _ _ rfl rows.length 0 0 (by omega) (by omega) (by rw [List.drop_zero]; omega) (fun a b h2 => ?_) fun e x h1 h2 h3 => ?_
    · simp only [Tryd.fn21_r15, endK_ret, AmR, kp, exe, Arg.val, Env.at, lk, putd, ok1, Option.getD_some, if_true, if_false, Nat.reduceEqDiff, resAll, resOf, Option.some.injEq, List.cons.injEq, AV.int.injEq, and_true, true_and, exists_eq_left']
      exact ⟨tabLen w rows, rfl, Nat.le_refl _, fun _ => h2⟩
    · simp only [Rt_code, Rt_nil, endK_ret, resAll, resOf, h3, Option.some.injEq, exists_eq_left']
      exact ⟨x, rfl, trivial, h1, fun h => absurd h (by omega)⟩)
  exact ⟨x, hc, h1, h2⟩

end Go.Am
