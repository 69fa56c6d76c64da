/-
event.Shift. Conditions: the list is short.
-/
import Derived.Test.YtjpppajbhpbkiaaDoorAmE
set_option linter.unusedSimpArgs false
set_option linter.unusedVariables false
namespace Go.Am


/-- v is nil, or a new row of one's own that holds these events. -/
def NewEvs (H : AH) (v : AV) (H' : AH) (l : List Ev) : Prop := (v = .nils ∧ l = [] ∧ H' = H) ∨ ∃ c b, v = .sl H.next 0 7 l.length c ∧ H' = H.take1 b ∧ b.ro = false ∧ b.cells = rowsOf Ev.cells l ∧ b.ty = 23 ∧ (c = some l.length ∨ c = none)

theorem Tryd.clone (l : List Ev) (v : AV) (H : AH) (hl : l.length ≤ 1000000) (hv : EvS H v l) : ∃ v' H', Tryd.call 33 [v] H = some (.ok v', H') ∧ NewEvs H v' H' l := by
  have fin : ∀ {us : List AV} {bs : List (Nat × Blk)} {kp : Nat}, views H [v] 4 = some (us, bs, kp) → W Tryd.call (endK Tryd.fn33.res (Back kp H fun vs H' => ∃ v', vs = [v'] ∧ NewEvs H v' H' l)) [] (number us 0) ⟨bs ++ [], kp, kp⟩ Tryd.fn33.code →
      ∃ v' H', Tryd.call 33 [v] H = some (.ok v', H') ∧ NewEvs H v' H' l := fun hvw h => by
    obtain ⟨vs, H', ⟨v', rfl, h1⟩, h4⟩ := ecall_vE 4 [] (lk Tryd.ext) (lk Tryd.tab) (f := 33) (fn := Tryd.fn33) rfl rfl rfl hvw h
    exact ⟨v', H', h4, h1⟩
  have emp0 : l.length = 0 → ∀ {kp : Nat} {H1 : AH} (q : Nat) (b : Blk), kp ≤ q → H1.get q = some b → b.ro = false → b.cells = [] → b.ty = 23 → Back kp H (fun vs H' => ∃ v', vs = [v'] ∧ NewEvs H v' H' l) [.sl q 0 7 0 (some 0)] H1 := fun hn => by
    have : l = [] := List.length_eq_zero_iff.1 hn
    subst this
    intro kp H1 q b hq hg hro hcells hty
    exact back_slice hq hg hro (by rw [hcells]; rfl) rfl ⟨_, rfl, .inr ⟨some 0, b, rfl, rfl, hro, hcells, hty, .inl rfl⟩⟩
  rcases hv.cases with ⟨rfl, hn, _⟩ | ⟨rfl, hn, _⟩ | ⟨i, o, c, b, rfl, hb, hlb, hcs⟩
  · refine fin (views_flat rfl (views_nil H 4)) ?_
    simp only [Tryd.fn33, Tryd.fn33_r0, Tryd.fn33_r1, Tryd.fn33_r2, AmR, kp, pushA, exe, number, Arg.val, Env.at, lk, putd, ok1, okM, Option.getD_some, if_true, if_false, Bool.not_false, reduceCtorEq, Nat.reduceEqDiff, resAll, resOf, Option.some.injEq, List.append_nil, Option.map_some, exists_eq_left', aeqv, aeq, Bool.true_bne]
    exact back_flat (vs := [.nils]) rfl ⟨_, rfl, .inl ⟨rfl, List.length_eq_zero_iff.1 hn, rfl⟩⟩
  · refine fin (views_flat rfl (views_nil H 4)) ?_
    simp only [Tryd.fn33, Tryd.fn33_r0, Tryd.fn33_r1, Tryd.fn33_r3, takeFrom, aapp, not_false_eq_true, Nat.reduceDiv, Nat.reduceMod, and_self, AmR, kp, pushA, exe, number, Arg.val, Env.at, lk, putd, ok1, okM, AH.push, AH.get, Option.getD_some, if_true, if_false, reduceCtorEq, Nat.reduceEqDiff, Nat.reduceAdd, Nat.reduceMul, Bool.true_eq_false, resAll, resOf, Option.some.injEq, List.append_nil, Nat.reduceBEq, Nat.reduceLeDiff, List.map_nil, AH.cellsAt, List.all_nil, Bool.and_self, List.length_nil, List.drop_zero, List.take_zero, Option.map_some, afill, rep, exists_eq_left', List.reduceReplicate, List.flatten_nil, aeqv, aeq, bne_self_eq_false]
    exact emp0 hn 4 ⟨_, _, _, _, _⟩ (Nat.le_refl _) rfl rfl rfl rfl
  · refine fin (viewS hb hlb hcs (evs_flat l) (views_nil H _)) ?_
    by_cases hl0 : l.length = 0
    · have : l = [] := List.length_eq_zero_iff.1 hl0
      subst this
      simp only [Tryd.fn33, Tryd.fn33_r0, Tryd.fn33_r1, Tryd.fn33_r3, takeFrom, aapp, rowsOf, not_false_eq_true, Nat.reduceDiv, Nat.reduceMod, and_self, AmR, kp, pushA, exe, number, Arg.val, Env.at, lk, putd, ok1, okM, AH.push, AH.get, Option.getD_some, if_true, if_false, reduceCtorEq, Nat.reduceEqDiff, Nat.reduceAdd, Nat.reduceMul, Bool.true_eq_false, resAll, resOf, Option.some.injEq, List.append_nil, List.flatMap_nil, Nat.reduceBEq, Nat.reduceLeDiff, List.map_nil, AH.cellsAt, List.all_nil, Bool.and_self, List.length_nil, List.drop_zero, List.take_zero, Option.map_some, afill, rep, exists_eq_left', List.reduceReplicate, List.flatten_nil, aeqv, aeq, bne_self_eq_false]
      exact emp0 rfl 5 ⟨_, _, _, _, _⟩ (Nat.le_refl _) rfl rfl rfl rfl
    · have hlen := rowsOf_length Ev.cells_len l
      have hne : rowsOf Ev.cells l ≠ [] := fun e => by rw [e] at hlen; simp at hlen; omega
      have ho : Own ⟨[(5, ⟨[], false, 23, true, true⟩), (4, ⟨rowsOf Ev.cells l, b.ro, b.ty, false, false⟩)], 6, 5⟩ 23 7 5 0 (some 0) [] := ⟨by omega, rfl, .inl rfl, Nat.le_refl _, Nat.lt_succ_self _, _, _, rfl⟩
      obtain ⟨q', H1, ha, ho', _, hq'⟩ := ho.app 64 hne (m := l.length) hlen (by omega)
      have hsol : (rowsOf Ev.cells l).all solid = true := by
        have : ∀ l : List Ev, (rowsOf Ev.cells l).all solid = true := fun l => by
          induction l with
          | nil => rfl
          | cons x l ih => simp only [rowsOf, List.flatMap_cons, List.all_append] at ih ⊢; rw [ih]; rfl
        exact this l
      have htk : (rowsOf Ev.cells l).take (l.length * 7) = rowsOf Ev.cells l := List.take_of_length_le (by omega)
      have hle : 0 + l.length * 7 ≤ (rowsOf Ev.cells l).length := by omega
      simp only [Tryd.fn33, Tryd.fn33_r0, Tryd.fn33_r1, Tryd.fn33_r3, takeFrom, htk, hle, hsol, ha, AmR, kp, pushA, exe, number, Arg.val, Env.at, lk, putd, ok1, okM, AH.push, AH.get, Option.getD_some, if_true, if_false, reduceCtorEq, Nat.reduceEqDiff, Nat.reduceAdd, Bool.true_eq_false, resAll, resOf, Option.some.injEq, List.append_nil, List.map_nil, AH.cellsAt, List.drop_zero, Option.map_some, afill, rep, exists_eq_left', List.reduceReplicate, List.flatten_nil, aeqv, aeq, bne_self_eq_false]
      obtain ⟨_, hl', _, _, _, wh, s0, hg⟩ := ho'
      rw [List.nil_append] at hg
      refine back_slice (by show 5 ≤ q'; exact Nat.le_trans (by show 5 ≤ 6; omega) hq') hg rfl (evs_flat l) rfl ⟨_, rfl, .inr ⟨none, _, by rw [Nat.zero_add], rfl, rfl, rfl, rfl, .inr rfl⟩⟩



def sh (n : Int) (x : Ev) : Ev := { x with f := x.f + n, t := x.t + n }
/-- The events later by n ticks, and the error. -/
def shiftL (l : List Ev) (n : Int) : List Ev := if okL l = true then (if 0 < l.length ∧ (n < -1099511627776 ∨ 1099511627776 < n) then [] else if okL (l.map (sh n)) = true then l.map (sh n) else []) else []
def shiftE (l : List Ev) (n : Int) : Int := if okL l = true then (if 0 < l.length ∧ (n < -1099511627776 ∨ 1099511627776 < n) then 2 else if okL (l.map (sh n)) = true then 0 else 2) else 1

theorem rows_set1 {L : List Ev} {i : Nat} {x : Ev} (h : L[i]? = some x) (a : Int) : (rowsOf Ev.cells L).set (0 + i * 7 + 1) (.int .i64 a) = rowsOf Ev.cells (L.set i { x with f := a }) := by
  induction L generalizing i with
  | nil => simp at h
  | cons y L ih =>
    cases i with
    | zero => simp at h; subst h; rfl
    | succ i =>
      have := ih (i := i) (by simpa using h)
      have e : 0 + (i + 1) * 7 + 1 = 7 + (0 + i * 7 + 1) := by omega
      rw [e]
      simp only [rowsOf, List.flatMap_cons, List.set_cons_succ] at this ⊢
      rw [List.set_append_right _ _ (by rw [Ev.cells_len]; omega), Ev.cells_len, Nat.add_sub_cancel_left, this]
theorem rows_set2 {L : List Ev} {i : Nat} {x : Ev} (h : L[i]? = some x) (a : Int) : (rowsOf Ev.cells L).set (0 + i * 7 + 2) (.int .i64 a) = rowsOf Ev.cells (L.set i { x with t := a }) := by
  induction L generalizing i with
  | nil => simp at h
  | cons y L ih =>
    cases i with
    | zero => simp at h; subst h; rfl
    | succ i =>
      have := ih (i := i) (by simpa using h)
      have e : 0 + (i + 1) * 7 + 2 = 7 + (0 + i * 7 + 2) := by omega
      rw [e]
      simp only [rowsOf, List.flatMap_cons, List.set_cons_succ] at this ⊢
      rw [List.set_append_right _ _ (by rw [Ev.cells_len]; omega), Ev.cells_len, Nat.add_sub_cancel_left, this]



/-- The list of a shift under way. -/
def part (l : List Ev) (n : Int) (i : Nat) : List Ev := (l.take i).map (sh n) ++ l.drop i
theorem part_at {l : List Ev} {n : Int} {i : Nat} {x : Ev} (h : l[i]? = some x) : (part l n i)[i]? = some x := by
  have hil : i < l.length := by
    by_cases hlt : i < l.length
    · exact hlt
    · rw [List.getElem?_eq_none (by omega)] at h; cases h
  unfold part
  rw [List.getElem?_append_right (by simp; omega)]
  simp only [List.length_map, List.length_take]
  have e : i - min i l.length = 0 := by omega
  rw [e, List.getElem?_drop, Nat.add_zero, h]
theorem part_next {l : List Ev} {n : Int} {i : Nat} {x : Ev} (h : l[i]? = some x) : (part l n i).set i (sh n x) = part l n (i + 1) := by
  have hil : i < l.length := by
    by_cases hlt : i < l.length
    · exact hlt
    · rw [List.getElem?_eq_none (by omega)] at h; cases h
  have hd : l.drop i = x :: l.drop (i + 1) := by
    rw [List.drop_eq_getElem_cons hil]
    rw [List.getElem?_eq_getElem hil, Option.some.injEq] at h
    rw [h]
  unfold part
  rw [List.take_add_one, h, hd]
  have e : ((l.take i).map (sh n)).length = i := by simp; omega
  rw [List.set_append_right _ _ (by omega), e, Nat.sub_self]
  simp
theorem part_len (l : List Ev) (n : Int) (i : Nat) : (part l n i).length = l.length := by
  unfold part; simp; omega

theorem Tryd.evValidLoop (l : List Ev) (c : Option Nat) (n0 : Int) (hl : l.length ≤ 1000000) (K : AX → St → Prop) (ks : List Fr) (L : ACode) (hL : L = .loop (some [0, 1, 10, 11, 12]) Tryd.fn18_l1) (b : Blk) (hc : b.cells = rowsOf Ev.cells l) :
    ∀ (n i : Nat) (H : AH), n + i = l.length → H.get 4 = some b → H.floor = 5 → 5 ≤ H.next →
    (okL (l.drop i) = true → ∀ H e, H.get 4 = some b → H.floor = 5 → 5 ≤ H.next → e.at 0 = .sl 4 0 7 l.length c → e.at 1 = .int .i64 n0 → Nx Tryd.call K ks e H) →
    (okL (l.drop i) = false → ∀ H e, e.at 4 = .nils → e.at 5 = .int .i64 1 → Rt Tryd.call K ks e H) →
    W Tryd.call K (.block 0 :: ks) [(0, .sl 4 0 7 l.length c), (1, .int .i64 n0), (10, .sl 4 0 7 l.length c), (11, .int .i64 l.length), (12, .int .i64 i)] H L := by
  intro n
  induction n with
  | zero =>
    intro i H hi hb hf hn hk hr
    refine W_loopN hL ?_
    have hi' : i = l.length := by omega
    subst hi'
    simp only [Tryd.fn18_l1, Tryd.fn18_r2, AmR, kp, pushA, exe, Arg.val, Env.at, lk, putd, okM, abin, Option.getD_some, if_true, if_false, reduceCtorEq, Nat.reduceEqDiff]
    refine ⟨fun h => absurd h (by omega), fun _ => hk (by simp [okL]) _ _ hb hf hn rfl rfl⟩
  | succ n ih =>
    intro i H hi hb hf hn hk hr
    refine W_loopN hL ?_
    obtain ⟨x, hx⟩ : ∃ x, l[i]? = some x := ⟨_, List.getElem?_eq_getElem (by omega)⟩
    have h0 : (0 : Int) ≤ (i : Int) := by omega
    have h1 : ((i : Int) < (l.length : Int)) = True := eq_true (by omega)
    have hw : IntKind.i64.wrap ((i : Int) + 1) = ((i + 1 : Nat) : Int) := by rw [IntWalk.i64_in _ (by omega)]; omega
    have hfl : H.floor ≤ H.next := by omega
    have cx := cellsAt_row Ev.cells_len hb hc hx
    have l7 := Ev.cells_len x
    have sol : x.cells.all solid = true := rfl
    have st := store_push H 23 true [.int .i64 0, .int .i64 0, .int .i64 0, .int .i64 0, .int .i64 0, .str [], .int .i64 0] x.cells hfl rfl sol
    have g0 : (H.push 23 true x.cells).get 4 = some b := (get_push_old H 23 true x.cells (by omega)).trans hb
    have cn : (H.push 23 true x.cells).cellsAt H.next 0 7 = some x.cells := cellsAt_new _ _ _ _ l7
    have hv := Tryd.valid x
    have hv' : ∀ H, Tryd.call 17 [.agg x.cells] H = some (.ok (.bool x.ok), H) := hv
    have ho := okL_drop hx
    simp only [Tryd.fn18_l1, Tryd.fn18_r2, h1, AmR, kp, pushA, exe, Arg.val, Env.at, lk, putd, okM, abin, Option.getD_some, if_true, if_false, reduceCtorEq, Nat.reduceEqDiff, decide_true]
    simp only [Tryd.fn18_r3, h0, h1, Int.toNat_natCast, and_self, cx, l7, st, AmR, kp, exe, Arg.val, Env.at, lk, putd, AV.cells?, ok1, okM, Option.getD_some, if_true, if_false, reduceCtorEq, Nat.reduceEqDiff, Option.map_some]
    simp only [Tryd.fn18_r4, cn, hv', AmR, kp, exe, Arg.val, Env.at, lk, putd, okM, Option.getD_some, if_true, if_false, reduceCtorEq, Nat.reduceEqDiff, aun, List.map_cons, List.map_nil, Option.map_some]
    cases hok : x.ok with
    | true =>
      rw [hok, Bool.true_and] at ho
      simp only [Tryd.fn18_r6, hw, AmR, kp, pushA, exe, Arg.val, Env.at, lk, putd, ok1, okM, abin, Option.getD_some, if_true, if_false, Bool.not_true, reduceCtorEq, Nat.reduceEqDiff]
      exact ih (i + 1) _ (by omega) g0 hf (by show 5 ≤ H.next + 1; omega) (by rw [← ho]; exact hk) (by rw [← ho]; exact hr)
    | false =>
      rw [hok, Bool.false_and] at ho
      simp only [Tryd.fn18_r5, AmR, kp, pushA, exe, Arg.val, Env.at, lk, putd, ok1, Option.getD_some, if_true, if_false, Bool.not_false, reduceCtorEq, Nat.reduceEqDiff]
      exact hr ho _ _ rfl rfl

theorem Tryd.evShiftLoop (l : List Ev) (n0 : Int) (hl : l.length ≤ 1000000) (hn00 : 0 < l.length → -1099511627776 ≤ n0 ∧ n0 ≤ 1099511627776) (hok : okL l = true) (K : AX → St → Prop) (ks : List Fr) (L : ACode) (hL : L = .loop (some [1, 8, 34, 35]) Tryd.fn18_l0) (q : Nat) (c : Option Nat) :
    ∀ (n i : Nat) (H : AH), n + i = l.length → okL ((l.take i).map (sh n0)) = true → Own H 23 7 q l.length c (rowsOf Ev.cells (part l n0 i)) →
    (okL (l.map (sh n0)) = true → ∀ H e, Own H 23 7 q l.length c (rowsOf Ev.cells (l.map (sh n0))) → e.at 8 = .sl q 0 7 l.length c → Nx Tryd.call K ks e H) →
    (okL (l.map (sh n0)) = false → ∀ H e, e.at 4 = .nils → e.at 5 = .int .i64 2 → Rt Tryd.call K ks e H) →
    W Tryd.call K (.block 2 :: ks) [(1, .int .i64 n0), (8, .sl q 0 7 l.length c), (34, .int .i64 l.length), (35, .int .i64 i)] H L := by
  intro n
  induction n with
  | zero =>
    intro i H hi ho hq hk hr
    refine W_loopN hL ?_
    have hi' : i = l.length := by omega
    subst hi'
    simp only [Tryd.fn18_l0, Tryd.fn18_r12, AmR, kp, pushA, exe, Arg.val, Env.at, lk, putd, okM, abin, Option.getD_some, if_true, if_false, Nat.reduceEqDiff]
    rw [List.take_length] at ho
    have hp : part l n0 l.length = l.map (sh n0) := by unfold part; simp
    rw [hp] at hq
    refine ⟨fun h => absurd h (by omega), fun _ => hk ho _ _ hq rfl⟩
  | succ n ih =>
    intro i H hi ho hq hk hr
    refine W_loopN hL ?_
    obtain ⟨x, hx⟩ : ∃ x, l[i]? = some x := ⟨_, List.getElem?_eq_getElem (by omega)⟩
    have h0 : (0 : Int) ≤ (i : Int) := by omega
    have h1 : ((i : Int) < (l.length : Int)) = True := eq_true (by omega)
    have hw : IntKind.i64.wrap ((i : Int) + 1) = ((i + 1 : Nat) : Int) := by rw [IntWalk.i64_in _ (by omega)]; omega
    have hn0 := hn00 (by omega)
    have hxm : x ∈ l := by
      have hil : i < l.length := by omega
      rw [List.getElem?_eq_getElem hil, Option.some.injEq] at hx
      rw [← hx]; exact List.getElem_mem hil
    have hxok : x.ok = true := List.all_eq_true.1 hok x hxm
    have hxk := x.ok_iff.1 hxok
    have w1 : IntKind.i64.wrap (x.f + n0) = x.f + n0 := IntWalk.i64_in _ (by omega)
    have w2 : IntKind.i64.wrap (x.t + n0) = x.t + n0 := IntWalk.i64_in _ (by omega)
    have pa := part_at (n := n0) hx
    have hlen : (rowsOf Ev.cells (part l n0 i)).length = l.length * 7 := by rw [rowsOf_length Ev.cells_len, part_len]
    have c1 : (rowsOf Ev.cells (part l n0 i))[0 + i * 7 + 1]? = some (.int .i64 x.f) := by rw [rowsOf_cell Ev.cells_len pa (by omega)]; rfl
    obtain ⟨H1, s1, o1, f1, n1, k1⟩ := hq.store (o := 0 + i * 7 + 1) (v := .int .i64 (x.f + n0)) (by rw [hlen]; omega) rfl
    rw [rows_set1 pa] at o1
    have pb : ((part l n0 i).set i { x with f := x.f + n0 })[i]? = some { x with f := x.f + n0 } := by
      rw [List.getElem?_set_self (by rw [part_len]; omega)]
    have c2 : (rowsOf Ev.cells ((part l n0 i).set i { x with f := x.f + n0 }))[0 + i * 7 + 2]? = some (.int .i64 x.t) := by rw [rowsOf_cell Ev.cells_len pb (by omega)]; rfl
    have hlen1 : (rowsOf Ev.cells ((part l n0 i).set i { x with f := x.f + n0 })).length = l.length * 7 := by rw [rowsOf_length Ev.cells_len, List.length_set, part_len]
    obtain ⟨H2, s2, o2, f2, n2, k2⟩ := o1.store (o := 0 + i * 7 + 2) (v := .int .i64 (x.t + n0)) (by rw [hlen1]; omega) rfl
    rw [rows_set2 pb, List.set_set] at o2
    have hshx : ({ ({ x with f := x.f + n0 } : Ev) with t := x.t + n0 } : Ev) = sh n0 x := rfl
    rw [hshx, part_next hx] at o2
    obtain ⟨_, _, _, _, _, wh, s0, hg⟩ := hq
    obtain ⟨_, _, _, _, _, wh1, s01, hg1⟩ := o1
    have o2' := o2
    obtain ⟨_, _, _, _, _, wh2, s02, hg2⟩ := o2'
    have pc : (part l n0 (i + 1))[i]? = some (sh n0 x) := by
      rw [← part_next hx, List.getElem?_set_self (by rw [part_len]; omega)]
    have cr := cellsAt_row Ev.cells_len hg2 rfl pc
    have hv' : ∀ H, Tryd.call 17 [.agg (sh n0 x).cells] H = some (.ok (.bool (sh n0 x).ok), H) := Tryd.valid (sh n0 x)
    simp only [Tryd.fn18_l0, Tryd.fn18_r12, Tryd.fn18_r13, h1, AmR, kp, pushA, exe, Arg.val, Env.at, lk, putd, ok1, okM, abin, Option.getD_some, if_true, if_false, Nat.reduceEqDiff, decide_true]
    simp only [Tryd.fn18_r14, h0, h1, Int.toNat_natCast, and_self, hg, c1, w1, s1, AmR, kp, exe, Arg.val, Env.at, lk, putd, AV.cells?, ok1, okM, abin, Option.getD_some, if_true, if_false, Nat.reduceEqDiff, Nat.reduceAdd, List.length_cons, List.length_nil, Option.map_some]
    simp only [Tryd.fn18_r15, h0, h1, Int.toNat_natCast, and_self, hg1, c2, w2, s2, AmR, kp, exe, Arg.val, Env.at, lk, putd, AV.cells?, ok1, okM, abin, Option.getD_some, if_true, if_false, Nat.reduceEqDiff, Nat.reduceAdd, List.length_cons, List.length_nil, Option.map_some]
    simp only [Tryd.fn18_r16, h0, h1, Int.toNat_natCast, and_self, cr, hv', AmR, kp, exe, Arg.val, Env.at, lk, putd, ok1, okM, Option.getD_some, if_true, if_false, Nat.reduceEqDiff, aun, List.map_cons, List.map_nil, Option.map_some]
    have hst : (l.take (i + 1)).map (sh n0) = (l.take i).map (sh n0) ++ [sh n0 x] := by rw [List.take_add_one, hx]; simp
    cases hsx : (sh n0 x).ok with
    | true =>
      simp only [Tryd.fn18_r18, hw, AmR, kp, pushA, exe, Arg.val, Env.at, lk, putd, ok1, okM, abin, Option.getD_some, if_true, if_false, Bool.not_true, Nat.reduceEqDiff]
      refine ih (i + 1) H2 (by omega) ?_ o2 hk hr
      unfold okL at ho ⊢
      rw [hst, List.all_append, ho]; simp [hsx]
    | false =>
      simp only [Tryd.fn18_r17, AmR, kp, pushA, exe, Arg.val, Env.at, lk, putd, ok1, Option.getD_some, if_true, if_false, Bool.not_false, Nat.reduceEqDiff]
      refine hr ?_ _ _ rfl rfl
      unfold okL
      rw [List.all_eq_false]
      exact ⟨sh n0 x, List.mem_map_of_mem hxm, by simp [hsx]⟩



/-- What a shift hands back. -/
def ShiftR (l : List Ev) (n0 : Int) (H : AH) (vs : List AV) (H' : AH) : Prop := ∃ v', vs = [v', .int .i64 (shiftE l n0)] ∧ NewE H v' (shiftL l n0) H'

theorem shift_err {l : List Ev} {n0 : Int} {H H1 : AH} {kq : Nat} (h : shiftL l n0 = []) : Back kq H (ShiftR l n0 H) [.nils, .int .i64 (shiftE l n0)] H1 :=
  back_flat rfl ⟨.nils, rfl, by rw [h]; exact .inl ⟨rfl, rfl, rfl, rfl⟩⟩
theorem shift_own {l : List Ev} {n0 : Int} {H H1 : AH} {q : Nat} {c : Option Nat} {kq : Nat} (h : shiftL l n0 = l.map (sh n0)) (hq : kq ≤ q) (ho : Own H1 23 7 q l.length c (rowsOf Ev.cells (l.map (sh n0)))) : Back kq H (ShiftR l n0 H) [.sl q 0 7 l.length c, .int .i64 (shiftE l n0)] H1 := by
  have hlt := ho.2.2.2.2.1
  refine OutV.back (lo := q) (ty := 23) (z := 7) (m := l.length) (cells := rowsOf Ev.cells (l.map (sh n0))) ⟨by omega, ho.2.2.2.1, by omega, .inr ⟨q, c, Nat.le_refl _, rfl, ho⟩⟩ hq H (evs_flat _) rfl fun v' H' h1 => ⟨v', rfl, ?_⟩
  rw [h]
  unfold NewE
  rw [List.length_map]
  exact h1

theorem shiftE_nil (n0 : Int) : shiftE [] n0 = 0 := by simp [shiftE, okL]
theorem shiftL_nil (n0 : Int) : shiftL [] n0 = [] := by simp [shiftL, okL]
theorem shift_emp {n0 : Int} {H H1 : AH} {q kq : Nat} {c : Option Nat} {b : Blk} (hq : kq ≤ q) (hg : H1.get q = some b) (hro : b.ro = false) (hcs : b.cells = []) : Back kq H (ShiftR [] n0 H) [.sl q 0 7 0 c, .int .i64 0] H1 := by
  refine back_slice hq hg hro (by rw [hcs]; rfl) rfl ⟨_, by rw [shiftE_nil], ?_⟩
  rw [shiftL_nil]
  exact .inr ⟨c, b, rfl, rfl, hro, hcs, rfl⟩

theorem shiftL_in {l : List Ev} {n0 : Int} (hok : okL l = true) (hr : 0 < l.length → -1099511627776 ≤ n0 ∧ n0 ≤ 1099511627776) : shiftL l n0 = (if okL (l.map (sh n0)) = true then l.map (sh n0) else []) ∧ shiftE l n0 = (if okL (l.map (sh n0)) = true then 0 else 2) := by
  unfold shiftL shiftE
  have hneg : ¬ (0 < l.length ∧ (n0 < -1099511627776 ∨ 1099511627776 < n0)) := by omega
  simp only [hok, if_true, hneg, if_false, and_self]

theorem Tryd.evShift (l : List Ev) (v : AV) (n0 : Int) (H : AH) (hl : l.length ≤ 1000000) (hv : EvS H v l) :
    ∃ v' H', Tryd.call 18 [v, .int .i64 n0] H = some (.ok (.tup [v', .int .i64 (shiftE l n0)]), H') ∧ NewE H v' (shiftL l n0) H' := by
  have fin : ∀ {us : List AV} {bs : List (Nat × Blk)} {kq : Nat}, views H [v, .int .i64 n0] 4 = some (us, bs, kq) → W Tryd.call (endK Tryd.fn18.res (Back kq H (ShiftR l n0 H))) [] (number us 0) ⟨bs ++ [], kq, kq⟩ Tryd.fn18.code →
      ∃ v' H', Tryd.call 18 [v, .int .i64 n0] H = some (.ok (.tup [v', .int .i64 (shiftE l n0)]), H') ∧ NewE H v' (shiftL l n0) H' := fun hvw h => by
    obtain ⟨vs, H', ⟨v', rfl, h1⟩, h4⟩ := ecall_vE 4 [] (lk Tryd.ext) (lk Tryd.tab) (f := 18) (fn := Tryd.fn18) rfl rfl rfl hvw h
    exact ⟨v', H', h4, h1⟩
  have nilCase : l = [] → ∀ v, (v = .nils ∨ v = .esl) → ∀ {kq : Nat}, W Tryd.call (endK Tryd.fn18.res (Back 4 H (ShiftR l n0 H))) [] [(0, v), (1, .int .i64 n0)] ⟨[], 4, 4⟩ Tryd.fn18.code := by
    rintro rfl v hv0 kq
    have hcl := Tryd.clone [] v ⟨[], 4, 4⟩ (by simp) (by rcases hv0 with rfl | rfl; exact SliceV.nil; exact SliceV.emp)
    obtain ⟨vc, Hc, hcall, hnew⟩ := hcl
    have hlen : ∀ (e : Env) (h : e.at 0 = v), True := fun _ _ => trivial
    rcases hv0 with rfl | rfl
    all_goals
      simp only [Tryd.fn18, Tryd.fn18_r0, Tryd.fn18_r1, AmR, kp, exe, Arg.val, Env.at, lk, putd, ok1, okM, Option.getD_some, if_true, if_false, reduceCtorEq, Nat.reduceEqDiff, Option.map_some, Int.cast_ofNat_Int, ↓exe_lenl, lenS_nils, lenS_esl]
      refine W_loopN rfl ?_
      simp only [Tryd.fn18_l1, Tryd.fn18_r2, Tryd.fn18_r7, Tryd.fn18_r8, Tryd.fn18_r10, hcall, AmR, kp, pushA, exe, Arg.val, Env.at, lk, putd, ok1, okM, abin, Option.getD_some, if_true, if_false, reduceCtorEq, Nat.reduceEqDiff, decide_false, Bool.false_eq_true, List.map_cons, List.map_nil, Option.map_some, Int.reduceLT, Int.reduceNeg, Int.cast_ofNat_Int, Int.reduceGT, ↓exe_lenl, lenS_nils, lenS_esl]
      rcases hnew with ⟨rfl, _, rfl⟩ | ⟨c, b, rfl, rfl, hro, hcs, _, _⟩
      · simp only [Tryd.fn18_r11, AmR, kp, exe, Arg.val, Env.at, lk, putd, ok1, okM, Option.getD_some, if_true, if_false, Nat.reduceEqDiff, Option.map_some, Int.cast_ofNat_Int, ↓exe_lenl, lenS_nils]
        refine W_loopN rfl ?_
        simp only [Tryd.fn18_l0, Tryd.fn18_r12, Tryd.fn18_r19, AmR, kp, pushA, exe, Arg.val, Env.at, lk, putd, ok1, okM, abin, Option.getD_some, if_true, if_false, Nat.reduceEqDiff, decide_false, resAll, resOf, Option.some.injEq, Int.reduceLT, exists_eq_left']
        exact shift_err rfl
      · simp only [Tryd.fn18_r11, List.length_nil, AmR, kp, exe, Arg.val, Env.at, lk, putd, ok1, okM, Option.getD_some, if_true, if_false, Nat.reduceEqDiff, Nat.reduceAdd, List.length_nil, Option.map_some, AH.take1, Int.cast_ofNat_Int, ↓exe_lenl, lenS_sl]
        refine W_loopN rfl ?_
        simp only [Tryd.fn18_l0, Tryd.fn18_r12, Tryd.fn18_r19, AmR, kp, pushA, exe, Arg.val, Env.at, lk, putd, ok1, okM, abin, Option.getD_some, if_true, if_false, Nat.reduceEqDiff, decide_false, resAll, resOf, Option.some.injEq, Int.reduceLT, exists_eq_left']
        exact shift_emp (Nat.le_refl _) rfl hro hcs
  rcases hv.cases with ⟨rfl, hn, _⟩ | ⟨rfl, hn, _⟩ | ⟨i, o, c, b, rfl, hb, hlb, hcs⟩
  · have hl0 : l = [] := List.length_eq_zero_iff.1 hn
    exact fin (views_flat rfl (views_flat rfl (views_nil H 4))) (nilCase hl0 _ (.inl rfl) (kq := 0))
  · have hl0 : l = [] := List.length_eq_zero_iff.1 hn
    exact fin (views_flat rfl (views_flat rfl (views_nil H 4))) (nilCase hl0 _ (.inr rfl) (kq := 0))
  · refine fin (viewS hb hlb hcs (evs_flat l) (views_flat rfl (views_nil H _))) ?_
    simp only [Tryd.fn18, Tryd.fn18_r0, Tryd.fn18_r1, AmR, kp, exe, number, Arg.val, Env.at, lk, putd, ok1, okM, Option.getD_some, if_true, if_false, reduceCtorEq, Nat.reduceEqDiff, Nat.reduceAdd, List.append_nil, Option.map_some, ↓exe_lenl, lenS_sl]
    refine Tryd.evValidLoop l c n0 hl _ _ _ rfl ⟨rowsOf Ev.cells l, b.ro, b.ty, false, false⟩ rfl l.length 0 _ (by omega) rfl rfl (Nat.le_refl _) ?_ ?_
    · intro hok H1 e hg1 hf1 hn1 he0 he1
      rw [List.drop_zero] at hok
      have he0' : (lk e 0).getD .undef = AV.sl 4 0 7 l.length c := he0
      have he1' : (lk e 1).getD .undef = AV.int .i64 n0 := he1
      have cont : (0 < l.length → -1099511627776 ≤ n0 ∧ n0 ≤ 1099511627776) → ∀ e : Env, e.at 0 = .sl 4 0 7 l.length c → e.at 1 = .int .i64 n0 → Rg Tryd.call (endK [.tmp 4, .tmp 5] (Back 5 H (ShiftR l n0 H))) [.code (.trim [1, 8]), .code (.seq (.seq (.seq (.reg Tryd.fn18_r11) (.trim [1, 8, 34, 35])) (.block 2 (.loop (some [1, 8, 34, 35]) Tryd.fn18_l0))) (.seq (.seq (.reg Tryd.fn18_r19) (.trim [4, 5])) .ret))] e H1 Tryd.fn18_r10 := by
        intro hr e he0 he1
        have he0' : (lk e 0).getD .undef = AV.sl 4 0 7 l.length c := he0
        have he1' : (lk e 1).getD .undef = AV.int .i64 n0 := he1
        obtain ⟨hsl, hse⟩ := shiftL_in hok hr
        have hevs : EvS H1 (.sl 4 0 7 l.length c) l := by
          have := SliceV.sl (H := H1) (z := 7) (i := 4) (o := 0) (n := l.length) (c := c) hg1 (by show 0 + l.length * 7 ≤ (rowsOf Ev.cells l).length; rw [rowsOf_length Ev.cells_len]; omega)
          rw [List.drop_zero, List.take_of_length_le (by show (rowsOf Ev.cells l).length ≤ _; rw [rowsOf_length Ev.cells_len]; omega)] at this
          exact this
        obtain ⟨vc, Hc, hcall, hnew⟩ := Tryd.clone l _ H1 hl hevs
        simp only [Tryd.fn18_r10, he0', he1', hcall, AmR, kp, exe, Arg.val, Env.at, lk, putd, ok1, Option.getD_some, if_true, if_false, Nat.reduceEqDiff, List.map_cons, List.map_nil]
        rcases hnew with ⟨rfl, rfl, rfl⟩ | ⟨c', b', rfl, rfl, hro', hcs', hty', hcap'⟩
        · simp only [Tryd.fn18_r11, AmR, kp, exe, Arg.val, Env.at, lk, putd, ok1, okM, Option.getD_some, if_true, if_false, Nat.reduceEqDiff, Option.map_some, Int.cast_ofNat_Int, ↓exe_lenl, lenS_nils]
          refine W_loopN rfl ?_
          simp only [Tryd.fn18_l0, Tryd.fn18_r12, Tryd.fn18_r19, AmR, kp, pushA, exe, Arg.val, Env.at, lk, putd, ok1, okM, abin, Option.getD_some, if_true, if_false, Nat.reduceEqDiff, decide_false, resAll, resOf, Option.some.injEq, Int.reduceLT, exists_eq_left']
          have := shift_err (H := H) (H1 := Hc) (kq := 5) (shiftL_nil n0)
          rw [shiftE_nil] at this
          exact this
        · simp only [Tryd.fn18_r11, AmR, kp, exe, Arg.val, Env.at, lk, putd, ok1, okM, Option.getD_some, if_true, if_false, Nat.reduceEqDiff, Option.map_some, AH.take1, ↓exe_lenl, lenS_sl]
          have hown : Own (H1.take1 b') 23 7 H1.next l.length c' (rowsOf Ev.cells (part l n0 0)) := by
            have hp : part l n0 0 = l := by simp [part]
            rw [hp]
            obtain ⟨cells', ro', ty', wh', s0'⟩ := b'
            simp only at hro' hcs' hty'
            subst hro' hcs' hty'
            exact ⟨by omega, rowsOf_length Ev.cells_len l, hcap', by show H1.floor ≤ H1.next; omega, Nat.lt_succ_self _, wh', s0', get_take1 _ _⟩
          refine Tryd.evShiftLoop l n0 hl hr hok _ _ _ rfl H1.next c' l.length 0 _ (by omega) rfl hown ?_ ?_
          · intro hok2 H2 e2 ho2 he8
            have he8' : (lk e2 8).getD .undef = AV.sl H1.next 0 7 l.length c' := he8
            simp only [Tryd.fn18_r19, he8', AmR, kp, exe, Arg.val, Env.at, lk, putd, ok1, Option.getD_some, if_true, if_false, Nat.reduceEqDiff, resAll, resOf, Option.some.injEq, exists_eq_left']
            have := shift_own (H := H) (kq := 5) (by rw [hsl, if_pos hok2]) hn1 ho2
            rw [hse, if_pos hok2] at this
            exact this
          · intro hok2 H2 e2 he4 he5
            have := shift_err (l := l) (n0 := n0) (H := H) (H1 := H2) (kq := 5) (by rw [hsl, if_neg (by rw [hok2]; decide)])
            rw [hse, if_neg (by rw [hok2]; decide)] at this
            simp only [Rt_code, Rt_nil, endK_ret, resAll, resOf, he4, he5, Option.some.injEq, exists_eq_left']
            exact this
      simp only [Tryd.fn18_r7, he0', he1', AmR, kp, exe, Arg.val, Env.at, lk, putd, ok1, okM, abin, Option.getD_some, if_true, if_false, reduceCtorEq, Nat.reduceEqDiff, Bool.false_eq_true, Option.map_some, Int.reduceNeg, ↓exe_lenl, lenS_sl]
      have bad : 0 < l.length → (n0 < -1099511627776 ∨ 1099511627776 < n0) → ∀ H1, Back 5 H (ShiftR l n0 H) [.nils, .int .i64 2] H1 := fun h1 h2 H1 => by
        have := shift_err (l := l) (n0 := n0) (H := H) (H1 := H1) (kq := 5) (by unfold shiftL; rw [if_pos hok, if_pos ⟨h1, h2⟩])
        have he : shiftE l n0 = 2 := by unfold shiftE; rw [if_pos hok, if_pos ⟨h1, h2⟩]
        rw [he] at this
        exact this
      refine ⟨fun hlen => ⟨fun h1 => ?_, fun h1 => ?_⟩, fun hlen => ?_⟩
      · simp only [Tryd.fn18_r8, Tryd.fn18_r9, AmR, kp, pushA, exe, Arg.val, Env.at, lk, putd, ok1, Option.getD_some, if_true, if_false, reduceCtorEq, Nat.reduceEqDiff, resAll, resOf, Option.some.injEq, exists_eq_left']
        exact bad (by omega) (.inl h1) _
      · simp only [Tryd.fn18_r8, Tryd.fn18_r9, AmR, kp, pushA, exe, Arg.val, Env.at, lk, putd, ok1, Option.getD_some, if_true, if_false, reduceCtorEq, Nat.reduceEqDiff, resAll, resOf, Option.some.injEq, exists_eq_left']
        refine ⟨fun h2 => ?_, fun h2 => ?_⟩
        · exact bad (by omega) (.inr h2) _
        · refine cont ?_ _ ?_ ?_
          · intro _; omega
          · rfl
          · rfl
      · simp only [Tryd.fn18_r8, AmR, kp, pushA, exe, Arg.val, Env.at, lk, putd, ok1, Option.getD_some, if_true, if_false, reduceCtorEq, Nat.reduceEqDiff, Bool.false_eq_true]
        refine cont ?_ _ ?_ ?_
        · intro h; omega
        · rfl
        · rfl
    · intro hok H1 e he4 he5
      rw [List.drop_zero] at hok
      have hne : ¬ okL l = true := by rw [hok]; decide
      have := shift_err (l := l) (n0 := n0) (H := H) (H1 := H1) (kq := 5) (by unfold shiftL; rw [if_neg hne])
      have he : shiftE l n0 = 1 := by unfold shiftE; rw [if_neg hne]
      rw [he] at this
      simp only [Rt_code, Rt_nil, endK_ret, resAll, resOf, he4, he5, Option.some.injEq, exists_eq_left']
      exact this


end Go.Am
