/-
Texts joined, one after the other. Conditions: those that each theorem names.
-/
import Derived.Test.YtolilamofgildaaGreatDoorAmX3
import Derived.Test.YtolilamofgildaaGreatDoorAmX2
import Derived.Test.YtolilamofgildaaGreatDoorAmX1
set_option linter.unusedSimpArgs false
set_option linter.unusedVariables false

/- Counts: plain words, and the program's. Conditions: those that each theorem names. -/
namespace Go.Am

/-- What a node emitted. -/
structure OutR where
  node : Int
  at' : Int
  ev : Ev
def OutR.cells (x : OutR) : List AV := .int .i64 x.node :: .int .i64 x.at' :: x.ev.cells
theorem OutR.cells_len (x : OutR) : x.cells.length = 9 := rfl
theorem OutR.sol (x : OutR) : x.cells.all solid = true := rfl
theorem OutR.flat (x : OutR) : x.cells.all flat1 = true := rfl
theorem outs_flat (l : List OutR) : (rowsOf OutR.cells l).all flat1 = true := by
  induction l with
  | nil => rfl
  | cons x l ih => simp only [rowsOf, List.flatMap_cons, List.all_append] at ih ⊢; rw [ih, x.flat]; rfl

/-- Pairs of numbers as cells. -/
def tabF : Nat → (Nat → Nat) → (Nat → Nat) → List AV
  | 0, _, _ => []
  | n + 1, f, g => tabF n f g ++ [.int .i64 (f n : Nat), .int .i64 (g n : Nat)]
theorem tabF_len : ∀ (n : Nat) (f g : Nat → Nat), (tabF n f g).length = n * 2
  | 0, _, _ => rfl
  | n + 1, f, g => by rw [tabF, List.length_append, tabF_len n]; simp; omega
theorem tabF_flat : ∀ (n : Nat) (f g : Nat → Nat), (tabF n f g).all flat1 = true
  | 0, _, _ => rfl
  | n + 1, f, g => by rw [tabF, List.all_append, tabF_flat n]; rfl
theorem tabF_at0 : ∀ (n : Nat) (f g : Nat → Nat) (j : Nat), j < n → (tabF n f g)[j * 2]? = some (.int .i64 (f j : Nat))
  | 0, _, _, j, h => by omega
  | n + 1, f, g, j, h => by
    unfold tabF
    by_cases hj : j < n
    · rw [List.getElem?_append_left (by rw [tabF_len]; omega), tabF_at0 n f g j hj]
    · obtain rfl : j = n := by omega
      rw [List.getElem?_append_right (by rw [tabF_len]; omega), tabF_len, Nat.sub_self]; rfl
theorem tabF_at1 : ∀ (n : Nat) (f g : Nat → Nat) (j : Nat), j < n → (tabF n f g)[j * 2 + 1]? = some (.int .i64 (g j : Nat))
  | 0, _, _, j, h => by omega
  | n + 1, f, g, j, h => by
    unfold tabF
    by_cases hj : j < n
    · rw [List.getElem?_append_left (by rw [tabF_len]; omega), tabF_at1 n f g j hj]
    · obtain rfl : j = n := by omega
      rw [List.getElem?_append_right (by rw [tabF_len]; omega), tabF_len, show j * 2 + 1 - j * 2 = 1 by omega]; rfl
theorem tabF_ext : ∀ (n : Nat) (f f' g g' : Nat → Nat), (∀ j, j < n → f j = f' j ∧ g j = g' j) → tabF n f g = tabF n f' g'
  | 0, _, _, _, _, _ => rfl
  | n + 1, f, f', g, g', h => by
    rw [tabF, tabF, tabF_ext n f f' g g' fun j hj => h j (by omega), (h n (by omega)).1, (h n (by omega)).2]
theorem tabF_set0 : ∀ (n : Nat) (f f' g : Nat → Nat) (j : Nat), j < n → (∀ i, i ≠ j → f' i = f i) → (tabF n f g).set (j * 2) (.int .i64 (f' j : Nat)) = tabF n f' g
  | 0, _, _, _, j, h, _ => by omega
  | n + 1, f, f', g, j, h, hf => by
    rw [tabF, tabF]
    by_cases hj : j < n
    · rw [List.set_append_left _ _ (by rw [tabF_len]; omega), tabF_set0 n f f' g j hj hf, hf n (by omega)]
    · obtain rfl : j = n := by omega
      rw [List.set_append_right _ _ (by rw [tabF_len]; omega), tabF_len, Nat.sub_self, tabF_ext j f f' g g fun i hi => ⟨(hf i (by omega)).symm, rfl⟩]; rfl
theorem tabF_set1 : ∀ (n : Nat) (f g g' : Nat → Nat) (j : Nat), j < n → (∀ i, i ≠ j → g' i = g i) → (tabF n f g).set (j * 2 + 1) (.int .i64 (g' j : Nat)) = tabF n f g'
  | 0, _, _, _, j, h, _ => by omega
  | n + 1, f, g, g', j, h, hf => by
    rw [tabF, tabF]
    by_cases hj : j < n
    · rw [List.set_append_left _ _ (by rw [tabF_len]; omega), tabF_set1 n f g g' j hj hf, hf n (by omega)]
    · obtain rfl : j = n := by omega
      rw [List.set_append_right _ _ (by rw [tabF_len]; omega), tabF_len, show j * 2 + 1 - j * 2 = 1 by omega, tabF_ext j f f g g' fun i hi => ⟨rfl, (hf i (by omega)).symm⟩]; rfl

/-- The outs of a node, and those with a fault. -/
def cn0 (l : List OutR) (j : Nat) : Nat := l.countP fun x => x.node == (j : Int)
def cn1 (l : List OutR) (j : Nat) : Nat := l.countP fun x => x.node == (j : Int) && x.ev.ft != 0
theorem cn1_le (l : List OutR) (j : Nat) : cn1 l j ≤ cn0 l j := List.countP_mono_left fun x _ h => by simp only [Bool.and_eq_true] at h; exact h.1
theorem cn0_le (l : List OutR) (j : Nat) : cn0 l j ≤ l.length := List.countP_le_length

theorem cn0_step {l : List OutR} {i : Nat} {x : OutR} (h : l[i]? = some x) (j : Nat) : cn0 (l.take (i + 1)) j = cn0 (l.take i) j + if x.node = (j : Int) then 1 else 0 := by
  unfold cn0
  rw [List.take_add_one, h]
  simp [List.countP_append, List.countP_cons]
theorem cn1_step {l : List OutR} {i : Nat} {x : OutR} (h : l[i]? = some x) (j : Nat) : cn1 (l.take (i + 1)) j = cn1 (l.take i) j + if x.node = (j : Int) ∧ x.ev.ft ≠ 0 then 1 else 0 := by
  unfold cn1
  rw [List.take_add_one, h]
  simp [List.countP_append, List.countP_cons]

/-- The nodes that are counted. -/
def nnOf (n : Int) : Nat := (min n 16).toNat

theorem views_one {H : AH} {z : Nat} {v : AV} {n : Nat} {cs : List AV} (h : SliceV H z v n cs) (f : cs.all flat1 = true) (k : Nat) {rest us : List AV} (hr : ∀ k, views H rest k = some (us, [], k)) :
    ∃ w bs kq, views H (v :: rest) k = some (w :: us, bs, kq) ∧ SliceV ⟨bs ++ [], kq, kq⟩ z w n cs ∧ Names ⟨bs ++ [], kq, kq⟩ ∧ k ≤ kq ∧ ∀ i o z n c, w = .sl i o z n c → i < kq := by
  obtain ⟨w, bs, k1, a1, a2, a3, a4, a5⟩ := h.view f k
  refine ⟨w, bs ++ [], k1, a3 (hr k1), a5 _ fun i hi hi' => ?_, fun x hx => ?_, a1, fun i o z n c e => (a4 i o z n c e).2⟩
  · show lk (bs ++ [] ++ []) i = lk bs i
    simp
  · show x.1 < k1
    simp only [List.append_nil] at hx
    exact (a2 x hx).2

end Go.Am

/- Counts, of the program. Conditions: those that each theorem names. -/
namespace Go.Am

theorem store_names {H H' : AH} {i o : Nat} {vs : List AV} (h : H.store i o vs = some H') (hN : Names H) : Names H' := by
  unfold AH.store at h
  split at h
  · cases h
  · split at h
    · split at h
      · cases h
      · split at h
        · cases h; exact hN.put _ _
        · cases h
    · cases h

theorem tabF_zero : ∀ (n : Nat), (List.replicate n [AV.int .i64 0, AV.int .i64 0]).flatten = tabF n (cn0 []) (cn1 [])
  | 0 => rfl
  | n + 1 => by rw [List.replicate_succ', List.flatten_append, tabF_zero n, tabF]; rfl

end Go.Am

/- The law of counts. Conditions: those that each theorem names. -/
namespace Go.Am

theorem cell_row9 {α : Type} {f : α → List AV} {m : Nat} (hf : ∀ x, (f x).length = m) {o : Nat} {b : Blk} {l : List α} {i j : Nat} {x : α} (hc : (b.cells.drop o).take (l.length * m) = rowsOf f l) (h : l[i]? = some x) (hj : j < m) : b.cells[o + i * m + j]? = (f x)[j]? := by
  have hi : i < l.length := (List.getElem?_eq_some_iff.1 h).1
  have h2 : i * m + m ≤ l.length * m := by
    have := Nat.mul_le_mul_right m (show i + 1 ≤ l.length by omega)
    rw [Nat.add_mul, Nat.one_mul] at this
    exact this
  have h3 := rowsOf_at hf h
  have h4 := congrArg (fun l => l[j]?) h3
  simp only [List.getElem?_take, if_pos hj, List.getElem?_drop] at h4
  rw [← h4, ← hc, List.getElem?_take, if_pos (by omega), List.getElem?_drop]
  congr 1
  omega

theorem add_wrapV {a b : Nat} (h : a + b ≤ 4611686018427387904) : IntKind.i64.wrap ((a : Int) + (b : Int)) = ((a + b : Nat) : Int) := by rw [IntWalk.i64_in _ (by omega)]; omega

/-! ### Outs that may be examined -/

def dataSum (l : List OutR) : Nat := (l.map fun x => x.ev.d.length).sum
def shortB (l : List OutR) : Bool := decide (l.length ≤ 300) && (l.all fun x => decide (x.ev.d.length ≤ 5000)) && decide (dataSum l ≤ 50000)

theorem Tryz.shortLoop (l : List OutR) (hl : l.length ≤ 300) (u : AV) (H0 : AH) (hv : SliceV H0 9 u l.length (rowsOf OutR.cells l)) (K : AX → St → Prop) (ks : List Fr) (L : ACode) (hL : L = .loop (some [0, 3, 4]) Tryz.fn6_l0) :
    ∀ (m i s : Nat), m + i = l.length → s ≤ i * 5000 →
      ((l.drop i).all (fun x => decide (x.ev.d.length ≤ 5000)) = true → ∀ a b, Nx Tryz.call K ks [(11, .bool false), (0, u), (3, .int .i64 (s + dataSum (l.drop i) : Nat)), (4, a), (11, b)] H0) →
      ((l.drop i).all (fun x => decide (x.ev.d.length ≤ 5000)) = false → ∀ e, e.at 2 = .bool false → Rt Tryz.call K ks e H0) →
      W Tryz.call K (.block 0 :: ks) [(0, u), (3, .int .i64 s), (4, .int .i64 i)] H0 L := by
  have hwl := hv.lenS
  intro m
  induction m with
  | zero =>
    intro i s hi hs hd hf
    refine W_loopN hL ?_
    have hi' : i = l.length := by omega
    subst hi'
    have hlt : ((l.length : Int) < (l.length : Int)) = False := eq_false (by omega)
    rw [List.drop_length] at hd
    simp only [Tryz.fn6_l0, Tryz.fn6_r5, hwl, hlt, AmR, kp, pushA, exe, Arg.val, Env.at, lk, putd, ok1, okM, abin, Option.getD_some, if_true, if_false, reduceCtorEq, Nat.reduceEqDiff, decide_false, Option.map_some, ↓exe_lenl]
    exact hd rfl _ _
  | succ m ih =>
    intro i s hi hs hd hf
    refine W_loopN hL ?_
    obtain ⟨x, hx⟩ : ∃ x, l[i]? = some x := ⟨_, List.getElem?_eq_getElem (by omega)⟩
    have h0 : (0 : Int) ≤ (i : Int) := by omega
    have h1 : ((i : Int) < (l.length : Int)) = True := eq_true (by omega)
    have hw := succ_wrap (i := i) (by omega)
    rcases hv.cases with ⟨rfl, h, _⟩ | ⟨rfl, h, _⟩ | ⟨q1, o, cc, bm, rfl, hbm, hlm, hcm⟩
    · omega
    · omega
    have hc7 : bm.cells[o + (i * 9 + 7)]? = some (.str x.ev.d) := (by rw [← Nat.add_assoc]; exact cell_row9 OutR.cells_len hcm hx (j := 7) (by omega))
    rw [drop_cons' hx, List.all_cons] at hd hf
    have hds : dataSum (x :: l.drop (i + 1)) = x.ev.d.length + dataSum (l.drop (i + 1)) := by simp [dataSum]
    rw [hds] at hd
    simp only [Tryz.fn6_l0, Tryz.fn6_r5, hwl, h1, AmR, kp, pushA, exe, Arg.val, Env.at, lk, putd, ok1, okM, abin, Option.getD_some, if_true, if_false, reduceCtorEq, Nat.reduceEqDiff, decide_true, Option.map_some, ↓exe_lenl]
    by_cases hbig : (x.ev.d.length : Int) > 5000
    · have e1 : ((x.ev.d.length : Int) > 5000) = True := eq_true hbig
      simp only [Tryz.fn6_r6, h0, h1, hbm, hc7, e1, Int.toNat_natCast, and_self, Nat.add_assoc, Nat.reduceAdd, AmR, kp, pushA, exe, Arg.val, Env.at, lk, putd, ok1, okM, abin, Option.getD_some, if_true, if_false, reduceCtorEq, Nat.reduceEqDiff, Nat.reduceAdd, decide_true]
      simp only [Tryz.fn6_r7, AmR, kp, exe, Arg.val, Env.at, lk, putd, ok1, Option.getD_some, if_true, if_false, reduceCtorEq, Nat.reduceEqDiff]
      exact hf (by rw [decide_eq_false (by omega)]; rfl) _ rfl
    · have e1 : ((x.ev.d.length : Int) > 5000) = False := eq_false hbig
      have ws := add_wrapV (a := s) (b := x.ev.d.length) (by omega)
      simp only [Tryz.fn6_r6, h0, h1, hbm, hc7, e1, Int.toNat_natCast, and_self, Nat.add_assoc, Nat.reduceAdd, AmR, kp, pushA, exe, Arg.val, Env.at, lk, putd, ok1, okM, abin, Option.getD_some, if_true, if_false, reduceCtorEq, Nat.reduceEqDiff, Nat.reduceAdd, decide_false]
      simp only [Tryz.fn6_r8, h0, h1, hbm, hc7, ws, Int.toNat_natCast, and_self, Nat.add_assoc, Nat.reduceAdd, AmR, kp, exe, Arg.val, Env.at, lk, putd, ok1, okM, abin, Option.getD_some, if_true, if_false, reduceCtorEq, Nat.reduceEqDiff, Nat.reduceAdd]
      simp only [Tryz.fn6_r9, hw, AmR, kp, exe, Arg.val, Env.at, lk, putd, ok1, okM, abin, Option.getD_some, if_true, if_false, reduceCtorEq, Nat.reduceEqDiff]
      have dt : decide (x.ev.d.length ≤ 5000) = true := decide_eq_true (by omega)
      refine ih (i + 1) (s + x.ev.d.length) (by omega) (by omega) (fun h a b => ?_) fun h => hf (by rw [h, dt]; rfl)
      have := hd (by rw [h, dt]; rfl) a b
      rw [Nat.add_assoc]
      exact this

theorem Tryz.short (v : AV) (l : List OutR) (H : AH) (hv : SliceV H 9 v l.length (rowsOf OutR.cells l)) : Tryz.call 6 [v] H = some (.ok (.bool (shortB l)), H) := by
  obtain ⟨w, bs, kq, hvw, sw, hN0, _, hw⟩ := views_one hv (outs_flat l) 8 (rest := []) (us := []) fun k => views_nil H k
  refine ecall_flat 8 [] _ _ (out := [.bool (shortB l)]) rfl rfl rfl hvw rfl ?_
  show W Tryz.call _ _ _ _ _
  generalize hH : (⟨bs ++ [], kq, kq⟩ : AH) = H0 at *
  have hwl := sw.lenS
  by_cases hbig : (l.length : Int) > 300
  · have e1 : ((l.length : Int) > 300) = True := eq_true hbig
    have hs : shortB l = false := by unfold shortB; rw [decide_eq_false (by omega)]; rfl
    rw [hs]
    simp only [Tryz.fn6, Tryz.fn6_r0, AmR, kp, exe, number, Arg.val, Env.at, lk, putd, ok1, Option.getD_some, if_true, if_false, reduceCtorEq]
    simp only [Tryz.fn6_r1, hwl, e1, AmR, kp, pushA, exe, Arg.val, Env.at, lk, putd, ok1, okM, abin, Option.getD_some, if_true, if_false, reduceCtorEq, Nat.reduceEqDiff, decide_true, Option.map_some, ↓exe_lenl]
    simp only [Tryz.fn6_r2, AmR, kp, exe, Arg.val, Env.at, lk, putd, ok1, Option.getD_some, if_true, if_false, reduceCtorEq, Nat.reduceEqDiff, resAll, resOf]
  · have e1 : ((l.length : Int) > 300) = False := eq_false hbig
    simp only [Tryz.fn6, Tryz.fn6_r0, AmR, kp, exe, number, Arg.val, Env.at, lk, putd, ok1, Option.getD_some, if_true, if_false, reduceCtorEq]
    simp only [Tryz.fn6_r1, hwl, e1, AmR, kp, pushA, exe, Arg.val, Env.at, lk, putd, ok1, okM, abin, Option.getD_some, if_true, if_false, reduceCtorEq, Nat.reduceEqDiff, decide_false, Option.map_some, ↓exe_lenl]
    simp only [Tryz.fn6_r3, AmR, kp, exe, Arg.val, Env.at, lk, putd, ok1, Option.getD_some, if_true, if_false, reduceCtorEq, Nat.reduceEqDiff]
    simp only [Tryz.fn6_r4, AmR, kp, exe, Arg.val, Env.at, lk, putd, ok1, Option.getD_some, if_true, if_false, reduceCtorEq, Nat.reduceEqDiff]
    refine Tryz.shortLoop l (by omega) w H0 sw _ _ _ rfl l.length 0 0 (by omega) (by omega) (fun h a b => ?_) fun h e he => ?_
    · rw [List.drop_zero] at h ⊢
      have hs : shortB l = decide (dataSum l ≤ 50000) := by unfold shortB; rw [h, decide_eq_true (show l.length ≤ 300 by omega)]; simp
      have hle : decide (((0 + dataSum l : Nat) : Int) ≤ 50000) = decide (dataSum l ≤ 50000) := by rw [decide_eq_decide]; omega
      rw [hs]
      simp only [Tryz.fn6_r10, hle, AmR, kp, exe, Arg.val, Env.at, lk, putd, ok1, okM, abin, Option.getD_some, if_true, if_false, reduceCtorEq, Nat.reduceEqDiff, resAll, resOf]
    · rw [List.drop_zero] at h
      have hs : shortB l = false := by unfold shortB; rw [h]; simp
      rw [hs]
      simp only [Rt_code, Rt_nil, AmR, Env.at, resAll, resOf, Option.some.injEq, List.cons.injEq, and_true]
      exact he

end Go.Am

/- Numerals and lines of outs. Conditions: those that each theorem names. -/
namespace Go.Am

theorem dec_rest {u : Nat} (h : u ≠ 0) : Lib.decDigits u = (if u / 10 = 0 then [] else Lib.decDigits (u / 10)) ++ [UInt8.ofNat (48 + u % 10)] := by
  rw [Lib.decDigits]
  by_cases hlt : u < 10
  · rw [dif_pos hlt, if_pos (by omega), Nat.mod_eq_of_lt hlt]; rfl
  · rw [dif_neg hlt, if_neg (by omega)]

theorem itoa_nat (n : Nat) : Lib.itoa (n : Int) = Lib.decDigits n := by
  unfold Lib.itoa
  rw [if_neg (by omega)]
  rfl

/-! ### What can be exported -/

def OutR.fits (x : OutR) : Bool := decide (0 ≤ x.node ∧ x.node < 16 ∧ 0 ≤ x.at' ∧ x.at' ≤ 1099511627776) && x.ev.ok
def OutR.line (x : OutR) : List UInt8 := Lib.itoa x.node ++ 32 :: (Lib.itoa x.at' ++ 32 :: (lineL x.ev ++ [10]))
def OutR.av (x : OutR) : AV := .agg x.cells

theorem Tryz.fits (x : OutR) (H : AH) : Tryz.call 20 [x.av] H = some (.ok (.bool x.fits), H) := by
  refine ecall_flat 8 [] _ _ (out := [.bool x.fits]) rfl rfl rfl (views_agg x.flat (views_nil H 8)) rfl ?_
  show W Tryz.call _ _ _ _ _
  have hv := Tryz.valid x.ev
  obtain ⟨nd, at', k, f, t, v, a, d, ft⟩ := x
  simp only [Ev.av, Ev.cells] at hv
  generalize hr : OutR.fits ⟨nd, at', k, f, t, v, a, d, ft⟩ = r
  generalize hok : Ev.ok ⟨k, f, t, v, a, d, ft⟩ = ok at hv
  simp only [OutR.cells, Ev.cells]
  simp only [Tryz.fn20, Tryz.fn20_r0, Tryz.fn20_r1, Tryz.fn20_r2, Tryz.fn20_r3, hv, AmR, kp, exe, number, Arg.val, Env.at, lk, putd, AV.cells?, ok1, okM, AH.push, AH.get, abin, Option.getD_some, if_true, if_false, List.getElem?_cons_zero, List.getElem?_cons_succ, reduceCtorEq, Nat.reduceEqDiff, Nat.reduceAdd, Bool.false_eq_true, resAll, resOf, Option.some.injEq, List.cons.injEq, AV.bool.injEq, and_true, List.append_nil, Nat.reduceLeDiff, List.map_cons, List.map_nil, AH.cellsAt, List.length_cons, List.length_nil, List.drop_zero, List.take_succ_cons, List.take_zero, List.drop_succ_cons, Option.map_some]
  subst hr
  subst hok
  simp only [OutR.fits]
  refine ⟨fun h1 => ⟨fun h2 => ⟨fun h3 => ⟨fun h4 => ?_, fun h4 => ?_⟩, fun h3 => ?_⟩, fun h2 => ?_⟩, fun h1 => ?_⟩
  · rw [decide_eq_true (show 0 ≤ nd ∧ nd < 16 ∧ 0 ≤ at' ∧ at' ≤ 1099511627776 from ⟨h1, h2, h3, h4⟩)]; rfl
  all_goals (rw [decide_eq_false (by omega)]; rfl)

theorem itoa_len20 {n : Int} (h0 : -9223372036854775808 ≤ n) (h1 : n ≤ 9223372036854775807) : (Lib.itoa n).length ≤ 21 := by
  unfold Lib.itoa
  split
  · have := decDigits_len n.natAbs 19 (by omega); simp; omega
  · have := decDigits_len n.toNat 19 (by omega); omega

end Go.Am

/- Export, of the program. Conditions: those that each theorem names. -/
namespace Go.Am

def expT (l : List OutR) : List UInt8 := l.flatMap OutR.line
def exE (l : List OutR) : Int := if l.all OutR.fits = true then (if (expT l).length ≤ 1048576 then 0 else 6) else 1
def exS (l : List OutR) : List UInt8 := if exE l = 0 then expT l else []

theorem line_ne (x : OutR) : x.line ≠ [] := by unfold OutR.line; simp
theorem line_len (x : OutR) (hx : x.fits = true) : x.line.length ≤ 30000 := by
  unfold OutR.fits at hx
  simp only [Bool.and_eq_true, decide_eq_true_eq] at hx
  obtain ⟨⟨h1, h2, h3, h4⟩, hok⟩ := hx
  have g1 := itoa_len20 (n := x.node) (by omega) (by omega)
  have g2 := itoa_len20 (n := x.at') (by omega) (by omega)
  have g3 := lineL_len _ hok
  unfold OutR.line
  simp only [List.length_append, List.length_cons, List.length_nil]
  omega

theorem SB.len {m : Nat} {H : AH} {p : Nat} {s : List UInt8} (h : SB m H p s) : Tryz.call 24 [.ptr p 0] H = some (.ok (.int .i64 s.length), H) := by
  obtain ⟨hN, hfp, hmp, hpn, h⟩ := h
  refine ecall_W 8 [] _ _ (out := [.int .i64 s.length]) rfl rfl rfl ?_
  show W Tryz.call _ _ _ _ _
  rcases h with ⟨rfl, g⟩ | ⟨q, h1, h2, h3, h4, h5, g, g2⟩
  · simp only [Tryz.fn24, Tryz.fn24_r0, AmR, kp, exe, number, Arg.val, Env.at, lk, putd, ok1, Option.getD_some, if_true, if_false, reduceCtorEq, List.length_nil, Int.cast_ofNat_Int]
    simp only [Tryz.fn24_r1, g, exactK_ret, AmR, kp, exe, Arg.val, Env.at, lk, putd, ok1, okM, Option.getD_some, if_true, if_false, List.getElem?_cons_zero, List.getElem?_cons_succ, reduceCtorEq, Nat.reduceEqDiff, Nat.reduceAdd, resAll, resOf, and_true, Option.map_some, Int.cast_ofNat_Int, ↓exe_lenl, lenS_nils]
  · simp only [Tryz.fn24, Tryz.fn24_r0, AmR, kp, exe, number, Arg.val, Env.at, lk, putd, ok1, Option.getD_some, if_true, if_false, reduceCtorEq]
    simp only [Tryz.fn24_r1, g, exactK_ret, AmR, kp, exe, Arg.val, Env.at, lk, putd, ok1, okM, Option.getD_some, if_true, if_false, List.getElem?_cons_zero, List.getElem?_cons_succ, reduceCtorEq, Nat.reduceEqDiff, Nat.reduceAdd, resAll, resOf, and_true, Option.map_some, ↓exe_lenl, lenS_sl]

theorem Tryz.expChk (l : List OutR) (hl : l.length ≤ 1000000) (u : AV) (H0 : AH) (hv : SliceV H0 9 u l.length (rowsOf OutR.cells l)) (nl : ∀ i o z n c, u = .sl i o z n c → i < H0.next) (hfl0 : H0.floor ≤ H0.next) (K : AX → St → Prop) (ks : List Fr) (L : ACode) (hL : L = .loop (some [0, 11, 12, 13]) Tryz.fn10_l1) :
    ∀ (m i : Nat) (H : AH), m + i = l.length → Kept H0.next H0 H → Names H →
      ((l.drop i).all OutR.fits = true → ∀ H' a b, Kept H0.next H0 H' → Names H' → Nx Tryz.call K ks [(14, .bool false), (0, u), (11, u), (12, .int .i64 l.length), (13, a), (14, b)] H') →
      ((l.drop i).all OutR.fits = false → ∀ e H', e.at 2 = .str [] → e.at 3 = .int .i64 1 → Rt Tryz.call K ks e H') →
      W Tryz.call K (.block 0 :: ks) [(0, u), (11, u), (12, .int .i64 l.length), (13, .int .i64 i)] H L := by
  intro m
  induction m with
  | zero =>
    intro i H hi hK hN hd hf
    refine W_loopN hL ?_
    have hi' : i = l.length := by omega
    subst hi'
    have hlt : ((l.length : Int) < (l.length : Int)) = False := eq_false (by omega)
    rw [List.drop_length] at hd
    simp only [Tryz.fn10_l1, Tryz.fn10_r2, hlt, AmR, kp, pushA, exe, Arg.val, Env.at, lk, putd, okM, abin, Option.getD_some, if_true, if_false, reduceCtorEq, Nat.reduceEqDiff, decide_false]
    exact hd rfl H _ _ hK hN
  | succ m ih =>
    intro i H hi hK hN hd hf
    refine W_loopN hL ?_
    obtain ⟨x, hx⟩ : ∃ x, l[i]? = some x := ⟨_, List.getElem?_eq_getElem (by omega)⟩
    have h0 : (0 : Int) ≤ (i : Int) := by omega
    have h1 : ((i : Int) < (l.length : Int)) = True := eq_true (by omega)
    have hw := succ_wrap (i := i) (by omega)
    have hfl : H.floor ≤ H.next := by have := hK.1; have := hK.2.1; omega
    have st := store_push H 42 true [.int .i64 0, .int .i64 0, .int .i64 0, .int .i64 0, .int .i64 0, .int .i64 0, .int .i64 0, .str [], .int .i64 0] x.cells hfl rfl x.sol
    have gn : (H.push 42 true x.cells).cellsAt H.next 0 9 = some x.cells := cellsAt_new _ _ _ _ rfl
    have l9 := x.cells_len
    have hK1 : Kept H0.next H0 (H.push 42 true x.cells) := hK.trans (Kept.push _ _ hK.2.1 _ _ _)
    have hN1 := hN.push 42 true x.cells
    have hfit : ∀ H, Tryz.call 20 [.agg x.cells] H = some (.ok (.bool x.fits), H) := Tryz.fits x
    have sv : SliceV H 9 u l.length (rowsOf OutR.cells l) := hv.old nl hK.2.2
    rw [drop_cons' hx, List.all_cons] at hd hf
    rcases sv.cases with ⟨rfl, h, _⟩ | ⟨rfl, h, _⟩ | ⟨q1, o, cc, bm, rfl, hbm, hlm, hcm⟩
    · omega
    · omega
    have cm : H.cellsAt q1 (o + i * 9) 9 = some x.cells := cellsAt_rowO OutR.cells_len hbm hlm hcm hx
    simp only [Tryz.fn10_l1, Tryz.fn10_r2, h1, AmR, kp, pushA, exe, Arg.val, Env.at, lk, putd, okM, abin, Option.getD_some, if_true, if_false, reduceCtorEq, Nat.reduceEqDiff, decide_true]
    simp only [Tryz.fn10_r3, h0, h1, Int.toNat_natCast, and_self, cm, l9, st, AmR, kp, exe, Arg.val, Env.at, lk, putd, AV.cells?, ok1, okM, Option.getD_some, if_true, if_false, reduceCtorEq, Nat.reduceEqDiff, Option.map_some]
    cases hxf : x.fits with
    | false =>
      simp only [Tryz.fn10_r4, gn, hfit, hxf, AmR, kp, pushA, exe, Arg.val, Env.at, lk, putd, okM, Option.getD_some, if_true, if_false, Bool.not_false, reduceCtorEq, Nat.reduceEqDiff, aun, List.map_cons, List.map_nil, Option.map_some]
      simp only [Tryz.fn10_r5, AmR, kp, exe, Arg.val, Env.at, lk, putd, ok1, Option.getD_some, if_true, if_false, reduceCtorEq, Nat.reduceEqDiff]
      exact hf (by rw [hxf]; rfl) _ _ rfl rfl
    | true =>
      simp only [Tryz.fn10_r4, gn, hfit, hxf, AmR, kp, pushA, exe, Arg.val, Env.at, lk, putd, okM, Option.getD_some, if_true, if_false, Bool.not_true, reduceCtorEq, Nat.reduceEqDiff, aun, List.map_cons, List.map_nil, Option.map_some]
      simp only [Tryz.fn10_r6, hw, AmR, kp, exe, Arg.val, Env.at, lk, putd, ok1, okM, abin, Option.getD_some, if_true, if_false, reduceCtorEq, Nat.reduceEqDiff]
      exact ih (i + 1) _ (by omega) hK1 hN1 (fun h => hd (by rw [hxf, h]; rfl)) fun h => hf (by rw [hxf, h]; rfl)

theorem Tryz.expOut (l : List OutR) (hl : l.length ≤ 1000000) (hfits : ∀ x ∈ l, x.fits = true) (u : AV) (H0 : AH) (hv : SliceV H0 9 u l.length (rowsOf OutR.cells l)) (nl : ∀ i o z n c, u = .sl i o z n c → i < H0.next) (hfl0 : H0.floor ≤ H0.next) (p : Nat) (K : AX → St → Prop) (ks : List Fr) (L : ACode) (hL : L = .loop (some [6, 21, 22, 23]) Tryz.fn10_l0) :
    ∀ (m i : Nat) (s : List UInt8) (H : AH), m + i = l.length → SB H0.next H p s → s.length ≤ 1048576 → Kept H0.next H0 H →
      ((s ++ expT (l.drop i)).length ≤ 1048576 → ∀ H' a b, SB H0.next H' p (s ++ expT (l.drop i)) → Nx Tryz.call K ks [(24, .bool false), (6, .ptr p 0), (21, u), (22, .int .i64 l.length), (23, a), (24, b)] H') →
      (¬ (s ++ expT (l.drop i)).length ≤ 1048576 → ∀ e H', e.at 2 = .str [] → e.at 3 = .int .i64 6 → Rt Tryz.call K ks e H') →
      W Tryz.call K (.block 2 :: ks) [(6, .ptr p 0), (21, u), (22, .int .i64 l.length), (23, .int .i64 i)] H L := by
  intro m
  induction m with
  | zero =>
    intro i s H hi hb hs hK hd hf
    refine W_loopN hL ?_
    have hi' : i = l.length := by omega
    subst hi'
    have hlt : ((l.length : Int) < (l.length : Int)) = False := eq_false (by omega)
    have e0 : s ++ expT (l.drop l.length) = s := by rw [List.drop_length]; simp [expT]
    rw [e0] at hd
    simp only [Tryz.fn10_l0, Tryz.fn10_r9, hlt, AmR, kp, pushA, exe, Arg.val, Env.at, lk, putd, okM, abin, Option.getD_some, if_true, if_false, Nat.reduceEqDiff, decide_false]
    exact hd hs H _ _ hb
  | succ m ih =>
    intro i s H hi hb hs hK hd hf
    refine W_loopN hL ?_
    obtain ⟨x, hx⟩ : ∃ x, l[i]? = some x := ⟨_, List.getElem?_eq_getElem (by omega)⟩
    have hxf := hfits x (List.mem_of_getElem? hx)
    have hok : x.ev.ok = true := by unfold OutR.fits at hxf; simp only [Bool.and_eq_true] at hxf; exact hxf.2
    have hnb : 0 ≤ x.node ∧ x.node < 16 ∧ 0 ≤ x.at' ∧ x.at' ≤ 1099511627776 := by unfold OutR.fits at hxf; simp only [Bool.and_eq_true, decide_eq_true_eq] at hxf; exact hxf.1
    have h0 : (0 : Int) ≤ (i : Int) := by omega
    have h1 : ((i : Int) < (l.length : Int)) = True := eq_true (by omega)
    have hw := succ_wrap (i := i) (by omega)
    have hfl : H.floor ≤ H.next := by have := hK.1; have := hK.2.1; omega
    have st := store_push H 42 true [.int .i64 0, .int .i64 0, .int .i64 0, .int .i64 0, .int .i64 0, .int .i64 0, .int .i64 0, .str [], .int .i64 0] x.cells hfl rfl x.sol
    have gb := get_push_new H 42 true x.cells
    have gn : (H.push 42 true x.cells).cellsAt H.next 2 7 = some x.ev.cells := by
      unfold AH.cellsAt
      rw [gb]
      rfl
    have l9 := x.cells_len
    have hK1 : Kept H0.next H0 (H.push 42 true x.cells) := hK.trans (Kept.push _ _ hK.2.1 _ _ _)
    have hb1 := hb.push 42 true x.cells
    have hlc : ∀ H, Tryz.call 21 [.agg x.ev.cells] H = some (.ok (.tup [.str (lineL x.ev), .int .i64 0]), H) := fun H => Tryz.line x.ev H hok
    have d1 := fun H => Tryz.itoa x.node H (by omega) (by omega)
    have d2 := fun H => Tryz.itoa x.at' H (by omega) (by omega)
    have hll := line_len x hxf
    have sv : SliceV H 9 u l.length (rowsOf OutR.cells l) := hv.old nl hK.2.2
    have et : expT (l.drop i) = x.line ++ expT (l.drop (i + 1)) := by rw [drop_cons' hx]; simp [expT]
    rw [et, ← List.append_assoc] at hd hf
    obtain ⟨H2, w1, w2, w3⟩ := hb1.writeK (by show H0.next ≤ H.next + 1; have := hK.2.1; omega) x.line (line_ne x) (by omega)
    have hlen := w2.len
    have g1 := itoa_len20 (n := x.node) (by omega) (by omega)
    have g2 := itoa_len20 (n := x.at') (by omega) (by omega)
    have g3 := lineL_len _ hok
    have c0 : x.cells[0]? = some (.int .i64 x.node) := rfl
    have c1' : x.cells[1]? = some (.int .i64 x.at') := rfl
    have hnew := hb1.1.new
    have eL : x.line = Lib.itoa x.node ++ [32] ++ Lib.itoa x.at' ++ [32] ++ lineL x.ev ++ [10] := by unfold OutR.line; simp
    rcases sv.cases with ⟨rfl, h, _⟩ | ⟨rfl, h, _⟩ | ⟨q1, o, cc, bm, rfl, hbm, hlm, hcm⟩
    · omega
    · omega
    have cm : H.cellsAt q1 (o + i * 9) 9 = some x.cells := cellsAt_rowO OutR.cells_len hbm hlm hcm hx
    simp only [Tryz.fn10_l0, Tryz.fn10_r9, h1, AmR, kp, pushA, exe, Arg.val, Env.at, lk, putd, okM, abin, Option.getD_some, if_true, if_false, Nat.reduceEqDiff, decide_true]
    simp only [Tryz.fn10_r10, h0, h1, Int.toNat_natCast, and_self, cm, l9, st, AmR, kp, exe, Arg.val, Env.at, lk, putd, AV.cells?, ok1, okM, Option.getD_some, if_true, if_false, Nat.reduceEqDiff, Option.map_some]
    simp only [Tryz.fn10_r11, gn, hlc, Nat.zero_add, AmR, kp, exe, Arg.val, Env.at, lk, putd, ok1, okM, Option.getD_some, if_true, if_false, List.getElem?_cons_zero, List.getElem?_cons_succ, Nat.reduceEqDiff, List.map_cons, List.map_nil, Option.map_some]
    refine W_drawn' (by kernel_rfl) ?_
    generalize hH1 : H.push 42 true x.cells = H1 at *
    have hNg : ∀ nx fl j, (AH.mk H1.blks nx fl).get j = H1.get j := fun _ _ _ => rfl
    rw [eL] at w1
    generalize Lib.itoa x.node = A at *
    generalize Lib.itoa x.at' = B at *
    generalize lineL x.ev = ll at *
    have k1 : A.length + 1 ≤ 281474976710656 := by omega
    have k2 : (A ++ [32]).length + B.length ≤ 281474976710656 := by simp; omega
    have k3 : (A ++ [32] ++ B).length ≤ 281474976710655 := by simp; omega
    have k4 : (A ++ [32] ++ B ++ [32]).length + ll.length ≤ 281474976710656 := by simp; omega
    have k5 : (A ++ [32] ++ B ++ [32] ++ ll).length ≤ 281474976710655 := by simp; omega
    simp only [Tryz.fn10_r12, Tryz.fn10_r12a, Tryz.fn10_r12b, hNg, gb, c0, c1', d1, d2, k1, k2, k3, k4, k5, w1, hnew, Nat.zero_add, AmR, kp, exe, Arg.val, Env.at, lk, putd, ok1, okM, abin, Option.getD_some, if_true, if_false, Nat.reduceEqDiff, Nat.reduceAdd, true_and, List.nil_append, visH, List.filter_nil, List.flatMap_nil, List.contains_cons, List.contains_nil, Bool.or_false, Nat.reduceLeDiff, List.map_cons, List.map_nil, List.length_cons, List.length_nil]
    by_cases hbig : ((s ++ x.line).length : Int) > 1048576
    · have e1 : ((s ++ x.line).length : Int) > 1048576 := hbig
      have e1 := eq_true e1
      simp only [Tryz.fn10_r13, hlen, e1, AmR, kp, pushA, exe, Arg.val, Env.at, lk, putd, okM, abin, Option.getD_some, if_true, if_false, Nat.reduceEqDiff, decide_true, List.map_cons, List.map_nil]
      simp only [Tryz.fn10_r14, AmR, kp, exe, Arg.val, Env.at, lk, putd, ok1, Option.getD_some, if_true, if_false, Nat.reduceEqDiff]
      exact hf (by rw [List.length_append]; omega) _ _ rfl rfl
    · have e1 := eq_false hbig
      simp only [Tryz.fn10_r13, hlen, e1, AmR, kp, pushA, exe, Arg.val, Env.at, lk, putd, okM, abin, Option.getD_some, if_true, if_false, Nat.reduceEqDiff, decide_false, List.map_cons, List.map_nil]
      simp only [Tryz.fn10_r15, hw, AmR, kp, exe, Arg.val, Env.at, lk, putd, ok1, okM, abin, Option.getD_some, if_true, if_false, Nat.reduceEqDiff]
      exact ih (i + 1) (s ++ x.line) H2 (by omega) w2 (by omega) (hK1.trans w3) hd hf

theorem Tryz.export (v : AV) (l : List OutR) (hl : l.length ≤ 1000000) (H : AH) (hv : SliceV H 9 v l.length (rowsOf OutR.cells l)) :
    Tryz.call 10 [v] H = some (.ok (.tup [.str (exS l), .int .i64 (exE l)]), H) := by
  obtain ⟨w, bs, kq, hvw, sw, hN0, _, hw⟩ := views_one hv (outs_flat l) 8 (rest := []) (us := []) fun k => views_nil H k
  refine ecall_flat 8 [] _ _ (out := [.str (exS l), .int .i64 (exE l)]) rfl rfl rfl hvw rfl ?_
  show W Tryz.call _ _ _ _ _
  generalize hH : (⟨bs ++ [], kq, kq⟩ : AH) = H0 at *
  have hn : H0.next = kq := by rw [← hH]
  have hfl : H0.floor = H0.next := by rw [← hH]
  subst hn
  have hwl := sw.lenS
  simp only [Tryz.fn10, Tryz.fn10_r0, AmR, kp, exe, number, Arg.val, Env.at, lk, putd, ok1, Option.getD_some, if_true, if_false, reduceCtorEq]
  simp only [Tryz.fn10_r1, hwl, AmR, kp, exe, Arg.val, Env.at, lk, putd, ok1, okM, Option.getD_some, if_true, if_false, reduceCtorEq, Nat.reduceEqDiff, Option.map_some, ↓exe_lenl]
  refine Tryz.expChk l hl w H0 sw hw (by omega) _ _ _ rfl l.length 0 H0 (by omega) (Kept.refl _ _) hN0 (fun h H1 a b k1 k2 => ?_) fun h e H1 k1 k2 => ?_
  · rw [List.drop_zero] at h
    have sb : SB H0.next (H1.push 50 true [.nilp, .nils]) H1.next [] := ⟨k2.push _ _ _, by show H1.floor ≤ H1.next; have h1 := k1.1; have h2 := k1.2.1; omega, k1.2.1, Nat.lt_succ_self _, .inl ⟨rfl, get_push_new _ _ _ _⟩⟩
    simp only [Tryz.fn10_r7, AmR, kp, exe, Env.at, lk, putd, ok1, Option.getD_some, if_true, if_false, reduceCtorEq, Nat.reduceEqDiff]
    simp only [Tryz.fn10_r8, hwl, AmR, kp, exe, Arg.val, Env.at, lk, putd, ok1, okM, Option.getD_some, if_true, if_false, reduceCtorEq, Nat.reduceEqDiff, Option.map_some, ↓exe_lenl]
    refine Tryz.expOut l hl (List.all_eq_true.1 h) w H0 sw hw (by omega) H1.next _ _ _ rfl l.length 0 [] _ (by omega) sb (by simp) (k1.trans (Kept.push _ _ k1.2.1 _ _ _)) (fun hs H2 a b k3 => ?_) fun hs e H2 k3 k4 => ?_
    · rw [List.drop_zero, List.nil_append] at hs k3
      have hE : exE l = 0 := by unfold exE; rw [if_pos h, if_pos hs]
      have hS : exS l = expT l := by unfold exS; rw [if_pos hE]
      obtain ⟨H3, b1, _, _⟩ := k3.stringK (by omega)
      rw [hE, hS]
      simp only [Tryz.fn10_r16, b1, AmR, kp, exe, Arg.val, Env.at, lk, putd, ok1, Option.getD_some, if_true, if_false, Nat.reduceEqDiff, resAll, resOf, List.map_cons, List.map_nil]
    · rw [List.drop_zero, List.nil_append] at hs
      have hE : exE l = 6 := by unfold exE; rw [if_pos h, if_neg hs]
      have hS : exS l = [] := by unfold exS; rw [if_neg (by rw [hE]; simp)]
      rw [hE, hS]
      simp only [Rt_code, Rt_nil, AmR, Env.at, resAll, resOf, Option.some.injEq, List.cons.injEq, and_true]
      exact ⟨k3, k4⟩
  · rw [List.drop_zero] at h
    have hE : exE l = 1 := by unfold exE; rw [if_neg (by rw [h]; simp)]
    have hS : exS l = [] := by unfold exS; rw [if_neg (by rw [hE]; simp)]
    rw [hE, hS]
    simp only [Rt_code, Rt_nil, AmR, Env.at, resAll, resOf, Option.some.injEq, List.cons.injEq, and_true]
    exact ⟨k1, k2⟩

end Go.Am
