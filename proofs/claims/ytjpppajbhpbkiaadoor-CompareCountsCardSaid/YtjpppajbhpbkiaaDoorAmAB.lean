/-
align.Distance. Conditions: the lists are short.
-/
import Derived.Test.YtjpppajbhpbkiaaDoorAmAA
set_option linter.unusedSimpArgs false
set_option linter.unusedVariables false
namespace Go.Am

def DZ : List AV := List.replicate 1026 (.int .i64 0)
theorem Tryd.dist_r3 : Tryd.fn15_r3 = [⟨some 6, .alloc 60 DZ, .none⟩] := by kernel_rfl
theorem DZ_len : DZ.length = 1026 := List.length_replicate

/-- The first n cells of row r are the distances of the first i of A and as many of B. -/
def RowD (A B : List Str) (cells : List AV) (r i n : Nat) : Prop := ∀ j, j < n → cells[r * 513 + j]? = some (.int .i64 ((dist A B i j : Nat) : Int))

theorem RowD.set {A B : List Str} {cells : List AV} {r i n : Nat} (h : RowD A B cells r i n) (hl : r * 513 + n < cells.length) : RowD A B (cells.set (r * 513 + n) (.int .i64 ((dist A B i n : Nat) : Int))) r i (n + 1) := fun j hj => by
  by_cases e : j = n
  · subst e
    rw [List.getElem?_set_self hl]
  · rw [List.getElem?_set_ne (by omega)]
    exact h j (by omega)
theorem RowD.other {A B : List Str} {cells : List AV} {r i n : Nat} (h : RowD A B cells r i n) {o : Nat} (v : AV) (ho : o < r * 513 ∨ r * 513 + n ≤ o) : RowD A B (cells.set o v) r i n := fun j hj => by
  rw [List.getElem?_set_ne (by omega)]
  exact h j hj

theorem store_dist (H : AH) (ty : TypeId) (cells : List AV) (o : Nat) (v : Int) (hf : H.floor ≤ H.next) (ho : o < cells.length) : (H.push ty true cells).store H.next o [.int .i64 v] = some (H.push ty true (cells.set o (.int .i64 v))) :=
  store_new H ty true cells [.int .i64 v] o hf (by simp only [List.length_singleton]; omega) rfl

theorem Tryd.distInit (A B : List Str) (hB : B.length ≤ 512) (va vb : AV) (K : AX → St → Prop) (ks : List Fr) (L : ACode) (hL : L = .loop (some [0, 1, 6, 18, 19]) Tryd.fn15_l2) (H0 : AH) (hf : H0.floor ≤ H0.next)
    (hk : ∀ cells w, cells.length = 1026 → RowD A B cells 0 0 (B.length + 1) → Nx Tryd.call K ks [(20, .bool false), (0, va), (1, vb), (6, .ptr H0.next 0), (18, .int .i64 ((B.length + 1 : Nat) : Int)), (19, .int .i64 ((B.length + 1 : Nat) : Int)), (20, w)] (H0.push 60 true cells)) :
    ∀ (n k : Nat) (cells : List AV), n + k = B.length + 1 → cells.length = 1026 → RowD A B cells 0 0 k →
    W Tryd.call K (.block 0 :: ks) [(0, va), (1, vb), (6, .ptr H0.next 0), (18, .int .i64 ((B.length + 1 : Nat) : Int)), (19, .int .i64 k)] (H0.push 60 true cells) L := by
  intro n
  induction n with
  | zero =>
    intro k cells hn hl hr
    refine W_loopN hL ?_
    obtain rfl : k = B.length + 1 := by omega
    simp only [Tryd.fn15_l2, Tryd.fn15_r5, AmR, kp, pushA, exe, Arg.val, Env.at, lk, putd, okM, abin, Option.getD_some, if_true, if_false, reduceCtorEq, Nat.reduceEqDiff]
    exact ⟨fun h => absurd h (by omega), fun _ => hk _ _ hl hr⟩
  | succ n ih =>
    intro k cells hn hl hr
    refine W_loopN hL ?_
    have h0 : (0 : Int) ≤ (k : Int) := by omega
    have h1 : ((k : Int) < ((B.length + 1 : Nat) : Int)) = True := eq_true (by omega)
    have h2 : ((k : Int) < ((513 : Nat) : Int)) = True := eq_true (by omega)
    have hw : IntKind.i64.wrap ((k : Int) + 1) = ((k + 1 : Nat) : Int) := by rw [IntWalk.i64_in _ (by omega)]; omega
    have st := store_dist H0 60 cells k (k : Int) hf (by omega)
    have hr' := hr.set (by omega)
    rw [dist_zero_left A B (by omega), Nat.zero_mul, Nat.zero_add] at hr'
    have h513 : ((k : Int) < 513) = True := eq_true (by omega)
    simp only [Tryd.fn15_l2, Tryd.fn15_r5, h1, AmR, kp, pushA, exe, Arg.val, Env.at, lk, putd, okM, abin, Option.getD_some, if_true, if_false, reduceCtorEq, Nat.reduceEqDiff, decide_true]
    simp only [Tryd.fn15_r6, AmR, kp, exe, Arg.val, Env.at, lk, putd, ok1, Option.getD_some, if_true, if_false, reduceCtorEq, Nat.reduceEqDiff]
    simp only [Tryd.fn15_r7, h0, h513, Int.toNat_natCast, and_self, Nat.zero_mul, Nat.zero_add, Nat.mul_one, Nat.add_zero, st, AmR, kp, exe, Arg.val, Env.at, lk, putd, AV.cells?, ok1, Option.getD_some, if_true, if_false, reduceCtorEq, Nat.reduceEqDiff, List.length_cons, List.length_nil, Option.map_some, Int.reduceLT, Int.reduceLE, Int.reduceToNat, Int.cast_ofNat_Int]
    simp only [Tryd.fn15_r8, hw, AmR, kp, exe, Arg.val, Env.at, lk, putd, ok1, okM, abin, Option.getD_some, if_true, if_false, reduceCtorEq, Nat.reduceEqDiff]
    exact ih (k + 1) _ (by omega) (by rw [List.length_set]; exact hl) hr'

theorem Tryd.distIn (A B : List Str) (hA : A.length ≤ 512) (hB : B.length ≤ 512) (va vb : AV) (K : AX → St → Prop) (ks : List Fr) (L : ACode) (hL : L = .loop (some [0, 1, 6, 8, 9, 10, 28, 29, 43, 44]) Tryd.fn15_l0) (H0 : AH) (hN : Names H0) (hf : H0.floor ≤ H0.next) (hva : StrS H0 va A) (hvb : StrS H0 vb B)
    (na : ∀ i o z n c, va = .sl i o z n c → i < H0.next) (nb : ∀ i o z n c, vb = .sl i o z n c → i < H0.next) (i : Nat) (hi : i < A.length)
    (hk : ∀ cells w, cells.length = 1026 → RowD A B cells ((i + 1) % 2) (i + 1) (B.length + 1) → Nx Tryd.call K ks [(45, .bool false), (0, va), (1, vb), (6, .ptr H0.next 0), (8, .int .i64 i), (9, .int .i64 ((i % 2 : Nat) : Int)), (10, .int .i64 (((i + 1) % 2 : Nat) : Int)), (28, .int .i64 A.length), (29, .int .i64 i), (43, .int .i64 B.length), (44, .int .i64 B.length), (45, w)] (H0.push 60 true cells)) :
    ∀ (n k : Nat) (cells : List AV), n + k = B.length → cells.length = 1026 → RowD A B cells (i % 2) i (B.length + 1) → RowD A B cells ((i + 1) % 2) (i + 1) (k + 1) →
    W Tryd.call K (.block 4 :: ks) [(0, va), (1, vb), (6, .ptr H0.next 0), (8, .int .i64 i), (9, .int .i64 ((i % 2 : Nat) : Int)), (10, .int .i64 (((i + 1) % 2 : Nat) : Int)), (28, .int .i64 A.length), (29, .int .i64 i), (43, .int .i64 B.length), (44, .int .i64 k)] (H0.push 60 true cells) L := by
  intro n
  induction n with
  | zero =>
    intro k cells hn hl hr hs
    refine W_loopN hL ?_
    obtain rfl : k = B.length := by omega
    simp only [Tryd.fn15_l0, Tryd.fn15_r15, AmR, kp, pushA, exe, Arg.val, Env.at, lk, putd, okM, abin, Option.getD_some, if_true, if_false, reduceCtorEq, Nat.reduceEqDiff]
    exact ⟨fun h => absurd h (by omega), fun _ => hk _ _ hl hs⟩
  | succ n ih =>
    intro k cells hn hl hr hs
    refine W_loopN hL ?_
    have hi0 : (0 : Int) ≤ (i : Int) := by omega
    have h0 : (0 : Int) ≤ (k : Int) := by omega
    have h1 : ((k : Int) < (B.length : Int)) = True := eq_true (by omega)
    have hia : ((i : Int) < (A.length : Int)) = True := eq_true (by omega)
    have hk1 : (0 : Int) ≤ ((k + 1 : Nat) : Int) := by omega
    have k513 : ((k : Int) < 513) = True := eq_true (by omega)
    have k1513 : (((k + 1 : Nat) : Int) < 513) = True := eq_true (by omega)
    have r0 : (0 : Int) ≤ ((i % 2 : Nat) : Int) := by omega
    have r2 : (((i % 2 : Nat) : Int) < 2) = True := eq_true (by omega)
    have s0 : (0 : Int) ≤ (((i + 1) % 2 : Nat) : Int) := by omega
    have s2 : ((((i + 1) % 2 : Nat) : Int) < 2) = True := eq_true (by omega)
    have hw : IntKind.i64.wrap ((k : Int) + 1) = ((k + 1 : Nat) : Int) := by rw [IntWalk.i64_in _ (by omega)]; omega
    obtain ⟨x, hx⟩ : ∃ x, A[i]? = some x := ⟨_, List.getElem?_eq_getElem hi⟩
    obtain ⟨y, hy⟩ : ∃ y, B[k]? = some y := ⟨_, List.getElem?_eq_getElem (by omega)⟩
    have sa : StrS (H0.push 60 true cells) va A := SliceV.grow hva (Grow.push _ _ _ _) na
    have sb : StrS (H0.push 60 true cells) vb B := SliceV.grow hvb (Grow.push _ _ _ _) nb
    obtain ⟨qa, oa, ca, ba, rfl, ga, xa⟩ := sa.at hx
    obtain ⟨qb, ob, cb, bb, rfl, gb, xb⟩ := sb.at hy
    have hnew := (hN.push 60 true cells).new
    have gp0 := get_push_new H0 60 true cells
    have st := fun v : Int => store_dist H0 60 cells ((i + 1) % 2 * 513 + (k + 1)) v hf (by omega)
    have c1 := hr k (by omega)
    have c2 := hr (k + 1) (by omega)
    have c3 := hs k (by omega)
    have next : ∀ v : Int, v = ((dist A B (i + 1) (k + 1) : Nat) : Int) → W Tryd.call K (.block 4 :: ks) [(0, .sl qa oa 1 A.length ca), (1, .sl qb ob 1 B.length cb), (6, .ptr H0.next 0), (8, .int .i64 i), (9, .int .i64 ((i % 2 : Nat) : Int)), (10, .int .i64 (((i + 1) % 2 : Nat) : Int)), (28, .int .i64 A.length), (29, .int .i64 i), (43, .int .i64 B.length), (44, .int .i64 ((k + 1 : Nat) : Int))] (H0.push 60 true (cells.set ((i + 1) % 2 * 513 + (k + 1)) (.int .i64 v))) L := fun v hv => by
      subst hv
      exact ih (k + 1) _ (by omega) (by rw [List.length_set]; exact hl) (hr.other _ (by omega)) (hs.set (by omega))
    generalize H0.push 60 true cells = G at *
    have gp : ∀ nx fl, (AH.mk G.blks nx fl).get H0.next = some ⟨cells, false, 60, true, true⟩ := fun _ _ => gp0
    simp only [Tryd.fn15_l0, Tryd.fn15_r15, h1, AmR, kp, pushA, exe, Arg.val, Env.at, lk, putd, okM, abin, Option.getD_some, if_true, if_false, reduceCtorEq, Nat.reduceEqDiff, decide_true]
    simp only [Tryd.fn15_r16, AmR, kp, exe, Arg.val, Env.at, lk, putd, ok1, Option.getD_some, if_true, if_false, reduceCtorEq, Nat.reduceEqDiff]
    refine W_drawn' (by kernel_rfl) ?_
    simp only [Tryd.fn15_r17, Tryd.fn15_r17a, ga, gb, xa, xb, hia, h1, hi0, h0, hnew, Int.toNat_natCast, and_self, Nat.mul_one, AmR, Cd_beq, kp, pushA, exe, Arg.val, Env.at, lk, putd, ok1, okM, abin, Option.getD_some, if_true, if_false, reduceCtorEq, Nat.reduceEqDiff, Nat.reduceAdd, true_and, List.nil_append, visH, List.filter_nil, List.flatMap_nil, List.contains_cons, List.contains_nil, Bool.or_false]
    refine ⟨fun e => ?_, fun e => ?_⟩
    · subst e
      refine W_drawn' (by kernel_rfl) ?_
      simp only [Tryd.fn15_r18, Tryd.fn15_r18a, gp, c1, r0, r2, s0, s2, h0, hk1, k513, k1513, hw, st, Int.toNat_natCast, and_self, Nat.zero_add, Nat.mul_one, AH.eta, AmR, kp, exe, Arg.val, Env.at, lk, putd, AV.cells?, ok1, okM, abin, Option.getD_some, if_true, if_false, reduceCtorEq, Nat.reduceEqDiff, Nat.reduceAdd, true_and, List.nil_append, visH, List.flatMap_nil, List.length_cons, List.length_nil, Option.map_some, Int.cast_ofNat_Int]
      simp only [Tryd.fn15_r20, hw, AmR, kp, exe, Arg.val, Env.at, lk, putd, ok1, okM, abin, Option.getD_some, if_true, if_false, reduceCtorEq, Nat.reduceEqDiff]
      exact next _ (by rw [dist_eq hx hy])
    · have hb1 := dist_le A B i (k + 1)
      have hb2 := dist_le A B (i + 1) k
      have mn : (if ((dist A B (i + 1) k : Nat) : Int) < ((dist A B i (k + 1) : Nat) : Int) then ((dist A B (i + 1) k : Nat) : Int) else ((dist A B i (k + 1) : Nat) : Int)) = ((min (dist A B i (k + 1)) (dist A B (i + 1) k) : Nat) : Int) := by split <;> omega
      have wm : IntKind.i64.wrap (1 + ((min (dist A B i (k + 1)) (dist A B (i + 1) k) : Nat) : Int)) = ((1 + min (dist A B i (k + 1)) (dist A B (i + 1) k) : Nat) : Int) := by rw [IntWalk.i64_in _ (by omega)]; omega
      refine W_drawn' (by kernel_rfl) ?_
      simp only [Tryd.fn15_r19, Tryd.fn15_r19a, Tryd.fn15_r19b, Tryd.fn15_r19c, gp, c2, c3, r0, r2, s0, s2, h0, hk1, k513, k1513, hw, mn, wm, hnew, st, Int.toNat_natCast, and_self, Nat.zero_add, Nat.mul_one, AH.eta, AmR, kp, exe, Arg.val, Env.at, lk, putd, AV.cells?, ok1, okM, abin, Option.getD_some, if_true, if_false, reduceCtorEq, Nat.reduceEqDiff, Nat.reduceAdd, true_and, List.nil_append, visH, List.filter_nil, List.flatMap_nil, List.contains_cons, List.contains_nil, Bool.or_false, List.length_cons, List.length_nil, Option.map_some, Int.cast_ofNat_Int]
      simp only [Tryd.fn15_r20, hw, AmR, kp, exe, Arg.val, Env.at, lk, putd, ok1, okM, abin, Option.getD_some, if_true, if_false, reduceCtorEq, Nat.reduceEqDiff]
      exact next _ (by rw [dist_ne hx hy e])

theorem Tryd.distOut (A B : List Str) (hA : A.length ≤ 512) (hB : B.length ≤ 512) (va vb : AV) (K : AX → St → Prop) (ks : List Fr) (L : ACode) (hL : L = .loop (some [0, 1, 6, 28, 29]) Tryd.fn15_l1) (H0 : AH) (hN : Names H0) (hf : H0.floor ≤ H0.next) (hva : StrS H0 va A) (hvb : StrS H0 vb B)
    (na : ∀ i o z n c, va = .sl i o z n c → i < H0.next) (nb : ∀ i o z n c, vb = .sl i o z n c → i < H0.next)
    (hk : ∀ cells w, cells.length = 1026 → RowD A B cells (A.length % 2) A.length (B.length + 1) → Nx Tryd.call K ks [(30, .bool false), (0, va), (1, vb), (6, .ptr H0.next 0), (28, .int .i64 A.length), (29, .int .i64 A.length), (30, w)] (H0.push 60 true cells)) :
    ∀ (n i : Nat) (cells : List AV), n + i = A.length → cells.length = 1026 → RowD A B cells (i % 2) i (B.length + 1) →
    W Tryd.call K (.block 2 :: ks) [(0, va), (1, vb), (6, .ptr H0.next 0), (28, .int .i64 A.length), (29, .int .i64 i)] (H0.push 60 true cells) L := by
  intro n
  induction n with
  | zero =>
    intro i cells hn hl hr
    refine W_loopN hL ?_
    obtain rfl : i = A.length := by omega
    simp only [Tryd.fn15_l1, Tryd.fn15_r10, AmR, kp, pushA, exe, Arg.val, Env.at, lk, putd, okM, abin, Option.getD_some, if_true, if_false, reduceCtorEq, Nat.reduceEqDiff]
    exact ⟨fun h => absurd h (by omega), fun _ => hk _ _ hl hr⟩
  | succ n ih =>
    intro i cells hn hl hr
    refine W_loopN hL ?_
    have hi0 : (0 : Int) ≤ (i : Int) := by omega
    have hia : ((i : Int) < (A.length : Int)) = True := eq_true (by omega)
    have hw : IntKind.i64.wrap ((i : Int) + 1) = ((i + 1 : Nat) : Int) := by rw [IntWalk.i64_in _ (by omega)]; omega
    have t1 : (i : Int).tmod 2 = ((i % 2 : Nat) : Int) := (Int.ofNat_tmod i 2).symm
    have t2 : ((i + 1 : Nat) : Int).tmod 2 = (((i + 1) % 2 : Nat) : Int) := (Int.ofNat_tmod (i + 1) 2).symm
    have s0 : (0 : Int) ≤ (((i + 1) % 2 : Nat) : Int) := by omega
    have s2 : ((((i + 1) % 2 : Nat) : Int) < 2) = True := eq_true (by omega)
    have st := store_dist H0 60 cells ((i + 1) % 2 * 513) ((i + 1 : Nat) : Int) hf (by omega)
    have lb := SliceV.lenS (SliceV.grow hvb (Grow.push H0 60 true (cells.set ((i + 1) % 2 * 513) (.int .i64 ((i + 1 : Nat) : Int)))) nb)
    have hr' : RowD A B (cells.set ((i + 1) % 2 * 513) (.int .i64 ((i + 1 : Nat) : Int))) (i % 2) i (B.length + 1) := hr.other _ (by omega)
    have hs' : RowD A B (cells.set ((i + 1) % 2 * 513) (.int .i64 ((i + 1 : Nat) : Int))) ((i + 1) % 2) (i + 1) (0 + 1) := by
      have h0 : RowD A B cells ((i + 1) % 2) (i + 1) 0 := fun j hj => absurd hj (by omega)
      have h1 := h0.set (by omega)
      rw [dist_zero_right A B (by omega), Nat.add_zero] at h1
      exact h1
    simp only [Tryd.fn15_l1, Tryd.fn15_r10, hia, AmR, kp, pushA, exe, Arg.val, Env.at, lk, putd, okM, abin, Option.getD_some, if_true, if_false, reduceCtorEq, Nat.reduceEqDiff, decide_true]
    simp only [Tryd.fn15_r11, AmR, kp, exe, Arg.val, Env.at, lk, putd, ok1, Option.getD_some, if_true, if_false, reduceCtorEq, Nat.reduceEqDiff]
    simp only [Tryd.fn15_r12, hw, t1, t2, AmR, kp, exe, Arg.val, Env.at, lk, putd, ok1, okM, abin, Option.getD_some, if_true, if_false, reduceCtorEq, Nat.reduceEqDiff, Int.reduceEq]
    simp only [Tryd.fn15_r13, hw, s0, s2, st, Int.toNat_natCast, and_self, Nat.zero_add, Nat.mul_one, Nat.add_zero, AmR, kp, exe, Arg.val, Env.at, lk, putd, AV.cells?, ok1, okM, abin, Option.getD_some, if_true, if_false, reduceCtorEq, Nat.reduceEqDiff, List.length_cons, List.length_nil, Option.map_some, Int.reduceLT, Int.reduceLE, Int.reduceToNat, Int.cast_ofNat_Int]
    simp only [Tryd.fn15_r14, lb, AmR, kp, exe, Arg.val, Env.at, lk, putd, ok1, okM, Option.getD_some, if_true, if_false, reduceCtorEq, Nat.reduceEqDiff, Option.map_some, ↓exe_lenl]
    refine Tryd.distIn A B hA hB va vb _ _ _ rfl H0 hN hf hva hvb na nb i (by omega) ?_ B.length 0 _ (by omega) (by rw [List.length_set]; exact hl) hr' hs'
    intro cells2 w hl2 hs2
    simp only [Tryd.fn15_r21, hw, AmR, kp, exe, Arg.val, Env.at, lk, putd, ok1, okM, abin, Option.getD_some, if_true, if_false, reduceCtorEq, Nat.reduceEqDiff]
    exact ih (i + 1) cells2 (by omega) hl2 hs2

theorem Tryd.distance (A B : List Str) (hA : A.length ≤ 512) (hB : B.length ≤ 512) (va vb : AV) (H : AH) (hva : StrS H va A) (hvb : StrS H vb B) : Tryd.call 15 [va, vb] H = some (.ok (.tup [.int .i64 ((cost A B : Nat) : Int), .int .i64 0]), H) := by
  obtain ⟨v', w', bs, kq, hvw, s1, s2, hN, _, n1, n2⟩ := views_two hva hvb (strs_flat A) (strs_flat B) 4 (rest := []) fun k => views_nil H k
  refine ecall_flat 4 [] _ _ (out := [.int .i64 ((cost A B : Nat) : Int), .int .i64 0]) rfl rfl rfl hvw rfl ?_
  show W Tryd.call _ _ _ _ _
  generalize hH : (⟨bs ++ [], kq, kq⟩ : AH) = H0 at s1 s2 hN ⊢
  have hn : H0.next = kq := by rw [← hH]
  have hfl : H0.floor ≤ H0.next := by rw [← hH]; exact Nat.le_refl _
  subst hn
  have hfit := Tryd.fits A B hA hB v' w' H0 s1 s2
  have lb := SliceV.lenS (SliceV.grow s2 (Grow.push H0 60 true DZ) n2)
  have w1 : IntKind.i64.wrap ((B.length : Int) + 1) = ((B.length + 1 : Nat) : Int) := by rw [IntWalk.i64_in _ (by omega)]; omega
  simp only [Tryd.fn15, Tryd.fn15_r0, Tryd.fn15_r1, hfit, AmR, kp, pushA, exe, number, Arg.val, Env.at, lk, putd, ok1, okM, Option.getD_some, if_true, if_false, Bool.not_true, reduceCtorEq, Nat.reduceEqDiff, Nat.reduceAdd, aun, List.map_cons, List.map_nil]
  simp only [Tryd.dist_r3, Tryd.fn15_r4, lb, w1, AmR, kp, exe, Arg.val, Env.at, lk, putd, ok1, okM, abin, Option.getD_some, if_true, if_false, reduceCtorEq, Nat.reduceEqDiff, Option.map_some, ↓exe_lenl]
  refine Tryd.distInit A B hB v' w' _ _ _ rfl H0 hfl ?_ (B.length + 1) 0 DZ (by omega) DZ_len (fun j hj => absurd hj (by omega))
  intro cells u hl hr
  have la := SliceV.lenS (SliceV.grow s1 (Grow.push H0 60 true cells) n1)
  simp only [Tryd.fn15_r9, la, AmR, kp, exe, Arg.val, Env.at, lk, putd, ok1, okM, Option.getD_some, if_true, if_false, reduceCtorEq, Nat.reduceEqDiff, Option.map_some, ↓exe_lenl]
  refine Tryd.distOut A B hA hB v' w' _ _ _ rfl H0 hN hfl s1 s2 n1 n2 ?_ A.length 0 cells (by omega) hl hr
  intro cells2 u2 hl2 hr2
  have la2 := SliceV.lenS (SliceV.grow s1 (Grow.push H0 60 true cells2) n1)
  have lb2 := SliceV.lenS (SliceV.grow s2 (Grow.push H0 60 true cells2) n2)
  have t1 : (A.length : Int).tmod 2 = ((A.length % 2 : Nat) : Int) := (Int.ofNat_tmod A.length 2).symm
  have r0 : (0 : Int) ≤ ((A.length % 2 : Nat) : Int) := by omega
  have r2 : (((A.length % 2 : Nat) : Int) < 2) = True := eq_true (by omega)
  have b0 : (0 : Int) ≤ (B.length : Int) := by omega
  have b5 : ((B.length : Int) < 513) = True := eq_true (by omega)
  have gp := get_push_new H0 60 true cells2
  have cf := hr2 B.length (by omega)
  rw [dist_all] at cf
  simp only [Tryd.fn15_r22, la2, lb2, t1, r0, r2, b0, b5, gp, cf, Int.toNat_natCast, and_self, Nat.zero_add, Nat.mul_one, AmR, kp, exe, Arg.val, Env.at, lk, putd, ok1, okM, abin, Option.getD_some, if_true, if_false, reduceCtorEq, Nat.reduceEqDiff, resAll, resOf, Option.map_some, Int.reduceEq, Int.cast_ofNat_Int, ↓exe_lenl]

end Go.Am
