/-
The shift of two lists of events, by the specification. Conditions: the matches name events.
-/
import Derived.Test.YtjpppajbhpbkiaaDoorAmC
import Derived.Test.YtjpppajbhpbkiaaDoorAmO
set_option linter.unusedSimpArgs false
set_option linter.unusedVariables false
namespace Go.Am

/-- Three slices and flat values handed over by value. -/
theorem views_three {H : AH} {z1 z2 z3 : Nat} {v1 v2 v3 : AV} {n1 n2 n3 : Nat} {cs1 cs2 cs3 : List AV} (h1 : SliceV H z1 v1 n1 cs1) (h2 : SliceV H z2 v2 n2 cs2) (h3 : SliceV H z3 v3 n3 cs3) (f1 : cs1.all flat1 = true) (f2 : cs2.all flat1 = true) (f3 : cs3.all flat1 = true) (k : Nat) {rest us : List AV} (hr : ∀ k, views H rest k = some (us, [], k)) :
    ∃ w1 w2 w3 bs kq, views H (v1 :: v2 :: v3 :: rest) k = some (w1 :: w2 :: w3 :: us, bs, kq) ∧ SliceV ⟨bs ++ [], kq, kq⟩ z1 w1 n1 cs1 ∧ SliceV ⟨bs ++ [], kq, kq⟩ z2 w2 n2 cs2 ∧ SliceV ⟨bs ++ [], kq, kq⟩ z3 w3 n3 cs3 ∧ Names ⟨bs ++ [], kq, kq⟩ ∧ k ≤ kq ∧
      (∀ i o z n c, w1 = .sl i o z n c → i < kq) ∧ (∀ i o z n c, w2 = .sl i o z n c → i < kq) ∧ ∀ i o z n c, w3 = .sl i o z n c → i < kq := by
  obtain ⟨w1, b1, k1, a1, a2, a3, a4, a5⟩ := h1.view f1 k
  obtain ⟨w2, b2, k2, c1, c2, c3, c4, c5⟩ := h2.view f2 k1
  obtain ⟨w3, b3, k3, d1, d2, d3, d4, d5⟩ := h3.view f3 k2
  have e1 : ∀ i, lk (b1 ++ (b2 ++ (b3 ++ [])) ++ []) i = ((lk b1 i).or ((lk b2 i).or (lk b3 i))) := fun i => by
    rw [List.append_nil, List.append_nil, lk_app, lk_app]
  refine ⟨w1, w2, w3, b1 ++ (b2 ++ (b3 ++ [])), k3, a3 (c3 (d3 (hr k3))), a5 _ fun i hi hi' => ?_, c5 _ fun i hi hi' => ?_, d5 _ fun i hi hi' => ?_, fun x hx => ?_, by omega, fun i o z n c e => by have := a4 i o z n c e; omega, fun i o z n c e => by have := c4 i o z n c e; omega, fun i o z n c e => by have := d4 i o z n c e; omega⟩
  · refine (e1 i).trans ?_
    rw [lk_none (l := b2) fun x hx => by have := c2 x hx; omega, lk_none (l := b3) fun x hx => by have := d2 x hx; omega]
    cases lk b1 i <;> rfl
  · refine (e1 i).trans ?_
    rw [lk_none (l := b1) fun x hx => by have := a2 x hx; omega, lk_none (l := b3) fun x hx => by have := d2 x hx; omega]
    cases lk b2 i <;> rfl
  · refine (e1 i).trans ?_
    rw [lk_none (l := b1) fun x hx => by have := a2 x hx; omega, lk_none (l := b2) fun x hx => by have := c2 x hx; omega]
    rfl
  · show x.1 < k3
    rw [List.append_nil, List.append_nil] at hx
    rcases List.mem_append.1 hx with hx | hx
    · have := a2 x hx; omega
    · rcases List.mem_append.1 hx with hx | hx
      · have := c2 x hx; omega
      · exact (d2 x hx).2

/-- A match. -/
structure Mt where
  l : Int
  r : Int
def Mt.cells (x : Mt) : List AV := [.int .i64 x.l, .int .i64 x.r]
theorem Mt.cells_len (x : Mt) : x.cells.length = 2 := rfl
theorem mts_flat (l : List Mt) : (rowsOf Mt.cells l).all flat1 = true := rowsOf_flat (fun _ => rfl) l
def MtS (H : AH) (v : AV) (l : List Mt) : Prop := SliceV H 2 v l.length (rowsOf Mt.cells l)
/-- It names events, where it names any. -/
def Mt.fits (a b : List Ev) (m : Mt) : Prop := (0 ≤ m.l → m.l.toNat < a.length) ∧ (0 ≤ m.r → m.r.toNat < b.length)

def fAt (l : List Ev) (i : Int) : Int := ((l[i.toNat]?).map Ev.f).getD 0
/-- The shift of two lists with their matches. -/
def shiftV (a b : List Ev) : List Mt → Int
  | [] => 0
  | m :: ms => if 0 ≤ m.l ∧ 0 ≤ m.r then IntKind.i64.wrap (fAt b m.r - fAt a m.l) else shiftV a b ms

theorem Tryd.shiftRefLoop (a b : List Ev) (ms : List Mt) (hl : ms.length ≤ 1000000) (hfit : ∀ m ∈ ms, m.fits a b) (K : AX → St → Prop) (ks : List Fr) (L : ACode) (hL : L = .loop (some [0, 1, 2, 7]) Tryd.fn31_l0) (H : AH) (hN : Names H) (va vb vm : AV) (ha : EvS H va a) (hb : EvS H vb b) (hm : MtS H vm ms) :
    ∀ (n i : Nat), n + i = ms.length → (shiftV a b (ms.drop i) = 0 → ∀ e, Nx Tryd.call K ks e H) → (∀ e, e.at 6 = .int .i64 (shiftV a b (ms.drop i)) → Rt Tryd.call K ks e H) →
    W Tryd.call K (.block 0 :: ks) [(0, va), (1, vb), (2, vm), (7, .int .i64 i)] H L := by
  intro n
  induction n with
  | zero =>
    intro i hi hk hr
    refine W_loopN hL ?_
    have hi' : i = ms.length := by omega
    subst hi'
    have e1 := hm.lenS
    simp only [Tryd.fn31_l0, Tryd.fn31_r2, e1, AmR, kp, pushA, exe, Arg.val, Env.at, lk, putd, ok1, okM, abin, Option.getD_some, if_true, if_false, reduceCtorEq, Nat.reduceEqDiff, Option.map_some, ↓exe_lenl]
    refine ⟨fun h => absurd h (by omega), fun _ => hk (by rw [List.drop_length]; rfl) _⟩
  | succ n ih =>
    intro i hi hk hr
    refine W_loopN hL ?_
    obtain ⟨m, hx⟩ : ∃ x, ms[i]? = some x := ⟨_, List.getElem?_eq_getElem (by omega)⟩
    have hil : i < ms.length := by omega
    have hd : ms.drop i = m :: ms.drop (i + 1) := by
      rw [List.drop_eq_getElem_cons hil]
      rw [List.getElem?_eq_getElem hil, Option.some.injEq] at hx
      rw [hx]
    have hmm : m ∈ ms := by
      rw [List.getElem?_eq_getElem hil, Option.some.injEq] at hx
      rw [← hx]; exact List.getElem_mem hil
    have hft := hfit m hmm
    have h0 : (0 : Int) ≤ (i : Int) := by omega
    have h1 : ((i : Int) < (ms.length : Int)) = True := eq_true (by omega)
    have hw : IntKind.i64.wrap ((i : Int) + 1) = ((i + 1 : Nat) : Int) := by rw [IntWalk.i64_in _ (by omega)]; omega
    have hnew := hN.new
    have e1 := hm.lenS
    have next : ¬ (0 ≤ m.l ∧ 0 ≤ m.r) → W Tryd.call K (.block 0 :: ks) [(0, va), (1, vb), (2, vm), (7, .int .i64 ((i + 1 : Nat) : Int))] H L := fun hne => by
      have e : shiftV a b (ms.drop i) = shiftV a b (ms.drop (i + 1)) := by rw [hd, shiftV, if_neg hne]
      exact ih (i + 1) (by omega) (by rw [← e]; exact hk) (by rw [← e]; exact hr)
    rcases hm.cases with ⟨rfl, h, _⟩ | ⟨rfl, h, _⟩ | ⟨q, o, c, bm, rfl, hbm, hlm, hcm⟩
    · omega
    · omega
    · have m0 : bm.cells[o + i * 2 + 0]? = some (.int .i64 m.l) := by rw [cell_rowO Mt.cells_len hcm hx (by omega)]; rfl
      have m0' : bm.cells[o + i * 2]? = some (.int .i64 m.l) := m0
      have m1 : bm.cells[o + i * 2 + 1]? = some (.int .i64 m.r) := by rw [cell_rowO Mt.cells_len hcm hx (by omega)]; rfl
      simp only [Tryd.fn31_l0, Tryd.fn31_r2, h1, AmR, kp, pushA, exe, Arg.val, Env.at, lk, putd, ok1, okM, abin, Option.getD_some, if_true, if_false, reduceCtorEq, Nat.reduceEqDiff, decide_true, Option.map_some, ↓exe_lenl, lenS_sl]
      simp only [Tryd.fn31_r3, h0, h1, Int.toNat_natCast, and_self, hbm, m0', Nat.add_zero, AmR, kp, exe, Arg.val, Env.at, lk, putd, ok1, okM, abin, Option.getD_some, if_true, if_false, reduceCtorEq, Nat.reduceEqDiff]
      refine ⟨fun hml => ?_, fun hml => ?_⟩
      · simp only [Tryd.fn31_r4, hbm, m1, AmR, kp, pushA, exe, Arg.val, Env.at, lk, putd, ok1, okM, abin, Option.getD_some, if_true, if_false, reduceCtorEq, Nat.reduceEqDiff]
        refine ⟨fun hmr => ?_, fun hmr => ?_⟩
        · have hlr := hft.1 (by omega)
          have hrr := hft.2 (by omega)
          rcases ha.cases with ⟨rfl, h, _⟩ | ⟨rfl, h, _⟩ | ⟨qa, oa, ca, ba, rfl, hba, hla, hca⟩
          · omega
          · omega
          rcases hb.cases with ⟨rfl, h, _⟩ | ⟨rfl, h, _⟩ | ⟨qb, ob, cb, bb, rfl, hbb, hlb, hcb⟩
          · omega
          · omega
          obtain ⟨x, hxa⟩ : ∃ x, a[m.l.toNat]? = some x := ⟨_, List.getElem?_eq_getElem hlr⟩
          obtain ⟨y, hyb⟩ : ∃ x, b[m.r.toNat]? = some x := ⟨_, List.getElem?_eq_getElem hrr⟩
          have a1 : ba.cells[oa + m.l.toNat * 7 + 1]? = some (.int .i64 x.f) := by rw [cell_rowO Ev.cells_len hca hxa (by omega)]; rfl
          have b1 : bb.cells[ob + m.r.toNat * 7 + 1]? = some (.int .i64 y.f) := by rw [cell_rowO Ev.cells_len hcb hyb (by omega)]; rfl
          have ga : ∀ nx fl, (AH.mk H.blks nx fl).get qa = some ba := fun _ _ => hba
          have gb : ∀ nx fl, (AH.mk H.blks nx fl).get qb = some bb := fun _ _ => hbb
          have gm : ∀ nx fl, (AH.mk H.blks nx fl).get q = some bm := fun _ _ => hbm
          have c1 : (0 : Int) ≤ m.l ∧ m.l < (a.length : Int) := by omega
          have c2 : (0 : Int) ≤ m.r ∧ m.r < (b.length : Int) := by omega
          have e : shiftV a b (ms.drop i) = IntKind.i64.wrap (y.f - x.f) := by
            rw [hd, shiftV, if_pos ⟨c1.1, c2.1⟩, fAt, fAt, hxa, hyb]; rfl
          refine W_drawn' (by kernel_rfl) ?_
          simp only [Tryd.fn31_r5, Tryd.fn31_r5a, Tryd.fn31_r5b, Tryd.fn31_r5c, h0, h1, c1.1, c1.2, c2.1, c2.2, Int.toNat_natCast, and_self, ga, gb, gm, m0', m1, a1, b1, hnew, Nat.add_zero, AmR, kp, exe, Arg.val, Env.at, lk, putd, ok1, okM, abin, Option.getD_some, if_true, if_false, reduceCtorEq, Nat.reduceEqDiff, Nat.reduceAdd, decide_true, true_and, List.nil_append, visH, List.filter_nil, List.flatMap_nil, List.contains_cons, List.contains_nil, Bool.or_false]
          refine hr _ ?_
          rw [e]; rfl
        · simp only [Tryd.fn31_r6, hw, AmR, kp, exe, Arg.val, Env.at, lk, putd, ok1, okM, abin, Option.getD_some, if_true, if_false, reduceCtorEq, Nat.reduceEqDiff]
          exact next (by omega)
      · simp only [Tryd.fn31_r4, Tryd.fn31_r6, hw, AmR, kp, pushA, exe, Arg.val, Env.at, lk, putd, ok1, okM, abin, Option.getD_some, if_true, if_false, reduceCtorEq, Nat.reduceEqDiff, Bool.false_eq_true]
        exact next (by omega)

end Go.Am
