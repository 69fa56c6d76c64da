/-
The abstract machine, part Mc: its texts one after the other. Conditions: those that each theorem names.
-/
import Derived.Test.YtolilamofgildaaGreatDoorMb
import Derived.Laws.Externs
import Derived.Lib.ItoaNum
import Derived.Lib.Join
import Derived.Lib.LaidTab
import Derived.Lib.Builder
import Derived.Sort.Grow
set_option linter.unusedSimpArgs false
set_option linter.unusedVariables false
set_option linter.defProp false

/- The machine's rows for functions of Go's library that are taken by a contract. Conditions: the contract, as the theorems name it. -/
namespace Go.Am
open Go.RowKit

section
variable {P : Program} {B : Base}

structure RowOk (P : Program) (B : Base) (f : FuncId) (g : List AV → AH → Option (Out × AH)) : Prop where
  next : ∀ args H out H', g args H = some (out, H') → H.next ≤ H'.next
  does : ∀ (args : List AV) (H : AH) (out : Out) (H' : AH) (φ : Emb) (vs : List Value) (w : World), g args H = some (out, H') → Rel B φ H w → VRs φ args vs → GlobR P φ → Free φ H.next H'.next →
    Does P (Post B φ H w out H') ((callFunc f vs.toArray).run P w)

theorem extOk_nil : ExtOk P B (lk []) := ⟨fun f g args H out H' h => (by cases h), fun f g args H out H' φ vs w h => (by cases h)⟩

theorem extOk_cons {f : FuncId} {g : List AV → AH → Option (Out × AH)} {l : List (Nat × (List AV → AH → Option (Out × AH)))} (h : RowOk P B f g) (hl : ExtOk P B (lk l)) : ExtOk P B (lk ((f, g) :: l)) := by
  refine ⟨fun f' g' args H out H' h1 h2 => ?_, fun f' g' args H out H' φ vs w h1 h2 => ?_⟩
  · by_cases e : f = f'
    · subst e; simp [lk] at h1; subst h1; exact h.next args H out H' h2
    · simp [lk, e] at h1; exact hl.next f' g' args H out H' h1 h2
  · by_cases e : f = f'
    · subst e; simp [lk] at h1; subst h1; exact h.does args H out H' φ vs w h2
    · simp [lk, e] at h1; exact hl.does f' g' args H out H' φ vs w h1 h2

theorem Step.grown {φ : Emb} {H : AH} {w w' : World} (hr : Rel B φ H w) (hb : Below w.heap.size w w') : Step B φ H w φ H w' :=
  ⟨hr.grow (Emb.le_refl _) hb.size hb.block, fun _ _ => rfl, Nat.le_refl _, rfl, fun _ _ => rfl, fun _ b _ hb => ⟨b, hb, rfl⟩, hb.os, hb.tape, hb.output, hb.size, fun p hp _ => hb.block p hp, fun _ hp => .inl hp⟩

/-- A contract on calls. -/
theorem does_calls {f : FuncId} {F : Func} (hF : P.funcs[f]? = some F) (hname : (F.name == "runtime.NumGoroutine") = false) (hb : F.body.isSome = true) {R : Ending → World → Prop} {args : Array Value} {w : World} (h : Calls P f args w R) :
    Does P R ((callFunc f args).run P w) := by
  have hname' : F.name ≠ "runtime.NumGoroutine" := by simpa using hname
  obtain ⟨c, hc⟩ := Option.isSome_iff_exists.1 hb
  have : (callFunc f args).run P w = .ok (.enter f args) w := by simp [callFunc, hF, hname', hc]
  rw [this]
  exact h

/-! ### Numerals -/

def decF : Nat → Nat → List UInt8
  | 0, _ => []
  | k + 1, u => if u < 10 then [UInt8.ofNat (48 + u)] else decF k (u / 10) ++ [UInt8.ofNat (48 + u % 10)]

theorem decF_eq : ∀ (k u : Nat), u < 10 ^ k → 0 < k → decF k u = Lib.decDigits u
  | 0, u, _, hk => by omega
  | k + 1, u, h, _ => by
    rw [Lib.decDigits, decF]
    by_cases hu : u < 10
    · rw [if_pos hu, dif_pos hu]
    · rw [if_neg hu, dif_neg hu]
      have hlt : u / 10 < 10 ^ k := by
        rw [Nat.pow_succ] at h
        omega
      have hk : 0 < k := by
        cases k with
        | zero => simp at h; omega
        | succ k => omega
      rw [decF_eq k (u / 10) hlt hk]

def itoaF (n : Int) : List UInt8 := if n < 0 then 45 :: decF 20 n.natAbs else decF 20 n.toNat

theorem itoaF_eq {n : Int} (h0 : -9223372036854775808 ≤ n) (h1 : n ≤ 9223372036854775807) : itoaF n = Lib.itoa n := by
  unfold itoaF Lib.itoa
  by_cases h : n < 0
  · rw [if_pos h, if_pos h, decF_eq 20 _ (by omega) (by omega)]
  · rw [if_neg h, if_neg h, decF_eq 20 _ (by omega) (by omega)]

def gItoa : List AV → AH → Option (Out × AH)
  | [.int .i64 n], H => if -9223372036854775808 ≤ n ∧ n ≤ 9223372036854775807 then ok1 H (.str (itoaF n)) else none
  | _, _ => none

theorem rowOk_itoa {f : FuncId} {F : Func} (hF : P.funcs[f]? = some F) (hname : (F.name == "runtime.NumGoroutine") = false) (hb : F.body.isSome = true) (hK : ∀ w, B.K w → Lib.TabIs P w "internal/strconv.uint64pow10" .u64 Lib.pow10Tab)
    (h : ∀ (n : Int) (_ : -9223372036854775808 ≤ n) (_ : n ≤ 9223372036854775807) (w : World) (_ : Lib.TabIs P w "internal/strconv.uint64pow10" .u64 Lib.pow10Tab),
      Calls P f #[.int .i64 n] w fun e w' => e = .returned (.string ⟨(Lib.itoa n).toArray⟩) ∧ Below w.heap.size w w') : RowOk P B f gItoa where
  next := fun args H out H' hg => by
    unfold gItoa at hg
    split at hg
    · split at hg
      · have := ok1_nextG hg; subst this; exact Nat.le_refl _
      · cases hg
    · cases hg
  does := fun args H out H' φ vs w hg hr hv _ _ => by
    unfold gItoa at hg
    split at hg
    · rename_i n
      split at hg
      · rename_i hn
        obtain ⟨rfl, rfl⟩ := ok1_inv hg
        obtain ⟨v, vs', rfl, hv1, hv2⟩ := hv.cons_inv
        obtain rfl := hv1.int_inv
        obtain rfl := hv2.nil_inv
        refine does_calls hF hname hb ((h n hn.1 hn.2 w (hK w hr.know.1.1)).mono ?_)
        rintro e w' ⟨rfl, hbl⟩
        exact Post.ok (Step.grown hr hbl) (by rw [itoaF_eq hn.1 hn.2]; exact VR.str _)
      · cases hg
    · cases hg

/-! ### strings.Join -/

def strsOf : List AV → Option (List (List UInt8))
  | [] => some []
  | .str s :: l => (strsOf l).map (s :: ·)
  | _ :: _ => none

theorem strsOf_ok {φ : Emb} : ∀ {cs : List AV} {xs : List (List UInt8)} {us : List Value}, strsOf cs = some xs → VRs φ cs us → us = xs.map fun s => Value.string ⟨s.toArray⟩
  | [], xs, us, h, hv => by simp [strsOf] at h; subst h; rw [hv.nil_inv]; rfl
  | c :: cs, xs, us, h, hv => by
    obtain ⟨u, us', rfl, hv1, hv2⟩ := hv.cons_inv
    cases c <;> simp only [strsOf, Option.map_eq_some_iff, reduceCtorEq] at h
    obtain ⟨xs', h1, rfl⟩ := h
    obtain rfl := hv1.str_inv
    rw [strsOf_ok h1 hv2]
    rfl

def gJoin : List AV → AH → Option (Out × AH)
  | [.sl i o z n _, .str sep], H => if z = 1 then match H.cellsAt i o n with
      | some cs => match strsOf cs with
        | some xs => if n ≤ 140737488355328 ∧ (Lib.join xs sep).length ≤ 140737488355328 then ok1 H (.str (Lib.join xs sep)) else none
        | none => none
      | none => none
    else none
  | [.nils, .str _], H => ok1 H (.str [])
  | _, _ => none

theorem rowOk_join {f : FuncId} {F : Func} (hF : P.funcs[f]? = some F) (hname : (F.name == "runtime.NumGoroutine") = false) (hb : F.body.isSome = true)
    (h0 : ∀ (a : Option Addr) (c : Nat) (sep : ByteArray) (w : World), Calls P f #[.slice a 0 c, .string sep] w fun e w' => e = .returned (.string ⟨#[]⟩) ∧ w' = w)
    (h : ∀ (bk o c : Nat) (xs : List ByteArray) (sep : ByteArray) (w : World) (_ : ∀ (j : Nat) x, xs[j]? = some x → w.cell? ⟨bk, o + j, none⟩ = some (.string x)) (_ : bk < w.heap.size) (_ : xs.length ≤ 140737488355328) (_ : xs.length ≤ c)
      (_ : (Lib.join (xs.map (·.data.toList)) sep.data.toList).length ≤ 140737488355328),
      Calls P f #[.slice (some ⟨bk, o, none⟩) xs.length c, .string sep] w fun e w' => e = .returned (.string ⟨(Lib.join (xs.map (·.data.toList)) sep.data.toList).toArray⟩) ∧ Below w.heap.size w w') : RowOk P B f gJoin where
  next := fun args H out H' hg => by
    unfold gJoin at hg
    repeat' split at hg
    all_goals first
      | (cases hg; done)
      | (have := ok1_nextG hg; subst this; exact Nat.le_refl _)
  does := fun args H out H' φ vs w hg hr hv _ _ => by
    unfold gJoin at hg
    split at hg
    · rename_i i o z n c' sep
      split at hg
      · rename_i hz
        subst hz
        split at hg
        · rename_i cs hcs
          split at hg
          · rename_i xs hxs
            split at hg
            · rename_i hb2
              obtain ⟨rfl, rfl⟩ := ok1_inv hg
              obtain ⟨v, vs', rfl, hv1, hv2⟩ := hv.cons_inv
              obtain ⟨v2, vs'', rfl, hv3, hv4⟩ := hv2.cons_inv
              obtain rfl := hv4.nil_inv
              obtain rfl := hv3.str_inv
              have hlen : xs.length = n := by
                have h1 : ∀ (cs : List AV) (xs : List (List UInt8)), strsOf cs = some xs → xs.length = cs.length := by
                  intro cs
                  induction cs with
                  | nil => intro xs h; simp [strsOf] at h; subst h; rfl
                  | cons c cs ih =>
                    intro xs h
                    cases c <;> simp only [strsOf, Option.map_eq_some_iff, reduceCtorEq] at h
                    obtain ⟨xs', h1, rfl⟩ := h
                    simp [ih xs' h1]
                rw [h1 cs xs hxs]
                unfold AH.cellsAt at hcs
                split at hcs
                · split at hcs
                  · simp at hcs; subst hcs; simp; omega
                  · cases hcs
                · cases hcs
              have fin : ∀ e w', e = Ending.returned (.string ⟨(Lib.join xs sep).toArray⟩) → Below w.heap.size w w' → Post B φ H' w (.ok (.str (Lib.join xs sep))) H' e w' := by
                rintro e w' rfl hbl
                exact Post.ok (Step.grown hr hbl) (VR.str _)
              rcases hv1.sl_inv with ⟨p, s, m, cc, e1, e2, e3, e4, rfl⟩ | ⟨e1, e2, ad, rfl⟩
              · obtain ⟨hl, ds, h1, h2⟩ := cellsAt_ok hr hcs e1
                have hds := strsOf_ok hxs h1
                by_cases hn0 : n = 0
                · subst hn0
                  have hx0 : xs = [] := by cases xs with | nil => rfl | cons _ _ => simp at hlen
                  subst hx0
                  have := h0 (some ⟨p, s + o, none⟩) cc ⟨sep.toArray⟩ w
                  refine does_calls hF hname hb (this.mono ?_)
                  rintro e w' ⟨rfl, rfl⟩
                  exact fin _ _ rfl (Below.refl _ _)
                have hcl : ∀ (j : Nat) x, (xs.map fun s => (⟨s.toArray⟩ : ByteArray))[j]? = some x → w.cell? ⟨p, s + o + j, none⟩ = some (.string x) := fun j x hj => by
                  refine h2 j _ ?_
                  rw [hds]
                  simp only [List.getElem?_map, Option.map_eq_some_iff] at hj ⊢
                  obtain ⟨y, hy, rfl⟩ := hj
                  exact ⟨y, hy, rfl⟩
                have hp : p < w.heap.size := by
                  have : ∃ x, xs[0]? = some x := by
                    cases xs with
                    | nil => simp at hlen; omega
                    | cons x _ => exact ⟨x, rfl⟩
                  obtain ⟨x, hx⟩ := this
                  have := hcl 0 ⟨x.toArray⟩ (by simp [hx])
                  rcases Nat.lt_or_ge p w.heap.size with h' | h'
                  · exact h'
                  · simp [World.cell?, Array.getElem?_eq_none h'] at this
                have hmm : (xs.map fun s => (⟨s.toArray⟩ : ByteArray)).map (·.data.toList) = xs := by
                  rw [List.map_map]
                  conv => rhs; rw [← List.map_id xs]
                  congr 1
                have := h p (s + o) cc (xs.map fun s => (⟨s.toArray⟩ : ByteArray)) ⟨sep.toArray⟩ w hcl hp (by simp; omega) (by simp; omega) (by rw [hmm]; exact hb2.2)
                rw [List.length_map, hlen, hmm] at this
                refine does_calls hF hname hb (this.mono ?_)
                rintro e w' ⟨rfl, hbl⟩
                exact fin _ _ rfl hbl
              · subst e1
                have hx0 : xs = [] := by cases xs with | nil => rfl | cons _ _ => simp at hlen
                subst hx0
                have := h0 (some ad) 0 ⟨sep.toArray⟩ w
                refine does_calls hF hname hb (this.mono ?_)
                rintro e w' ⟨rfl, rfl⟩
                exact fin _ _ rfl (Below.refl _ _)
            · cases hg
          · cases hg
        · cases hg
      · cases hg
    · rename_i sep
      obtain ⟨rfl, rfl⟩ := ok1_inv hg
      obtain ⟨v, vs', rfl, hv1, hv2⟩ := hv.cons_inv
      obtain ⟨v2, vs'', rfl, hv3, hv4⟩ := hv2.cons_inv
      obtain rfl := hv4.nil_inv
      obtain rfl := hv3.str_inv
      obtain rfl := hv1.nils_inv
      have := h0 none 0 ⟨sep.toArray⟩ w
      refine does_calls hF hname hb (this.mono ?_)
      rintro e w' ⟨rfl, rfl⟩
      exact Post.ok (Step.refl hr) (VR.str [])
    · cases hg

/-! ### internal/abi.NoEscape -/

def gSame : List AV → AH → Option (Out × AH)
  | [v], H => ok1 H v
  | _, _ => none

theorem rowOk_noEscape {f : FuncId} {F : Func} (hF : P.funcs[f]? = some F) (hname : (F.name == "runtime.NumGoroutine") = false) (hb : F.body.isNone = true) (hn : Extern.findNext F = none) (he : Extern.find F = some Extern.AbiNoEscape.same) : RowOk P B f gSame where
  next := fun args H out H' hg => by
    unfold gSame at hg
    split at hg
    · have := ok1_nextG hg; subst this; exact Nat.le_refl _
    · cases hg
  does := fun args H out H' φ vs w hg hr hv _ _ => by
    unfold gSame at hg
    split at hg
    · obtain ⟨rfl, rfl⟩ := ok1_inv hg
      obtain ⟨v, vs', rfl, hv1, hv2⟩ := hv.cons_inv
      obtain rfl := hv2.nil_inv
      have : (callFunc f [v].toArray).run P w = .ok (.value v) w := by
        rw [run_callFunc_extern hF hname hb hn he]
        have := Lib.run_noEscape (P := P) (w := w) v
        rw [show [v].toArray = #[v] from rfl, this]
        rfl
      rw [this]
      exact Post.ok (Step.refl hr) hv1
    · cases hg

end
end Go.Am

/- Contracts of functions that are called by value. Conditions: those that each theorem names. -/
namespace Go.Am

theorem backs_flat {H1 H : AH} {kp : Nat} : ∀ {vs : List AV}, vs.all flat2 = true → backs H1 kp H vs = some (vs, H)
  | [], _ => rfl
  | v :: vs, h => by
    simp only [List.all_cons, Bool.and_eq_true] at h
    simp only [backs, h.1, if_true, backs_flat h.2]

/-- It ends with these values, none of which bears an address. -/
def flatK (res : List ARes) (out : List AV) : AX → St → Prop
  | .nrm, s => resAll s.e s.H res = some out
  | .ret, s => resAll s.e s.H res = some out
  | _, _ => False

theorem flatK_nrm (res : List ARes) (out : List AV) (e : Env) (H : AH) : flatK res out .nrm ⟨e, H⟩ = (resAll e H res = some out) := rfl
theorem flatK_ret (res : List ARes) (out : List AV) (e : Env) (H : AH) : flatK res out .ret ⟨e, H⟩ = (resAll e H res = some out) := rfl

/-- It ends with these values, the first of which is a slice of a block of its own. -/
def sliceK (res : List ARes) (kp o z n : Nat) (c : Option Nat) (b : Blk) (out : List AV) : AX → St → Prop
  | .nrm, s => ∃ i, resAll s.e s.H res = some (.sl i o z n c :: out) ∧ kp ≤ i ∧ s.H.get i = some b
  | .ret, s => ∃ i, resAll s.e s.H res = some (.sl i o z n c :: out) ∧ kp ≤ i ∧ s.H.get i = some b
  | _, _ => False

theorem sliceK_nrm (res : List ARes) (kp o z n : Nat) (c : Option Nat) (b : Blk) (out : List AV) (e : Env) (H : AH) : sliceK res kp o z n c b out .nrm ⟨e, H⟩ = ∃ i, resAll e H res = some (.sl i o z n c :: out) ∧ kp ≤ i ∧ H.get i = some b := rfl
theorem sliceK_ret (res : List ARes) (kp o z n : Nat) (c : Option Nat) (b : Blk) (out : List AV) (e : Env) (H : AH) : sliceK res kp o z n c b out .ret ⟨e, H⟩ = ∃ i, resAll e H res = some (.sl i o z n c :: out) ∧ kp ≤ i ∧ H.get i = some b := rfl

/-- The caller's heap with a block that came back. -/
def AH.take1 (H : AH) (b : Blk) : AH := { H with blks := (H.next, b) :: H.blks, next := H.next + 1 }

section
variable (G : Nat) (T : List (Nat × Blk)) (X : Ext) (M : Tab)

theorem ecall_flat {f : FuncId} {fn : AFun} {args : List AV} {H : AH} {as : List AV} {bs : List (Nat × Blk)} {kp : Nat} {out : List AV} (hX : X f = none) (hM : M f = some fn) (hv : fn.view = true) (hvw : views H args G = some (as, bs, kp)) (ho : out.all flat2 = true)
    (h : W (ecall G T X M) (flatK fn.res out) [] (number as 0) ⟨bs ++ T, kp, kp⟩ fn.code) : ecall G T X M f args H = some (.ok (pack out), H) := by
  refine ecall_wpv G T X M hX hM hv hvw (wp_mono fn.code (fun x s hx => ?_) (wp_W _ _ _ _ h))
  cases x with
  | nrm => exact ⟨out, hx, out, backs_flat ho, rfl⟩
  | ret => exact ⟨out, hx, out, backs_flat ho, rfl⟩
  | exit id => exact hx.elim
  | pan v => exact hx.elim

theorem ecall_slice {f : FuncId} {fn : AFun} {args : List AV} {H : AH} {as : List AV} {bs : List (Nat × Blk)} {kp : Nat} {o z n : Nat} {c : Option Nat} {b : Blk} {out : List AV} (hX : X f = none) (hM : M f = some fn) (hv : fn.view = true) (hvw : views H args G = some (as, bs, kp)) (ho : out.all flat2 = true)
    (hro : b.ro = false) (hfl : b.cells.all flat1 = true) (h : W (ecall G T X M) (sliceK fn.res kp o z n c b out) [] (number as 0) ⟨bs ++ T, kp, kp⟩ fn.code) : ecall G T X M f args H = some (.ok (pack (.sl H.next o z n c :: out)), H.take1 b) := by
  have fin : ∀ (s : St) (i : Nat), kp ≤ i → s.H.get i = some b → backs s.H kp H (.sl i o z n c :: out) = some (.sl H.next o z n c :: out, H.take1 b) := fun s i h1 h2 => by
    simp only [backs, flat2, flat1, Bool.false_eq_true, if_false, h1, ho, and_self, if_true, h2, hro, hfl]
    rfl
  refine ecall_wpv G T X M hX hM hv hvw (wp_mono fn.code (fun x s hx => ?_) (wp_W _ _ _ _ h))
  cases x with
  | nrm => obtain ⟨i, h1, h2, h3⟩ := hx; exact ⟨_, h1, _, fin s i h2 h3, rfl⟩
  | ret => obtain ⟨i, h1, h2, h3⟩ := hx; exact ⟨_, h1, _, fin s i h2 h3, rfl⟩
  | exit id => exact hx.elim
  | pan v => exact hx.elim
end

/-! ### Views of flat arguments -/

theorem views_nil (H : AH) (k : Nat) : views H [] k = some ([], [], k) := rfl
theorem views_flat {H : AH} {v : AV} {l : List AV} {k : Nat} (hf : flat1 v = true) {as : List AV} {bs : List (Nat × Blk)} {k' : Nat} (h : views H l k = some (as, bs, k')) : views H (v :: l) k = some (v :: as, bs, k') := by
  cases v <;> first
    | (simp [flat1] at hf; done)
    | (simp [views, viewCs, hf, h])
theorem viewCs_flat {H : AH} {k : Nat} : ∀ {cs : List AV}, cs.all flat1 = true → viewCs H cs k = some (cs, [], k)
  | [], _ => rfl
  | c :: cs, h => by
    simp only [List.all_cons, Bool.and_eq_true] at h
    simp [viewCs, h.1, viewCs_flat h.2]
theorem views_agg {H : AH} {cs : List AV} {l : List AV} {k : Nat} (hf : cs.all flat1 = true) {as : List AV} {bs : List (Nat × Blk)} {k' : Nat} (h : views H l k = some (as, bs, k')) : views H (.agg cs :: l) k = some (.agg cs :: as, bs, k') := by
  simp [views, viewCs_flat hf, h]
theorem views_slice {H : AH} {i o z n : Nat} {c : Option Nat} {b : Blk} {l : List AV} {k : Nat} (hb : H.get i = some b) (hl : o + n * z ≤ b.cells.length) (hf : ((b.cells.drop o).take (n * z)).all flat1 = true) {as : List AV} {bs : List (Nat × Blk)} {k' : Nat} (h : views H l (k + 1) = some (as, bs, k')) :
    views H (.sl i o z n c :: l) k = some (.sl k 0 z n c :: as, (k, ⟨(b.cells.drop o).take (n * z), b.ro, b.ty, false, false⟩) :: bs, k') := by
  have h1 : viewCs H [.sl i o z n c] k = some ([.sl k 0 z n c], [(k, ⟨(b.cells.drop o).take (n * z), b.ro, b.ty, false, false⟩)], k + 1) := by
    simp only [viewCs, flat1, Bool.false_eq_true, if_false, hb, hl, hf, and_self, if_true]
  simp only [views, h1, h]
  rfl

end Go.Am

/- strings.Builder on the machine: what a builder holds. Conditions: those that each theorem names. -/
namespace Go.Am

/-- It ends with these values and this heap. -/
def exactK (res : List ARes) (out : List AV) (H' : AH) : AX → St → Prop
  | .nrm, s => resAll s.e s.H res = some out ∧ s.H = H'
  | .ret, s => resAll s.e s.H res = some out ∧ s.H = H'
  | _, _ => False
theorem exactK_nrm (res : List ARes) (out : List AV) (H' : AH) (e : Env) (H : AH) : exactK res out H' .nrm ⟨e, H⟩ = (resAll e H res = some out ∧ H = H') := rfl
theorem exactK_ret (res : List ARes) (out : List AV) (H' : AH) (e : Env) (H : AH) : exactK res out H' .ret ⟨e, H⟩ = (resAll e H res = some out ∧ H = H') := rfl

theorem ecall_W (G : Nat) (T : List (Nat × Blk)) (X : Ext) (M : Tab) {f : FuncId} {fn : AFun} {args : List AV} {H : AH} {out : List AV} {H' : AH} (hX : X f = none) (hM : M f = some fn) (hv : fn.view = false)
    (h : W (ecall G T X M) (exactK fn.res out H') [] (number args 0) H fn.code) (hp : fn.pre = none := by rfl) : ecall G T X M f args H = some (.ok (pack out), H') := by
  refine ecall_wp G T X M hX hM hv (wp_mono fn.code (fun x s hx => ?_) (wp_W _ _ _ _ h)) hp
  cases x with
  | nrm => exact ⟨out, hx.1, rfl, hx.2⟩
  | ret => exact ⟨out, hx.1, rfl, hx.2⟩
  | exit id => exact hx.elim
  | pan v => exact hx.elim

/-- A builder at p that holds s. -/
def Bld (tyB tyU : TypeId) (H : AH) (p : Nat) (s : List UInt8) : Prop :=
  H.floor ≤ p ∧ p < H.next ∧
  ((s = [] ∧ (H.get p = some ⟨[.nilp, .nils], false, tyB, true, true⟩ ∨ H.get p = some ⟨[.ptr p 0, .nils], false, tyB, true, true⟩)) ∨
   (∃ q, q ≠ p ∧ H.floor ≤ q ∧ q < H.next ∧ H.get p = some ⟨[.ptr p 0, .sl q 0 1 s.length none], false, tyB, true, true⟩ ∧ H.get q = some ⟨ofBytes s, false, tyU, false, true⟩))

theorem get_push_new (H : AH) (ty : TypeId) (wh : Bool) (cs : List AV) : (H.push ty wh cs).get H.next = some ⟨cs, false, ty, wh, true⟩ := by rw [get_push, if_pos rfl]
theorem get_push_old (H : AH) (ty : TypeId) (wh : Bool) (cs : List AV) {i : Nat} (h : i < H.next) : (H.push ty wh cs).get i = H.get i := by rw [get_push, if_neg (by omega)]

theorem ofBytes_append (s t : List UInt8) : ofBytes s ++ ofBytes t = ofBytes (s ++ t) := by simp [ofBytes]
theorem ofBytes_length (s : List UInt8) : (ofBytes s).length = s.length := by simp [ofBytes]
theorem ofBytes_flat (s : List UInt8) : (ofBytes s).all flat1 = true := by simp [ofBytes, flat1]
theorem ofBytes_solid (s : List UInt8) : (ofBytes s).all solid = true := by simp [ofBytes, solid]
theorem toBytes_of (s : List UInt8) : toBytes (ofBytes s) = some s := by
  induction s with
  | nil => rfl
  | cons b s ih =>
    have h1 : (0 : Int) ≤ (b.toNat : Int) ∧ (b.toNat : Int) < 256 := by have := b.toNat_lt; omega
    have ih' : toBytes (s.map fun b => .int .u8 b.toNat) = some s := ih
    simp only [ofBytes, List.map_cons, toBytes, h1, and_self, if_true, ih', Option.map_some, Int.toNat_natCast, UInt8.ofNat_toNat]

/-- An append to a row of bytes of one's own. -/
theorem aapp_own {H : AH} {q : Nat} {ty : TypeId} {s : List UInt8} {wh s0 : Bool} {new : List AV} (hq : H.get q = some ⟨ofBytes s, false, ty, wh, s0⟩) (hfl : H.floor ≤ q) (hne : new ≠ []) (hlen : s.length + new.length ≤ 70368744177664) :
    aapp H ty 1 1 (.sl q 0 1 s.length none) new = some (.ok (.sl H.next 0 1 (s.length + new.length) none), H.turn q ty (s0 && true) (ofBytes s ++ new)) := by
  have h1 : (s.length + new.length) * (1 + 1) ≤ 140737488355328 := by omega
  have h2 : H.cellsAt q 0 (s.length * 1) = some (ofBytes s) := by
    have h3 : 0 + s.length * 1 ≤ (ofBytes s).length := by rw [ofBytes_length]; omega
    simp only [AH.cellsAt, hq, h3, if_true, List.drop_zero]
    rw [List.take_of_length_le (by rw [ofBytes_length]; omega)]
  have h4 : (1 : Nat) = 1 ∧ ¬ (1 : Nat) = 0 ∧ (s.length + new.length / 1) * (1 + 1) ≤ 140737488355328 ∧ new.length % 1 = 0 := ⟨rfl, by omega, by rw [Nat.div_one]; exact h1, Nat.mod_one _⟩
  unfold aapp
  dsimp only
  rw [if_pos h4, if_neg hne]
  simp only [h2, hq, hfl, reduceCtorEq, if_false, and_self, if_true, ok1, Nat.div_one]
  rfl

/-- All names are below the next one. -/
def Names (H : AH) : Prop := ∀ x ∈ H.blks, x.1 < H.next

theorem Names.new {H : AH} (h : Names H) : newBlks H.blks H.next = [] := by
  unfold newBlks
  rw [List.filter_eq_nil_iff]
  intro x hx
  have := h x hx
  simp; omega

theorem Names.push {H : AH} (h : Names H) (ty : TypeId) (wh : Bool) (cs : List AV) : Names (H.push ty wh cs) := fun x hx => by
  show x.1 < H.next + 1
  rcases List.mem_cons.1 hx with rfl | hx
  · exact Nat.lt_succ_self _
  · have := h x hx; omega

theorem mem_rpl {l : List (Nat × Blk)} {i : Nat} {b : Blk} {x : Nat × Blk} (h : x ∈ rpl l i b) : ∃ y ∈ l, y.1 = x.1 := by
  induction l with
  | nil => cases h
  | cons y l ih =>
    obtain ⟨j, c⟩ := y
    simp only [rpl] at h
    split at h
    · rcases List.mem_cons.1 h with rfl | h
      · exact ⟨(j, c), by simp, rfl⟩
      · exact ⟨x, by simp [h], rfl⟩
    · rcases List.mem_cons.1 h with rfl | h
      · exact ⟨(j, c), by simp, rfl⟩
      · obtain ⟨y, hy, e⟩ := ih h; exact ⟨y, by simp [hy], e⟩

theorem mem_del {l : List (Nat × Blk)} {i : Nat} {x : Nat × Blk} (h : x ∈ del l i) : x ∈ l := by
  induction l with
  | nil => cases h
  | cons y l ih =>
    obtain ⟨j, c⟩ := y
    simp only [del] at h
    split at h
    · exact List.mem_cons_of_mem _ (ih h)
    · rcases List.mem_cons.1 h with rfl | h
      · simp
      · exact List.mem_cons_of_mem _ (ih h)

theorem Names.put {H : AH} (h : Names H) (i : Nat) (b : Blk) : Names (H.put i b) := fun x hx => by
  obtain ⟨y, hy, e⟩ := mem_rpl hx
  have := h y hy
  show x.1 < H.next
  omega

theorem Names.turn {H : AH} (h : Names H) (i : Nat) (ty : TypeId) (s0 : Bool) (cs : List AV) : Names (H.turn i ty s0 cs) := fun x hx => by
  show x.1 < H.next + 1
  rcases List.mem_cons.1 hx with rfl | hx
  · exact Nat.lt_succ_self _
  · have := h x (mem_del hx); omega

/-- A loop, by a name of its own. -/
theorem W_loopN {call : Call} {K : AX → St → Prop} {ks : List Fr} {e : Env} {H : AH} {L : ACode} {live : List Nat} {b : ACode} (hL : L = .loop (some live) b) (h : W call K (.code L :: ks) (kp e live) H b) : W call K ks e H L := by
  subst hL
  refine W_loop _ _ _ _ _ ?_
  rw [kp_eq]
  exact h

end Go.Am

/- Rows of one's own that grow. Conditions: those that each theorem names. -/
namespace Go.Am

/-! ### Operations of a drawn region that make no block leave no trace -/

def SegEq (s t : List (Nat × List (Nat × Blk))) : Prop := ∀ p : Nat × List (Nat × Blk) → Bool, (s.filter p).flatMap (·.2) = (t.filter p).flatMap (·.2)
theorem SegEq.flat {s t : List (Nat × List (Nat × Blk))} (h : SegEq s t) : s.flatMap (·.2) = t.flatMap (·.2) := by
  have h1 := h fun _ => true
  rw [List.filter_eq_self.2 (fun _ _ => rfl), List.filter_eq_self.2 (fun _ _ => rfl)] at h1
  exact h1
theorem SegEq.cons {s t : List (Nat × List (Nat × Blk))} (h : SegEq s t) (x : Nat × List (Nat × Blk)) : SegEq (x :: s) (x :: t) := fun p => by
  simp only [List.filter_cons]
  split
  · simp only [List.flatMap_cons, h p]
  · exact h p
theorem SegEq.vis {s t : List (Nat × List (Nat × Blk))} (h : SegEq s t) (kind : Nat) (deps : List Nat) (base : AH) (next : Nat) : visH kind deps base s next = visH kind deps base t next := by
  unfold visH
  split
  · rfl
  · rw [h]
  · rw [h.flat]

theorem Dg0_seg (call : Call) (K : AX → St → Prop) (ks : List Fr) (l : List Nat) : ∀ (os : List DIns) (j : Nat) (e : Env) (base : AH) (s t : List (Nat × List (Nat × Blk))) (next : Nat), SegEq s t → Dg0 call K ks l os j e base s next = Dg0 call K ks l os j e base t next
  | [], j, e, base, s, t, next, h => by simp only [Dg0, h.flat]
  | o :: os, j, e, base, s, t, next, h => by
    have i0 : ∀ j e base next, Dg0 call K ks l os j e base s next = Dg0 call K ks l os j e base t next := fun j e base next => Dg0_seg call K ks l os j e base s t next h
    have i1 : ∀ j e base x next, Dg0 call K ks l os j e base (x :: s) next = Dg0 call K ks l os j e base (x :: t) next := fun j e base x next => Dg0_seg call K ks l os j e base _ _ next (h.cons x)
    simp only [Dg0, h.vis, i0, i1]

theorem Dg0_drop (call : Call) (K : AX → St → Prop) (ks : List Fr) (l : List Nat) (os : List DIns) (i j : Nat) (e : Env) (base : AH) (s : List (Nat × List (Nat × Blk))) (next : Nat) : Dg0 call K ks l os j e base ((i, []) :: s) next = Dg0 call K ks l os j e base s next :=
  Dg0_seg call K ks l os j e base _ _ next fun p => by
    simp only [List.filter_cons]
    split <;> simp

theorem Dg_drop (call : Call) (K : AX → St → Prop) (ks : List Fr) (l : List Nat) (os : List DIns) (i j : Nat) (e : Env) (base : AH) (s : List (Nat × List (Nat × Blk))) (next : Nat) : Dg call K ks l os j e base ((i, []) :: s) next = Dg call K ks l os j e base s next := by
  rw [Dg_eq, Dg_eq]; exact Dg0_drop ..

theorem AH.eta (H : AH) : (⟨H.blks, H.next, H.floor⟩ : AH) = H := rfl

/-- Block q of one's own holds n elements of z cells. -/
def Own (H : AH) (ty z q n : Nat) (c : Option Nat) (cs : List AV) : Prop :=
  0 < z ∧ cs.length = n * z ∧ (c = some n ∨ c = none) ∧ H.floor ≤ q ∧ q < H.next ∧ ∃ wh s0, H.get q = some ⟨cs, false, ty, wh, s0⟩

/-- What stays: the floor, and the blocks other than q. -/
def Stay (H H' : AH) (q : Nat) : Prop := H'.floor = H.floor ∧ H.next ≤ H'.next ∧ ∀ i, i < H.next → i ≠ q → H'.get i = H.get i

theorem Stay.trans {H H1 H2 : AH} {q q1 : Nat} (h1 : Stay H H1 q) (h2 : Stay H1 H2 q1) (hq : H.next ≤ q1 ∨ q1 = q) : Stay H H2 q :=
  ⟨h2.1.trans h1.1, Nat.le_trans h1.2.1 h2.2.1, fun i hi hn => (h2.2.2 i (by have := h1.2.1; omega) (by omega)).trans (h1.2.2 i hi hn)⟩
theorem Stay.push (H : AH) (ty : TypeId) (wh : Bool) (cs : List AV) (q : Nat) : Stay H (H.push ty wh cs) q :=
  ⟨rfl, Nat.le_succ _, fun _ hi _ => get_push_old _ _ _ _ hi⟩
theorem Stay.refl (H : AH) (q : Nat) : Stay H H q := ⟨rfl, Nat.le_refl _, fun _ _ _ => rfl⟩

theorem cellsAt_new (H : AH) (ty : TypeId) (wh : Bool) (cs : List AV) {n : Nat} (h : cs.length = n) : (H.push ty wh cs).cellsAt H.next 0 n = some cs := by
  unfold AH.cellsAt
  rw [get_push_new]
  simp [h]
  exact List.take_of_length_le (by omega)

theorem Own.cells {H : AH} {ty z q n : Nat} {c : Option Nat} {cs : List AV} (h : Own H ty z q n c cs) : H.cellsAt q 0 (n * z) = some cs := by
  obtain ⟨hz, hl, hc, hf, hn, wh, s0, hq⟩ := h
  unfold AH.cellsAt
  rw [hq]
  simp only [Nat.zero_add, hl, Nat.le_refl, if_true, List.drop_zero]
  rw [List.take_of_length_le (by omega)]

theorem Own.push {H : AH} {ty z q n : Nat} {c : Option Nat} {cs : List AV} (h : Own H ty z q n c cs) (ty' : TypeId) (wh : Bool) (cs' : List AV) : Own (H.push ty' wh cs') ty z q n c cs := by
  obtain ⟨hz, hl, hc, hf, hn, wh', s0, hq⟩ := h
  exact ⟨hz, hl, hc, hf, Nat.lt_succ_of_lt hn, wh', s0, (get_push_old _ _ _ _ hn).trans hq⟩

theorem Own.stay {H H' : AH} {ty z q n q' : Nat} {c : Option Nat} {cs : List AV} (h : Own H ty z q n c cs) (hs : Stay H H' q') (hq : q ≠ q') : Own H' ty z q n c cs := by
  obtain ⟨hz, hl, hc, hf, hn, wh', s0, hg⟩ := h
  exact ⟨hz, hl, hc, by rw [hs.1]; exact hf, Nat.lt_of_lt_of_le hn hs.2.1, wh', s0, (hs.2.2 q hn hq).trans hg⟩

theorem own_new (H : AH) (ty : TypeId) (wh : Bool) (cs : List AV) {z n : Nat} (c : Option Nat) (hz : 0 < z) (hl : cs.length = n * z) (hc : c = some n ∨ c = none) (hf : H.floor ≤ H.next) : Own (H.push ty wh cs) ty z H.next n c cs :=
  ⟨hz, hl, hc, hf, Nat.lt_succ_self _, wh, true, get_push_new _ _ _ _⟩

theorem Own.app {H : AH} {ty z q n : Nat} {c : Option Nat} {cs : List AV} (h : Own H ty z q n c cs) (b : Nat) {new : List AV} {m : Nat} (hne : new ≠ []) (hm : new.length = m * z) (hb : (n + m) * (b + 1) ≤ 140737488355328) :
    ∃ q' H', aapp H ty z b (.sl q 0 z n c) new = some (.ok (.sl q' 0 z (n + m) none), H') ∧ Own H' ty z q' (n + m) none (cs ++ new) ∧ Stay H H' q ∧ H.next ≤ q' := by
  have hcells := h.cells
  obtain ⟨hz, hl, hc, hf, hn, wh, s0, hq⟩ := h
  have h1 : new.length / z = m := by rw [hm]; exact Nat.mul_div_cancel _ hz
  have h2 : new.length % z = 0 := by rw [hm]; exact Nat.mul_mod_left _ _
  have h3 : (cs ++ new).length = (n + m) * z := by rw [List.length_append, hl, hm, Nat.add_mul]
  have h4 : z = z ∧ ¬ z = 0 ∧ (n + new.length / z) * (b + 1) ≤ 140737488355328 ∧ new.length % z = 0 := ⟨rfl, by omega, by rw [h1]; exact hb, h2⟩
  rcases hc with rfl | rfl
  · refine ⟨H.next, H.push ty false (cs ++ new), ?_, own_new _ _ _ _ _ hz h3 (.inr rfl) (by omega), Stay.push _ _ _ _ _, Nat.le_refl _⟩
    unfold aapp
    dsimp only
    rw [if_pos h4, if_neg hne]
    simp only [hcells, hq, if_true, ok1, h1]
  · refine ⟨H.next, H.turn q ty (s0 && true) (cs ++ new), ?_, ⟨hz, h3, .inr rfl, by show H.floor ≤ H.next; omega, Nat.lt_succ_self _, false, s0 && true, by rw [get_turn, if_pos rfl]⟩, ⟨rfl, Nat.le_succ _, fun i hi hni => by rw [get_turn, if_neg (by omega), if_neg hni]⟩, Nat.le_refl _⟩
    unfold aapp
    dsimp only
    rw [if_pos h4, if_neg hne]
    simp only [hcells, hq, hf, reduceCtorEq, if_false, and_self, if_true, ok1, h1]
    rfl

/-- A row of its own, appended. -/
theorem Own.snoc {H : AH} {ty z q n : Nat} {c : Option Nat} {cs : List AV} (h : Own H ty z q n c cs) (b : Nat) {new : List AV} {m : Nat} (hne : new ≠ []) (hm : new.length = m * z) (hb : (n + m) * (b + 1) ≤ 140737488355328) :
    ∃ q' H', aapp (H.push ty true new) ty z b (.sl q 0 z n c) new = some (.ok (.sl q' 0 z (n + m) none), H') ∧ Own H' ty z q' (n + m) none (cs ++ new) ∧ Stay H H' q ∧ H.next ≤ q' := by
  obtain ⟨q', H', h1, h2, h3, h4⟩ := (h.push ty true new).app b hne hm hb
  exact ⟨q', H', h1, h2, (Stay.push H ty true new q).trans h3 (.inr rfl), Nat.le_trans (Nat.le_succ _) h4⟩

end Go.Am

/- Contracts whose outcome is told by what holds of it. Conditions: those that each theorem names. -/
namespace Go.Am

theorem endK_nrm (res : List ARes) (R : List AV → AH → Prop) (e : Env) (H : AH) : endK res R .nrm ⟨e, H⟩ = ∃ vs, resAll e H res = some vs ∧ R vs H := rfl
theorem endK_ret (res : List ARes) (R : List AV → AH → Prop) (e : Env) (H : AH) : endK res R .ret ⟨e, H⟩ = ∃ vs, resAll e H res = some vs ∧ R vs H := rfl

section
variable (G : Nat) (T : List (Nat × Blk)) (X : Ext) (M : Tab)

theorem ecall_E {f : FuncId} {fn : AFun} {args : List AV} {H : AH} {R : List AV → AH → Prop} (hX : X f = none) (hM : M f = some fn) (hv : fn.view = false)
    (h : W (ecall G T X M) (endK fn.res R) [] (number args 0) H fn.code) (hp : fn.pre = none := by rfl) : ∃ vs H', R vs H' ∧ ecall G T X M f args H = some (.ok (pack vs), H') := by
  have body : ∀ vs H', (∃ x s, erun (ecall G T X M) fn.code ⟨number args 0, H⟩ = some (x, s) ∧ (x = .nrm ∨ x = .ret) ∧ resAll s.e s.H fn.res = some vs ∧ s.H = H') → ecall G T X M f args H = some (.ok (pack vs), H') := by
    rintro vs H' ⟨x, s, h1, hx, h3, rfl⟩
    refine ecall_body G T X M hX hM hv ?_ hp
    unfold evale
    rw [h1]
    rcases hx with rfl | rfl <;> simp only [h3]
  obtain ⟨x, s, h1, h2⟩ := wp_sound fn.code (wp_W _ _ _ _ h)
  cases x with
  | nrm => obtain ⟨vs, h3, h4⟩ := h2; exact ⟨vs, s.H, h4, body vs s.H ⟨_, s, h1, .inl rfl, h3, rfl⟩⟩
  | ret => obtain ⟨vs, h3, h4⟩ := h2; exact ⟨vs, s.H, h4, body vs s.H ⟨_, s, h1, .inr rfl, h3, rfl⟩⟩
  | exit id => exact h2.elim
  | pan v => exact h2.elim

/-- What comes back of a call by value. -/
def Back (kp : Nat) (H : AH) (R : List AV → AH → Prop) (vs : List AV) (H1 : AH) : Prop := ∃ vs' H', backs H1 kp H vs = some (vs', H') ∧ R vs' H'

theorem ecall_vE {f : FuncId} {fn : AFun} {args : List AV} {H : AH} {us : List AV} {bs : List (Nat × Blk)} {kp : Nat} {R : List AV → AH → Prop} (hX : X f = none) (hM : M f = some fn) (hv : fn.view = true) (hvw : views H args G = some (us, bs, kp))
    (h : W (ecall G T X M) (endK fn.res (Back kp H R)) [] (number us 0) ⟨bs ++ T, kp, kp⟩ fn.code) : ∃ vs H', R vs H' ∧ ecall G T X M f args H = some (.ok (pack vs), H') := by
  have body : ∀ vs vs' H', (∃ x s, erun (ecall G T X M) fn.code ⟨number us 0, ⟨bs ++ T, kp, kp⟩⟩ = some (x, s) ∧ (x = .nrm ∨ x = .ret) ∧ resAll s.e s.H fn.res = some vs ∧ backs s.H kp H vs = some (vs', H')) → ecall G T X M f args H = some (.ok (pack vs'), H') := by
    rintro vs vs' H' ⟨x, s, h1, hx, h3, h4⟩
    refine ecall_view G T X M hX hM hv ?_
    unfold evals
    rw [hvw]
    simp only [h1]
    rcases hx with rfl | rfl <;> simp only [h3, h4]
  obtain ⟨x, s, h1, h2⟩ := wp_sound fn.code (wp_W _ _ _ _ h)
  cases x with
  | nrm => obtain ⟨vs, h3, vs', H', h4, h5⟩ := h2; exact ⟨vs', H', h5, body vs vs' H' ⟨_, s, h1, .inl rfl, h3, h4⟩⟩
  | ret => obtain ⟨vs, h3, vs', H', h4, h5⟩ := h2; exact ⟨vs', H', h5, body vs vs' H' ⟨_, s, h1, .inr rfl, h3, h4⟩⟩
  | exit id => exact h2.elim
  | pan v => exact h2.elim

/-- A function that defers a closure: what comes ahead of the 'defer', its code, the closure. -/
def deferK (t : Nat) (N : AV → Env → AH → Prop) : AX → St → Prop
  | .nrm, s => N (s.e.at t) s.e s.H
  | _, _ => False
theorem deferK_nrm (t : Nat) (N : AV → Env → AH → Prop) (e : Env) (H : AH) : deferK t N .nrm ⟨e, H⟩ = N (e.at t) e H := rfl
/-- The closure g, bound to cs, is called behind the code. -/
def closeK (call : Call) (g : FuncId) (cs : List AV) (res : List ARes) (R : List AV → AH → Prop) : AX → St → Prop
  | .nrm, s => ∃ v H2, call g cs s.H = some (.ok v, H2) ∧ ∃ out, resAll s.e H2 res = some out ∧ R out H2
  | .ret, s => ∃ v H2, call g cs s.H = some (.ok v, H2) ∧ ∃ out, resAll s.e H2 res = some out ∧ R out H2
  | _, _ => False
theorem closeK_nrm (call : Call) (g : FuncId) (cs : List AV) (res : List ARes) (R : List AV → AH → Prop) (e : Env) (H : AH) : closeK call g cs res R .nrm ⟨e, H⟩ = ∃ v H2, call g cs H = some (.ok v, H2) ∧ ∃ out, resAll e H2 res = some out ∧ R out H2 := rfl
theorem closeK_ret (call : Call) (g : FuncId) (cs : List AV) (res : List ARes) (R : List AV → AH → Prop) (e : Env) (H : AH) : closeK call g cs res R .ret ⟨e, H⟩ = ∃ v H2, call g cs H = some (.ok v, H2) ∧ ∃ out, resAll e H2 res = some out ∧ R out H2 := rfl

theorem ecall_dW {f : FuncId} {fn : AFun} {c1 : ACode} {t : Nat} {args : List AV} {H : AH} {R : List AV → AH → Prop} (hX : X f = none) (hM : M f = some fn) (hv : fn.view = false) (hp : fn.pre = some (c1, t))
    (h : W (ecall G T X M) (deferK t fun v e H1 => ∃ g cs, v = .func g cs ∧ okc X M g = true ∧ W (ecall G T X M) (closeK (ecall G T X M) g cs fn.res R) [] e H1 fn.code) [] (number args 0) H c1) : ∃ vs H', R vs H' ∧ ecall G T X M f args H = some (.ok (pack vs), H') := by
  obtain ⟨x, s1, h1, h2⟩ := wp_sound c1 (wp_W _ _ _ _ h)
  cases x with
  | nrm =>
    obtain ⟨g, cs, h3, h4, h5⟩ := h2
    obtain ⟨y, s2, h6, h7⟩ := wp_sound fn.code (wp_W _ _ _ _ h5)
    cases y with
    | nrm => obtain ⟨v, H2, a1, out, a2, a3⟩ := h7; exact ⟨out, H2, a3, ecall_defer G T X M hX hM hv hp h1 h3 h4 h6 (.inl rfl) a1 a2⟩
    | ret => obtain ⟨v, H2, a1, out, a2, a3⟩ := h7; exact ⟨out, H2, a3, ecall_defer G T X M hX hM hv hp h1 h3 h4 h6 (.inr rfl) a1 a2⟩
    | exit id => exact h7.elim
    | pan v => exact h7.elim
  | ret => exact h2.elim
  | exit id => exact h2.elim
  | pan v => exact h2.elim
end

theorem back_flat {kp : Nat} {H : AH} {R : List AV → AH → Prop} {vs : List AV} {H1 : AH} (hf : vs.all flat2 = true) (h : R vs H) : Back kp H R vs H1 := ⟨vs, H, backs_flat hf, h⟩
theorem back_slice {kp : Nat} {H : AH} {R : List AV → AH → Prop} {i o z n : Nat} {c : Option Nat} {b : Blk} {vs : List AV} {H1 : AH} (hi : kp ≤ i) (hb : H1.get i = some b) (hro : b.ro = false) (hfl : b.cells.all flat1 = true) (hf : vs.all flat2 = true) (h : R (.sl H.next o z n c :: vs) (H.take1 b)) : Back kp H R (.sl i o z n c :: vs) H1 :=
  ⟨_, _, by simp only [backs, flat2, flat1, Bool.false_eq_true, if_false, hi, hf, and_self, if_true, hb, hro, hfl]; rfl, h⟩

/-! ### Slices as arguments -/

/-- v is a slice of n elements of z cells; cs are its cells. -/
inductive SliceV (H : AH) (z : Nat) : AV → Nat → List AV → Prop
  | nil : SliceV H z .nils 0 []
  | emp : SliceV H z .esl 0 []
  | sl {i o n : Nat} {c : Option Nat} {b : Blk} (hb : H.get i = some b) (hl : o + n * z ≤ b.cells.length) : SliceV H z (.sl i o z n c) n ((b.cells.drop o).take (n * z))

theorem get_take1 (H : AH) (b : Blk) : (H.take1 b).get H.next = some b := by simp [AH.get, AH.take1, lk]
theorem get_take1_old (H : AH) (b : Blk) {i : Nat} (h : i < H.next) : (H.take1 b).get i = H.get i := by
  simp only [AH.get, AH.take1, lk]
  rw [if_neg (by omega)]
end Go.Am

/- Slices of rows as arguments. Conditions: those that each theorem names. -/
namespace Go.Am

theorem viewS {H : AH} {i o z n : Nat} {c : Option Nat} {b : Blk} {l : List AV} {k : Nat} {cs : List AV} (hb : H.get i = some b) (hl : o + n * z ≤ b.cells.length) (hcs : (b.cells.drop o).take (n * z) = cs) (hf : cs.all flat1 = true) {us : List AV} {bs : List (Nat × Blk)} {k' : Nat} (h : views H l (k + 1) = some (us, bs, k')) :
    views H (.sl i o z n c :: l) k = some (.sl k 0 z n c :: us, (k, ⟨cs, b.ro, b.ty, false, false⟩) :: bs, k') := by
  subst hcs
  exact views_slice hb hl hf h

/-- A slice, opened. -/
theorem SliceV.cases {H : AH} {z : Nat} {v : AV} {n : Nat} {cs : List AV} (h : SliceV H z v n cs) : (v = .nils ∧ n = 0 ∧ cs = []) ∨ (v = .esl ∧ n = 0 ∧ cs = []) ∨ ∃ i o c b, v = .sl i o z n c ∧ H.get i = some b ∧ o + n * z ≤ b.cells.length ∧ (b.cells.drop o).take (n * z) = cs := by
  cases h with
  | nil => exact .inl ⟨rfl, rfl, rfl⟩
  | emp => exact .inr (.inl ⟨rfl, rfl, rfl⟩)
  | sl hb hl => exact .inr (.inr ⟨_, _, _, _, rfl, hb, hl, rfl⟩)

/-- Rows of m cells, one after the other. -/
def rowsOf {α : Type} (f : α → List AV) (l : List α) : List AV := l.flatMap f

theorem rowsOf_length {α : Type} {f : α → List AV} {m : Nat} (hf : ∀ x, (f x).length = m) (l : List α) : (rowsOf f l).length = l.length * m := by
  induction l with
  | nil => simp [rowsOf]
  | cons x l ih => simp only [rowsOf, List.flatMap_cons, List.length_append, hf, List.length_cons] at ih ⊢; rw [ih, Nat.add_mul, Nat.one_mul, Nat.add_comm]
theorem rowsOf_flat {α : Type} {f : α → List AV} (hf : ∀ x, (f x).all flat1 = true) (l : List α) : (rowsOf f l).all flat1 = true := by
  induction l with
  | nil => rfl
  | cons x l ih => simp only [rowsOf, List.flatMap_cons, List.all_append, hf, Bool.true_and] at ih ⊢; exact ih
theorem rowsOf_append {α : Type} {f : α → List AV} (l l' : List α) : rowsOf f (l ++ l') = rowsOf f l ++ rowsOf f l' := by simp [rowsOf]
theorem rowsOf_drop {α : Type} {f : α → List AV} {m : Nat} (hf : ∀ x, (f x).length = m) : ∀ (l : List α) (i : Nat), (rowsOf f l).drop (i * m) = rowsOf f (l.drop i)
  | l, 0 => by simp
  | [], i + 1 => by simp [rowsOf]
  | x :: l, i + 1 => by
    have : (i + 1) * m = (f x).length + i * m := by rw [hf, Nat.add_mul, Nat.one_mul, Nat.add_comm]
    rw [this]
    simp only [rowsOf, List.flatMap_cons, List.drop_succ_cons]
    rw [List.drop_append, List.drop_of_length_le (by omega), List.nil_append]
    have e : (f x).length + i * m - (f x).length = i * m := by omega
    rw [e]
    exact rowsOf_drop hf l i
theorem rowsOf_at {α : Type} {f : α → List AV} {m : Nat} (hf : ∀ x, (f x).length = m) {l : List α} {i : Nat} {x : α} (h : l[i]? = some x) : ((rowsOf f l).drop (i * m)).take m = f x := by
  rw [rowsOf_drop hf]
  have hi : i < l.length := by
    by_cases hlt : i < l.length
    · exact hlt
    · rw [List.getElem?_eq_none (by omega)] at h; cases h
  rw [List.drop_eq_getElem_cons hi]
  rw [List.getElem?_eq_getElem hi, Option.some.injEq] at h
  subst h
  simp only [rowsOf, List.flatMap_cons]
  rw [List.take_append_of_le_length (by rw [hf]; exact Nat.le_refl _), List.take_of_length_le (by rw [hf]; exact Nat.le_refl _)]
theorem rowsOf_cell {α : Type} {f : α → List AV} {m : Nat} (hf : ∀ x, (f x).length = m) {l : List α} {i j : Nat} {x : α} (h : l[i]? = some x) (hj : j < m) : (rowsOf f l)[0 + i * m + j]? = (f x)[j]? := by
  have h1 := rowsOf_at hf h
  have h2 : (((rowsOf f l).drop (i * m)).take m)[j]? = (f x)[j]? := by rw [h1]
  rw [List.getElem?_take, if_pos hj, List.getElem?_drop] at h2
  rw [Nat.zero_add]
  exact h2

/-- A row of a block of rows. -/
theorem cellsAt_row {α : Type} {f : α → List AV} {m : Nat} (hf : ∀ x, (f x).length = m) {H : AH} {q : Nat} {b : Blk} {l : List α} {i : Nat} {x : α} (hb : H.get q = some b) (hc : b.cells = rowsOf f l) (h : l[i]? = some x) : H.cellsAt q (0 + i * m) m = some (f x) := by
  have hi : i < l.length := by
    by_cases hlt : i < l.length
    · exact hlt
    · rw [List.getElem?_eq_none (by omega)] at h; cases h
  unfold AH.cellsAt
  rw [hb]
  have hl := rowsOf_length hf l
  have h2 : i * m + m ≤ l.length * m := by
    have := Nat.mul_le_mul_right m (show i + 1 ≤ l.length by omega)
    rw [Nat.add_mul, Nat.one_mul] at this
    exact this
  simp only [hc, Nat.zero_add]
  rw [if_pos (by rw [hl]; exact h2), rowsOf_at hf h]

/-! ### A row of one's own that begins as nil -/

/-- v is nil, or a row of one's own whose name is at least lo: m elements of z cells. -/
def OutV (lo : Nat) (H : AH) (ty z : Nat) (v : AV) (m : Nat) (cells : List AV) : Prop :=
  0 < z ∧ H.floor ≤ lo ∧ lo ≤ H.next ∧ ((v = .nils ∧ m = 0 ∧ cells = []) ∨ ∃ q c, lo ≤ q ∧ v = .sl q 0 z m c ∧ Own H ty z q m c cells)

theorem OutV.push {lo : Nat} {H : AH} {ty z : Nat} {v : AV} {m : Nat} {cells : List AV} (h : OutV lo H ty z v m cells) (ty' : TypeId) (wh : Bool) (cs : List AV) : OutV lo (H.push ty' wh cs) ty z v m cells := by
  obtain ⟨hz, h1, h2, h3⟩ := h
  refine ⟨hz, h1, Nat.le_succ_of_le h2, ?_⟩
  rcases h3 with h3 | ⟨q, c, h4, h5, h6⟩
  · exact .inl h3
  · exact .inr ⟨q, c, h4, h5, h6.push _ _ _⟩

theorem OutV.snoc {lo : Nat} {H : AH} {ty z : Nat} {v : AV} {m : Nat} {cells : List AV} (h : OutV lo H ty z v m cells) (b : Nat) {new : List AV} (hm : new.length = z) (hb : (m + 1) * (b + 1) ≤ 140737488355328) :
    ∃ v' H', aapp (H.push ty true new) ty z b v new = some (.ok v', H') ∧ OutV lo H' ty z v' (m + 1) (cells ++ new) ∧ H'.floor = H.floor ∧ H.next ≤ H'.next ∧ ∀ i, i < lo → H'.get i = H.get i := by
  obtain ⟨hz, h1, h2, h3⟩ := h
  have hne : new ≠ [] := fun e => by subst e; simp at hm; omega
  rcases h3 with ⟨rfl, rfl, rfl⟩ | ⟨q, c, h4, rfl, h6⟩
  · refine ⟨.sl (H.next + 1) 0 z 1 none, (H.push ty true new).push ty false new, ?_, ⟨hz, h1, by show lo ≤ H.next + 1 + 1; omega, .inr ⟨H.next + 1, none, by omega, rfl, ?_⟩⟩, rfl, by show H.next ≤ H.next + 1 + 1; omega, fun i hi => ?_⟩
    · have e1 : new.length / z = 1 := by rw [hm]; exact Nat.div_self hz
      have e2 : new.length % z = 0 := by rw [hm]; exact Nat.mod_self z
      unfold aapp
      dsimp only
      rw [if_pos ⟨by rw [e1]; omega, by omega, e2⟩, if_neg hne, e1]
      rfl
    · exact own_new (H.push ty true new) ty false new none hz (by rw [hm]; omega) (.inr rfl) (by show H.floor ≤ H.next + 1; omega)
    · rw [get_push_old _ _ _ _ (by show i < H.next + 1; omega), get_push_old _ _ _ _ (by omega)]
  · obtain ⟨q', H', e1, e2, e3, e4⟩ := h6.snoc b hne (m := 1) (by rw [hm, Nat.one_mul]) hb
    exact ⟨_, H', e1, ⟨hz, by rw [e3.1]; exact h1, Nat.le_trans h2 e3.2.1, .inr ⟨q', none, by omega, rfl, e2⟩⟩, e3.1, e3.2.1, fun i hi => e3.2.2 i (by omega) (by omega)⟩

theorem aapp_names {H : AH} (hN : Names H) {ty z b : Nat} {v : AV} {new : List AV} {out : Out} {H' : AH} (h : aapp H ty z b v new = some (out, H')) : Names H' := by
  unfold aapp at h
  split at h
  · split at h
    · split at h
      · simp only [ok1, Option.some.injEq, Prod.mk.injEq] at h; obtain ⟨_, rfl⟩ := h; exact hN
      · simp only [ok1, Option.some.injEq, Prod.mk.injEq] at h; obtain ⟨_, rfl⟩ := h; exact hN.push _ _ _
    · cases h
  · split at h
    · split at h
      · simp only [ok1, Option.some.injEq, Prod.mk.injEq] at h; obtain ⟨_, rfl⟩ := h; exact hN
      · split at h
        · split at h
          · simp only [ok1, Option.some.injEq, Prod.mk.injEq] at h; obtain ⟨_, rfl⟩ := h; exact hN.push _ _ _
          · split at h
            · simp only [ok1, Option.some.injEq, Prod.mk.injEq] at h; obtain ⟨_, rfl⟩ := h; exact hN.turn _ _ _ _
            · cases h
        · cases h
    · cases h
  · cases h

/-- A fresh block, filled. -/
theorem store_push (H : AH) (ty : TypeId) (wh : Bool) (zs vs : List AV) (hf : H.floor ≤ H.next) (hl : zs.length = vs.length) (hs : vs.all solid = true) : (H.push ty wh zs).store H.next 0 vs = some (H.push ty wh vs) := by
  have hput : ∀ (vs zs : List AV) (o : Nat) (pre : List AV), pre.length = o → zs.length = vs.length → putAt (pre ++ zs) o vs = pre ++ vs := by
    intro vs
    induction vs with
    | nil => intro zs o pre _ hz; cases zs with
      | nil => rfl
      | cons _ _ => simp at hz
    | cons v vs ih =>
      intro zs o pre ho hz
      cases zs with
      | nil => simp at hz
      | cons z zs =>
        have e : (pre ++ z :: zs).set o v = (pre ++ [v]) ++ zs := by
          rw [List.set_append_right _ _ (by omega), ho, Nat.sub_self]; simp
        rw [putAt, e, ih zs (o + 1) (pre ++ [v]) (by simp [ho]) (by simpa using hz)]
        simp
  unfold AH.store
  rw [if_neg (by show ¬ H.next < H.floor; omega), get_push_new]
  simp only [Bool.false_eq_true, if_false, Nat.zero_add, hl, Nat.le_refl, hs, and_self, if_true]
  have := hput vs zs 0 [] rfl hl
  simp only [List.nil_append] at this
  rw [this]
  simp [AH.put, AH.push, rpl]

theorem store_new (H : AH) (ty : TypeId) (wh : Bool) (cs vs : List AV) (o : Nat) (hf : H.floor ≤ H.next) (hl : o + vs.length ≤ cs.length) (hs : vs.all solid = true) : (H.push ty wh cs).store H.next o vs = some (H.push ty wh (putAt cs o vs)) := by
  unfold AH.store
  rw [if_neg (by show ¬ H.next < H.floor; omega), get_push_new]
  simp only [Bool.false_eq_true, if_false, hl, hs, and_self, if_true]
  simp [AH.put, AH.push, rpl]

theorem Own.store {H : AH} {ty z q n : Nat} {c : Option Nat} {cs : List AV} (h : Own H ty z q n c cs) {o : Nat} {v : AV} (ho : o < cs.length) (hs : solid v = true) :
    ∃ H', H.store q o [v] = some H' ∧ Own H' ty z q n c (cs.set o v) ∧ H'.floor = H.floor ∧ H'.next = H.next ∧ ∀ i, i ≠ q → H'.get i = H.get i := by
  obtain ⟨hz, hl, hc, hf, hn, wh, s0, hg⟩ := h
  refine ⟨H.put q ⟨cs.set o v, false, ty, wh, s0⟩, ?_, ⟨hz, by rw [List.length_set]; exact hl, hc, hf, hn, wh, s0, by rw [get_put, if_pos rfl, hg]; rfl⟩, rfl, rfl, fun i hi => by rw [get_put, if_neg hi]⟩
  unfold AH.store
  rw [if_neg (by omega), hg]
  simp [hs, Nat.succ_le_of_lt ho, putAt]

/-- What a call by value leaves: what was there, and perhaps a block more. -/
def Grow (H H' : AH) : Prop := H'.floor = H.floor ∧ H.next ≤ H'.next ∧ ∀ i, i < H.next → H'.get i = H.get i
theorem Grow.refl (H : AH) : Grow H H := ⟨rfl, Nat.le_refl _, fun _ _ => rfl⟩
theorem Grow.trans {H H1 H2 : AH} (h : Grow H H1) (k : Grow H1 H2) : Grow H H2 := ⟨k.1.trans h.1, Nat.le_trans h.2.1 k.2.1, fun i hi => (k.2.2 i (Nat.lt_of_lt_of_le hi h.2.1)).trans (h.2.2 i hi)⟩
theorem Grow.take1 (H : AH) (b : Blk) : Grow H (H.take1 b) := ⟨rfl, Nat.le_succ _, fun _ hi => get_take1_old _ _ hi⟩
theorem Grow.push (H : AH) (ty : TypeId) (wh : Bool) (cs : List AV) : Grow H (H.push ty wh cs) := ⟨rfl, Nat.le_succ _, fun _ hi => get_push_old _ _ _ _ hi⟩
/-- A slice stays a slice. -/
theorem SliceV.grow {H H' : AH} {z : Nat} {v : AV} {n : Nat} {cs : List AV} (h : SliceV H z v n cs) (hg : Grow H H') (hn : ∀ i o z n c, v = .sl i o z n c → i < H.next) : SliceV H' z v n cs := by
  cases h with
  | nil => exact .nil
  | emp => exact .emp
  | sl hb hl => exact .sl ((hg.2.2 _ (hn _ _ _ _ _ rfl)).trans hb) hl

/-! ### Lengths and views of slices, whatever form they have -/

def lenS : AV → Option Nat
  | .nils => some 0
  | .esl => some 0
  | .sl _ _ _ n _ => some n
  | _ => none

theorem lenS_nils : lenS .nils = some 0 := rfl
theorem lenS_esl : lenS .esl = some 0 := rfl
theorem lenS_sl (i o z n : Nat) (c : Option Nat) : lenS (.sl i o z n c) = some n := rfl

/-- A row of a slice of rows. -/
theorem cellsAt_rowO {α : Type} {f : α → List AV} {m : Nat} (hf : ∀ x, (f x).length = m) {H : AH} {q o : Nat} {b : Blk} {l : List α} {i : Nat} {x : α} (hb : H.get q = some b) (hl : o + l.length * m ≤ b.cells.length) (hc : (b.cells.drop o).take (l.length * m) = rowsOf f l) (h : l[i]? = some x) : H.cellsAt q (o + i * m) m = some (f x) := by
  have hi : i < l.length := by
    by_cases hlt : i < l.length
    · exact hlt
    · rw [List.getElem?_eq_none (by omega)] at h; cases h
  have h2 : i * m + m ≤ l.length * m := by
    have := Nat.mul_le_mul_right m (show i + 1 ≤ l.length by omega)
    rw [Nat.add_mul, Nat.one_mul] at this
    exact this
  have h3 := rowsOf_at hf h
  rw [← hc, List.drop_take, List.drop_drop, List.take_take] at h3
  have h4 : min m (l.length * m - i * m) = m := by omega
  rw [h4] at h3
  unfold AH.cellsAt
  rw [hb]
  show (if o + i * m + m ≤ b.cells.length then some ((b.cells.drop (o + i * m)).take m) else none) = _
  rw [if_pos (by omega), h3]

theorem exe_lenl (call : Call) (e : Env) (x : Arg) (H : AH) : exe call e (.lenl x) H = okM H ((lenS (x.val e)).map fun (n : Nat) => AV.int .i64 (n : Int)) := by
  simp only [exe]
  cases x.val e <;> rfl

theorem SliceV.lenS {H : AH} {z : Nat} {v : AV} {n : Nat} {cs : List AV} (h : SliceV H z v n cs) : lenS v = some n := by
  cases h <;> rfl

theorem lk_app {α : Type} (l l' : List (Nat × α)) (i : Nat) : lk (l ++ l') i = (lk l i).or (lk l' i) := by
  induction l with
  | nil => rfl
  | cons x l ih =>
    obtain ⟨j, a⟩ := x
    simp only [List.cons_append, lk]
    split
    · rfl
    · exact ih
theorem lk_none {α : Type} {l : List (Nat × α)} {i : Nat} (h : ∀ x ∈ l, x.1 ≠ i) : lk l i = none := by
  induction l with
  | nil => rfl
  | cons x l ih =>
    obtain ⟨j, a⟩ := x
    simp only [lk]
    rw [if_neg (h (j, a) (by simp)), ih fun y hy => h y (by simp [hy])]

/-- A slice handed over by value. -/
theorem SliceV.view {H : AH} {z : Nat} {v : AV} {n : Nat} {cs : List AV} (hv : SliceV H z v n cs) (hf : cs.all flat1 = true) (k : Nat) :
    ∃ v' bs k', k ≤ k' ∧ (∀ x ∈ bs, k ≤ x.1 ∧ x.1 < k') ∧ (∀ {l us bs2 k2}, views H l k' = some (us, bs2, k2) → views H (v :: l) k = some (v' :: us, bs ++ bs2, k2)) ∧
      (∀ i o z n c, v' = .sl i o z n c → k ≤ i ∧ i < k') ∧ ∀ H' : AH, (∀ i, k ≤ i → i < k' → H'.get i = lk bs i) → SliceV H' z v' n cs := by
  rcases hv.cases with ⟨rfl, h1, h2⟩ | ⟨rfl, h1, h2⟩ | ⟨i, o, c, b, rfl, hb, hl, hcs⟩
  · exact ⟨.nils, [], k, Nat.le_refl _, fun x hx => (by cases hx), fun h => views_flat rfl h, fun _ _ _ _ _ e => (by cases e), fun H' _ => (by rw [h1, h2]; exact .nil)⟩
  · exact ⟨.esl, [], k, Nat.le_refl _, fun x hx => (by cases hx), fun h => views_flat rfl h, fun _ _ _ _ _ e => (by cases e), fun H' _ => (by rw [h1, h2]; exact .emp)⟩
  · have hlen : cs.length = n * z := by rw [← hcs, List.length_take, List.length_drop]; omega
    refine ⟨.sl k 0 z n c, [(k, ⟨cs, b.ro, b.ty, false, false⟩)], k + 1, Nat.le_succ _, fun x hx => ?_, fun h => viewS hb hl hcs hf h, fun i o z n c e => (by cases e; omega), fun H' h => ?_⟩
    · simp only [List.mem_cons, List.not_mem_nil, or_false] at hx
      subst hx; exact ⟨Nat.le_refl _, Nat.lt_succ_self _⟩
    · have hg := h k (Nat.le_refl _) (Nat.lt_succ_self _)
      have := SliceV.sl (H := H') (z := z) (i := k) (o := 0) (n := n) (c := c) (b := ⟨cs, b.ro, b.ty, false, false⟩) (by rw [hg]; simp [lk]) (by show 0 + n * z ≤ cs.length; omega)
      rw [List.drop_zero, List.take_of_length_le (by show cs.length ≤ _; omega)] at this
      exact this

/-- Two slices and flat values handed over by value. -/
theorem views_two {H : AH} {z1 z2 : Nat} {v1 v2 : AV} {n1 n2 : Nat} {cs1 cs2 : List AV} (h1 : SliceV H z1 v1 n1 cs1) (h2 : SliceV H z2 v2 n2 cs2) (f1 : cs1.all flat1 = true) (f2 : cs2.all flat1 = true) (k : Nat) {rest us : List AV} (hr : ∀ k, views H rest k = some (us, [], k)) :
    ∃ w1 w2 bs kq, views H (v1 :: v2 :: rest) k = some (w1 :: w2 :: us, bs, kq) ∧ SliceV ⟨bs ++ [], kq, kq⟩ z1 w1 n1 cs1 ∧ SliceV ⟨bs ++ [], kq, kq⟩ z2 w2 n2 cs2 ∧ Names ⟨bs ++ [], kq, kq⟩ ∧ k ≤ kq ∧
      (∀ i o z n c, w1 = .sl i o z n c → i < kq) ∧ ∀ i o z n c, w2 = .sl i o z n c → i < kq := by
  obtain ⟨w1, b1, k1, a1, a2, a3, a4, a5⟩ := h1.view f1 k
  obtain ⟨w2, b2, k2, c1, c2, c3, c4, c5⟩ := h2.view f2 k1
  refine ⟨w1, w2, b1 ++ (b2 ++ []), k2, a3 (c3 (hr k2)), a5 _ fun i hi hi' => ?_, c5 _ fun i hi hi' => ?_, fun x hx => ?_, by omega, fun i o z n c e => by have := a4 i o z n c e; omega, fun i o z n c e => by have := c4 i o z n c e; omega⟩
  · show lk (b1 ++ (b2 ++ []) ++ []) i = lk b1 i
    rw [List.append_nil, List.append_nil, lk_app, lk_none (l := b2) fun x hx => by have := c2 x hx; omega]
    cases lk b1 i <;> rfl
  · show lk (b1 ++ (b2 ++ []) ++ []) i = lk b2 i
    rw [List.append_nil, List.append_nil, lk_app, lk_none (l := b1) fun x hx => by have := a2 x hx; omega]
    rfl
  · show x.1 < k2
    rw [List.append_nil, List.append_nil] at hx
    rcases List.mem_append.1 hx with hx | hx
    · have := a2 x hx; omega
    · exact (c2 x hx).2

/-- v is nil, or a new row of one's own: n elements of z cells. -/
def NewV (H : AH) (z : Nat) (v : AV) (n : Nat) (cells : List AV) (H' : AH) : Prop := (v = .nils ∧ n = 0 ∧ cells = [] ∧ H' = H) ∨ ∃ c b, v = .sl H.next 0 z n c ∧ H' = H.take1 b ∧ b.ro = false ∧ b.cells = cells ∧ cells.length = n * z

theorem NewV.slice {H : AH} {z : Nat} {v : AV} {n : Nat} {cells : List AV} {H' : AH} (h : NewV H z v n cells H') : SliceV H' z v n cells := by
  rcases h with ⟨rfl, rfl, rfl, rfl⟩ | ⟨c, b, rfl, rfl, _, rfl, hl⟩
  · exact .nil
  · have := SliceV.sl (H := H.take1 b) (z := z) (i := H.next) (o := 0) (n := n) (c := c) (get_take1 H _) (by omega)
    rw [List.drop_zero, List.take_of_length_le (by omega)] at this
    exact this
theorem NewV.grow {H : AH} {z : Nat} {v : AV} {n : Nat} {cells : List AV} {H' : AH} (h : NewV H z v n cells H') : Grow H H' := by
  rcases h with ⟨_, _, _, rfl⟩ | ⟨c, b, _, rfl, _⟩
  · exact Grow.refl _
  · exact Grow.take1 _ _
theorem NewV.names {H : AH} {z : Nat} {v : AV} {n : Nat} {cells : List AV} {H' : AH} (h : NewV H z v n cells H') (hN : Names H) : Names H' := by
  rcases h with ⟨_, _, _, rfl⟩ | ⟨c, b, _, rfl, _⟩
  · exact hN
  · intro x hx
    show x.1 < H.next + 1
    rcases List.mem_cons.1 hx with rfl | hx
    · exact Nat.lt_succ_self _
    · have := hN x hx; omega
theorem NewV.lt {H : AH} {z : Nat} {v : AV} {n : Nat} {cells : List AV} {H' : AH} (h : NewV H z v n cells H') : ∀ i o z n c, v = .sl i o z n c → i < H'.next := by
  rcases h with ⟨rfl, _⟩ | ⟨c, b, rfl, rfl, _⟩
  · intro _ _ _ _ _ e; cases e
  · intro i o z n c e; cases e; exact Nat.lt_succ_self _

/-- What is handed back of a row of one's own. -/
theorem OutV.back {lo : Nat} {H1 : AH} {ty z : Nat} {v : AV} {m : Nat} {cells : List AV} (h : OutV lo H1 ty z v m cells) {kp : Nat} (hk : kp ≤ lo) (H : AH) (hf : cells.all flat1 = true) {vs : List AV} (hvs : vs.all flat2 = true) {R : List AV → AH → Prop} (hR : ∀ v' H', NewV H z v' m cells H' → R (v' :: vs) H') : Back kp H R (v :: vs) H1 := by
  obtain ⟨hz, h1, h2, h3⟩ := h
  rcases h3 with ⟨rfl, rfl, rfl⟩ | ⟨q, c, h4, rfl, hzz, hl, hc, hfl, hn, wh, s0, hg⟩
  · exact back_flat (by simp [flat2, flat1, hvs]) (hR _ _ (.inl ⟨rfl, rfl, rfl, rfl⟩))
  · exact back_slice (Nat.le_trans hk h4) hg rfl hf hvs (hR _ _ (.inr ⟨c, _, rfl, rfl, rfl, rfl, hl⟩))

end Go.Am

/- The rules in one. Conditions: none. -/
namespace Go.Am

/-- The rules of the judgements, for 'simp only'. -/
def AmR :=
  And.intro @W_skip (And.intro @W_seq (And.intro @W_block (And.intro @W_exit (And.intro @W_ret (And.intro @W_trim (And.intro @W_reg (And.intro @W_cond (And.intro @Cd_true (And.intro @Cd_false (And.intro @Cd_dec (And.intro @Nx_nil (And.intro @Nx_code (And.intro @Nx_block (And.intro @Ex_nil (And.intro @Ex_code (And.intro @Ex_block (And.intro @Rt_nil (And.intro @Rt_code (And.intro @Rt_block (And.intro @Rg_nil (And.intro @Rg_one (And.intro @Rg_if (And.intro @Ro_ok (And.intro @Rf_tt (And.intro @Rf_ff (And.intro @Rf_tf (And.intro @Rf_ft (And.intro @Rf_tup (And.intro @Rf_dec (And.intro @flatK_ret (And.intro @flatK_nrm (And.intro @Dg_nil (And.intro @Dg_one (And.intro @Dg_if (And.intro @Do_0 (And.intro @Do_1 (And.intro @Do_2 (And.intro @Df_tt (And.intro @Df_ff (And.intro @Df_tf (And.intro @Df_ft (And.intro @Df_tup (And.intro @Df_dec (And.intro @newBlks_cons (And.intro @newBlks_nil (And.intro @sliceK_ret (And.intro @sliceK_nrm (And.intro @exactK_ret (And.intro @exactK_nrm (And.intro @Dg_drop (And.intro @endK_nrm (And.intro @endK_ret @AH.eta))))))))))))))))))))))))))))))))))))))))))))))))))))

end Go.Am
