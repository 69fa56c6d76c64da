/-
The machine's rows for functions of Go's library that are taken by a contract. Conditions: the contract, as the theorems name it.
-/
import Derived.Test.YtjpppajbhpbkiaaDoorAm30
import Derived.Laws.Externs
import Derived.Lib.ItoaNum
import Derived.Lib.Join
import Derived.Lib.LaidTab
import Derived.Lib.Builder
import Derived.Sort.Grow
set_option linter.unusedSimpArgs false
set_option linter.unusedVariables false
namespace Go.Am
open Go.RowKit

section
variable {P : Program} {B : Base}

structure RowOk (P : Program) (B : Base) (f : FuncId) (g : List AV → AH → Option (Out × AH)) : Prop where
  next : ∀ args H out H', g args H = some (out, H') → H.next ≤ H'.next
  does : ∀ (args : List AV) (H : AH) (out : Out) (H' : AH) (φ : Emb) (vs : List Value) (w : World), g args H = some (out, H') → Rel B φ H w → VRs φ args vs → GlobR P φ → Free φ H.next H'.next →
    Does P (Post B φ H w out H') ((callFunc f vs.toArray).run P w)

theorem extOk_nil : ExtOk P B (lk []) := ⟨fun f g args H out H' h => (by cases h), fun f g args H out H' φ vs w h => (by cases h)⟩

theorem extOk_cons {f : FuncId} {g : List AV → AH → Option (Out × AH)} {l : List (Nat × (List AV → AH → Option (Out × AH)))} (h : RowOk P B f g) (hl : ExtOk P B (lk l)) : ExtOk P B (lk ((f, g) :: l)) := by
  refine ⟨fun f' g' args H out H' h1 h2 => ?_, fun f' g' args H out H' φ vs w h1 h2 => ?_⟩
  · by_cases e : f = f'
    · subst e; simp [lk] at h1; subst h1; exact h.next args H out H' h2
    · simp [lk, e] at h1; exact hl.next f' g' args H out H' h1 h2
  · by_cases e : f = f'
    · subst e; simp [lk] at h1; subst h1; exact h.does args H out H' φ vs w h2
    · simp [lk, e] at h1; exact hl.does f' g' args H out H' φ vs w h1 h2

theorem Step.grown {φ : Emb} {H : AH} {w w' : World} (hr : Rel B φ H w) (hb : Below w.heap.size w w') : Step B φ H w φ H w' :=
  ⟨hr.grow (Emb.le_refl _) hb.size hb.block, fun _ _ => rfl, Nat.le_refl _, rfl, fun _ _ => rfl, fun _ b _ hb => ⟨b, hb, rfl⟩, hb.os, hb.tape, hb.output, hb.size, fun p hp _ => hb.block p hp, fun _ hp => .inl hp⟩

/-- A contract on calls. -/
theorem does_calls {f : FuncId} {F : Func} (hF : P.funcs[f]? = some F) (hname : (F.name == "runtime.NumGoroutine") = false) (hb : F.body.isSome = true) {R : Ending → World → Prop} {args : Array Value} {w : World} (h : Calls P f args w R) :
    Does P R ((callFunc f args).run P w) := by
  have hname' : F.name ≠ "runtime.NumGoroutine" := by simpa using hname
  obtain ⟨c, hc⟩ := Option.isSome_iff_exists.1 hb
  have : (callFunc f args).run P w = .ok (.enter f args) w := by simp [callFunc, hF, hname', hc]
  rw [this]
  exact h

/-! ### Numerals -/

def decF : Nat → Nat → List UInt8
  | 0, _ => []
  | k + 1, u => if u < 10 then [UInt8.ofNat (48 + u)] else decF k (u / 10) ++ [UInt8.ofNat (48 + u % 10)]

theorem decF_eq : ∀ (k u : Nat), u < 10 ^ k → 0 < k → decF k u = Lib.decDigits u
  | 0, u, _, hk => by omega
  | k + 1, u, h, _ => by
    rw [Lib.decDigits, decF]
    by_cases hu : u < 10
    · rw [if_pos hu, dif_pos hu]
    · rw [if_neg hu, dif_neg hu]
      have hlt : u / 10 < 10 ^ k := by
        rw [Nat.pow_succ] at h
        omega
      have hk : 0 < k := by
        cases k with
        | zero => simp at h; omega
        | succ k => omega
      rw [decF_eq k (u / 10) hlt hk]

def itoaF (n : Int) : List UInt8 := if n < 0 then 45 :: decF 20 n.natAbs else decF 20 n.toNat

theorem itoaF_eq {n : Int} (h0 : -9223372036854775808 ≤ n) (h1 : n ≤ 9223372036854775807) : itoaF n = Lib.itoa n := by
  unfold itoaF Lib.itoa
  by_cases h : n < 0
  · rw [if_pos h, if_pos h, decF_eq 20 _ (by omega) (by omega)]
  · rw [if_neg h, if_neg h, decF_eq 20 _ (by omega) (by omega)]

def gItoa : List AV → AH → Option (Out × AH)
  | [.int .i64 n], H => if -9223372036854775808 ≤ n ∧ n ≤ 9223372036854775807 then ok1 H (.str (itoaF n)) else none
  | _, _ => none

theorem rowOk_itoa {f : FuncId} {F : Func} (hF : P.funcs[f]? = some F) (hname : (F.name == "runtime.NumGoroutine") = false) (hb : F.body.isSome = true) (hK : ∀ w, B.K w → Lib.TabIs P w "internal/strconv.uint64pow10" .u64 Lib.pow10Tab)
    (h : ∀ (n : Int) (_ : -9223372036854775808 ≤ n) (_ : n ≤ 9223372036854775807) (w : World) (_ : Lib.TabIs P w "internal/strconv.uint64pow10" .u64 Lib.pow10Tab),
      Calls P f #[.int .i64 n] w fun e w' => e = .returned (.string ⟨(Lib.itoa n).toArray⟩) ∧ Below w.heap.size w w') : RowOk P B f gItoa where
  next := fun args H out H' hg => by
    unfold gItoa at hg
    split at hg
    · split at hg
      · have := ok1_nextG hg; subst this; exact Nat.le_refl _
      · cases hg
    · cases hg
  does := fun args H out H' φ vs w hg hr hv _ _ => by
    unfold gItoa at hg
    split at hg
    · rename_i n
      split at hg
      · rename_i hn
        obtain ⟨rfl, rfl⟩ := ok1_inv hg
        obtain ⟨v, vs', rfl, hv1, hv2⟩ := hv.cons_inv
        obtain rfl := hv1.int_inv
        obtain rfl := hv2.nil_inv
        refine does_calls hF hname hb ((h n hn.1 hn.2 w (hK w hr.know.1.1)).mono ?_)
        rintro e w' ⟨rfl, hbl⟩
        exact Post.ok (Step.grown hr hbl) (by rw [itoaF_eq hn.1 hn.2]; exact VR.str _)
      · cases hg
    · cases hg

/-! ### strings.Join -/

def strsOf : List AV → Option (List (List UInt8))
  | [] => some []
  | .str s :: l => (strsOf l).map (s :: ·)
  | _ :: _ => none

theorem strsOf_ok {φ : Emb} : ∀ {cs : List AV} {xs : List (List UInt8)} {us : List Value}, strsOf cs = some xs → VRs φ cs us → us = xs.map fun s => Value.string ⟨s.toArray⟩
  | [], xs, us, h, hv => by simp [strsOf] at h; subst h; rw [hv.nil_inv]; rfl
  | c :: cs, xs, us, h, hv => by
    obtain ⟨u, us', rfl, hv1, hv2⟩ := hv.cons_inv
    cases c <;> simp only [strsOf, Option.map_eq_some_iff, reduceCtorEq] at h
    obtain ⟨xs', h1, rfl⟩ := h
    obtain rfl := hv1.str_inv
    rw [strsOf_ok h1 hv2]
    rfl

def gJoin : List AV → AH → Option (Out × AH)
  | [.sl i o z n _, .str sep], H => if z = 1 then match H.cellsAt i o n with
      | some cs => match strsOf cs with
        | some xs => if n ≤ 140737488355328 ∧ (Lib.join xs sep).length ≤ 140737488355328 then ok1 H (.str (Lib.join xs sep)) else none
        | none => none
      | none => none
    else none
  | [.nils, .str _], H => ok1 H (.str [])
  | _, _ => none

theorem rowOk_join {f : FuncId} {F : Func} (hF : P.funcs[f]? = some F) (hname : (F.name == "runtime.NumGoroutine") = false) (hb : F.body.isSome = true)
    (h0 : ∀ (a : Option Addr) (c : Nat) (sep : ByteArray) (w : World), Calls P f #[.slice a 0 c, .string sep] w fun e w' => e = .returned (.string ⟨#[]⟩) ∧ w' = w)
    (h : ∀ (bk o c : Nat) (xs : List ByteArray) (sep : ByteArray) (w : World) (_ : ∀ (j : Nat) x, xs[j]? = some x → w.cell? ⟨bk, o + j, none⟩ = some (.string x)) (_ : bk < w.heap.size) (_ : xs.length ≤ 140737488355328) (_ : xs.length ≤ c)
      (_ : (Lib.join (xs.map (·.data.toList)) sep.data.toList).length ≤ 140737488355328),
      Calls P f #[.slice (some ⟨bk, o, none⟩) xs.length c, .string sep] w fun e w' => e = .returned (.string ⟨(Lib.join (xs.map (·.data.toList)) sep.data.toList).toArray⟩) ∧ Below w.heap.size w w') : RowOk P B f gJoin where
  next := fun args H out H' hg => by
    unfold gJoin at hg
    repeat' split at hg
    all_goals first
      | (cases hg; done)
      | (have := ok1_nextG hg; subst this; exact Nat.le_refl _)
  does := fun args H out H' φ vs w hg hr hv _ _ => by
    unfold gJoin at hg
    split at hg
    · rename_i i o z n c' sep
      split at hg
      · rename_i hz
        subst hz
        split at hg
        · rename_i cs hcs
          split at hg
          · rename_i xs hxs
            split at hg
            · rename_i hb2
              obtain ⟨rfl, rfl⟩ := ok1_inv hg
              obtain ⟨v, vs', rfl, hv1, hv2⟩ := hv.cons_inv
              obtain ⟨v2, vs'', rfl, hv3, hv4⟩ := hv2.cons_inv
              obtain rfl := hv4.nil_inv
              obtain rfl := hv3.str_inv
              have hlen : xs.length = n := by
                have h1 : ∀ (cs : List AV) (xs : List (List UInt8)), strsOf cs = some xs → xs.length = cs.length := by
                  intro cs
                  induction cs with
                  | nil => intro xs h; simp [strsOf] at h; subst h; rfl
                  | cons c cs ih =>
                    intro xs h
                    cases c <;> simp only [strsOf, Option.map_eq_some_iff, reduceCtorEq] at h
                    obtain ⟨xs', h1, rfl⟩ := h
                    simp [ih xs' h1]
                rw [h1 cs xs hxs]
                unfold AH.cellsAt at hcs
                split at hcs
                · split at hcs
                  · simp at hcs; subst hcs; simp; omega
                  · cases hcs
                · cases hcs
              have fin : ∀ e w', e = Ending.returned (.string ⟨(Lib.join xs sep).toArray⟩) → Below w.heap.size w w' → Post B φ H' w (.ok (.str (Lib.join xs sep))) H' e w' := by
                rintro e w' rfl hbl
                exact Post.ok (Step.grown hr hbl) (VR.str _)
              rcases hv1.sl_inv with ⟨p, s, m, cc, e1, e2, e3, e4, rfl⟩ | ⟨e1, e2, ad, rfl⟩
              · obtain ⟨hl, ds, h1, h2⟩ := cellsAt_ok hr hcs e1
                have hds := strsOf_ok hxs h1
                by_cases hn0 : n = 0
                · subst hn0
                  have hx0 : xs = [] := by cases xs with | nil => rfl | cons _ _ => simp at hlen
                  subst hx0
                  have := h0 (some ⟨p, s + o, none⟩) cc ⟨sep.toArray⟩ w
                  refine does_calls hF hname hb (this.mono ?_)
                  rintro e w' ⟨rfl, rfl⟩
                  exact fin _ _ rfl (Below.refl _ _)
                have hcl : ∀ (j : Nat) x, (xs.map fun s => (⟨s.toArray⟩ : ByteArray))[j]? = some x → w.cell? ⟨p, s + o + j, none⟩ = some (.string x) := fun j x hj => by
                  refine h2 j _ ?_
                  rw [hds]
                  simp only [List.getElem?_map, Option.map_eq_some_iff] at hj ⊢
                  obtain ⟨y, hy, rfl⟩ := hj
                  exact ⟨y, hy, rfl⟩
                have hp : p < w.heap.size := by
                  have : ∃ x, xs[0]? = some x := by
                    cases xs with
                    | nil => simp at hlen; omega
                    | cons x _ => exact ⟨x, rfl⟩
                  obtain ⟨x, hx⟩ := this
                  have := hcl 0 ⟨x.toArray⟩ (by simp [hx])
                  rcases Nat.lt_or_ge p w.heap.size with h' | h'
                  · exact h'
                  · simp [World.cell?, Array.getElem?_eq_none h'] at this
                have hmm : (xs.map fun s => (⟨s.toArray⟩ : ByteArray)).map (·.data.toList) = xs := by
                  rw [List.map_map]
                  conv => rhs; rw [← List.map_id xs]
                  congr 1
                have := h p (s + o) cc (xs.map fun s => (⟨s.toArray⟩ : ByteArray)) ⟨sep.toArray⟩ w hcl hp (by simp; omega) (by simp; omega) (by rw [hmm]; exact hb2.2)
                rw [List.length_map, hlen, hmm] at this
                refine does_calls hF hname hb (this.mono ?_)
                rintro e w' ⟨rfl, hbl⟩
                exact fin _ _ rfl hbl
              · subst e1
                have hx0 : xs = [] := by cases xs with | nil => rfl | cons _ _ => simp at hlen
                subst hx0
                have := h0 (some ad) 0 ⟨sep.toArray⟩ w
                refine does_calls hF hname hb (this.mono ?_)
                rintro e w' ⟨rfl, rfl⟩
                exact fin _ _ rfl (Below.refl _ _)
            · cases hg
          · cases hg
        · cases hg
      · cases hg
    · rename_i sep
      obtain ⟨rfl, rfl⟩ := ok1_inv hg
      obtain ⟨v, vs', rfl, hv1, hv2⟩ := hv.cons_inv
      obtain ⟨v2, vs'', rfl, hv3, hv4⟩ := hv2.cons_inv
      obtain rfl := hv4.nil_inv
      obtain rfl := hv3.str_inv
      obtain rfl := hv1.nils_inv
      have := h0 none 0 ⟨sep.toArray⟩ w
      refine does_calls hF hname hb (this.mono ?_)
      rintro e w' ⟨rfl, rfl⟩
      exact Post.ok (Step.refl hr) (VR.str [])
    · cases hg

/-! ### internal/abi.NoEscape -/

def gSame : List AV → AH → Option (Out × AH)
  | [v], H => ok1 H v
  | _, _ => none

theorem rowOk_noEscape {f : FuncId} {F : Func} (hF : P.funcs[f]? = some F) (hname : (F.name == "runtime.NumGoroutine") = false) (hb : F.body.isNone = true) (hn : Extern.findNext F = none) (he : Extern.find F = some Extern.AbiNoEscape.same) : RowOk P B f gSame where
  next := fun args H out H' hg => by
    unfold gSame at hg
    split at hg
    · have := ok1_nextG hg; subst this; exact Nat.le_refl _
    · cases hg
  does := fun args H out H' φ vs w hg hr hv _ _ => by
    unfold gSame at hg
    split at hg
    · obtain ⟨rfl, rfl⟩ := ok1_inv hg
      obtain ⟨v, vs', rfl, hv1, hv2⟩ := hv.cons_inv
      obtain rfl := hv2.nil_inv
      have : (callFunc f [v].toArray).run P w = .ok (.value v) w := by
        rw [run_callFunc_extern hF hname hb hn he]
        have := Lib.run_noEscape (P := P) (w := w) v
        rw [show [v].toArray = #[v] from rfl, this]
        rfl
      rw [this]
      exact Post.ok (Step.refl hr) hv1
    · cases hg

end
end Go.Am
