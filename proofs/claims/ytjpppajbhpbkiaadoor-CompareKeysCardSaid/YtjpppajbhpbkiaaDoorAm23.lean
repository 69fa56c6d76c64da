/-
The abstract machine's run of compiled code is what the model's run of the code comes to. Conditions: the heap stands to the world, the temporaries to the values, and calls do what the machine's calls do.
-/
import Derived.Test.YtjpppajbhpbkiaaDoorAm22
import Derived.LoopN
set_option linter.unusedSimpArgs false
set_option linter.unusedVariables false
namespace Go.Am
open Go.RowKit

/-- A region's operations and what the compiler made of them. -/
inductive CRL (P : Program) (nt : Nat) (ops : Array Oper) : List Oper → ACode → Prop
  | reg (l : List Oper) : CRL P nt ops l (.reg (l.map (cins P nt ops)))
  | seq {l m : List Oper} {x y : ACode} : CRL P nt ops l x → CRL P nt ops m y → CRL P nt ops (l ++ m) (.seq x y)
  | trim {l : List Oper} {x : ACode} (t : List Nat) : CRL P nt ops l x → CRL P nt ops l (.seq x (.trim t))

theorem pieces_crl (P : Program) (nt : Nat) (ops : Array Oper) : ∀ (h : List (Nat × List Nat)) (l : List Oper), CRL P nt ops l (pieces (l.map (cins P nt ops)) h)
  | [], l => .reg l
  | [(_, t)], l => .trim t (.reg l)
  | (n, t) :: h1 :: h2, l => by
    have h3 := CRL.seq (CRL.trim t (CRL.reg (P := P) (nt := nt) (ops := ops) (l.take n))) (pieces_crl P nt ops (h1 :: h2) (l.drop n))
    rw [List.take_append_drop] at h3
    simp only [pieces, ← List.map_take, ← List.map_drop]
    exact h3

/-- Code and what the compiler made of it, whatever its loops keep. -/
inductive CR (P : Program) (nt : Nat) : Code → ACode → Prop
  | skip : CR P nt .skip .skip
  | label (l : Nat) : CR P nt (.label l) .skip
  | reg (id : Nat) (ops : Array Oper) : CR P nt (.region id ops false) (.reg (ops.toList.map (cins P nt ops)))
  | regd (id : Nat) (ops : Array Oper) (is : List DIns) : DOk P nt ops is → CR P nt (.region id ops true) (.regd is)
  | regl (id : Nat) (ops : Array Oper) {x : ACode} : CRL P nt ops ops.toList x → CR P nt (.region id ops false) x
  | bad (c : Code) : CR P nt c (.reg [⟨none, bad, none⟩])
  | stuck (c : Code) (h : List (Nat × List Nat)) : CR P nt c (pieces [⟨none, bad, none⟩] h)
  | seq {a b : Code} {x y : ACode} : CR P nt a x → CR P nt b y → CR P nt (.seq a b) (.seq x y)
  | cond {c : Operand} {z : Arg} {a b : Code} {x y : ACode} : ofOp P c = some z → CR P nt a x → CR P nt b y → CR P nt (.cond c a b) (.cond z x y)
  | block {id : Nat} {b : Code} {y : ACode} : CR P nt b y → CR P nt (.block id b) (.block id y)
  | loop {b : Code} {y : ACode} (l : Option (List Nat)) : CR P nt b y → CR P nt (.loop b) (.loop l y)
  | exit (id : Nat) : CR P nt (.exit id) (.exit id)
  | ret : CR P nt .ret .ret
  | trim {c : Code} {x : ACode} (l : List Nat) : CR P nt c x → CR P nt c (.seq x (.trim l))

theorem comp_cr (P : Program) (nt : Nat) : ∀ c : Code, CR P nt c (comp P nt c)
  | .skip => .skip
  | .label l => .label l
  | .region id ops false => .reg id ops
  | .region id ops true => by
    simp only [comp]
    split
    · rename_i h
      simp only [Bool.and_eq_true] at h
      exact .regd id ops _ (dok_dins h.1 h.2)
    · exact .bad _
  | .seq a b => .seq (comp_cr P nt a) (comp_cr P nt b)
  | .cond c a b => by
    simp only [comp]
    split
    · rename_i x hx
      exact .cond hx (comp_cr P nt a) (comp_cr P nt b)
    · exact .bad _
  | .block id b => .block (comp_cr P nt b)
  | .loop b => .loop none (comp_cr P nt b)
  | .exit id => .exit id
  | .ret => .ret
  | .rangeFunc _ _ _ _ => .bad _
  | .scope _ => .bad _
  | .goto _ => .bad _
  | .refuse _ => .bad _

theorem pieces_bad {P : Program} {nt : Nat} (c : Code) : ∀ h : List (Nat × List Nat), CR P nt c (pieces [⟨none, bad, none⟩] h)
  | h => .stuck c h

theorem relive_bad {P : Program} {nt : Nat} (c : Code) (l : List Hint) : CR P nt c (relive (.reg [⟨none, bad, none⟩]) l).1 := by
  cases l with
  | nil => exact .bad c
  | cons h l => cases h with
    | no => exact .bad c
    | keep _ => exact .bad c
    | cut h => exact pieces_bad c h

theorem relive_cr {P : Program} {nt : Nat} : ∀ (c : Code) (l : List Hint), CR P nt c (relive (comp P nt c) l).1
  | .skip, l => by cases l with | nil => exact .skip | cons h l => cases h <;> exact .skip
  | .label k, l => by cases l with | nil => exact .label k | cons h l => cases h <;> exact .label k
  | .exit k, l => by cases l with | nil => exact .exit k | cons h l => cases h <;> exact .exit k
  | .ret, l => by cases l with | nil => exact .ret | cons h l => cases h <;> exact .ret
  | .seq a b, l => .seq (relive_cr a l) (relive_cr b _)
  | .block id b, l => .block (relive_cr b l)
  | .loop b, l => by
    cases l with
    | nil => exact .loop none (comp_cr P nt b)
    | cons h l => cases h with
      | no => exact .loop none (relive_cr b l)
      | keep x => exact .loop (some x) (relive_cr b l)
      | cut _ => exact .loop none (comp_cr P nt b)
  | .cond c a b, l => by
    simp only [comp]
    split
    · rename_i x hx
      exact .cond hx (relive_cr a l) (relive_cr b _)
    · exact relive_bad _ l
  | .region id ops false, l => by
    cases l with
    | nil => exact .reg id ops
    | cons h l => cases h with
      | no => exact .reg id ops
      | keep _ => exact .reg id ops
      | cut h => exact .regl id ops (pieces_crl P nt ops h ops.toList)
  | .region id ops true, l => by
    simp only [comp]
    split
    · rename_i h
      simp only [Bool.and_eq_true] at h
      have D := dok_dins (P := P) (nt := nt) h.1 h.2
      cases l with
      | nil => exact .regd id ops _ D
      | cons h l => cases h with
        | no => exact .regd id ops _ D
        | keep x => exact .trim x (.regd id ops _ D)
        | cut _ => exact .regd id ops _ D
    · exact relive_bad _ l
  | .rangeFunc a b c d, l => relive_bad _ l
  | .scope b, l => relive_bad _ l
  | .goto k, l => relive_bad _ l
  | .refuse w, l => relive_bad _ l
section
variable {P : Program} {B : Base} {call : Call} {nt : Nat}

theorem iter_next {body : St → Option (AX × St)} {live : Option (List Nat)} (hb : ∀ s x s', body s = some (x, s') → s.H.next ≤ s'.H.next) : ∀ (n : Nat) {s s' : St} {x : AX}, iter body live n s = some (x, s') → s.H.next ≤ s'.H.next
  | 0, s, s', x, h => by cases h
  | n + 1, s, s', x, h => by
    simp only [iter] at h
    split at h
    · rename_i s1 h1
      have a := hb _ _ _ h1
      exact Nat.le_trans a (iter_next hb n h)
    · have a := hb _ _ _ h
      exact a

theorem run_next (hm : CallMono call) (lf : Nat) : ∀ (d : ACode) {s s' : St} {x : AX}, run call lf d s = some (x, s') → s.H.next ≤ s'.H.next
  | .skip, s, s', x, h => by simp [run] at h; obtain ⟨_, rfl⟩ := h; exact Nat.le_refl _
  | .exit _, s, s', x, h => by simp [run] at h; obtain ⟨_, rfl⟩ := h; exact Nat.le_refl _
  | .ret, s, s', x, h => by simp [run] at h; obtain ⟨_, rfl⟩ := h; exact Nat.le_refl _
  | .trim _, s, s', x, h => by simp [run] at h; obtain ⟨_, rfl⟩ := h; exact Nat.le_refl _
  | .reg is, s, s', x, h => runR_next hm is h
  | .regd is, s, s', x, h => runDr_next hm h
  | .seq a b, s, s', x, h => by
    simp only [run] at h
    split at h
    · rename_i s1 h1
      exact Nat.le_trans (run_next hm lf a h1) (run_next hm lf b h)
    · exact run_next hm lf a h
  | .cond c a b, s, s', x, h => by
    simp only [run] at h
    split at h
    · split at h
      · have := run_next hm lf a h; exact this
      · have := run_next hm lf b h; exact this
    · cases h
  | .block id b, s, s', x, h => by
    simp only [run] at h
    split at h
    · rename_i id' s1 h1
      split at h <;> (simp only [Option.some.injEq, Prod.mk.injEq] at h; obtain ⟨_, rfl⟩ := h; exact run_next hm lf b h1)
    · exact run_next hm lf b h
  | .loop live b, s, s', x, h => by
    simp only [run] at h
    exact iter_next (fun s x s' h => run_next hm lf b h) lf h

theorem lk_keep (l : List Nat) (e : Env) (n : Nat) : lk (l.map fun t => (t, e.at t)) n = some (e.at n) ∨ lk (l.map fun t => (t, e.at t)) n = none := by
  induction l with
  | nil => exact .inr rfl
  | cons t l ih =>
    simp only [List.map_cons, lk]
    by_cases h : t = n
    · subst h; simp
    · simp only [h, if_false]; exact ih

theorem envR_keep {φ : Emb} {e : Env} {t : Array Value} (h : EnvR φ e t) (live : Option (List Nat)) : EnvR φ (keep e live) t := by
  cases live with
  | none => exact h
  | some l =>
    intro n
    show VR φ ((lk (l.map fun t => (t, e.at t)) n).getD .undef) _
    rcases lk_keep l e n with h1 | h1
    · rw [h1]; exact h n
    · rw [h1]; exact VR.undef _

theorem XR.nrm_inv {φ : Emb} {e : Exit} (h : XR φ .nrm e) : e = .normal := by cases h; rfl

theorem wpList_append {ops : Array Oper} {Q : Exit → Act → World → Prop} {m : List Oper} : ∀ (l : List Oper) {a : Act} {w : World}, wpList P ops (Exit.then (wpList P ops Q m) Q) l a w → wpList P ops Q (l ++ m) a w
  | [], a, w, h => h
  | o :: l, a, w, h => by
    simp only [List.cons_append]
    unfold wpList at h ⊢
    split
    · rename_i hw
      rw [if_pos hw] at h
      rcases h with h | ⟨h1, a2, w2, h2⟩
      · left
        have h3 := Oper.wp_mono (K' := wpList P ops Q (l ++ m)) (fun a w h => wpList_append l h) h
        unfold Oper.wp at h3 ⊢
        generalize (execOp a.eval o).run P w = r at *
        cases r with
        | ok n w' =>
          cases n <;> simp only [Oper.upon] at h3 ⊢ <;> first
            | exact h3
            | exact Calls.mono h3 (fun e w'' he => by cases e <;> exact he)
        | halt x w' => cases x <;> simp only [Oper.upon] at h3 ⊢ <;> exact h3
      · exact .inr ⟨h1, a2, w2, h2⟩
    · rename_i hw
      rw [if_neg hw] at h
      exact wpList_append l h

theorem pieces_ok (hcall : CallOk P B call) (hm : CallMono call) (lf : Nat) {ops : Array Oper} {l : List Oper} {d : ACode} (h : CRL P nt ops l d) : ∀ {s s' : St} {x : AX} {φ : Emb} {a : Act} {w : World} {Q : Exit → Act → World → Prop}, run call lf d s = some (x, s') →
    Rel B φ s.H w → GlobR P φ → EnvR φ s.e a.tmps → nt ≤ a.tmps.size → Free φ s.H.next s'.H.next →
    (∀ ψ ex a' w', XR ψ x ex → Step B φ s.H w ψ s'.H w' → EnvR ψ s'.e a'.tmps → a'.tmps.size = a.tmps.size → a'.defers = a.defers → Q ex a' w') → wpList P ops Q l a w := by
  induction h with
  | reg l =>
    intro s s' x φ a w Q hx hr hg he hn hf hQ
    exact list_ok hcall hm l hx hr hg he hn hf hQ
  | trim t h ih =>
    intro s s' x φ a w Q hx hr hg he hn hf hQ
    simp only [run] at hx
    split at hx
    · rename_i s1 hx1
      simp only [Option.some.injEq, Prod.mk.injEq] at hx
      obtain ⟨rfl, rfl⟩ := hx
      refine ih hx1 hr hg he hn hf fun ψ ex a' w' q1 q2 q3 q4 q5 => ?_
      exact hQ ψ ex a' w' q1 q2 (envR_keep q3 (some t)) q4 q5
    · exact ih hx hr hg he hn hf hQ
  | seq h1 h2 ih1 ih2 =>
    intro s s' x φ a w Q hx hr hg he hn hf hQ
    simp only [run] at hx
    split at hx
    · rename_i s1 hx1
      have n1 := run_next hm lf _ hx1
      have n2 := run_next hm lf _ hx
      refine wpList_append _ (ih1 hx1 hr hg he hn (hf.mono (Nat.le_refl _) n2) fun ψ ex a' w' q1 q2 q3 q4 q5 => ?_)
      obtain rfl := q1.nrm_inv
      have hle := q2.le (hf.mono (Nat.le_refl _) n2)
      exact ih2 hx q2.rel (hg.mono hle) q3 (by rw [q4]; exact hn) (q2.free hf) fun χ ex a2 w2 r1 r2 r3 r4 r5 => hQ χ ex a2 w2 r1 (q2.trans r2) r3 (by rw [r4, q4]) (by rw [r5, q5])
    · rename_i hno
      refine wpList_append _ (ih1 hx hr hg he hn hf fun ψ ex a' w' q1 q2 q3 q4 q5 => ?_)
      have := hQ ψ ex a' w' q1 q2 q3 q4 q5
      cases q1 with
      | nrm => exact absurd hx (hno _)
      | exit id => exact this
      | ret => exact this
      | pan _ => exact this

theorem pieces_stuck (lf : Nat) : ∀ (h : List (Nat × List Nat)) {s : St} {r : AX × St}, ¬ run call lf (pieces [⟨none, bad, none⟩] h) s = some r := by
  have nil : ∀ (h : List (Nat × List Nat)), True := fun _ => trivial
  have one : ∀ {s : St}, runR call [⟨none, bad, none⟩] s = none := fun {s} => by simp [runR, want, bad_none]
  intro h
  induction h with
  | nil => intro s r hr; simp [pieces, run, one] at hr
  | cons p l ih =>
    obtain ⟨n, t⟩ := p
    intro s r hr
    cases l with
    | nil => simp [pieces, run, one] at hr
    | cons q l =>
      cases n with
      | zero =>
        simp only [pieces, List.take_zero, List.drop_zero, run, runR] at hr
        exact ih hr
      | succ n => simp [pieces, run, one] at hr

theorem run_ok (hcall : CallOk P B call) (hm : CallMono call) (hmix : P.follows .mixedOrders = true) (lf : Nat) {c : Code} {d : ACode} (h : CR P nt c d) : ∀ {s s' : St} {x : AX} {φ : Emb} {a : Act} {w : World} {Q : Exit → Act → World → Prop}, run call lf d s = some (x, s') →
    Rel B φ s.H w → GlobR P φ → EnvR φ s.e a.tmps → nt ≤ a.tmps.size → Free φ s.H.next s'.H.next →
    (∀ ψ ex a' w', XR ψ x ex → Step B φ s.H w ψ s'.H w' → EnvR ψ s'.e a'.tmps → a'.tmps.size = a.tmps.size → a'.defers = a.defers → Q ex a' w') → c.wp P Q a w := by
  induction h with
  | skip =>
    intro s s' x φ a w Q hx hr hg he hn hf hQ
    simp [run] at hx; obtain ⟨rfl, rfl⟩ := hx
    exact wp_skip (hQ φ _ a w .nrm (Step.refl hr) he rfl rfl)
  | label k =>
    intro s s' x φ a w Q hx hr hg he hn hf hQ
    simp [run] at hx; obtain ⟨rfl, rfl⟩ := hx
    exact wp_label (hQ φ _ a w .nrm (Step.refl hr) he rfl rfl)
  | exit id =>
    intro s s' x φ a w Q hx hr hg he hn hf hQ
    simp [run] at hx; obtain ⟨rfl, rfl⟩ := hx
    exact wp_exit (hQ φ _ a w (.exit id) (Step.refl hr) he rfl rfl)
  | ret =>
    intro s s' x φ a w Q hx hr hg he hn hf hQ
    simp [run] at hx; obtain ⟨rfl, rfl⟩ := hx
    exact wp_ret (hQ φ _ a w .ret (Step.refl hr) he rfl rfl)
  | reg id ops =>
    intro s s' x φ a w Q hx hr hg he hn hf hQ
    exact wp_region_list (list_ok hcall hm ops.toList hx hr hg he hn hf hQ)
  | regd id ops is D =>
    intro s s' x φ a w Q hx hr hg he hn hf hQ
    exact regd_ok hcall hm hmix D hx hr hg he hn hf hQ
  | regl id ops h =>
    intro s s' x φ a w Q hx hr hg he hn hf hQ
    exact wp_region_list (pieces_ok hcall hm lf h hx hr hg he hn hf hQ)
  | stuck c h =>
    intro s s' x φ a w Q hx hr hg he hn hf hQ
    exact absurd hx (pieces_stuck lf h)
  | bad c =>
    intro s s' x φ a w Q hx hr hg he hn hf hQ
    simp [run, runR, want, bad_none] at hx
  | trim l h ih =>
    intro s s' x φ a w Q hx hr hg he hn hf hQ
    simp only [run] at hx
    split at hx
    · rename_i s1 hx1
      simp only [Option.some.injEq, Prod.mk.injEq] at hx
      obtain ⟨rfl, rfl⟩ := hx
      refine ih hx1 hr hg he hn hf fun ψ ex a' w' q1 q2 q3 q4 q5 => ?_
      exact hQ ψ ex a' w' q1 q2 (envR_keep q3 (some l)) q4 q5
    · exact ih hx hr hg he hn hf hQ
  | seq h1 h2 ih1 ih2 =>
    intro s s' x φ a w Q hx hr hg he hn hf hQ
    simp only [run] at hx
    split at hx
    · rename_i s1 hx1
      have n1 := run_next hm lf _ hx1
      have n2 := run_next hm lf _ hx
      refine wp_seq (ih1 hx1 hr hg he hn (hf.mono (Nat.le_refl _) n2) fun ψ ex a' w' q1 q2 q3 q4 q5 => ?_)
      obtain rfl := q1.nrm_inv
      have hle := q2.le (hf.mono (Nat.le_refl _) n2)
      exact ih2 hx q2.rel (hg.mono hle) q3 (by rw [q4]; exact hn) (q2.free hf) fun χ ex a2 w2 r1 r2 r3 r4 r5 => hQ χ ex a2 w2 r1 (q2.trans r2) r3 (by rw [r4, q4]) (by rw [r5, q5])
    · rename_i hno
      refine wp_seq (ih1 hx hr hg he hn hf fun ψ ex a' w' q1 q2 q3 q4 q5 => ?_)
      have := hQ ψ ex a' w' q1 q2 q3 q4 q5
      cases q1 with
      | nrm => exact absurd hx (hno _)
      | exit id => exact this
      | ret => exact this
      | pan _ => exact this
  | cond hc h1 h2 ih1 ih2 =>
    intro s s' x φ a w Q hx hr hg he hn hf hQ
    simp only [run] at hx
    split at hx
    · rename_i t ht
      have := ofOp_ok (a := a) hg he hc
      rw [ht] at this
      have hv := this.bool_inv
      cases t with
      | true => exact wp_cond hv (ih1 (s := { s with e := knowA s.e _ }) (by simpa using hx) hr hg (envR_knowA he _) hn hf hQ)
      | false => exact wp_cond hv (ih2 (s := { s with e := knowA s.e _ }) (by simpa using hx) hr hg (envR_knowA he _) hn hf hQ)
    · cases hx
  | block h1 ih =>
    intro s s' x φ a w Q hx hr hg he hn hf hQ
    rename_i id b y
    simp only [run] at hx
    split at hx
    · rename_i id' s1 h2
      by_cases hid : id' = id
      · rw [if_pos hid] at hx
        simp only [Option.some.injEq, Prod.mk.injEq] at hx
        obtain ⟨rfl, rfl⟩ := hx
        refine wp_block (ih h2 hr hg he hn hf fun ψ ex a' w' q1 q2 q3 q4 q5 => ?_)
        cases q1
        simp only [Exit.inBlock, hid, if_true]
        exact hQ ψ _ a' w' .nrm q2 q3 q4 q5
      · rw [if_neg hid] at hx
        simp only [Option.some.injEq, Prod.mk.injEq] at hx
        obtain ⟨rfl, rfl⟩ := hx
        refine wp_block (ih h2 hr hg he hn hf fun ψ ex a' w' q1 q2 q3 q4 q5 => ?_)
        cases q1
        simp only [Exit.inBlock, hid, if_false]
        exact hQ ψ _ a' w' (.exit id') q2 q3 q4 q5
    · rename_i hno
      refine wp_block (ih hx hr hg he hn hf fun ψ ex a' w' q1 q2 q3 q4 q5 => ?_)
      have := hQ ψ ex a' w' q1 q2 q3 q4 q5
      cases q1 with
      | nrm => exact this
      | exit id => exact absurd hx (hno _ _)
      | ret => exact this
      | pan _ => exact this
  | loop live h1 ih =>
    intro s s' x φ a w Q hx hr hg he hn hf hQ
    rename_i b y
    simp only [run] at hx
    refine wp_loop_rounds lf ?_
    have key : ∀ (n : Nat) {s s' : St} {x : AX} {φ : Emb} {a : Act} {w : World}, iter (run call lf y) live n s = some (x, s') → Rel B φ s.H w → GlobR P φ → EnvR φ s.e a.tmps → nt ≤ a.tmps.size → Free φ s.H.next s'.H.next →
        (∀ ψ ex a' w', XR ψ x ex → Step B φ s.H w ψ s'.H w' → EnvR ψ s'.e a'.tmps → a'.tmps.size = a.tmps.size → a'.defers = a.defers → Q ex a' w') → Code.rounds P b Q n a w := by
      intro n
      induction n with
      | zero => intro s s' x φ a w hx; cases hx
      | succ n ihn =>
        intro s s' x φ a w hx hr hg he hn hf hQ
        simp only [iter] at hx
        rw [rounds_succ]
        split at hx
        · rename_i s1 hx1
          have n1 : s.H.next ≤ s1.H.next := run_next (s := { s with e := keep s.e live }) hm lf _ hx1
          have n2 := iter_next (fun s x s' h => run_next hm lf _ h) n hx
          refine ih hx1 hr hg (envR_keep he live) hn (hf.mono (Nat.le_refl _) n2) fun ψ ex a' w' q1 q2 q3 q4 q5 => ?_
          obtain rfl := q1.nrm_inv
          have hle := q2.le (hf.mono (Nat.le_refl _) n2)
          exact ihn hx q2.rel (hg.mono hle) q3 (by rw [q4]; exact hn) (q2.free hf) fun χ ex a2 w2 r1 r2 r3 r4 r5 => hQ χ ex a2 w2 r1 (q2.trans r2) r3 (by rw [r4, q4]) (by rw [r5, q5])
        · rename_i hno
          refine ih hx hr hg (envR_keep he live) hn hf fun ψ ex a' w' q1 q2 q3 q4 q5 => ?_
          have := hQ ψ ex a' w' q1 q2 q3 q4 q5
          cases q1 with
          | nrm => exact absurd hx (hno _)
          | exit id => exact this
          | ret => exact this
          | pan _ => exact this
    exact key lf hx hr hg he hn hf hQ

end
end Go.Am
