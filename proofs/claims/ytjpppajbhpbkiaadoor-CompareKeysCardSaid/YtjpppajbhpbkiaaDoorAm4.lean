/-
The operations of the model stand to those of the abstract machine as values stand to values: arithmetic, comparisons, conversions, parts of values, slice expressions. Conditions: those that each theorem names.
-/
import Derived.Test.YtjpppajbhpbkiaaDoorAm3
import Derived.Laws.Strings
import Derived.Laws.Concat
import Derived.Laws.StructEq
import Derived.Laws.Small
import Derived.Laws.Pointers
import Derived.Laws.Cover3
set_option linter.unusedSimpArgs false
set_option linter.unusedVariables false
namespace Go.Am
open Go.RowKit

/-- What an operation comes to. -/
def Does (P : Program) (R : Ending → World → Prop) : Result Next → Prop
  | .ok (.value v) w => R (.returned v) w
  | .ok .skip w => R (.returned Go.undef) w
  | .ok (.enter f args) w => Calls P f args w R
  | .halt (.panic v) w => R (.panicked [{ v, recovered := false }]) w
  | _ => False

def Post (B : Base) (φ : Emb) (H : AH) (w : World) (out : Out) (H' : AH) (e : Ending) (w' : World) : Prop :=
  ∃ ψ, Step B φ H w ψ H' w' ∧ match out with
    | .ok v => ∃ v', e = .returned v' ∧ VR ψ v v'
    | .pan v => ∃ v', e = .panicked [{ v := v', recovered := false }] ∧ VR ψ v v'

theorem Post.ok {B φ H w ψ H' w' v v'} (h : Step B φ H w ψ H' w') (hv : VR ψ v v') : Post B φ H w (.ok v) H' (.returned v') w' := ⟨ψ, h, v', rfl, hv⟩

section
variable {P : Program} {B : Base} {φ : Emb} {H : AH} {w : World} {ρ : Operand → Value}

theorem does_val {o : Oper} {s : Sem Value} {v v' w' ψ H'} (he : execOp ρ o = (do pure (.value (← s)))) (hs : s.run P w = .ok v' w') (h : Step B φ H w ψ H' w') (hv : VR ψ v v') :
    Does P (Post B φ H w (.ok v) H') ((execOp ρ o).run P w) := by
  rw [he]
  simp [hs, Does]
  exact Post.ok h hv

/-- An operation that leaves heap and world. -/
theorem does_same {o : Oper} {s : Sem Value} {v v'} (hr : Rel B φ H w) (he : execOp ρ o = (do pure (.value (← s)))) (hs : s.run P w = .ok v' w) (hv : VR φ v v') :
    Does P (Post B φ H w (.ok v) H) ((execOp ρ o).run P w) := does_val he hs (Step.refl hr) hv

theorem abin_ok {op : BinOp} {t : TypeId} {x y : Operand} {a b r : AV} {u v : Value} (h : abin op a b = some r) (ha : VR φ a u) (hb : VR φ b v) :
    ∃ r', (do eqGuard op t x y u v; binOp op t u v : Sem Value).run P w = .ok r' w ∧ VR φ r r' := by
  unfold abin at h
  split at h
  · rename_i k a k' b
    obtain rfl := ha.int_inv
    obtain rfl := hb.int_inv
    rw [eqGuard_at_int]
    cases op
    case shl =>
      by_cases hz : b < 0
      · simp [hz] at h
      · simp only [hz, if_false, Option.some.injEq] at h
        subst h
        exact ⟨_, by simp only [binOp, Op.shift, hz, if_false, Sem.run_bind, Sem.run_pure, Result.andThen_ok], VR.int _ _⟩
    case shr =>
      by_cases hz : b < 0
      · simp [hz] at h
      · simp only [hz, if_false, Option.some.injEq] at h
        subst h
        exact ⟨_, by simp only [binOp, Op.shift, hz, if_false, Sem.run_bind, Sem.run_pure, Result.andThen_ok], VR.int _ _⟩
    all_goals
      dsimp only at h
      by_cases hk : k = k'
      case neg => simp [hk] at h
      subst hk
      rw [if_pos rfl] at h
      first
        | (by_cases hz : b = 0
           · rw [if_pos hz] at h; cases h
           · rw [if_neg hz] at h
             simp only [Option.some.injEq] at h
             subst h
             refine ⟨_, ?_, VR.int _ _⟩
             simp [binOp, Op.intDiv, hz])
        | (simp only [Option.some.injEq] at h
           subst h
           first
             | (refine ⟨_, ?_, VR.int _ _⟩; simp [binOp, Op.intArith, Op.intBits])
             | (refine ⟨_, ?_, VR.bool _⟩; simp [binOp, Op.intCmp]))
  · rename_i a b
    obtain rfl := ha.str_inv
    obtain rfl := hb.str_inv
    rw [eqGuard_at_string]
    cases op
    case add =>
      dsimp only at h
      split at h <;> simp at h
      subst h
      rename_i hl
      refine ⟨_, ?_, VR.str _⟩
      have h2 : ¬ (((⟨a.toArray⟩ : ByteArray).size + (⟨b.toArray⟩ : ByteArray).size : Nat) : Int) > IntKind.i64.max := by
        simp [ByteArray.size, IntKind.max, IntKind.signed, IntKind.bits]; omega
      simp only [binOp, Op.stringOp, Sem.run_bind, Sem.run_pure, Result.andThen_ok, h2, if_false, ByteArray.mk_append_mk]
    all_goals first
      | (dsimp only at h; simp at h; done)
      | (simp only [Option.some.injEq] at h; subst h; exact ⟨_, by simp only [binOp, Op.stringOp, Sem.run_bind, Sem.run_pure, Result.andThen_ok, ByteArray.toList_mk], VR.bool _⟩)
  · simp at h

theorem aun_ok {op : UnOp} {a r : AV} {u : Value} (h : aun op a = some r) (ha : VR φ a u) : ∃ r', (Op.unary op u).run P w = .ok r' w ∧ VR φ r r' := by
  unfold aun at h
  split at h
  · rename_i k n
    obtain rfl := ha.int_inv
    cases op <;> simp only [Option.some.injEq, reduceCtorEq] at h <;> subst h
    · exact ⟨_, by simp only [Op.unary, Op.intArith, Sem.run_pure], VR.int _ _⟩
    · exact ⟨_, by simp only [Op.unary, Op.intBits, Sem.run_pure], VR.int _ _⟩
  · rename_i b
    obtain rfl := ha.bool_inv
    cases op <;> simp at h; subst h
    exact ⟨_, by simp only [Op.unary, Sem.run_pure], VR.bool _⟩
  · simp at h

end

theorem cells_list {φ : Emb} {w : World} {p q : Nat} : ∀ (cs : List AV), (∀ (j : Nat) (v : AV), cs[j]? = some v → ∃ v', w.cell? ⟨p, q + j, none⟩ = some v' ∧ VR φ v v') →
    ∃ ds : List Value, VRs φ cs ds ∧ ∀ (j : Nat) (v : Value), ds[j]? = some v → w.cell? ⟨p, q + j, none⟩ = some v := by
  intro cs
  induction cs generalizing q with
  | nil => intro _; exact ⟨[], .nil, fun j v h => by simp at h⟩
  | cons a cs ih =>
    intro h
    obtain ⟨v, hv, hr⟩ := h 0 a (by simp)
    obtain ⟨ds, h1, h2⟩ := ih (q := q + 1) (fun j u hj => by
      have := h (j + 1) u (by simpa using hj)
      rwa [show q + (j + 1) = q + 1 + j by omega] at this)
    refine ⟨v :: ds, .cons hr h1, fun j u hj => ?_⟩
    cases j with
    | zero => simp at hj; subst hj; exact hv
    | succ j => rw [show q + (j + 1) = q + 1 + j by omega]; exact h2 j u (by simpa using hj)

theorem cellsAt_ok {B φ H w} (h : Rel B φ H w) {i o n cs p s m} (hc : H.cellsAt i o n = some cs) (e : φ i = some (p, s, m)) :
    cs.length = n ∧ ∃ ds : List Value, VRs φ cs ds ∧ ∀ (j : Nat) (v : Value), ds[j]? = some v → w.cell? ⟨p, s + o + j, none⟩ = some v := by
  unfold AH.cellsAt at hc
  split at hc
  · rename_i b hb
    split at hc <;> simp at hc
    rename_i hl
    subst hc
    obtain ⟨p', s', m', e', br⟩ := h.blk i b hb
    rw [e] at e'; simp at e'; obtain ⟨rfl, rfl, rfl⟩ := e'
    refine ⟨by simp; omega, cells_list _ fun j v hj => ?_⟩
    have hjn : j < n := by
      rcases Nat.lt_or_ge j n with h' | h'
      · exact h'
      · rw [List.getElem?_take_eq_none h'] at hj; simp at hj
    rw [List.getElem?_take_of_lt hjn, List.getElem?_drop] at hj
    obtain ⟨v', e', hv⟩ := br.cell _ v hj
    exact ⟨v', by rw [show s + o + j = s + (o + j) by omega]; exact e', hv⟩
  · simp at hc

theorem load_list {P : Program} {w : World} {p q : Nat} (ds : List Value) (h : ∀ (j : Nat) (v : Value), ds[j]? = some v → w.cell? ⟨p, q + j, none⟩ = some v) :
    (loadCells ⟨p, q, none⟩ ds.length).run P w = .ok ds.toArray w :=
  run_loadCells_list (P := P) w ⟨p, q, none⟩ ds (fun j v hj => by rw [add_eq]; exact h j v hj)

theorem load_none {P : Program} {w : World} (a : Addr) : (loadCells a 0).run P w = .ok #[] w := by
  simpa using run_loadCells_list (P := P) w a [] (by simp)

theorem run_sizeOf' {P : Program} {t n} (h : szOf P t = some n) (w : World) : (sizeOf t).run P w = .ok n w := by
  unfold szOf at h
  cases hi : P.info? t with
  | none => simp [hi] at h
  | some i => simp [hi] at h; subst h; simp [sizeOf, typeInfo, hi]

theorem run_isAgg' {P : Program} {t b} (h : aggT P t = some b) (w : World) : (isAgg t).run P w = .ok b w := by
  unfold aggT at h
  cases hd : P.underlying t with
  | none => simp [hd] at h
  | some d => cases d <;> simp [hd] at h <;> subst h <;> simp [isAgg, run_underlying hd]

theorem partN_none {P : Program} {t} (h : partN P t = some none) : aggT P t = some false := by
  unfold partN at h
  cases ha : aggT P t with
  | none => simp [ha] at h
  | some b => cases b <;> simp [ha] at h; rfl

theorem partN_some {P : Program} {t n} (h : partN P t = some (some n)) : aggT P t = some true ∧ szOf P t = some n := by
  unfold partN at h
  cases ha : aggT P t with
  | none => simp [ha] at h
  | some b => cases b <;> simp [ha] at h; exact ⟨rfl, h⟩

theorem run_loadVar1 {P : Program} {t} (h : partN P t = some none) {w : World} {a : Addr} {v} (hc : w.cell? a = some v) : (loadVar t a).run P w = .ok v w := by
  simp [loadVar, run_isAgg' (partN_none h), hc]

theorem run_loadVarn {P : Program} {t} {w : World} {p q : Nat} (ds : List Value) (h : partN P t = some (some ds.length)) (hc : ∀ (j : Nat) (v : Value), ds[j]? = some v → w.cell? ⟨p, q + j, none⟩ = some v) :
    (loadVar t ⟨p, q, none⟩).run P w = .ok (.agg ds.toArray) w := by
  obtain ⟨h1, h2⟩ := partN_some h
  simp [loadVar, run_isAgg' h1, run_sizeOf' h2, load_list ds hc]

theorem ofBytes_ok {φ : Emb} (s : List UInt8) : VRs φ (ofBytes s) (s.map fun b => .int .u8 b.toNat) := by
  induction s with
  | nil => exact .nil
  | cons b s ih => exact .int _ _ ih

theorem toBytes_ok {φ : Emb} : ∀ {cs : List AV} {s ds}, toBytes cs = some s → VRs φ cs ds → s.length = cs.length ∧ ∀ (j : Nat) (v : Value), ds[j]? = some v → ∃ b : UInt8, s[j]? = some b ∧ v = .int .u8 b.toNat
  | [], s, ds, h, hv => by simp [toBytes] at h; subst h; cases hv; simp
  | a :: cs, s, ds, h, hv => by
    cases a with
    | int k n =>
      cases k <;> simp [toBytes] at h
      obtain ⟨hr, s', h1, rfl⟩ := h
      obtain ⟨v, vs, rfl, h2, h3⟩ := hv.cons_inv
      obtain rfl := h2.int_inv
      obtain ⟨h4, h5⟩ := toBytes_ok h1 h3
      refine ⟨by simp [h4], fun j u hj => ?_⟩
      cases j with
      | zero =>
        simp at hj; subst hj
        refine ⟨_, by simp; rfl, ?_⟩
        have : n.toNat < 256 := by omega
        simp [UInt8.toNat_ofNat', Nat.mod_eq_of_lt this]
        omega
      | succ j => simpa using h5 j u (by simpa using hj)
    | _ => simp [toBytes] at h

theorem bytes_first {P : Program} {w : World} (s : List UInt8) (k : Nat) :
    (Builtin.firstCells 1 k (.string ⟨s.toArray⟩)).run P w = .ok ((s.take k).map fun b => (.int .u8 b.toNat : Value)).toArray w := by
  have h : ((⟨s.toArray⟩ : ByteArray).extract 0 k).data = (s.take k).toArray := by
    apply Array.ext'
    rw [ByteArray.data_extract]
    simp
  simp [Builtin.firstCells, h]

/-- What 'append' and 'copy' take over. -/
theorem takeFrom_ok {B φ H w} {P : Program} (h : Rel B φ H w) {z a cs v n} (ht : takeFrom H z a = some cs) (hl : lenOf a = some n) (hv : VR φ a v) :
    cs.length = n * z ∧ (Builtin.lenOf v).run P w = .ok n w ∧ ∃ ds : List Value, VRs φ cs ds ∧ (Builtin.firstCells z n v).run P w = .ok ds.toArray w ∧
      ∀ k, k ≤ n → (Builtin.firstCells z k v).run P w = .ok (ds.take (k * z)).toArray w := by
  cases a with
  | nils =>
    simp [takeFrom] at ht; subst ht; simp [lenOf] at hl; subst hl
    obtain rfl := hv.nils_inv
    refine ⟨by simp, by simp [Builtin.lenOf], [], .nil, by simp [Builtin.firstCells], fun k hk => by simp [Builtin.firstCells]⟩
  | esl =>
    simp [takeFrom] at ht; subst ht; simp [lenOf] at hl; subst hl
    obtain ⟨a, c, rfl⟩ := hv.esl_inv
    refine ⟨by simp, by simp [Builtin.lenOf], [], .nil, by simp [Builtin.firstCells, load_none], fun k hk => ?_⟩
    obtain rfl : k = 0 := by omega
    simp [Builtin.firstCells, load_none]
  | sl i o z' n' c =>
    simp only [takeFrom] at ht
    split at ht
    · rename_i hz; subst hz
      simp [lenOf] at hl; subst hl
      rcases hv.sl_inv with ⟨p, s, m, cc, e, h1, h2, h3, rfl⟩ | ⟨rfl, h1, a, rfl⟩
      · obtain ⟨hlen, ds, h4, h5⟩ := cellsAt_ok h ht e
        have hdl := h4.length
        refine ⟨hlen, by simp [Builtin.lenOf], ds, h4, ?_, fun k hk => ?_⟩
        · have := load_list (P := P) ds h5
          rw [← hdl, hlen] at this
          simp [Builtin.firstCells, this]
        · have hkz : k * z' ≤ n' * z' := Nat.mul_le_mul_right _ hk
          have := load_list (P := P) (ds.take (k * z')) (fun j v hj => h5 j v (by
            rw [List.getElem?_take] at hj; split at hj <;> simp_all))
          rw [List.length_take, Nat.min_eq_left (by omega)] at this
          simp [Builtin.firstCells, this]
      · have hc : cs = [] := by
          unfold AH.cellsAt at ht
          split at ht
          · split at ht <;> simp at ht; first | exact ht.symm | exact ht
          · simp at ht
        subst hc
        refine ⟨by simp, by simp [Builtin.lenOf], [], .nil, by simp [Builtin.firstCells, load_none], fun k hk => ?_⟩
        obtain rfl : k = 0 := by omega
        simp [Builtin.firstCells, load_none]
    · simp at ht
  | str s =>
    simp only [takeFrom] at ht
    split at ht <;> simp at ht
    rename_i hz; subst hz; subst ht
    simp [lenOf] at hl; subst hl
    obtain rfl := hv.str_inv
    refine ⟨by simp [ofBytes], by simp [Builtin.lenOf, ByteArray.size], _, ofBytes_ok s, ?_, fun k hk => ?_⟩
    · have := bytes_first (P := P) (w := w) s s.length
      rw [List.take_length] at this
      exact this
    · rw [Nat.mul_one, ← List.map_take]; exact bytes_first s k
  | _ => simp [takeFrom] at ht

end Go.Am
