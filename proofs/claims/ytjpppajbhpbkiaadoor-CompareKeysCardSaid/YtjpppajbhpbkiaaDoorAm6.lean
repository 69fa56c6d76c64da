/-
The same of structs' comparison, of values that are built, of slice expressions and indexes. Conditions: those that each theorem names.
-/
import Derived.Test.YtjpppajbhpbkiaaDoorAm5
set_option linter.unusedSimpArgs false
set_option linter.unusedVariables false
namespace Go.Am
open Go.RowKit

section
variable {P : Program} {φ : Emb} {w : World}

theorem part1_ok {t : TypeId} (h : aggT P t = some false) {xs : Array Value} {o : Nat} {v : Value} (hv : xs[o]? = some v) : (part t xs o).run P w = .ok v w := by
  simp [part, run_isAgg' h, hv]

theorem partn_ok {t : TypeId} {n : Nat} (h : aggT P t = some true) (hn : szOf P t = some n) (xs : Array Value) (o : Nat) : (part t xs o).run P w = .ok (.agg (xs.extract o (o + n))) w := by
  simp [part, run_isAgg' h, run_sizeOf' hn]

theorem VRs.extract {cs : List AV} {ds : Array Value} (h : VRs φ cs ds.toList) (o n : Nat) : VRs φ ((cs.drop o).take n) (ds.extract o (o + n)).toList := by
  have : (ds.extract o (o + n)).toList = (ds.toList.drop o).take n := by
    rw [Array.toList_extract, List.extract_eq_take_drop]
    congr 1
    omega
  rw [this]
  exact (h.drop o).take n

/-- A part of a struct or an array. -/
theorem fldOf_ok {t : TypeId} {n : Option Nat} (hn : partN P t = some n) {cs : List AV} {ds : Array Value} (h : VRs φ cs ds.toList) {o : Nat} {a : AV} (ha : fldOf cs o n = some a) :
    ∃ v, (part t ds o).run P w = .ok v w ∧ VR φ a v := by
  cases n with
  | none =>
    simp only [fldOf] at ha
    obtain ⟨v, hv, hr⟩ := h.get ha
    exact ⟨v, part1_ok (partN_none hn) (by simpa using hv), hr⟩
  | some n =>
    simp only [fldOf, Option.some.injEq] at ha
    subst ha
    obtain ⟨h1, h2⟩ := partN_some hn
    exact ⟨_, partn_ok h1 h2 ds o, VR.agg (h.extract o n)⟩

theorem etyFs_cons {f : Field} {fs : List Field} {l} (h : etyFs P (f :: fs) = some l) :
    f.name ≠ "_" ∧ ∃ d l', ety1 P f.type = some d ∧ aggT P f.type = some false ∧ etyFs P fs = some l' ∧ l = (f.offset, none, d) :: l' := by
  unfold etyFs at h
  split at h
  · simp at h
  rename_i hn
  refine ⟨hn, ?_⟩
  cases hu : P.underlying f.type with
  | none => simp [hu] at h
  | some d =>
    cases hl : etyFs P fs with
    | none => cases d <;> simp [hu, hl] at h
    | some l' => cases d <;> simp [hu, hl] at h <;> subst h <;> exact ⟨_, l', by simp [ety1, hu], by simp [aggT, hu], rfl, rfl⟩

theorem eqFields_ok (n : Nat) {cs ds : List AV} {xs ys : Array Value} (hx : VRs φ cs xs.toList) (hy : VRs φ ds ys.toList) :
    ∀ {fs : List Field} {l : List (Nat × Option Nat × ETy)} {r}, etyFs P fs = some l → aeqs l cs ds = some r → (Op.eqFields (n + 1) xs ys fs).run P w = .ok r w
  | [], l, r, h, hr => by simp [etyFs] at h; subst h; simp [aeqs] at hr; subst hr; simp [Op.eqFields]
  | f :: fs, l, r, h, hr => by
    obtain ⟨hn, d, l', h1, h2, h3, rfl⟩ := etyFs_cons h
    simp only [aeqs] at hr
    split at hr
    · rename_i a b ha hb
      obtain ⟨u, hu, hru⟩ := hx.get ha
      obtain ⟨v, hv, hrv⟩ := hy.get hb
      have hpu := part1_ok (P := P) (w := w) h2 (xs := xs) (o := f.offset) (by simpa using hu)
      have hpv := part1_ok (P := P) (w := w) h2 (xs := ys) (o := f.offset) (by simpa using hv)
      split at hr
      · rename_i he
        have := aeq_ok (P := P) (w := w) h1 he hru hrv n
        simp [Op.eqFields, hn, hpu, hpv, this, eqFields_ok n hx hy h3 hr]
      · rename_i he
        have := aeq_ok (P := P) (w := w) h1 he hru hrv n
        simp at hr; subst hr
        simp [Op.eqFields, hn, hpu, hpv, this]
      · simp at hr
    · simp at hr

theorem equal_ok {t : TypeId} {d : ETy} {lit : Bool} {a b r : AV} {neg : Bool} {u v : Value} (ht : ety P t = some d) (h : aeqv neg lit d a b = some r) (ha : VR φ a u) (hb : VR φ b v) :
    ∃ q : Bool, r = .bool (q != neg) ∧ (Op.equal t u v).run P w = .ok q w := by
  unfold aeqv at h
  split at h
  · rename_i fs xs ys
    simp only [Option.map_eq_some_iff] at h
    obtain ⟨q, hq, rfl⟩ := h
    obtain ⟨xs', hx, rfl⟩ := ha.agg_inv
    obtain ⟨ys', hy, rfl⟩ := hb.agg_inv
    refine ⟨q, rfl, ?_⟩
    unfold ety at ht
    split at ht
    · rename_i fields hu
      split at ht
      · simp at ht
      rename_i hs
      simp only [Bool.or_eq_true, not_or, Bool.not_eq_true] at hs
      simp only [Option.map_eq_some_iff, ETy.st.injEq] at ht
      obtain ⟨l, hl, rfl⟩ := ht
      have hf : P.fieldsOf t = fields := by simp [Program.fieldsOf, hu]
      have := run_equalIn_struct (P := P) w 9999 t xs' ys' (by rw [hf]; exact hu) hs.1
      rw [hf] at this
      show (Op.equalIn (9999 + 1) t _ _).run P w = _
      rw [this]
      exact eqFields_ok 9998 hx hy hl hq
    · unfold ety1 at ht
      split at ht <;> first | (simp at ht; done) | (split at ht <;> simp at ht)
  · rename_i d' x' y' hne
    simp only [Option.map_eq_some_iff] at h
    obtain ⟨q, hq, rfl⟩ := h
    refine ⟨q, rfl, ?_⟩
    have ht1 : ety1 P t = some d := by
      unfold ety at ht
      split at ht
      · rename_i fields hu
        split at ht
        · simp at ht
        simp only [Option.map_eq_some_iff] at ht
        obtain ⟨l, _, rfl⟩ := ht
        simp [aeq] at hq
      · exact ht
    exact aeq_ok ht1 hq ha hb 9999

theorem guard_nil {op : BinOp} {t : TypeId} {x y : Operand} (hop : op = .eql ∨ op = .neq) (hc : (isConst x || isConst y) = true) : (eqGuard op t x y .nilIface .nilIface).run P w = .ok () w := by
  cases x <;> cases y <;> simp [isConst] at hc <;> rcases hop with rfl | rfl <;> simp [eqGuard]

/-- '==' and '!=' of values that are no numbers and no strings. -/
theorem aeqv_ok {op : BinOp} {t : TypeId} {x y : Operand} {d : ETy} {a b r : AV} {u v : Value} (hop : op = .eql ∨ op = .neq) (ht : ety P t = some d) (hd : d ≠ .int ∧ d ≠ .str)
    (h : aeqv (op == .neq) (isConst x || isConst y) d a b = some r) (ha : VR φ a u) (hb : VR φ b v) :
    ∃ r', (do eqGuard op t x y u v; binOp op t u v : Sem Value).run P w = .ok r' w ∧ VR φ r r' := by
  obtain ⟨q, rfl, hq⟩ := equal_ok (w := w) ht h ha hb
  refine ⟨_, ?_, VR.bool _⟩
  have hg : (eqGuard op t x y u v).run P w = .ok () w := by
    unfold aeqv at h
    split at h
    · rename_i fs xs ys
      obtain ⟨xs', hx, rfl⟩ := ha.agg_inv
      obtain ⟨ys', hy, rfl⟩ := hb.agg_inv
      unfold ety at ht
      split at ht
      · split at ht
        · simp at ht
        rename_i hs
        simp only [Bool.or_eq_true, not_or, Bool.not_eq_true] at hs
        rcases hop with rfl | rfl <;> simp [eqGuard, hs.2]
      · unfold ety1 at ht
        split at ht <;> first | (simp at ht; done) | (split at ht <;> simp at ht)
    · rename_i hne
      simp only [Option.map_eq_some_iff] at h
      obtain ⟨q', hq', _⟩ := h
      unfold aeq at hq'
      split at hq' <;> first
        | (simp at hq'; done)
        | (obtain rfl := ha.int_inv; rw [eqGuard_at_int]; rfl)
        | (obtain rfl := ha.bool_inv; rw [eqGuard_at_bool]; rfl)
        | (obtain rfl := ha.str_inv; rw [eqGuard_at_string]; rfl)
        | (obtain rfl := ha.nilp_inv; rw [eqGuard_at_pointer]; rfl)
        | (obtain ⟨_, _, _, _, rfl⟩ := ha.ptr_inv; rw [eqGuard_at_pointer]; rfl)
        | (obtain rfl := ha.nils_inv; rcases hop with rfl | rfl <;> simp [eqGuard])
        | (rcases ha.sl_inv with ⟨_, _, _, _, _, _, _, _, rfl⟩ | ⟨_, _, _, rfl⟩ <;> rcases hop with rfl | rfl <;> simp [eqGuard])
        | (obtain ⟨_, _, rfl⟩ := ha.esl_inv; rcases hop with rfl | rfl <;> simp [eqGuard])
        | (obtain rfl := ha.nilf_inv; rcases hop with rfl | rfl <;> simp [eqGuard])
        | (obtain ⟨_, _, rfl⟩ := ha.func_inv; rcases hop with rfl | rfl <;> simp [eqGuard])
        | (obtain ⟨_, _, rfl⟩ := ha.iface_inv; rcases hop with rfl | rfl <;> simp [eqGuard])
        | (obtain rfl := ha.nili_inv; obtain ⟨_, _, rfl⟩ := hb.iface_inv; rcases hop with rfl | rfl <;> simp [eqGuard])
        | skip
      · rename_i hlit
        obtain rfl := ha.nili_inv
        obtain rfl := hb.nili_inv
        have hc : (isConst x || isConst y) = true := by
          cases hcc : (isConst x || isConst y) with
          | true => rfl
          | false => simp [hcc] at hq'
        exact guard_nil hop hc
  have hbin : (binOp op t u v).run P w = .ok (.bool (q != (op == .neq))) w := by
    have key : ∀ u v, (∀ k a, u ≠ .int k a) → (∀ s, u ≠ .string s) → (∀ k a, u ≠ .float k a) → (∀ k a b, u ≠ .complex k a b) → (Op.equal t u v).run P w = .ok q w → (binOp op t u v).run P w = .ok (.bool (q != (op == .neq))) w := by
      intro u v h1 h2 h3 h4 he
      rcases hop with rfl | rfl
      · have e1 : (BinOp.eql == BinOp.neq) = false := rfl
        cases u <;> first | (exact absurd rfl (h1 _ _)) | (exact absurd rfl (h2 _)) | (exact absurd rfl (h3 _ _)) | (exact absurd rfl (h4 _ _ _)) | (simp [binOp, he, e1])
      · have e1 : (BinOp.neq == BinOp.neq) = true := rfl
        cases u <;> first | (exact absurd rfl (h1 _ _)) | (exact absurd rfl (h2 _)) | (exact absurd rfl (h3 _ _)) | (exact absurd rfl (h4 _ _ _)) | (simp [binOp, he, e1])
    refine key u v ?_ ?_ ?_ ?_ hq
    all_goals
      intros
      rintro rfl
      unfold aeqv at h
      split at h
      · cases ha
      · simp only [Option.map_eq_some_iff] at h
        obtain ⟨q', hq', _⟩ := h
        unfold aeq at hq'
        split at hq' <;> first | (simp at hq'; done) | (cases ha; done) | (exact hd.1 rfl) | (exact hd.2 rfl)
  simp [hg, hbin]

end
end Go.Am
