/-
The same of comparisons by '==' and '!=', of values that are built, of slice expressions and indexes. Conditions: those that each theorem names.
-/
import Derived.Test.YtjpppajbhpbkiaaDoorAm4
set_option linter.unusedSimpArgs false
set_option linter.unusedVariables false
namespace Go.Am
open Go.RowKit

section
variable {P : Program} {φ : Emb} {w : World}

theorem aeq_ok {t : TypeId} {d : ETy} {lit : Bool} {a b : AV} {r : Bool} {u v : Value} (ht : ety1 P t = some d) (h : aeq d lit a b = some r) (ha : VR φ a u) (hb : VR φ b v) (n : Nat) :
    (Op.equalIn (n + 1) t u v).run P w = .ok r w := by
  unfold ety1 at ht
  unfold aeq at h
  split at h <;> first | (simp at h; done) | skip
  · rename_i k a k' b
    obtain rfl := ha.int_inv
    obtain rfl := hb.int_inv
    split at h <;> simp at h
    rename_i hk; subst hk; subst h
    cases hu : P.underlying t with
    | none => simp [hu] at ht
    | some d => cases d <;> simp [hu] at ht <;> first | exact run_equalIn_int w n t k _ a b hu | (split at ht <;> simp at ht)
  · obtain rfl := ha.bool_inv
    obtain rfl := hb.bool_inv
    simp at h; subst h
    cases hu : P.underlying t with
    | none => simp [hu] at ht
    | some d => cases d <;> simp [hu] at ht <;> first | exact run_equalIn_bool w n t _ _ hu | (split at ht <;> simp at ht)
  · obtain rfl := ha.str_inv
    obtain rfl := hb.str_inv
    simp at h; subst h
    cases hu : P.underlying t with
    | none => simp [hu] at ht
    | some d => cases d <;> simp [hu] at ht <;> first | (rw [run_equalIn_string w n t _ _ hu, ByteArray.toList_mk, ByteArray.toList_mk]) | (split at ht <;> simp at ht)
  all_goals
    cases hu : P.underlying t with
    | none => simp [hu] at ht
    | some d => ?_
    cases d <;> simp [hu] at ht
  all_goals try (split at ht <;> simp at ht; done)
  all_goals try (simp at h; subst h)
  case h_4.some.pointer e => obtain rfl := ha.nilp_inv; obtain rfl := hb.nilp_inv; simp [Op.equalIn, run_underlying hu]
  case h_6.some.pointer e => obtain rfl := ha.nilp_inv; obtain ⟨_, _, _, _, rfl⟩ := hb.ptr_inv; simp [Op.equalIn, run_underlying hu]
  case h_7.some.pointer e => obtain rfl := hb.nilp_inv; obtain ⟨_, _, _, _, rfl⟩ := ha.ptr_inv; simp [Op.equalIn, run_underlying hu]
  case h_5.some.pointer e =>
    split at ht
    · rename_i k hsz
      split at h <;> simp at h
      rename_i hij; subst hij; subst h
      obtain ⟨p, s, m, e1, rfl⟩ := ha.ptr_inv
      obtain ⟨p', s', m', e2, rfl⟩ := hb.ptr_inv
      rw [e1] at e2; simp at e2; obtain ⟨rfl, rfl, rfl⟩ := e2
      simp [Op.equalIn, run_underlying hu, run_sizeOf' hsz, sameAddr]
      rw [Bool.eq_iff_iff]; simp
    · simp at ht
  case h_8.some.interface e => obtain rfl := ha.nili_inv; obtain rfl := hb.nili_inv; simp at h; simp [Op.equalIn, run_underlying hu, h.2]
  case h_9.some.interface e => obtain rfl := ha.nili_inv; obtain ⟨_, _, rfl⟩ := hb.iface_inv; simp [Op.equalIn, run_underlying hu]
  case h_10.some.interface e => obtain rfl := hb.nili_inv; obtain ⟨_, _, rfl⟩ := ha.iface_inv; simp [Op.equalIn, run_underlying hu]
  case h_11.some.slice e => obtain rfl := ha.nils_inv; obtain rfl := hb.nils_inv; simp [Op.equalIn, run_underlying hu]
  case h_12.some.slice e => obtain rfl := ha.nils_inv; rcases hb.sl_inv with ⟨_, _, _, _, _, _, _, _, rfl⟩ | ⟨_, _, _, rfl⟩ <;> simp [Op.equalIn, run_underlying hu]
  case h_13.some.slice e => obtain rfl := ha.nils_inv; obtain ⟨_, _, rfl⟩ := hb.esl_inv; simp [Op.equalIn, run_underlying hu]
  case h_14.some.slice e => obtain rfl := hb.nils_inv; rcases ha.sl_inv with ⟨_, _, _, _, _, _, _, _, rfl⟩ | ⟨_, _, _, rfl⟩ <;> simp [Op.equalIn, run_underlying hu]
  case h_15.some.slice e => obtain rfl := hb.nils_inv; obtain ⟨_, _, rfl⟩ := ha.esl_inv; simp [Op.equalIn, run_underlying hu]
  case h_16.some.func e => obtain rfl := ha.nilf_inv; obtain rfl := hb.nilf_inv; simp [Op.equalIn, run_underlying hu]
  case h_17.some.func e => obtain rfl := ha.nilf_inv; obtain ⟨_, _, rfl⟩ := hb.func_inv; simp [Op.equalIn, run_underlying hu]
  case h_18.some.func e => obtain rfl := hb.nilf_inv; obtain ⟨_, _, rfl⟩ := ha.func_inv; simp [Op.equalIn, run_underlying hu]

end
end Go.Am
