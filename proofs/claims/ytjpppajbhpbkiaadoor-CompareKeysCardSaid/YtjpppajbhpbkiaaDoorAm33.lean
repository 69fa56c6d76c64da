/-
strings.Builder on the machine: what a builder holds. Conditions: those that each theorem names.
-/
import Derived.Test.YtjpppajbhpbkiaaDoorAm32
set_option linter.unusedSimpArgs false
set_option linter.unusedVariables false
namespace Go.Am

/-- It ends with these values and this heap. -/
def exactK (res : List ARes) (out : List AV) (H' : AH) : AX → St → Prop
  | .nrm, s => resAll s.e s.H res = some out ∧ s.H = H'
  | .ret, s => resAll s.e s.H res = some out ∧ s.H = H'
  | _, _ => False
theorem exactK_nrm (res : List ARes) (out : List AV) (H' : AH) (e : Env) (H : AH) : exactK res out H' .nrm ⟨e, H⟩ = (resAll e H res = some out ∧ H = H') := rfl
theorem exactK_ret (res : List ARes) (out : List AV) (H' : AH) (e : Env) (H : AH) : exactK res out H' .ret ⟨e, H⟩ = (resAll e H res = some out ∧ H = H') := rfl

theorem ecall_W (G : Nat) (T : List (Nat × Blk)) (X : Ext) (M : Tab) {f : FuncId} {fn : AFun} {args : List AV} {H : AH} {out : List AV} {H' : AH} (hX : X f = none) (hM : M f = some fn) (hv : fn.view = false)
    (h : W (ecall G T X M) (exactK fn.res out H') [] (number args 0) H fn.code) : ecall G T X M f args H = some (.ok (pack out), H') := by
  refine ecall_wp G T X M hX hM hv (wp_mono fn.code (fun x s hx => ?_) (wp_W _ _ _ _ h))
  cases x with
  | nrm => exact ⟨out, hx.1, rfl, hx.2⟩
  | ret => exact ⟨out, hx.1, rfl, hx.2⟩
  | exit id => exact hx.elim
  | pan v => exact hx.elim

/-- A builder at p that holds s. -/
def Bld (tyB tyU : TypeId) (H : AH) (p : Nat) (s : List UInt8) : Prop :=
  H.floor ≤ p ∧ p < H.next ∧
  ((s = [] ∧ (H.get p = some ⟨[.nilp, .nils], false, tyB, true, true⟩ ∨ H.get p = some ⟨[.ptr p 0, .nils], false, tyB, true, true⟩)) ∨
   (∃ q, q ≠ p ∧ H.floor ≤ q ∧ q < H.next ∧ H.get p = some ⟨[.ptr p 0, .sl q 0 1 s.length none], false, tyB, true, true⟩ ∧ H.get q = some ⟨ofBytes s, false, tyU, false, true⟩))

theorem get_push_new (H : AH) (ty : TypeId) (wh : Bool) (cs : List AV) : (H.push ty wh cs).get H.next = some ⟨cs, false, ty, wh, true⟩ := by rw [get_push, if_pos rfl]
theorem get_push_old (H : AH) (ty : TypeId) (wh : Bool) (cs : List AV) {i : Nat} (h : i < H.next) : (H.push ty wh cs).get i = H.get i := by rw [get_push, if_neg (by omega)]

theorem ofBytes_append (s t : List UInt8) : ofBytes s ++ ofBytes t = ofBytes (s ++ t) := by simp [ofBytes]
theorem ofBytes_length (s : List UInt8) : (ofBytes s).length = s.length := by simp [ofBytes]
theorem ofBytes_flat (s : List UInt8) : (ofBytes s).all flat1 = true := by simp [ofBytes, flat1]
theorem ofBytes_solid (s : List UInt8) : (ofBytes s).all solid = true := by simp [ofBytes, solid]
theorem toBytes_of (s : List UInt8) : toBytes (ofBytes s) = some s := by
  induction s with
  | nil => rfl
  | cons b s ih =>
    have h1 : (0 : Int) ≤ (b.toNat : Int) ∧ (b.toNat : Int) < 256 := by have := b.toNat_lt; omega
    have ih' : toBytes (s.map fun b => .int .u8 b.toNat) = some s := ih
    simp only [ofBytes, List.map_cons, toBytes, h1, and_self, if_true, ih', Option.map_some, Int.toNat_natCast, UInt8.ofNat_toNat]

/-- An append to a row of bytes of one's own. -/
theorem aapp_own {H : AH} {q : Nat} {ty : TypeId} {s : List UInt8} {wh s0 : Bool} {new : List AV} (hq : H.get q = some ⟨ofBytes s, false, ty, wh, s0⟩) (hfl : H.floor ≤ q) (hne : new ≠ []) (hlen : s.length + new.length ≤ 70368744177664) :
    aapp H ty 1 1 (.sl q 0 1 s.length none) new = some (.ok (.sl H.next 0 1 (s.length + new.length) none), H.turn q ty (s0 && true) (ofBytes s ++ new)) := by
  have h1 : (s.length + new.length) * (1 + 1) ≤ 140737488355328 := by omega
  have h2 : H.cellsAt q 0 (s.length * 1) = some (ofBytes s) := by
    have h3 : 0 + s.length * 1 ≤ (ofBytes s).length := by rw [ofBytes_length]; omega
    simp only [AH.cellsAt, hq, h3, if_true, List.drop_zero]
    rw [List.take_of_length_le (by rw [ofBytes_length]; omega)]
  have h4 : (1 : Nat) = 1 ∧ ¬ (1 : Nat) = 0 ∧ (s.length + new.length / 1) * (1 + 1) ≤ 140737488355328 ∧ new.length % 1 = 0 := ⟨rfl, by omega, by rw [Nat.div_one]; exact h1, Nat.mod_one _⟩
  unfold aapp
  dsimp only
  rw [if_pos h4, if_neg hne]
  simp only [h2, hq, hfl, reduceCtorEq, if_false, and_self, if_true, ok1, Nat.div_one]
  rfl

/-- All names are below the next one. -/
def Names (H : AH) : Prop := ∀ x ∈ H.blks, x.1 < H.next

theorem Names.new {H : AH} (h : Names H) : newBlks H.blks H.next = [] := by
  unfold newBlks
  rw [List.filter_eq_nil_iff]
  intro x hx
  have := h x hx
  simp; omega

theorem Names.push {H : AH} (h : Names H) (ty : TypeId) (wh : Bool) (cs : List AV) : Names (H.push ty wh cs) := fun x hx => by
  show x.1 < H.next + 1
  rcases List.mem_cons.1 hx with rfl | hx
  · exact Nat.lt_succ_self _
  · have := h x hx; omega

theorem mem_rpl {l : List (Nat × Blk)} {i : Nat} {b : Blk} {x : Nat × Blk} (h : x ∈ rpl l i b) : ∃ y ∈ l, y.1 = x.1 := by
  induction l with
  | nil => cases h
  | cons y l ih =>
    obtain ⟨j, c⟩ := y
    simp only [rpl] at h
    split at h
    · rcases List.mem_cons.1 h with rfl | h
      · exact ⟨(j, c), by simp, rfl⟩
      · exact ⟨x, by simp [h], rfl⟩
    · rcases List.mem_cons.1 h with rfl | h
      · exact ⟨(j, c), by simp, rfl⟩
      · obtain ⟨y, hy, e⟩ := ih h; exact ⟨y, by simp [hy], e⟩

theorem mem_del {l : List (Nat × Blk)} {i : Nat} {x : Nat × Blk} (h : x ∈ del l i) : x ∈ l := by
  induction l with
  | nil => cases h
  | cons y l ih =>
    obtain ⟨j, c⟩ := y
    simp only [del] at h
    split at h
    · exact List.mem_cons_of_mem _ (ih h)
    · rcases List.mem_cons.1 h with rfl | h
      · simp
      · exact List.mem_cons_of_mem _ (ih h)

theorem Names.put {H : AH} (h : Names H) (i : Nat) (b : Blk) : Names (H.put i b) := fun x hx => by
  obtain ⟨y, hy, e⟩ := mem_rpl hx
  have := h y hy
  show x.1 < H.next
  omega

theorem Names.turn {H : AH} (h : Names H) (i : Nat) (ty : TypeId) (s0 : Bool) (cs : List AV) : Names (H.turn i ty s0 cs) := fun x hx => by
  show x.1 < H.next + 1
  rcases List.mem_cons.1 hx with rfl | hx
  · exact Nat.lt_succ_self _
  · have := h x (mem_del hx); omega

/-- A loop, by a name of its own. -/
theorem W_loopN {call : Call} {K : AX → St → Prop} {ks : List Fr} {e : Env} {H : AH} {L : ACode} {live : List Nat} {b : ACode} (hL : L = .loop (some live) b) (h : W call K (.code L :: ks) (kp e live) H b) : W call K ks e H L := by
  subst hL
  refine W_loop _ _ _ _ _ ?_
  rw [kp_eq]
  exact h

end Go.Am
