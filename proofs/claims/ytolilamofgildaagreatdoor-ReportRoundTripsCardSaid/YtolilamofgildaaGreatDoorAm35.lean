/-
From a call on the machine to a row: arguments are opened into the machine's values, and a law that answers true on the machine keeps the row's word. Conditions: those that each theorem names.
-/
import Derived.Test.YtolilamofgildaaGreatDoorMc
import Derived.ProofKit
import Derived.OpenShut
import Derived.ChangeOld
import Derived.Below
import Derived.Carry
import Derived.Lib.LaidTab
set_option linter.unusedSimpArgs false
set_option linter.unusedVariables false
namespace Go.Am
open Go.ChangeShapes Go.WideShapes Go.ChangeAt Go.RowKit

/-! ### The call -/

theorem law_calls {P : Program} {f : FuncId} {F : Func} (hF : P.funcs[f]? = some F) (hname : (F.name == "runtime.NumGoroutine") = false) (hb : F.body.isSome = true) {B : Base} {call : Call} (hc : CallOk P B call)
    {args : List AV} {vs : List Value} {H : AH} {w : World} {φ : Emb} (h : call f args H = some (.ok (.bool true), H)) (hr : Rel B φ H w) (hv : VRs φ args vs) (hg : GlobR P φ) (hfoot : ∀ p, ¬ Foot φ H p) :
    Calls P f vs.toArray w fun e w' => e = .returned (.bool true) ∧ Below w.heap.size w w' := by
  have hd := hc f args H _ H φ vs w h hr hv hg (fun i h1 h2 => absurd h1 (by omega))
  have hname' : F.name ≠ "runtime.NumGoroutine" := by simpa using hname
  obtain ⟨c, hcb⟩ := Option.isSome_iff_exists.1 hb
  have hcall : (callFunc f vs.toArray).run P w = .ok (.enter f vs.toArray) w := by simp [callFunc, hF, hname', hcb]
  rw [hcall] at hd
  refine Calls.mono (show Calls P f vs.toArray w _ from hd) ?_
  rintro e w' ⟨ψ, hs, v', rfl, hv'⟩
  obtain rfl := hv'.bool_inv
  exact ⟨rfl, hs.os, hs.tape, hs.output, hs.size, fun k hk => hs.frame k hk (hfoot k)⟩

/-! ### Tables that a row lists -/

theorem tabIs_of_mem {P : Program} {W : World} {name : String} {k : IntKind} {zs : List Int} {g : Nat} {t e : TypeId} {n : Nat}
    (hg : P.globalNamed name = some g) (hty : (P.globals[g]?).map (·.type) = some t) (ht : P.underlying t = some (.array n e)) (he : P.underlying e = some (.int k)) (hce : P.cellsOf e = 1) (hct : P.cellsOf t = n) :
    ∀ {l : List (String × DataW Unit)} {ps : List MemPlace}, DataW.LaidVars P W l ps → (name, Lib.tabData k zs) ∈ l → Lib.TabIs P W name k zs
  | [], ps, h, hm => by cases hm
  | (n', d) :: l, ps, h, hm => by
    obtain ⟨g', t', cs, fuel, p, q, hg', ht', hvar, hd, hrest, _⟩ := h
    rcases List.mem_cons.1 hm with e' | hm
    · obtain ⟨rfl, rfl⟩ := Prod.mk.inj e'
      obtain rfl := Option.some.inj (hg.symm.trans hg')
      obtain rfl := Option.some.inj (hty.symm.trans ht')
      unfold Lib.TabIs
      rw [hvar, ← Lib.cells_of_tab ht he hce hct hd]
    · exact tabIs_of_mem hg hty ht he hce hct hrest hm

/-! ### Arguments -/

inductive FK where
  | int (k : IntKind)
  | str
  | bool

/-- Flat values of these kinds. -/
def Shape : List FK → List AV → Prop
  | [], [] => True
  | .int k :: ks, .int k' n :: as => k' = k ∧ (Lit.int k n).wf = true ∧ Shape ks as
  | .str :: ks, .str s :: as => s.length ≤ maxLen ∧ Shape ks as
  | .bool :: ks, .bool _ :: as => Shape ks as
  | _, _ => False

theorem Shape.flat : ∀ {ks : List FK} {as : List AV}, Shape ks as → as.all flat1 = true
  | [], [], _ => rfl
  | .int _ :: _, .int _ _ :: _, h => by simp [flat1, Shape.flat h.2.2]
  | .str :: _, .str _ :: _, h => by simp [flat1, Shape.flat h.2]
  | .bool :: ks, .bool _ :: as, h => by simp [flat1, Shape.flat (ks := ks) (as := as) h]
theorem Shape.length : ∀ {ks : List FK} {as : List AV}, Shape ks as → as.length = ks.length
  | [], [], _ => rfl
  | .int _ :: _, .int _ _ :: _, h => by simp [Shape.length h.2.2]
  | .str :: _, .str _ :: _, h => by simp [Shape.length h.2]
  | .bool :: ks, .bool _ :: as, h => by simp [Shape.length (ks := ks) (as := as) h]

def FK.fit : FK → Value → Prop
  | .int k, v => ∃ n, v = .int k n ∧ (Lit.int k n).wf = true
  | .str, v => ∃ s : ByteArray, v = .string s ∧ s.size ≤ maxLen
  | .bool, v => ∃ b, v = .bool b

theorem byteArray_eta (s : ByteArray) : (⟨s.data.toList.toArray⟩ : ByteArray) = s := by cases s; simp

theorem shape_of : ∀ {ks : List FK} {cs : List Value}, cs.length = ks.length → (∀ (i : Nat) (k : FK), ks[i]? = some k → ∃ v, cs[i]? = some v ∧ FK.fit k v) → ∃ as, Shape ks as ∧ ∀ φ, VRs φ as cs
  | [], [], _, _ => ⟨[], trivial, fun _ => .nil⟩
  | [], _ :: _, h, _ => by simp at h
  | _ :: _, [], h, _ => by simp at h
  | k :: ks, c :: cs, h, hf => by
    obtain ⟨as, h1, h2⟩ := shape_of (ks := ks) (cs := cs) (by simpa using h) (fun i k hk => by simpa using hf (i + 1) k (by simpa using hk))
    obtain ⟨v, hv, hfit⟩ := hf 0 k rfl
    obtain rfl : c = v := by simpa using hv
    cases k with
    | int k =>
      obtain ⟨n, rfl, hw⟩ := hfit
      exact ⟨.int k n :: as, ⟨rfl, hw, h1⟩, fun φ => .int k n (h2 φ)⟩
    | str =>
      obtain ⟨s, rfl, hs⟩ := hfit
      refine ⟨.str s.data.toList :: as, ⟨by simpa using hs, h1⟩, fun φ => ?_⟩
      have := VRs.str (φ := φ) s.data.toList (h2 φ)
      rw [byteArray_eta] at this
      exact this
    | bool =>
      obtain ⟨b, rfl⟩ := hfit
      exact ⟨.bool b :: as, h1, fun φ => .bool b (h2 φ)⟩

section
variable {H : Type} {enc : TypeId × Value → H} {P : Program} {w : World} {base : Nat} {spare : Nat → Bool} {held : Bool}

/-- The field's kind, by the program's types. -/
def fkB (P : Program) (t : TypeId) : FK → Bool
  | .int k => match P.underlying t with | some (.int k') => k' == k | _ => false
  | .str => match P.underlying t with | some .string => true | _ => false
  | .bool => match P.underlying t with | some .bool => true | _ => false
/-- The fields are one cell each, in order, and of these kinds. -/
def fieldsB (P : Program) : List Field → List FK → Nat → Bool
  | [], [], _ => true
  | f :: fs, k :: ks, i => f.offset == i && P.cellsOf f.type == 1 && fkB P f.type k && fieldsB P fs ks (i + 1)
  | _, _, _ => false

theorem fieldsB_at : ∀ {fs : List Field} {ks : List FK} {i : Nat}, fieldsB P fs ks i = true → fs.length = ks.length ∧ ∀ j k, ks[j]? = some k → ∃ f, fs[j]? = some f ∧ f.offset = i + j ∧ P.cellsOf f.type = 1 ∧ fkB P f.type k = true
  | [], [], _, _ => ⟨rfl, fun j k h => by simp at h⟩
  | [], _ :: _, _, h => by simp [fieldsB] at h
  | _ :: _, [], _, h => by simp [fieldsB] at h
  | f :: fs, k :: ks, i, h => by
    simp only [fieldsB, Bool.and_eq_true, beq_iff_eq] at h
    obtain ⟨⟨⟨h1, h2⟩, h3⟩, h4⟩ := h
    obtain ⟨h5, h6⟩ := fieldsB_at h4
    refine ⟨by simp [h5], fun j k' hk => ?_⟩
    cases j with
    | zero => simp at hk; subst hk; exact ⟨f, rfl, by simpa using h1, h2, h3⟩
    | succ j =>
      obtain ⟨f', a, b, c, d⟩ := h6 j k' (by simpa using hk)
      exact ⟨f', by simpa using a, by omega, c, d⟩

theorem fit_of_trod {fuel : Nat} {t : TypeId} {k : FK} {v : Value} {x : DataW H × List MemPlace} (hk : fkB P t k = true) (h : DataW.trod enc P w base spare held fuel t [v] = some x) : k.fit v := by
  cases k with
  | int k =>
    simp only [fkB] at hk
    split at hk
    · rename_i k' ht
      obtain rfl : k' = k := by simpa using hk
      obtain ⟨n, h1, _, h3⟩ := DataW.trod_int ht h
      exact ⟨n, by simpa using h1, h3⟩
    · cases hk
  | str =>
    simp only [fkB] at hk
    split at hk
    · rename_i ht
      obtain ⟨s, h1, _, h3⟩ := DataW.trod_string ht h
      exact ⟨s, by simpa using h1, h3⟩
    · cases hk
  | bool =>
    simp only [fkB] at hk
    split at hk
    · rename_i ht
      obtain ⟨b, h1, _⟩ := DataW.trod_bool ht h
      exact ⟨b, by simpa using h1⟩
    · cases hk

/-- A struct of flat fields, opened. -/
theorem open_flat {t : TypeId} {fs : Array Field} {ks : List FK} (ht : P.underlying t = some (.struct fs)) (hf : fieldsB P fs.toList ks 0 = true) (hC : P.cellsOf t = ks.length) {fuel : Nat} {cs : List Value} {x : DataW H × List MemPlace}
    (h : DataW.trod enc P w base spare held fuel t cs = some x) : ∃ as, Shape ks as ∧ ∀ φ, VRs φ as cs := by
  obtain ⟨xs, n, _, _, hl, hxl, hat⟩ := DataW.trod_struct ht h
  obtain ⟨hfl, hfa⟩ := fieldsB_at hf
  refine shape_of (hl.trans hC) fun i k hk => ?_
  obtain ⟨f, h1, h2, h3, h4⟩ := hfa i k hk
  have hi : i < ks.length := by
    by_cases hlt : i < ks.length
    · exact hlt
    · rw [List.getElem?_eq_none (by omega)] at hk; cases hk
  have hti := hat i f (by simpa using h1)
  have hcl : i < cs.length := by omega
  have hxi : i < xs.length := by rw [hxl]; have : fs.toList.length = fs.size := by simp
                                 omega
  refine ⟨cs[i], List.getElem?_eq_getElem hcl, ?_⟩
  have h5 : (cs.drop f.offset).take (P.cellsOf f.type) = [cs[i]] := by
    rw [h2, h3, Nat.zero_add, List.drop_eq_getElem_cons hcl]
    rfl
  rw [h5, List.getElem?_eq_getElem hxi] at hti
  exact fit_of_trod h4 hti

/-- A struct of flat fields as an argument. -/
theorem open_arg {r : Reach} {b0 : Nat} {t : TypeId} {fs : Array Field} {ks : List FK} (ht : P.underlying t = some (.struct fs)) (hf : fieldsB P fs.toList ks 0 = true) (hC : P.cellsOf t = ks.length) {v : Value} {d : DataW H} {p : List MemPlace}
    (hv : Value.okWide P w r b0 t v) (h : DataW.Trod enc P w base spare held t v d p) : ∃ as, Shape ks as ∧ ∀ φ, VR φ (.agg as) v := by
  obtain ⟨cs, rfl, hsz⟩ := okWide_struct ht hv
  obtain ⟨fuel, hfu⟩ := h
  obtain ⟨as, h1, h2⟩ := open_flat ht hf hC hfu
  exact ⟨as, h1, fun φ => VRs.agg (by simpa [Value.cells] using h2 φ) .nil⟩
end

/-! ### The first state -/

theorem rel_start {B : Base} {W : World} {φ : Emb} {H : AH} (hk : B.K W) (hT : B.T = []) (hn : B.n = W.heap.size) (hfl : H.floor ≤ H.next)
    (hb : ∀ i b, H.get i = some b → i < H.next ∧ b.ro = true ∧ ∃ p s, φ i = some (p, s, none) ∧ p < B.n ∧ ∀ (j : Nat) v, b.cells[j]? = some v → ∃ v', W.cell? ⟨p, s + j, none⟩ = some v' ∧ VR φ v v') : Rel B φ H W where
  know := ⟨⟨hk, by omega⟩, fun i b h => by rw [hT] at h; cases h⟩
  hB := by omega
  live := fun i b h => (hb i b h).1
  fl := hfl
  blk := fun i b h => by
    obtain ⟨_, h2, p, s, h3, h4, h5⟩ := hb i b h
    exact ⟨p, s, none, h3, fun _ => ⟨h4, rfl⟩, (fun h => by rw [h2] at h; cases h), h5⟩
  inj := fun i j b c p s m q t n h1 _ h3 => by rw [(hb i b h1).2.1] at h3; cases h3
theorem noFoot {φ : Emb} {H : AH} (h : ∀ i b, H.get i = some b → b.ro = true) (p : Nat) : ¬ Foot φ H p := by
  rintro ⟨i, b, s, m, _, h1, h2, _⟩
  rw [h i b h1] at h2
  cases h2

/-! ### The row's word -/

theorem trodAll_below {H : Type} {enc : TypeId × Value → H} {P : Program} (hl : laidOutB P = true) {W W' : World} (hb : Below W.heap.size W W') : ∀ {ts : List TypeId} {vs : List Value} {ds : List (DataW H)} {ps : List MemPlace}, (∀ t ∈ ts, P.readableRec t = true ∧ t < P.types.size) →
    DataW.TrodAll enc P W 0 (fun _ => true) true ts vs ds ps → DataW.TrodAll enc P W' 0 (fun b => decide (b < W.heap.size)) true ts vs ds ps
  | [], vs, ds, ps, _, h => by
    obtain ⟨rfl, rfl, rfl⟩ := trodAll_nil h
    rfl
  | t :: ts, vs, ds, ps, hr, h => by
    obtain ⟨v, vs', d, ds', p, q, rfl, rfl, rfl, h1, h2⟩ := trodAll_cons h
    have hlt : ∀ x ∈ p, x.block < W.heap.size := by obtain ⟨m, hm⟩ := h1; exact DataW.trod_lt m _ _ _ hm
    have hrt := hr t (by simp)
    exact ⟨p, q, Below.trod hl hrt.1 hrt.2 h1 hb hlt, trodAll_below hl hb (fun u hu => hr u (by simp [hu])) h2, rfl⟩

theorem law_post {H : Type} {enc : TypeId × Value → H} {P : Program} (hl : laidOutB P = true) {fn : Func} {s : ChangeSpec} {W W' : World} {args : Array Value} {ds gs : List (DataW H)} {before : List MemPlace} {tb : TypeId}
    (hW : DataW.Whole enc P fn.params.toList s.vars false W args.toList ds gs before) (hvars : s.vars = []) (hres : fn.resultTypes = #[tb]) (htb : P.underlying tb = some .bool) (hr0 : (fn.params.toList.all fun t => P.readableRec t && decide (t < P.types.size)) = true)
    (h1 : (s.fn H (ds ++ gs)).results = [.lit (.bool true)]) (h2 : (s.fn H (ds ++ gs)).args = ds) (h3 : (s.fn H (ds ++ gs)).vars = []) (hb : Below W.heap.size W W') :
    s.post enc P fn false true false false W args (.bool true) W' := by
  have hW' := hW
  have hr : ∀ t ∈ fn.params.toList, P.readableRec t = true ∧ t < P.types.size := fun t ht => by
    have := List.all_eq_true.1 hr0 t ht
    simpa using this
  obtain ⟨p, q, hA, hV, _, _, _⟩ := hW'
  refine ⟨ds, gs, before, [], p, [], hW, ?_, ?_, ?_, hb.frame _, fun h => by cases h⟩
  · rw [hres, h1]
    exact trodAll_mk1 (shut_bool htb _)
  · rw [h2]
    exact trodAll_below hl hb hr hA
  · rw [hvars, h3]
    rfl

end Go.Am
