/-
Rules for regions that draw their order. Conditions: a check of the region that is done once.
-/
import Derived.Test.YtjpppajbhpbkiaaDoorAm29
set_option linter.unusedSimpArgs false
set_option linter.unusedVariables false
namespace Go.Am

def ua : Arg → List Nat
  | .t n => [n]
  | .c _ => []
def uoa : Option Arg → List Nat
  | some a => ua a
  | none => []
def uas : List Arg → List Nat
  | [] => []
  | a :: l => ua a ++ uas l
def ups : List (Nat × Nat × Arg) → List Nat
  | [] => []
  | (_, _, a) :: l => ua a ++ ups l

/-- The temporaries that an operation reads. -/
def uses : AOp → List Nat
  | .mov x => ua x
  | .pick c a b => ua c ++ (ua a ++ ua b)
  | .box _ x => ua x
  | .alloc _ _ => []
  | .ld1 a => ua a
  | .ldn _ a => ua a
  | .st _ a x => ua a ++ ua x
  | .bin _ x y => ua x ++ ua y
  | .eqv _ _ _ x y => ua x ++ ua y
  | .un _ x => ua x
  | .conv _ x => ua x
  | .s2b _ x => ua x
  | .b2s x => ua x
  | .fld _ _ x => ua x
  | .fa _ x => ua x
  | .ia _ x i => ua x ++ ua i
  | .iaa _ _ x i => ua x ++ ua i
  | .ids x i => ua x ++ ua i
  | .ida _ _ _ x i => ua x ++ ua i
  | .bld _ ps => ups ps
  | .bsl _ _ _ _ ps => ups ps
  | .sub x l h => ua x ++ (uoa l ++ uoa h)
  | .sls _ x l h m => ua x ++ (uoa l ++ (uoa h ++ uoa m))
  | .sla _ _ x l h m => ua x ++ (uoa l ++ (uoa h ++ uoa m))
  | .lens x => ua x
  | .lenl x => ua x
  | .cvs x => ua x
  | .app _ _ _ x y => ua x ++ ua y
  | .cpy _ x y => ua x ++ ua y
  | .mn x y => ua x ++ ua y
  | .mx x y => ua x ++ ua y
  | .mks _ _ _ _ l c => ua l ++ ua c
  | .ext _ x => ua x
  | .call _ as => uas as
  | .callv f as => ua f ++ uas as
  | .mkf _ cs => uas cs
  | .mki _ x => ua x
  | .ta _ _ _ x => ua x
  | .nlc x => ua x
  | .pan x => ua x
  | .tous x => ua x
  | .frus _ _ x => ua x
  | .usd x => ua x
  | .ustr _ x n => ua x ++ ua n
  | .cap x => ua x

section
variable {e e' : Env}

theorem ua_val {a : Arg} (h : ∀ t ∈ ua a, e.at t = e'.at t) : a.val e = a.val e' := by
  cases a with
  | t n => exact h n (by simp [ua])
  | c v => rfl

theorem uoa_val {a : Option Arg} (h : ∀ t ∈ uoa a, e.at t = e'.at t) : a.map (·.val e) = a.map (·.val e') := by
  cases a with
  | none => rfl
  | some a => simp only [Option.map_some]; rw [ua_val (fun t ht => h t ht)]

theorem uas_val : ∀ {l : List Arg}, (∀ t ∈ uas l, e.at t = e'.at t) → l.map (·.val e) = l.map (·.val e')
  | [], _ => rfl
  | a :: l, h => by
    simp only [List.map_cons]
    rw [ua_val (fun t ht => h t (by simp [uas, ht])), uas_val (fun t ht => h t (by simp [uas, ht]))]

theorem ups_val : ∀ {l : List (Nat × Nat × Arg)}, (∀ t ∈ ups l, e.at t = e'.at t) → (l.map fun (o, n, x) => (o, n, x.val e)) = l.map fun (o, n, x) => (o, n, x.val e')
  | [], _ => rfl
  | (o, n, a) :: l, h => by
    simp only [List.map_cons]
    rw [ua_val (fun t ht => h t (by simp [ups, ht])), ups_val (fun t ht => h t (by simp [ups, ht]))]

theorem exe_congr {call : Call} {op : AOp} {H : AH} (h : ∀ t ∈ uses op, e.at t = e'.at t) : exe call e op H = exe call e' op H := by
  cases op <;> simp only [uses, List.mem_append] at h
  case mov x => simp only [exe, ua_val h]
  case pick c a b => simp only [exe, ua_val (a := c) (fun t ht => h t (.inl ht)), ua_val (a := a) (fun t ht => h t (.inr (.inl ht))), ua_val (a := b) (fun t ht => h t (.inr (.inr ht)))]
  case alloc => rfl
  case bld z ps => simp only [exe]; rw [ups_val h]
  case bsl ty z l zero ps => simp only [exe]; rw [ups_val h]
  case sub x l hh => simp only [exe, ua_val (a := x) (fun t ht => h t (.inl ht)), uoa_val (a := l) (fun t ht => h t (.inr (.inl ht))), uoa_val (a := hh) (fun t ht => h t (.inr (.inr ht)))]
  case sla n z x l hh m => simp only [exe, ua_val (a := x) (fun t ht => h t (.inl ht)), uoa_val (a := l) (fun t ht => h t (.inr (.inl ht))), uoa_val (a := hh) (fun t ht => h t (.inr (.inr (.inl ht))))]
  case sls z x l hh m =>
    have h1 := ua_val (a := x) (fun t ht => h t (.inl ht))
    have h2 := uoa_val (a := l) (fun t ht => h t (.inr (.inl ht)))
    have h3 := uoa_val (a := hh) (fun t ht => h t (.inr (.inr (.inl ht))))
    cases m with
    | none => simp only [exe, h1, h2, h3]
    | some m =>
      have h4 := ua_val (a := m) (fun t ht => h t (.inr (.inr (.inr ht))))
      cases hh with
      | none => simp only [exe, h1, h2, h3, h4]
      | some hh =>
        have h5 := ua_val (a := hh) (fun t ht => h t (.inr (.inr (.inl ht))))
        simp only [exe, h1, h2, h4, h5]
  case call f as => simp only [exe]; rw [uas_val h]
  case callv f as => simp only [exe, ua_val (a := f) (fun t ht => h t (.inl ht)), uas_val (l := as) (fun t ht => h t (.inr ht))]
  case mkf f as => simp only [exe]; rw [uas_val h]
  all_goals first
    | (rename_i x; simp only [exe, ua_val (a := x) h]; done)
    | (rename_i x y; simp only [exe, ua_val (a := x) (fun t ht => h t (.inl ht)), ua_val (a := y) (fun t ht => h t (.inr ht))]; done)
end

def gu : Option (Nat × Bool) → List Nat
  | none => []
  | some (g, _) => [g]

/-- No operation reads what one that is not ordered with it writes. -/
def okD (is : List DIns) : Bool :=
  nodup (is.filterMap fun o => o.ins.dst) && is.zipIdx.all fun (o, j) => (o.late.all (j < ·)) && (uses o.ins.op ++ gu o.ins.guard).all fun t => is.zipIdx.all fun (p, k) => p.ins.dst != some t || o.deps.contains k || o.late.contains k || k == j

/-- What was done, as the environment of the text's order. -/
def doneEnv (done : List DRes) (e : Env) : Env := done.flatMap (fun r => match r.dst with | some d => [(d, r.v)] | none => []) ++ e

structure DInv (is : List DIns) (j : Nat) (done : List DRes) : Prop where
  mem : ∀ r, r ∈ done → r.j < j ∧ ∃ o, is[r.j]? = some o ∧ r.dst = o.ins.dst
  inj : ∀ r q, r ∈ done → q ∈ done → r.j = q.j → r = q
  all : ∀ (k : Nat) (o : DIns), k < j → is[k]? = some o → ∃ r ∈ done, r.j = k

theorem lk_cells_none {L : List DRes} {t : Nat} (h : ∀ r ∈ L, r.dst ≠ some t) : lk (L.flatMap (fun r => match r.dst with | some d => [(d, r.v)] | none => [])) t = none := by
  induction L with
  | nil => rfl
  | cons r L ih =>
    rw [List.flatMap_cons, lk_append, ih fun q hq => h q (by simp [hq])]
    have := h r (by simp)
    cases hd : r.dst with
    | none => rfl
    | some d =>
      have : d ≠ t := fun e => this (by rw [hd, e])
      simp [lk, this]

/-- The environment that an operation sees, and the environment of the text's order, tell the same of what it reads. -/
theorem dEnv_plain {is : List DIns} {j : Nat} {o : DIns} {done : List DRes} {e : Env} (hok : okD is = true) (ho : is[j]? = some o) (hi : DInv is j done)
    {t : Nat} (ht : t ∈ uses o.ins.op ++ gu o.ins.guard) : (dEnv done is o.deps o.late j e).at t = (doneEnv done e).at t := by
  unfold okD at hok
  rw [Bool.and_eq_true, List.all_eq_true] at hok
  have h1 := hok.2 (o, j) (by rw [List.mem_iff_getElem?]; exact ⟨j, by simp [List.getElem?_zipIdx, ho]⟩)
  simp only [Bool.and_eq_true, List.all_eq_true] at h1
  have hlate : ∀ k, k ∈ o.late → ¬ k < j := fun k hk => by
    have := h1.1 k hk
    simp at this
    omega
  have hnod : ∀ (a b : Nat) (p q : DIns) (t : Nat), is[a]? = some p → is[b]? = some q → p.ins.dst = some t → q.ins.dst = some t → a = b := fun a b p q t ha hb h2 h3 => nodup_filterMap hok.1 ha hb h2 h3
  have hchk : ∀ (k : Nat) (p : DIns), is[k]? = some p → p.ins.dst = some t → k ∈ o.deps ∨ k ∈ o.late ∨ k = j := fun k p hk hd => by
    have h2 := h1.2 t ht (p, k) (by rw [List.mem_iff_getElem?]; exact ⟨k, by simp [List.getElem?_zipIdx, hk]⟩)
    simp only [Bool.or_eq_true, bne_iff_ne, ne_eq, beq_iff_eq, List.contains_iff_mem] at h2
    rcases h2 with ((h2 | h2) | h2) | h2
    · exact absurd hd h2
    · exact .inl h2
    · exact .inr (.inl h2)
    · exact .inr (.inr h2)
  have hmask : lk (((is.zipIdx).filter fun (q, k) => !(o.deps.contains k) && !(o.late.contains k) && k != j).flatMap fun (q, _) => match q.ins.dst with | some d => [(d, AV.undef)] | none => []) t = none := by
    have : ∀ x ∈ (is.zipIdx).filter fun (q, k) => !(o.deps.contains k) && !(o.late.contains k) && k != j, x.1.ins.dst ≠ some t := by
      rintro ⟨q, k⟩ hx hd
      rw [List.mem_filter] at hx
      obtain ⟨hx1, hx2⟩ := hx
      have hk : is[k]? = some q := by
        rw [List.mem_iff_getElem?] at hx1
        obtain ⟨m, hm⟩ := hx1
        rw [List.getElem?_zipIdx] at hm
        cases hm2 : is[m]? with
        | none => rw [hm2] at hm; cases hm
        | some d => rw [hm2] at hm; simp at hm; obtain ⟨rfl, rfl⟩ := hm; exact hm2
      simp only [Bool.and_eq_true, Bool.not_eq_true', bne_iff_ne, ne_eq] at hx2
      rcases hchk k q hk hd with h' | h' | h'
      · have : o.deps.contains k = true := by simpa using h'
        rw [this] at hx2; simp at hx2
      · have : o.late.contains k = true := by simpa using h'
        rw [this] at hx2; simp at hx2
      · exact hx2.2 h'
    revert this
    induction (is.zipIdx).filter fun (q, k) => !(o.deps.contains k) && !(o.late.contains k) && k != j with
    | nil => intro _; rfl
    | cons x L ih =>
      intro hx
      rw [List.flatMap_cons, lk_append, ih fun y hy => hx y (by simp [hy])]
      have := hx x (by simp)
      obtain ⟨q, k⟩ := x
      cases hd : q.ins.dst with
      | none => simp [hd, lk]
      | some d =>
        have : d ≠ t := fun e => this (by simp [hd, e])
        simp [hd, lk, this]
  unfold dEnv doneEnv Env.at
  rw [List.append_assoc, lk_append, lk_append, lk_append]
  erw [hmask]
  rw [Option.none_or]
  by_cases hex : ∃ r ∈ done, r.dst = some t
  · obtain ⟨r, hr, hrd⟩ := hex
    obtain ⟨hrj, p, hp, hpd⟩ := hi.mem r hr
    have huniq : ∀ q ∈ done, q.dst = some t → q = r := fun q hq hqd => by
      obtain ⟨_, p', hp', hpd'⟩ := hi.mem q hq
      exact hi.inj q r hq hr (hnod q.j r.j p' p t hp' hp (by rw [← hpd']; exact hqd) (by rw [← hpd]; exact hrd))
    have hdep : r.j ∈ o.deps := by
      rcases hchk r.j p hp (by rw [← hpd]; exact hrd) with h' | h' | h'
      · exact h'
      · exact absurd hrj (hlate r.j h')
      · omega
    have look : ∀ L : List DRes, (∀ q ∈ L, q ∈ done) → r ∈ L → lk (L.flatMap (fun r => match r.dst with | some d => [(d, r.v)] | none => [])) t = some r.v := by
      intro L
      induction L with
      | nil => intro _ h; cases h
      | cons q L ih =>
        intro hsub hmem
        rw [List.flatMap_cons, lk_append]
        by_cases hqd : q.dst = some t
        · have := huniq q (hsub q (by simp)) hqd
          subst this
          simp [hqd, lk]
        · have hrL : r ∈ L := by
            rcases List.mem_cons.1 hmem with e | e
            · subst e; exact absurd hrd hqd
            · exact e
          rw [ih (fun x hx => hsub x (by simp [hx])) hrL]
          cases hd : q.dst with
          | none => simp [lk]
          | some d =>
            have : d ≠ t := fun e => hqd (by rw [hd, e])
            simp [lk, this]
    erw [look _ (fun q hq => (List.mem_filter.1 hq).1) (List.mem_filter.2 ⟨hr, by simpa using hdep⟩), look done (fun q hq => hq) hr]
  · have hno : ∀ r ∈ done, r.dst ≠ some t := fun r hr hrd => hex ⟨r, hr, hrd⟩
    erw [lk_cells_none (fun r hr => hno r (List.mem_filter.1 hr).1), lk_cells_none hno]

def visH (kind : Nat) (deps : List Nat) (base : AH) (seg : List (Nat × List (Nat × Blk))) (next : Nat) : AH :=
  match kind with
  | 0 => ⟨[], next, next⟩
  | 1 => ⟨(seg.filter fun r => deps.contains r.1).flatMap (·.2) ++ base.blks, next, next⟩
  | _ => ⟨seg.flatMap (·.2) ++ base.blks, next, base.floor⟩

/-- The operations of a drawing region, in the text's order, then the rest with the temporaries of l. -/
def Dg0 (call : Call) (K : AX → St → Prop) (ks : List Fr) (l : List Nat) : List DIns → Nat → Env → AH → List (Nat × List (Nat × Blk)) → Nat → Prop
  | [], _, e, base, seg, next => Nx0 call K ks (kp e l) { base with blks := seg.flatMap (·.2) ++ base.blks, next := next }
  | o :: os, j, e, base, seg, next => match o.ins.guard with
    | none => match exe call e o.ins.op (visH o.kind o.deps base seg next) with
      | some (.ok v, H1) => match o.kind with
        | 0 => H1.next = next ∧ Dg0 call K ks l os (j + 1) (putd e o.ins.dst v) base seg next
        | 1 => Dg0 call K ks l os (j + 1) (putd e o.ins.dst v) base ((j, newBlks H1.blks next) :: seg) H1.next
        | _ => Dg0 call K ks l os (j + 1) (putd e o.ins.dst v) H1 [] H1.next
      | _ => False
    | some (g, b) => match e.at g with
      | .bool c => (c = b → match exe call e o.ins.op (visH o.kind o.deps base seg next) with
          | some (.ok v, H1) => match o.kind with
            | 0 => H1.next = next ∧ Dg0 call K ks l os (j + 1) (putd ((g, .bool b) :: e) o.ins.dst v) base seg next
            | 1 => Dg0 call K ks l os (j + 1) (putd ((g, .bool b) :: e) o.ins.dst v) base ((j, newBlks H1.blks next) :: seg) H1.next
            | _ => Dg0 call K ks l os (j + 1) (putd ((g, .bool b) :: e) o.ins.dst v) H1 [] H1.next
          | _ => False) ∧ (c = (!b) → Dg0 call K ks l os (j + 1) (putd ((g, .bool (!b)) :: e) o.ins.dst (.tup [])) base seg next)
      | .tup [] => Dg0 call K ks l os (j + 1) (putd ((g, .tup []) :: e) o.ins.dst (.tup [])) base seg next
      | _ => False

def Do0 (call : Call) (K : AX → St → Prop) (ks : List Fr) (l : List Nat) (os : List DIns) (j : Nat) (e' : Env) (base : AH) (seg : List (Nat × List (Nat × Blk))) (next : Nat) (dst : Option Nat) (kind : Nat) : Option (Out × AH) → Prop
  | some (.ok v, H1) => match kind with
    | 0 => H1.next = next ∧ Dg0 call K ks l os (j + 1) (putd e' dst v) base seg next
    | 1 => Dg0 call K ks l os (j + 1) (putd e' dst v) base ((j, newBlks H1.blks next) :: seg) H1.next
    | _ => Dg0 call K ks l os (j + 1) (putd e' dst v) H1 [] H1.next
  | _ => False

def Df0 (call : Call) (K : AX → St → Prop) (ks : List Fr) (l : List Nat) (os : List DIns) (j : Nat) (e : Env) (base : AH) (seg : List (Nat × List (Nat × Blk))) (next : Nat) (dst : Option Nat) (kind : Nat) (op : AOp) (deps : List Nat) (g : Nat) (b : Bool) : AV → Prop
  | .bool c => (c = b → Do0 call K ks l os j ((g, .bool b) :: e) base seg next dst kind (exe call e op (visH kind deps base seg next))) ∧ (c = (!b) → Dg0 call K ks l os (j + 1) (putd ((g, .bool (!b)) :: e) dst (.tup [])) base seg next)
  | .tup [] => Dg0 call K ks l os (j + 1) (putd ((g, .tup []) :: e) dst (.tup [])) base seg next
  | _ => False

section
variable (call : Call) (K : AX → St → Prop) (ks : List Fr) (l : List Nat) (os : List DIns) (j : Nat) (e e' : Env) (base : AH) (seg : List (Nat × List (Nat × Blk))) (next : Nat) (dst : Option Nat) (kind : Nat) (op : AOp) (deps late : List Nat) (g : Nat)

theorem Dg0_nil : Dg0 call K ks l [] j e base seg next = Nx0 call K ks (kp e l) { base with blks := seg.flatMap (·.2) ++ base.blks, next := next } := rfl
theorem Dg0_one : Dg0 call K ks l (⟨⟨dst, op, .none⟩, deps, late, kind⟩ :: os) j e base seg next = Do0 call K ks l os j e base seg next dst kind (exe call e op (visH kind deps base seg next)) := by
  simp only [Dg0]
  cases exe call e op (visH kind deps base seg next) with
  | none => rfl
  | some p => obtain ⟨out, H'⟩ := p; cases out <;> rfl
theorem Dg0_if (b : Bool) : Dg0 call K ks l (⟨⟨dst, op, some (g, b)⟩, deps, late, kind⟩ :: os) j e base seg next = Df0 call K ks l os j e base seg next dst kind op deps g b (e.at g) := by
  simp only [Dg0]
  cases e.at g with
  | bool c =>
    simp only [Df0]
    cases exe call e op (visH kind deps base seg next) with
    | none => rfl
    | some p => obtain ⟨out, H'⟩ := p; cases out <;> rfl
  | tup vs => cases vs <;> rfl
  | _ => rfl
theorem Do0_0 (v : AV) (H1 : AH) : Do0 call K ks l os j e' base seg next dst 0 (some (.ok v, H1)) = (H1.next = next ∧ Dg0 call K ks l os (j + 1) (putd e' dst v) base seg next) := rfl
theorem Do0_1 (v : AV) (H1 : AH) : Do0 call K ks l os j e' base seg next dst 1 (some (.ok v, H1)) = Dg0 call K ks l os (j + 1) (putd e' dst v) base ((j, newBlks H1.blks next) :: seg) H1.next := rfl
theorem Do0_2 (v : AV) (H1 : AH) : Do0 call K ks l os j e' base seg next dst 2 (some (.ok v, H1)) = Dg0 call K ks l os (j + 1) (putd e' dst v) H1 [] H1.next := rfl
theorem Df0_tt : Df0 call K ks l os j e base seg next dst kind op deps g true (.bool true) = Do0 call K ks l os j ((g, .bool true) :: e) base seg next dst kind (exe call e op (visH kind deps base seg next)) := by simp [Df0]
theorem Df0_ff : Df0 call K ks l os j e base seg next dst kind op deps g false (.bool false) = Do0 call K ks l os j ((g, .bool false) :: e) base seg next dst kind (exe call e op (visH kind deps base seg next)) := by simp [Df0]
theorem Df0_tf : Df0 call K ks l os j e base seg next dst kind op deps g true (.bool false) = Dg0 call K ks l os (j + 1) (putd ((g, .bool false) :: e) dst (.tup [])) base seg next := by simp [Df0]
theorem Df0_ft : Df0 call K ks l os j e base seg next dst kind op deps g false (.bool true) = Dg0 call K ks l os (j + 1) (putd ((g, .bool true) :: e) dst (.tup [])) base seg next := by simp [Df0]
theorem Df0_tup (b : Bool) : Df0 call K ks l os j e base seg next dst kind op deps g b (.tup []) = Dg0 call K ks l os (j + 1) (putd ((g, .tup []) :: e) dst (.tup [])) base seg next := rfl
theorem Df0_dec (b : Bool) (p : Prop) [Decidable p] : Df0 call K ks l os j e base seg next dst kind op deps g b (.bool (decide p)) = ((p → Df0 call K ks l os j e base seg next dst kind op deps g b (.bool true)) ∧ (¬ p → Df0 call K ks l os j e base seg next dst kind op deps g b (.bool false))) := by
  by_cases h : p <;> simp [h]
theorem Df0_beq {α : Type} [BEq α] [LawfulBEq α] (b : Bool) (x y : α) : Df0 call K ks l os j e base seg next dst kind op deps g b (.bool (x == y)) = ((x = y → Df0 call K ks l os j e base seg next dst kind op deps g b (.bool true)) ∧ (¬ x = y → Df0 call K ks l os j e base seg next dst kind op deps g b (.bool false))) := by
  by_cases h : x = y
  · subst h; simp
  · have : (x == y) = false := by simpa using h
    rw [this]; simp [h]
theorem Df0_bne {α : Type} [BEq α] [LawfulBEq α] (b : Bool) (x y : α) : Df0 call K ks l os j e base seg next dst kind op deps g b (.bool (x != y)) = ((x = y → Df0 call K ks l os j e base seg next dst kind op deps g b (.bool false)) ∧ (¬ x = y → Df0 call K ks l os j e base seg next dst kind op deps g b (.bool true))) := by
  by_cases h : x = y
  · subst h; simp
  · have : (x == y) = false := by simpa using h
    simp only [bne, this]; simp [h]
theorem Df0_nbeq {α : Type} [BEq α] [LawfulBEq α] (b : Bool) (x y : α) : Df0 call K ks l os j e base seg next dst kind op deps g b (.bool (!(x == y))) = ((x = y → Df0 call K ks l os j e base seg next dst kind op deps g b (.bool false)) ∧ (¬ x = y → Df0 call K ks l os j e base seg next dst kind op deps g b (.bool true))) := Df0_bne call K ks l os j e base seg next dst kind op deps g b x y
theorem newBlks_cons (i : Nat) (b : Blk) (bs : List (Nat × Blk)) (n : Nat) : newBlks ((i, b) :: bs) n = if n ≤ i then (i, b) :: newBlks bs n else newBlks bs n := by
  unfold newBlks
  by_cases h : n ≤ i <;> simp [h]
theorem newBlks_nil (n : Nat) : newBlks [] n = [] := rfl
end

theorem at_putd {e e2 : Env} (h : ∀ t, e.at t = e2.at t) (d : Option Nat) (v : AV) (t : Nat) : (putd e d v).at t = (putd e2 d v).at t := by
  cases d with
  | none => exact h t
  | some d =>
    by_cases hd : d = t
    · simp [putd, Env.at, lk, hd]
    · have := h t
      simpa [putd, Env.at, lk, hd] using this

theorem at_push {e : Env} {g : Nat} {v : AV} (h : e.at g = v) (t : Nat) : Env.at ((g, v) :: e) t = e.at t := by
  by_cases hd : g = t
  · subst hd; simp [Env.at, lk]; simpa [Env.at] using h.symm
  · simp [Env.at, lk, hd]

theorem kp_congr {e e2 : Env} (h : ∀ t, e.at t = e2.at t) : ∀ l, kp e l = kp e2 l
  | [] => rfl
  | t :: l => by simp only [kp, h t, kp_congr h l]

theorem Dg0_sound {call : Call} {K : AX → St → Prop} {ks : List Fr} {l : List Nat} {is : List DIns} {e0 : Env} (hok : okD is = true) : ∀ (os : List DIns) (j : Nat) (e : Env) (base : AH) (segR : List DRes) (next : Nat) (done : List DRes),
    (∀ (k : Nat), os[k]? = is[j + k]?) → DInv is j done → (∀ t, e.at t = (doneEnv done e0).at t) → Dg0 call K ks l os j e base (segR.map fun r => (r.j, r.new)) next →
    ∃ t', runD call is e0 os j ⟨done, base, segR, next⟩ = some t' ∧ Nx0 call K ks (kp (doneEnv t'.done e0) l) { t'.base with blks := t'.seg.flatMap (·.new) ++ t'.base.blks, next := t'.next }
  | [], j, e, base, segR, next, done, _, hi, he, h => by
    refine ⟨_, rfl, ?_⟩
    rw [Dg0_nil, kp_congr he, List.flatMap_map] at h
    exact h
  | ⟨⟨dst, op, gd⟩, deps, late, kind⟩ :: os, j, e, base, segR, next, done, hos, hi, he, h => by
    have ho : is[j]? = some ⟨⟨dst, op, gd⟩, deps, late, kind⟩ := by have := hos 0; simpa using this.symm
    have hos' : ∀ k, os[k]? = is[j + 1 + k]? := fun k => by have := hos (k + 1); rw [show j + 1 + k = j + (k + 1) by omega]; simpa using this
    have hat : ∀ t, t ∈ uses op ++ gu gd → (dEnv done is deps late j e0).at t = e.at t := fun t ht => by
      rw [he t]
      exact dEnv_plain (o := ⟨⟨dst, op, gd⟩, deps, late, kind⟩) hok ho hi ht
    have hexe : ∀ H, exe call (dEnv done is deps late j e0) op H = exe call e op H := fun H => exe_congr fun t ht => hat t (by simp [ht])
    have hwant : want (dEnv done is deps late j e0) gd = want e gd := by
      cases gd with
      | none => rfl
      | some p =>
        obtain ⟨g, b⟩ := p
        simp only [want]
        rw [hat g (by simp [gu])]
    have hnext : ∀ (v : AV) (new : List (Nat × Blk)), DInv is (j + 1) (⟨j, dst, v, new⟩ :: done) := fun v new => by
      refine ⟨fun r hr => ?_, fun r q hr hq hrq => ?_, fun k o hk hok => ?_⟩
      · rcases List.mem_cons.1 hr with rfl | hr
        · exact ⟨Nat.lt_succ_self _, _, ho, rfl⟩
        · obtain ⟨a, b⟩ := hi.mem r hr; exact ⟨by omega, b⟩
      · rcases List.mem_cons.1 hr with rfl | hr <;> rcases List.mem_cons.1 hq with rfl | hq
        · rfl
        · have := (hi.mem q hq).1; simp at hrq; omega
        · have := (hi.mem r hr).1; simp at hrq; omega
        · exact hi.inj r q hr hq hrq
      · by_cases e : k = j
        · subst e; exact ⟨_, List.mem_cons_self .., rfl⟩
        · obtain ⟨r, hr, hrj⟩ := hi.all k o (by omega) hok; exact ⟨r, by simp [hr], hrj⟩
    have henv : ∀ (e' : Env) (v : AV) (new : List (Nat × Blk)), (∀ t, e'.at t = e.at t) → ∀ t, (putd e' dst v).at t = (doneEnv (⟨j, dst, v, new⟩ :: done) e0).at t := fun e' v new h1 t => by
      have h2 := at_putd (e := e') (e2 := doneEnv done e0) (fun t => (h1 t).trans (he t)) dst v t
      rw [h2]
      cases dst <;> rfl
    have hgo : ∀ e', (∀ t, e'.at t = e.at t) → want e gd = some true → Do0 call K ks l os j e' base (segR.map fun r => (r.j, r.new)) next dst kind (exe call e op (visH kind deps base (segR.map fun r => (r.j, r.new)) next)) →
        ∃ t', runD call is e0 (⟨⟨dst, op, gd⟩, deps, late, kind⟩ :: os) j ⟨done, base, segR, next⟩ = some t' ∧ Nx0 call K ks (kp (doneEnv t'.done e0) l) { t'.base with blks := t'.seg.flatMap (·.new) ++ t'.base.blks, next := t'.next } := by
      intro e' h1 hw hdo
      have hvis1 : ((segR.map fun r => (r.j, r.new)).filter fun r => deps.contains r.1).flatMap (·.2) = (segR.filter fun r => deps.contains r.j).flatMap (·.new) := by
        rw [List.filter_map, List.flatMap_map]; rfl
      have hvis2 : (segR.map fun r => (r.j, r.new)).flatMap (·.2) = segR.flatMap (·.new) := by rw [List.flatMap_map]
      by_cases k0 : kind = 0
      · subst k0
        cases hx : exe call e op (visH 0 deps base (segR.map fun r => (r.j, r.new)) next) with
        | none => rw [hx] at hdo; exact hdo.elim
        | some p =>
          obtain ⟨out, H1⟩ := p
          rw [hx] at hdo
          cases out with
          | pan v => exact hdo.elim
          | ok v =>
            obtain ⟨hn, hdo⟩ := hdo
            obtain ⟨t', a1, a2⟩ := Dg0_sound hok os (j + 1) _ base segR next (⟨j, dst, v, []⟩ :: done) hos' (hnext v []) (henv e' v [] h1) hdo
            refine ⟨t', ?_, a2⟩
            have : stepD call is e0 ⟨⟨dst, op, gd⟩, deps, late, 0⟩ j ⟨done, base, segR, next⟩ = some ⟨⟨j, dst, v, []⟩ :: done, base, segR, next⟩ := by
              simp only [stepD, hwant, hw, hexe, if_true]
              have hx' : exe call e op ⟨[], next, next⟩ = some (.ok v, H1) := hx
              rw [hx']
              simp [hn]
            simp only [runD, this]
            exact a1
      · by_cases k1 : kind = 1
        · subst k1
          cases hx : exe call e op (visH 1 deps base (segR.map fun r => (r.j, r.new)) next) with
          | none => rw [hx] at hdo; exact hdo.elim
          | some p =>
            obtain ⟨out, H1⟩ := p
            rw [hx] at hdo
            cases out with
            | pan v => exact hdo.elim
            | ok v =>
              have hdo' : Dg0 call K ks l os (j + 1) (putd e' dst v) base ((j, newBlks H1.blks next) :: segR.map fun r => (r.j, r.new)) H1.next := hdo
              obtain ⟨t', a1, a2⟩ := Dg0_sound hok os (j + 1) _ base (⟨j, dst, v, newBlks H1.blks next⟩ :: segR) H1.next (⟨j, dst, v, newBlks H1.blks next⟩ :: done) hos' (hnext v _) (henv e' v _ h1) hdo'
              refine ⟨t', ?_, a2⟩
              have : stepD call is e0 ⟨⟨dst, op, gd⟩, deps, late, 1⟩ j ⟨done, base, segR, next⟩ = some ⟨⟨j, dst, v, newBlks H1.blks next⟩ :: done, base, ⟨j, dst, v, newBlks H1.blks next⟩ :: segR, H1.next⟩ := by
                simp only [stepD, hwant, hw, hexe]
                have hx' : exe call e op ⟨(segR.filter fun r => deps.contains r.j).flatMap (·.new) ++ base.blks, next, next⟩ = some (.ok v, H1) := by rw [← hvis1]; exact hx
                rw [hx']
                rfl
              simp only [runD, this]
              exact a1
        · cases hx : exe call e op (visH kind deps base (segR.map fun r => (r.j, r.new)) next) with
          | none => rw [hx] at hdo; exact hdo.elim
          | some p =>
            obtain ⟨out, H1⟩ := p
            rw [hx] at hdo
            cases out with
            | pan v => exact hdo.elim
            | ok v =>
              have hdo' : Dg0 call K ks l os (j + 1) (putd e' dst v) H1 [] H1.next := by
                match kind, k0, k1, hdo with
                | k + 2, _, _, hdo => exact hdo
              obtain ⟨t', a1, a2⟩ := Dg0_sound hok os (j + 1) _ H1 [] H1.next (⟨j, dst, v, []⟩ :: done) hos' (hnext v _) (henv e' v _ h1) hdo'
              refine ⟨t', ?_, a2⟩
              have : stepD call is e0 ⟨⟨dst, op, gd⟩, deps, late, kind⟩ j ⟨done, base, segR, next⟩ = some ⟨⟨j, dst, v, []⟩ :: done, H1, [], H1.next⟩ := by
                simp only [stepD, hwant, hw, hexe, k0, k1, if_false]
                have hx' : exe call e op ⟨segR.flatMap (·.new) ++ base.blks, next, base.floor⟩ = some (.ok v, H1) := by
                  rw [← hvis2]
                  match kind, k0, k1, hx with
                  | k + 2, _, _, hx => exact hx
                rw [hx']
              simp only [runD, this]
              exact a1
    have hskip : ∀ e', (∀ t, e'.at t = e.at t) → want e gd = some false → Dg0 call K ks l os (j + 1) (putd e' dst (.tup [])) base (segR.map fun r => (r.j, r.new)) next →
        ∃ t', runD call is e0 (⟨⟨dst, op, gd⟩, deps, late, kind⟩ :: os) j ⟨done, base, segR, next⟩ = some t' ∧ Nx0 call K ks (kp (doneEnv t'.done e0) l) { t'.base with blks := t'.seg.flatMap (·.new) ++ t'.base.blks, next := t'.next } := by
      intro e' h1 hw hdo
      obtain ⟨t', a1, a2⟩ := Dg0_sound hok os (j + 1) _ base segR next (⟨j, dst, .tup [], []⟩ :: done) hos' (hnext _ _) (henv e' _ _ h1) hdo
      refine ⟨t', ?_, a2⟩
      have : stepD call is e0 ⟨⟨dst, op, gd⟩, deps, late, kind⟩ j ⟨done, base, segR, next⟩ = some ⟨⟨j, dst, .tup [], []⟩ :: done, base, segR, next⟩ := by
        simp only [stepD, hwant, hw]
      simp only [runD, this]
      exact a1
    cases gd with
    | none => rw [Dg0_one] at h; exact hgo e (fun _ => rfl) rfl h
    | some gb =>
      obtain ⟨g, b⟩ := gb
      rw [Dg0_if] at h
      cases hc : e.at g with
      | bool c =>
        rw [hc] at h
        by_cases hcb : c = b
        · exact hgo _ (fun t => at_push (by rw [hc, hcb]) t) (by simp [want, hc, hcb]) (h.1 hcb)
        · have hc' : c = !b := by cases c <;> cases b <;> simp_all
          exact hskip _ (fun t => at_push (by rw [hc, hc']) t) (by simp [want, hc, hc']) (h.2 hc')
      | tup vs =>
        rw [hc] at h
        cases vs with
        | nil => exact hskip _ (fun t => at_push hc t) (by simp [want, hc]) h
        | cons _ _ => exact h.elim
      | _ => rw [hc] at h; exact h.elim

/-- A region that draws its order. -/
theorem W0_drawn {call : Call} {K : AX → St → Prop} {ks : List Fr} {l : List Nat} {is : List DIns} {e : Env} {H : AH} (hok : okD is = true) (h : Dg0 call K ks l is 0 e H [] H.next) : W0 call K ks e H (.seq (.regd is) (.trim l)) := by
  obtain ⟨t', a1, a2⟩ := Dg0_sound hok is 0 e H [] H.next [] (fun k => by rw [Nat.zero_add]) ⟨fun r hr => (by cases hr), fun r q hr => (by cases hr), fun k o hk => (by omega)⟩ (fun t => rfl) h
  rw [W0_seq]
  have hrun : runDr call is ⟨e, H⟩ = some (.nrm, ⟨doneEnv t'.done e, { t'.base with blks := t'.seg.flatMap (·.new) ++ t'.base.blks, next := t'.next }⟩) := by
    simp only [runDr, a1]
    rfl
  refine ⟨.nrm, _, hrun, ?_⟩
  have : W0 call K ks (doneEnv t'.done e) { t'.base with blks := t'.seg.flatMap (·.new) ++ t'.base.blks, next := t'.next } (.trim l) := by
    rw [W0_trim]; exact a2
  exact this

theorem W0_drawn' {call : Call} {K : AX → St → Prop} {ks : List Fr} {l : List Nat} {is : List DIns} {e : Env} {H : AH} (hok : okD is = true) (h : Dg0 call K ks l is 0 e H [] H.next) : W0 call K (.code (.trim l) :: ks) e H (.regd is) := by
  rw [← W0_seq]
  exact W0_drawn hok h

/-! ## The judgements as structures: the kernel does not look into them -/

structure W (call : Call) (K : AX → St → Prop) (ks : List Fr) (e : Env) (H : AH) (c : ACode) : Prop where
  h : W0 call K ks e H c
structure Rg (call : Call) (K : AX → St → Prop) (ks : List Fr) (e : Env) (H : AH) (is : List AIns) : Prop where
  h : Rg0 call K ks e H is
structure Nx (call : Call) (K : AX → St → Prop) (ks : List Fr) (e : Env) (H : AH) : Prop where
  h : Nx0 call K ks e H
structure Ex (call : Call) (K : AX → St → Prop) (ks : List Fr) (e : Env) (H : AH) (id : Nat) : Prop where
  h : Ex0 call K ks e H id
structure Rt (call : Call) (K : AX → St → Prop) (ks : List Fr) (e : Env) (H : AH) : Prop where
  h : Rt0 call K ks e H
structure Cd (call : Call) (K : AX → St → Prop) (ks : List Fr) (e : Env) (H : AH) (c : Arg) (a b : ACode) (v : AV) : Prop where
  h : Cd0 call K ks e H c a b v
structure Ro (call : Call) (K : AX → St → Prop) (ks : List Fr) (e e' : Env) (is : List AIns) (dst : Option Nat) (r : Option (Out × AH)) : Prop where
  h : Ro0 call K ks e e' is dst r
structure Rf (call : Call) (K : AX → St → Prop) (ks : List Fr) (e : Env) (H : AH) (is : List AIns) (dst : Option Nat) (op : AOp) (g : Nat) (b : Bool) (v : AV) : Prop where
  h : Rf0 call K ks e H is dst op g b v
structure Dg (call : Call) (K : AX → St → Prop) (ks : List Fr) (l : List Nat) (os : List DIns) (j : Nat) (e : Env) (base : AH) (seg : List (Nat × List (Nat × Blk))) (next : Nat) : Prop where
  h : Dg0 call K ks l os j e base seg next
structure Do (call : Call) (K : AX → St → Prop) (ks : List Fr) (l : List Nat) (os : List DIns) (j : Nat) (e' : Env) (base : AH) (seg : List (Nat × List (Nat × Blk))) (next : Nat) (dst : Option Nat) (kind : Nat) (r : Option (Out × AH)) : Prop where
  h : Do0 call K ks l os j e' base seg next dst kind r
structure Df (call : Call) (K : AX → St → Prop) (ks : List Fr) (l : List Nat) (os : List DIns) (j : Nat) (e : Env) (base : AH) (seg : List (Nat × List (Nat × Blk))) (next : Nat) (dst : Option Nat) (kind : Nat) (op : AOp) (deps : List Nat) (g : Nat) (b : Bool) (v : AV) : Prop where
  h : Df0 call K ks l os j e base seg next dst kind op deps g b v
theorem W_eq {call K ks e H c} : W call K ks e H c = W0 call K ks e H c := propext ⟨fun x => x.h, fun x => ⟨x⟩⟩
theorem Rg_eq {call K ks e H is} : Rg call K ks e H is = Rg0 call K ks e H is := propext ⟨fun x => x.h, fun x => ⟨x⟩⟩
theorem Nx_eq {call K ks e H} : Nx call K ks e H = Nx0 call K ks e H := propext ⟨fun x => x.h, fun x => ⟨x⟩⟩
theorem Ex_eq {call K ks e H id} : Ex call K ks e H id = Ex0 call K ks e H id := propext ⟨fun x => x.h, fun x => ⟨x⟩⟩
theorem Rt_eq {call K ks e H} : Rt call K ks e H = Rt0 call K ks e H := propext ⟨fun x => x.h, fun x => ⟨x⟩⟩
theorem Cd_eq {call K ks e H c a b v} : Cd call K ks e H c a b v = Cd0 call K ks e H c a b v := propext ⟨fun x => x.h, fun x => ⟨x⟩⟩
theorem Ro_eq {call K ks e e' is dst r} : Ro call K ks e e' is dst r = Ro0 call K ks e e' is dst r := propext ⟨fun x => x.h, fun x => ⟨x⟩⟩
theorem Rf_eq {call K ks e H is dst op g b v} : Rf call K ks e H is dst op g b v = Rf0 call K ks e H is dst op g b v := propext ⟨fun x => x.h, fun x => ⟨x⟩⟩
theorem Dg_eq {call K ks l os j e base seg next} : Dg call K ks l os j e base seg next = Dg0 call K ks l os j e base seg next := propext ⟨fun x => x.h, fun x => ⟨x⟩⟩
theorem Do_eq {call K ks l os j e' base seg next dst kind r} : Do call K ks l os j e' base seg next dst kind r = Do0 call K ks l os j e' base seg next dst kind r := propext ⟨fun x => x.h, fun x => ⟨x⟩⟩
theorem Df_eq {call K ks l os j e base seg next dst kind op deps g b v} : Df call K ks l os j e base seg next dst kind op deps g b v = Df0 call K ks l os j e base seg next dst kind op deps g b v := propext ⟨fun x => x.h, fun x => ⟨x⟩⟩

section
variable (call : Call) (K : AX → St → Prop) (ks : List Fr) (e : Env) (H : AH) (e' : Env) (is : List AIns) (dst : Option Nat) (op : AOp) (g : Nat)
theorem W_skip : W call K ks e H .skip = Nx call K ks e H := by
  simp only [W_eq, Rg_eq, Nx_eq, Ex_eq, Rt_eq, Cd_eq, Ro_eq, Rf_eq, Dg_eq, Do_eq, Df_eq]
  first | done | exact W0_skip .. | (simp only [W0_skip])
theorem W_seq (a b : ACode) : W call K ks e H (.seq a b) = W call K (.code b :: ks) e H a := by
  simp only [W_eq, Rg_eq, Nx_eq, Ex_eq, Rt_eq, Cd_eq, Ro_eq, Rf_eq, Dg_eq, Do_eq, Df_eq]
  first | done | exact W0_seq .. | (simp only [W0_seq])
theorem W_block (id : Nat) (b : ACode) : W call K ks e H (.block id b) = W call K (.block id :: ks) e H b := by
  simp only [W_eq, Rg_eq, Nx_eq, Ex_eq, Rt_eq, Cd_eq, Ro_eq, Rf_eq, Dg_eq, Do_eq, Df_eq]
  first | done | exact W0_block .. | (simp only [W0_block])
theorem W_exit (id : Nat) : W call K ks e H (.exit id) = Ex call K ks e H id := by
  simp only [W_eq, Rg_eq, Nx_eq, Ex_eq, Rt_eq, Cd_eq, Ro_eq, Rf_eq, Dg_eq, Do_eq, Df_eq]
  first | done | exact W0_exit .. | (simp only [W0_exit])
theorem W_trim (l : List Nat) : W call K ks e H (.trim l) = Nx call K ks (kp e l) H := by
  simp only [W_eq, Rg_eq, Nx_eq, Ex_eq, Rt_eq, Cd_eq, Ro_eq, Rf_eq, Dg_eq, Do_eq, Df_eq]
  first | done | exact W0_trim .. | (simp only [W0_trim])
theorem W_ret : W call K ks e H .ret = Rt call K ks e H := by
  simp only [W_eq, Rg_eq, Nx_eq, Ex_eq, Rt_eq, Cd_eq, Ro_eq, Rf_eq, Dg_eq, Do_eq, Df_eq]
  first | done | exact W0_ret .. | (simp only [W0_ret])
theorem W_reg (is : List AIns) : W call K ks e H (.reg is) = Rg call K ks e H is := by
  simp only [W_eq, Rg_eq, Nx_eq, Ex_eq, Rt_eq, Cd_eq, Ro_eq, Rf_eq, Dg_eq, Do_eq, Df_eq]
  first | done | exact W0_reg .. | (simp only [W0_reg])
theorem W_cond (c : Arg) (a b : ACode) : W call K ks e H (.cond c a b) = Cd call K ks e H c a b (c.val e) := by
  simp only [W_eq, Rg_eq, Nx_eq, Ex_eq, Rt_eq, Cd_eq, Ro_eq, Rf_eq, Dg_eq, Do_eq, Df_eq]
  first | done | exact W0_cond .. | (simp only [W0_cond])
theorem Cd_bool (c : Arg) (a b : ACode) (t : Bool) : Cd call K ks e H c a b (.bool t) = ((t = true → W call K ks (pushA e c true) H a) ∧ (t = false → W call K ks (pushA e c false) H b)) := by
  simp only [W_eq, Rg_eq, Nx_eq, Ex_eq, Rt_eq, Cd_eq, Ro_eq, Rf_eq, Dg_eq, Do_eq, Df_eq]
  first | done | exact Cd0_bool .. | (simp only [Cd0_bool])
theorem Cd_dec (c : Arg) (a b : ACode) (p : Prop) [Decidable p] : Cd call K ks e H c a b (.bool (decide p)) = ((p → W call K ks (pushA e c true) H a) ∧ (¬ p → W call K ks (pushA e c false) H b)) := by
  simp only [W_eq, Rg_eq, Nx_eq, Ex_eq, Rt_eq, Cd_eq, Ro_eq, Rf_eq, Dg_eq, Do_eq, Df_eq]
  first | done | exact Cd0_dec .. | (simp only [Cd0_dec])
theorem Cd_beq {α : Type} [BEq α] [LawfulBEq α] (c : Arg) (a b : ACode) (x y : α) : Cd call K ks e H c a b (.bool (x == y)) = ((x = y → W call K ks (pushA e c true) H a) ∧ (¬ x = y → W call K ks (pushA e c false) H b)) := by
  simp only [W_eq, Rg_eq, Nx_eq, Ex_eq, Rt_eq, Cd_eq, Ro_eq, Rf_eq, Dg_eq, Do_eq, Df_eq]
  first | done | exact Cd0_beq .. | (simp only [Cd0_beq])
theorem Cd_bne {α : Type} [BEq α] [LawfulBEq α] (c : Arg) (a b : ACode) (x y : α) : Cd call K ks e H c a b (.bool (x != y)) = ((x = y → W call K ks (pushA e c false) H b) ∧ (¬ x = y → W call K ks (pushA e c true) H a)) := by
  simp only [W_eq, Rg_eq, Nx_eq, Ex_eq, Rt_eq, Cd_eq, Ro_eq, Rf_eq, Dg_eq, Do_eq, Df_eq]
  first | done | exact Cd0_bne .. | (simp only [Cd0_bne])
theorem Cd_nbeq {α : Type} [BEq α] [LawfulBEq α] (c : Arg) (a b : ACode) (x y : α) : Cd call K ks e H c a b (.bool (!(x == y))) = ((x = y → W call K ks (pushA e c false) H b) ∧ (¬ x = y → W call K ks (pushA e c true) H a)) := by
  simp only [W_eq, Rg_eq, Nx_eq, Ex_eq, Rt_eq, Cd_eq, Ro_eq, Rf_eq, Dg_eq, Do_eq, Df_eq]
  first | done | exact Cd0_nbeq .. | (simp only [Cd0_nbeq])
theorem Cd_true (c : Arg) (a b : ACode) : Cd call K ks e H c a b (.bool true) = W call K ks (pushA e c true) H a := by
  simp only [W_eq, Rg_eq, Nx_eq, Ex_eq, Rt_eq, Cd_eq, Ro_eq, Rf_eq, Dg_eq, Do_eq, Df_eq]
  first | done | exact Cd0_true .. | (simp only [Cd0_true])
theorem Cd_false (c : Arg) (a b : ACode) : Cd call K ks e H c a b (.bool false) = W call K ks (pushA e c false) H b := by
  simp only [W_eq, Rg_eq, Nx_eq, Ex_eq, Rt_eq, Cd_eq, Ro_eq, Rf_eq, Dg_eq, Do_eq, Df_eq]
  first | done | exact Cd0_false .. | (simp only [Cd0_false])
theorem Nx_nil : Nx call K [] e H = K .nrm ⟨e, H⟩ := by
  simp only [W_eq, Rg_eq, Nx_eq, Ex_eq, Rt_eq, Cd_eq, Ro_eq, Rf_eq, Dg_eq, Do_eq, Df_eq]
  first | done | exact Nx0_nil .. | (simp only [Nx0_nil])
theorem Nx_code (b : ACode) : Nx call K (.code b :: ks) e H = W call K ks e H b := by
  simp only [W_eq, Rg_eq, Nx_eq, Ex_eq, Rt_eq, Cd_eq, Ro_eq, Rf_eq, Dg_eq, Do_eq, Df_eq]
  first | done | exact Nx0_code .. | (simp only [Nx0_code])
theorem Nx_block (id : Nat) : Nx call K (.block id :: ks) e H = Nx call K ks e H := by
  simp only [W_eq, Rg_eq, Nx_eq, Ex_eq, Rt_eq, Cd_eq, Ro_eq, Rf_eq, Dg_eq, Do_eq, Df_eq]
  first | done | exact Nx0_block .. | (simp only [Nx0_block])
theorem Ex_nil (id : Nat) : Ex call K [] e H id = K (.exit id) ⟨e, H⟩ := by
  simp only [W_eq, Rg_eq, Nx_eq, Ex_eq, Rt_eq, Cd_eq, Ro_eq, Rf_eq, Dg_eq, Do_eq, Df_eq]
  first | done | exact Ex0_nil .. | (simp only [Ex0_nil])
theorem Ex_code (id : Nat) (b : ACode) : Ex call K (.code b :: ks) e H id = Ex call K ks e H id := by
  simp only [W_eq, Rg_eq, Nx_eq, Ex_eq, Rt_eq, Cd_eq, Ro_eq, Rf_eq, Dg_eq, Do_eq, Df_eq]
  first | done | exact Ex0_code .. | (simp only [Ex0_code])
theorem Ex_block (id j : Nat) : Ex call K (.block j :: ks) e H id = if id = j then Nx call K ks e H else Ex call K ks e H id := by
  simp only [W_eq, Rg_eq, Nx_eq, Ex_eq, Rt_eq, Cd_eq, Ro_eq, Rf_eq, Dg_eq, Do_eq, Df_eq]
  first | done | exact Ex0_block .. | (simp only [Ex0_block])
theorem Rt_nil : Rt call K [] e H = K .ret ⟨e, H⟩ := by
  simp only [W_eq, Rg_eq, Nx_eq, Ex_eq, Rt_eq, Cd_eq, Ro_eq, Rf_eq, Dg_eq, Do_eq, Df_eq]
  first | done | exact Rt0_nil .. | (simp only [Rt0_nil])
theorem Rt_code (b : ACode) : Rt call K (.code b :: ks) e H = Rt call K ks e H := by
  simp only [W_eq, Rg_eq, Nx_eq, Ex_eq, Rt_eq, Cd_eq, Ro_eq, Rf_eq, Dg_eq, Do_eq, Df_eq]
  first | done | exact Rt0_code .. | (simp only [Rt0_code])
theorem Rt_block (id : Nat) : Rt call K (.block id :: ks) e H = Rt call K ks e H := by
  simp only [W_eq, Rg_eq, Nx_eq, Ex_eq, Rt_eq, Cd_eq, Ro_eq, Rf_eq, Dg_eq, Do_eq, Df_eq]
  first | done | exact Rt0_block .. | (simp only [Rt0_block])
theorem Rg_nil : Rg call K ks e H [] = Nx call K ks e H := by
  simp only [W_eq, Rg_eq, Nx_eq, Ex_eq, Rt_eq, Cd_eq, Ro_eq, Rf_eq, Dg_eq, Do_eq, Df_eq]
  first | done | exact Rg0_nil .. | (simp only [Rg0_nil])
theorem Rg_one (is : List AIns) (dst : Option Nat) (op : AOp) : Rg call K ks e H (⟨dst, op, .none⟩ :: is) = Ro call K ks e e is dst (exe call e op H) := by
  simp only [W_eq, Rg_eq, Nx_eq, Ex_eq, Rt_eq, Cd_eq, Ro_eq, Rf_eq, Dg_eq, Do_eq, Df_eq]
  first | done | exact Rg0_one .. | (simp only [Rg0_one])
theorem Rg_if (is : List AIns) (dst : Option Nat) (op : AOp) (g : Nat) (b : Bool) : Rg call K ks e H (⟨dst, op, some (g, b)⟩ :: is) = Rf call K ks e H is dst op g b (e.at g) := by
  simp only [W_eq, Rg_eq, Nx_eq, Ex_eq, Rt_eq, Cd_eq, Ro_eq, Rf_eq, Dg_eq, Do_eq, Df_eq]
  first | done | exact Rg0_if .. | (simp only [Rg0_if])
theorem Ro_ok (v : AV) : Ro call K ks e e' is dst (some (.ok v, H)) = Rg call K ks (putd e' dst v) H is := by
  simp only [W_eq, Rg_eq, Nx_eq, Ex_eq, Rt_eq, Cd_eq, Ro_eq, Rf_eq, Dg_eq, Do_eq, Df_eq]
  first | done | exact Ro0_ok .. | (simp only [Ro0_ok])
theorem Rf_bool (b c : Bool) : Rf call K ks e H is dst op g b (.bool c) = ((c = b → Ro call K ks e ((g, .bool b) :: e) is dst (exe call e op H)) ∧ (c = (!b) → Rg call K ks (putd ((g, .bool (!b)) :: e) dst (.tup [])) H is)) := by
  simp only [W_eq, Rg_eq, Nx_eq, Ex_eq, Rt_eq, Cd_eq, Ro_eq, Rf_eq, Dg_eq, Do_eq, Df_eq]
  first | done | exact Rf0_bool .. | (simp only [Rf0_bool])
theorem Rf_dec (b : Bool) (p : Prop) [Decidable p] : Rf call K ks e H is dst op g b (.bool (decide p)) = ((p → Rf call K ks e H is dst op g b (.bool true)) ∧ (¬ p → Rf call K ks e H is dst op g b (.bool false))) := by
  simp only [W_eq, Rg_eq, Nx_eq, Ex_eq, Rt_eq, Cd_eq, Ro_eq, Rf_eq, Dg_eq, Do_eq, Df_eq]
  first | done | exact Rf0_dec .. | (simp only [Rf0_dec])
theorem Rf_beq {α : Type} [BEq α] [LawfulBEq α] (b : Bool) (x y : α) : Rf call K ks e H is dst op g b (.bool (x == y)) = ((x = y → Rf call K ks e H is dst op g b (.bool true)) ∧ (¬ x = y → Rf call K ks e H is dst op g b (.bool false))) := by
  simp only [W_eq, Rg_eq, Nx_eq, Ex_eq, Rt_eq, Cd_eq, Ro_eq, Rf_eq, Dg_eq, Do_eq, Df_eq]
  first | done | exact Rf0_beq .. | (simp only [Rf0_beq])
theorem Rf_bne {α : Type} [BEq α] [LawfulBEq α] (b : Bool) (x y : α) : Rf call K ks e H is dst op g b (.bool (x != y)) = ((x = y → Rf call K ks e H is dst op g b (.bool false)) ∧ (¬ x = y → Rf call K ks e H is dst op g b (.bool true))) := by
  simp only [W_eq, Rg_eq, Nx_eq, Ex_eq, Rt_eq, Cd_eq, Ro_eq, Rf_eq, Dg_eq, Do_eq, Df_eq]
  first | done | exact Rf0_bne .. | (simp only [Rf0_bne])
theorem Rf_nbeq {α : Type} [BEq α] [LawfulBEq α] (b : Bool) (x y : α) : Rf call K ks e H is dst op g b (.bool (!(x == y))) = ((x = y → Rf call K ks e H is dst op g b (.bool false)) ∧ (¬ x = y → Rf call K ks e H is dst op g b (.bool true))) := by
  simp only [W_eq, Rg_eq, Nx_eq, Ex_eq, Rt_eq, Cd_eq, Ro_eq, Rf_eq, Dg_eq, Do_eq, Df_eq]
  first | done | exact Rf0_nbeq .. | (simp only [Rf0_nbeq])
theorem Rf_tt : Rf call K ks e H is dst op g true (.bool true) = Ro call K ks e ((g, .bool true) :: e) is dst (exe call e op H) := by
  simp only [W_eq, Rg_eq, Nx_eq, Ex_eq, Rt_eq, Cd_eq, Ro_eq, Rf_eq, Dg_eq, Do_eq, Df_eq]
  first | done | exact Rf0_tt .. | (simp only [Rf0_tt])
theorem Rf_ff : Rf call K ks e H is dst op g false (.bool false) = Ro call K ks e ((g, .bool false) :: e) is dst (exe call e op H) := by
  simp only [W_eq, Rg_eq, Nx_eq, Ex_eq, Rt_eq, Cd_eq, Ro_eq, Rf_eq, Dg_eq, Do_eq, Df_eq]
  first | done | exact Rf0_ff .. | (simp only [Rf0_ff])
theorem Rf_tf : Rf call K ks e H is dst op g true (.bool false) = Rg call K ks (putd ((g, .bool false) :: e) dst (.tup [])) H is := by
  simp only [W_eq, Rg_eq, Nx_eq, Ex_eq, Rt_eq, Cd_eq, Ro_eq, Rf_eq, Dg_eq, Do_eq, Df_eq]
  first | done | exact Rf0_tf .. | (simp only [Rf0_tf])
theorem Rf_ft : Rf call K ks e H is dst op g false (.bool true) = Rg call K ks (putd ((g, .bool true) :: e) dst (.tup [])) H is := by
  simp only [W_eq, Rg_eq, Nx_eq, Ex_eq, Rt_eq, Cd_eq, Ro_eq, Rf_eq, Dg_eq, Do_eq, Df_eq]
  first | done | exact Rf0_ft .. | (simp only [Rf0_ft])
theorem Rf_tup (b : Bool) : Rf call K ks e H is dst op g b (.tup []) = Rg call K ks (putd ((g, .tup []) :: e) dst (.tup [])) H is := by
  simp only [W_eq, Rg_eq, Nx_eq, Ex_eq, Rt_eq, Cd_eq, Ro_eq, Rf_eq, Dg_eq, Do_eq, Df_eq]
  first | done | exact Rf0_tup .. | (simp only [Rf0_tup])
theorem W_loop {live : Option (List Nat)} {b : ACode} (h : W call K (.code (.loop live b) :: ks) (keep e live) H b) : W call K ks e H (.loop live b) := ⟨W0_loop _ _ _ _ _ h.h⟩
theorem wp_W {c : ACode} (h : W call K [] e H c) : wp call c K ⟨e, H⟩ := wp_W0 _ _ _ _ h.h
end
section
variable (call : Call) (K : AX → St → Prop) (ks : List Fr) (l : List Nat) (os : List DIns) (j : Nat) (e e' : Env) (base : AH) (seg : List (Nat × List (Nat × Blk))) (next : Nat) (dst : Option Nat) (kind : Nat) (op : AOp) (deps late : List Nat) (g : Nat)
theorem Dg_nil : Dg call K ks l [] j e base seg next = Nx call K ks (kp e l) { base with blks := seg.flatMap (·.2) ++ base.blks, next := next } := by
  simp only [W_eq, Rg_eq, Nx_eq, Ex_eq, Rt_eq, Cd_eq, Ro_eq, Rf_eq, Dg_eq, Do_eq, Df_eq]
  first | done | exact Dg0_nil .. | (simp only [Dg0_nil])
theorem Dg_one : Dg call K ks l (⟨⟨dst, op, .none⟩, deps, late, kind⟩ :: os) j e base seg next = Do call K ks l os j e base seg next dst kind (exe call e op (visH kind deps base seg next)) := by
  simp only [W_eq, Rg_eq, Nx_eq, Ex_eq, Rt_eq, Cd_eq, Ro_eq, Rf_eq, Dg_eq, Do_eq, Df_eq]
  first | done | exact Dg0_one .. | (simp only [Dg0_one])
theorem Dg_if (b : Bool) : Dg call K ks l (⟨⟨dst, op, some (g, b)⟩, deps, late, kind⟩ :: os) j e base seg next = Df call K ks l os j e base seg next dst kind op deps g b (e.at g) := by
  simp only [W_eq, Rg_eq, Nx_eq, Ex_eq, Rt_eq, Cd_eq, Ro_eq, Rf_eq, Dg_eq, Do_eq, Df_eq]
  first | done | exact Dg0_if .. | (simp only [Dg0_if])
theorem Do_0 (v : AV) (H1 : AH) : Do call K ks l os j e' base seg next dst 0 (some (.ok v, H1)) = (H1.next = next ∧ Dg call K ks l os (j + 1) (putd e' dst v) base seg next) := by
  simp only [W_eq, Rg_eq, Nx_eq, Ex_eq, Rt_eq, Cd_eq, Ro_eq, Rf_eq, Dg_eq, Do_eq, Df_eq]
  first | done | exact Do0_0 .. | (simp only [Do0_0])
theorem Do_1 (v : AV) (H1 : AH) : Do call K ks l os j e' base seg next dst 1 (some (.ok v, H1)) = Dg call K ks l os (j + 1) (putd e' dst v) base ((j, newBlks H1.blks next) :: seg) H1.next := by
  simp only [W_eq, Rg_eq, Nx_eq, Ex_eq, Rt_eq, Cd_eq, Ro_eq, Rf_eq, Dg_eq, Do_eq, Df_eq]
  first | done | exact Do0_1 .. | (simp only [Do0_1])
theorem Do_2 (v : AV) (H1 : AH) : Do call K ks l os j e' base seg next dst 2 (some (.ok v, H1)) = Dg call K ks l os (j + 1) (putd e' dst v) H1 [] H1.next := by
  simp only [W_eq, Rg_eq, Nx_eq, Ex_eq, Rt_eq, Cd_eq, Ro_eq, Rf_eq, Dg_eq, Do_eq, Df_eq]
  first | done | exact Do0_2 .. | (simp only [Do0_2])
theorem Df_tt : Df call K ks l os j e base seg next dst kind op deps g true (.bool true) = Do call K ks l os j ((g, .bool true) :: e) base seg next dst kind (exe call e op (visH kind deps base seg next)) := by
  simp only [W_eq, Rg_eq, Nx_eq, Ex_eq, Rt_eq, Cd_eq, Ro_eq, Rf_eq, Dg_eq, Do_eq, Df_eq]
  first | done | exact Df0_tt .. | (simp only [Df0_tt])
theorem Df_ff : Df call K ks l os j e base seg next dst kind op deps g false (.bool false) = Do call K ks l os j ((g, .bool false) :: e) base seg next dst kind (exe call e op (visH kind deps base seg next)) := by
  simp only [W_eq, Rg_eq, Nx_eq, Ex_eq, Rt_eq, Cd_eq, Ro_eq, Rf_eq, Dg_eq, Do_eq, Df_eq]
  first | done | exact Df0_ff .. | (simp only [Df0_ff])
theorem Df_tf : Df call K ks l os j e base seg next dst kind op deps g true (.bool false) = Dg call K ks l os (j + 1) (putd ((g, .bool false) :: e) dst (.tup [])) base seg next := by
  simp only [W_eq, Rg_eq, Nx_eq, Ex_eq, Rt_eq, Cd_eq, Ro_eq, Rf_eq, Dg_eq, Do_eq, Df_eq]
  first | done | exact Df0_tf .. | (simp only [Df0_tf])
theorem Df_ft : Df call K ks l os j e base seg next dst kind op deps g false (.bool true) = Dg call K ks l os (j + 1) (putd ((g, .bool true) :: e) dst (.tup [])) base seg next := by
  simp only [W_eq, Rg_eq, Nx_eq, Ex_eq, Rt_eq, Cd_eq, Ro_eq, Rf_eq, Dg_eq, Do_eq, Df_eq]
  first | done | exact Df0_ft .. | (simp only [Df0_ft])
theorem Df_tup (b : Bool) : Df call K ks l os j e base seg next dst kind op deps g b (.tup []) = Dg call K ks l os (j + 1) (putd ((g, .tup []) :: e) dst (.tup [])) base seg next := by
  simp only [W_eq, Rg_eq, Nx_eq, Ex_eq, Rt_eq, Cd_eq, Ro_eq, Rf_eq, Dg_eq, Do_eq, Df_eq]
  first | done | exact Df0_tup .. | (simp only [Df0_tup])
theorem Df_dec (b : Bool) (p : Prop) [Decidable p] : Df call K ks l os j e base seg next dst kind op deps g b (.bool (decide p)) = ((p → Df call K ks l os j e base seg next dst kind op deps g b (.bool true)) ∧ (¬ p → Df call K ks l os j e base seg next dst kind op deps g b (.bool false))) := by
  simp only [W_eq, Rg_eq, Nx_eq, Ex_eq, Rt_eq, Cd_eq, Ro_eq, Rf_eq, Dg_eq, Do_eq, Df_eq]
  first | done | exact Df0_dec .. | (simp only [Df0_dec])
theorem Df_beq {α : Type} [BEq α] [LawfulBEq α] (b : Bool) (x y : α) : Df call K ks l os j e base seg next dst kind op deps g b (.bool (x == y)) = ((x = y → Df call K ks l os j e base seg next dst kind op deps g b (.bool true)) ∧ (¬ x = y → Df call K ks l os j e base seg next dst kind op deps g b (.bool false))) := by
  simp only [W_eq, Rg_eq, Nx_eq, Ex_eq, Rt_eq, Cd_eq, Ro_eq, Rf_eq, Dg_eq, Do_eq, Df_eq]
  first | done | exact Df0_beq .. | (simp only [Df0_beq])
theorem Df_bne {α : Type} [BEq α] [LawfulBEq α] (b : Bool) (x y : α) : Df call K ks l os j e base seg next dst kind op deps g b (.bool (x != y)) = ((x = y → Df call K ks l os j e base seg next dst kind op deps g b (.bool false)) ∧ (¬ x = y → Df call K ks l os j e base seg next dst kind op deps g b (.bool true))) := by
  simp only [W_eq, Rg_eq, Nx_eq, Ex_eq, Rt_eq, Cd_eq, Ro_eq, Rf_eq, Dg_eq, Do_eq, Df_eq]
  first | done | exact Df0_bne .. | (simp only [Df0_bne])
theorem Df_nbeq {α : Type} [BEq α] [LawfulBEq α] (b : Bool) (x y : α) : Df call K ks l os j e base seg next dst kind op deps g b (.bool (!(x == y))) = ((x = y → Df call K ks l os j e base seg next dst kind op deps g b (.bool false)) ∧ (¬ x = y → Df call K ks l os j e base seg next dst kind op deps g b (.bool true))) := by
  simp only [W_eq, Rg_eq, Nx_eq, Ex_eq, Rt_eq, Cd_eq, Ro_eq, Rf_eq, Dg_eq, Do_eq, Df_eq]
  first | done | exact Df0_nbeq .. | (simp only [Df0_nbeq])
end
theorem W_drawn {call : Call} {K : AX → St → Prop} {ks : List Fr} {l : List Nat} {is : List DIns} {e : Env} {H : AH} (hok : okD is = true) (h : Dg call K ks l is 0 e H [] H.next) : W call K ks e H (.seq (.regd is) (.trim l)) := ⟨W0_drawn hok h.h⟩
theorem W_drawn' {call : Call} {K : AX → St → Prop} {ks : List Fr} {l : List Nat} {is : List DIns} {e : Env} {H : AH} (hok : okD is = true) (h : Dg call K ks l is 0 e H [] H.next) : W call K (.code (.trim l) :: ks) e H (.regd is) := ⟨W0_drawn' hok h.h⟩

end Go.Am
