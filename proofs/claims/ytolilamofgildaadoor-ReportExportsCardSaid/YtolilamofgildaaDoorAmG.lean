/-
Table. Conditions: those that each theorem names.
-/
import Derived.Test.YtolilamofgildaaDoorAmF
set_option linter.unusedSimpArgs false
set_option linter.unusedVariables false
namespace Go.Am

theorem rowTxt_cons (w : Nat) (ws : List Nat) (s : List UInt8) (t : List (List UInt8)) : rowTxt (w :: ws) (s :: t) = padS s w t.isEmpty ++ rowTxt ws t := by
  cases t with
  | nil => simp [rowTxt, padS]
  | cons a t => simp [rowTxt, padS]

theorem Tryd.tableIn (m0 : Nat) (H0 : AH) (n : Nat) (hn : n ≤ m0) (v wv : AV) (w : List Nat) (hw : WidV H0 wv w) (hwn : ∀ i o z m c, wv = .sl i o z m c → i < m0) (hwb : ∀ x ∈ w, x ≤ 4000000) (L0 i p : Nat) (u : AV) (r : List (List UInt8)) (hu : StrsV n H0 u r) (hs : ∀ s ∈ r, s ≠ [] ∧ s.length ≤ 4000000) (hrl : r.length ≤ 4000000) (hfw : fitsW w r) (K : AX → St → Prop) (ks : List Fr) (L : ACode) (hL : L = .loop (some [4, 6, 8, 22, 23, 24, 28, 29, 30]) Tryd.fn10_l0) :
    ∀ (m k : Nat) (b : List UInt8) (H : AH), m + k = r.length → SB m0 H p b → Kept m0 H0 H → m0 ≤ H.next → (b ++ rowTxt (w.drop k) (r.drop k)).length ≤ 1048576 → fitsW (w.drop k) (r.drop k) →
      (∀ H' x y, SB m0 H' p (b ++ rowTxt (w.drop k) (r.drop k)) → Kept m0 H0 H' → m0 ≤ H'.next → Nx Tryd.call K ks [(31, .bool false), (4, wv), (6, .ptr p 0), (8, u), (22, v), (23, .int .i64 L0), (24, .int .i64 i), (28, u), (29, .int .i64 r.length), (30, x), (31, y)] H') →
      W Tryd.call K (.block 2 :: ks) [(4, wv), (6, .ptr p 0), (8, u), (22, v), (23, .int .i64 L0), (24, .int .i64 i), (28, u), (29, .int .i64 r.length), (30, .int .i64 k)] H L := by
  have hwr := fitsW_len hfw
  intro m
  induction m with
  | zero =>
    intro k b H hk hb hK hmn hln hft hd
    refine W_loopN hL ?_
    have hk' : k = r.length := by omega
    subst hk'
    have e0 : rowTxt (w.drop r.length) (r.drop r.length) = [] := by rw [List.drop_length]; cases w.drop r.length <;> rfl
    rw [e0, List.append_nil] at hd
    simp only [Tryd.fn10_l0, Tryd.fn10_r11, AmR, kp, pushA, exe, Arg.val, Env.at, lk, putd, okM, abin, Option.getD_some, if_true, if_false, Nat.reduceEqDiff]
    exact ⟨fun h => absurd h (by omega), fun _ => hd _ _ _ hb hK hmn⟩
  | succ m ih =>
    intro k b H hk hb hK hmn hln hft hd
    refine W_loopN hL ?_
    have hkl : k < r.length := by omega
    have hsk : r[k]? = some r[k] := List.getElem?_eq_getElem hkl
    have hwk : w[k]? = some w[k] := List.getElem?_eq_getElem (by omega)
    have hwm := hwb _ (List.mem_of_getElem? hwk)
    have huH : StrsV n H u r := hu.old (Nat.le_refl _) fun i hi => hK.2.2 i (by omega)
    have hwH : WidV H wv w := hw.old hwn hK.2.2
    obtain ⟨q2, o2, c2, b2, u1, u2, u3⟩ := huH.cell hsk
    obtain ⟨q3, o3, c3, b3, v1, v2, v3⟩ := hwH.at hwk
    obtain ⟨hsne, hsm⟩ := hs _ (List.mem_of_getElem? hsk)
    rw [drop_cons' hsk, drop_cons' hwk] at hft hln hd
    rw [rowTxt_cons, ← List.append_assoc] at hln hd
    have hfs : r[k].length ≤ w[k] := hft.1
    generalize r[k] = s at *
    generalize w[k] = wk at *
    have hk0 : (0 : Int) ≤ (k : Int) := by omega
    have hk1 : ((k : Int) < (r.length : Int)) = True := eq_true (by omega)
    have hkw : ((k : Int) < (w.length : Int)) = True := eq_true (by omega)
    have hwr' := succ_wrap (i := k) (by omega)
    have hl1 : IntKind.i64.wrap ((r.length : Int) - 1) = ((r.length - 1 : Nat) : Int) := by rw [IntWalk.i64_in _ (by omega)]; omega
    have he : ((k : Int) == ((r.length - 1 : Nat) : Int)) = (r.drop (k + 1)).isEmpty := by
      cases hd' : r.drop (k + 1) with
      | nil =>
        have := congrArg List.length hd'
        simp only [List.length_drop, List.length_nil] at this
        show _ = true
        rw [beq_iff_eq]; omega
      | cons x t =>
        have := congrArg List.length hd'
        simp only [List.length_drop, List.length_cons] at this
        show _ = false
        exact beq_eq_false_iff_ne.2 (by omega)
    have hbl : b.length ≤ 1048576 := by rw [List.length_append, List.length_append] at hln; omega
    obtain ⟨H1, a1, a2, a3⟩ := Tryd.column m0 H p b s wk (r.drop (k + 1)).isEmpty hb hmn hsne hfs (by omega)
    have a3n := a3.2.1
    subst u1
    subst v1
    simp only [Tryd.fn10_l0, Tryd.fn10_r11, hk1, AmR, kp, pushA, exe, Arg.val, Env.at, lk, putd, okM, abin, Option.getD_some, if_true, if_false, Nat.reduceEqDiff, decide_true]
    simp only [Tryd.fn10_r12, hk0, hk1, u2, u3, Int.toNat_natCast, and_self, AmR, kp, exe, Arg.val, Env.at, lk, putd, ok1, okM, Option.getD_some, if_true, if_false, Nat.reduceEqDiff]
    simp only [Tryd.fn10_r13, hk0, hkw, v2, v3, hl1, he, lenS_sl, Int.toNat_natCast, and_self, AmR, kp, exe, Arg.val, Env.at, lk, putd, ok1, okM, abin, Option.getD_some, if_true, if_false, Nat.reduceEqDiff, Option.map_some, ↓exe_lenl, lenS_sl]
    simp only [Tryd.fn10_r14, a1, AmR, kp, exe, Arg.val, Env.at, lk, putd, Option.getD_some, if_true, if_false, Nat.reduceEqDiff, List.map_cons, List.map_nil]
    simp only [Tryd.fn10_r15, hwr', AmR, kp, exe, Arg.val, Env.at, lk, putd, ok1, okM, abin, Option.getD_some, if_true, if_false, Nat.reduceEqDiff]
    exact ih (k + 1) _ H1 (by omega) a2 (hK.trans a3) (by omega) hln hft.2 hd

theorem Tryd.tableOut (m0 : Nat) (H0 : AH) (n : Nat) (hn : n ≤ m0) (v wv : AV) (w : List Nat) (hw : WidV H0 wv w) (hwn : ∀ i o z m c, wv = .sl i o z m c → i < m0) (hwb : ∀ x ∈ w, x ≤ 4000000) (p : Nat) (rows : List (List (List UInt8))) (hv : TabV n H0 v rows) (hs : ∀ r ∈ rows, r.length ≤ 4000000 ∧ (∀ s ∈ r, s ≠ [] ∧ s.length ≤ 4000000) ∧ fitsW w r) (hrl : rows.length ≤ 4000000) (K : AX → St → Prop) (ks : List Fr) (L : ACode) (hL : L = .loop (some [4, 6, 22, 23, 24]) Tryd.fn10_l1) :
    ∀ (m i : Nat) (b : List UInt8) (H : AH), m + i = rows.length → SB m0 H p b → Kept m0 H0 H → m0 ≤ H.next → (b ++ tabTxt w (rows.drop i)).length ≤ 1048576 →
      (∀ H' x y, SB m0 H' p (b ++ tabTxt w (rows.drop i)) → Kept m0 H0 H' → Nx Tryd.call K ks [(25, .bool false), (4, wv), (6, .ptr p 0), (22, v), (23, .int .i64 rows.length), (24, x), (25, y)] H') →
      W Tryd.call K (.block 0 :: ks) [(4, wv), (6, .ptr p 0), (22, v), (23, .int .i64 rows.length), (24, .int .i64 i)] H L := by
  intro m
  induction m with
  | zero =>
    intro i b H hi hb hK hmn hln hd
    refine W_loopN hL ?_
    have hi' : i = rows.length := by omega
    subst hi'
    rw [List.drop_length] at hd
    simp only [Tryd.fn10_l1, Tryd.fn10_r8, AmR, kp, pushA, exe, Arg.val, Env.at, lk, putd, okM, abin, Option.getD_some, if_true, if_false, Nat.reduceEqDiff]
    exact ⟨fun h => absurd h (by omega), fun _ => hd _ _ _ (by simpa [tabTxt] using hb) hK⟩
  | succ m ih =>
    intro i b H hi hb hK hmn hln hd
    refine W_loopN hL ?_
    have hil : i < rows.length := by omega
    have hr : rows[i]? = some rows[i] := List.getElem?_eq_getElem hil
    have hsr := hs _ (List.mem_of_getElem? hr)
    rw [drop_cons' hr] at hln hd
    have et : ∀ r, tabTxt w (r :: rows.drop (i + 1)) = rowTxt w r ++ ([10] ++ tabTxt w (rows.drop (i + 1))) := fun r => by simp [tabTxt]
    rw [et, ← List.append_assoc] at hln hd
    obtain ⟨q, o, c, bk, u, e1, e2, e3, hu⟩ := hv.row hr
    generalize rows[i] = r at *
    have hq : q < n := hv.1 _ _ _ _ _ e1
    have e2' : H.get q = some bk := (hK.2.2 q (by omega)).trans e2
    have hul := hu.lenS
    have hi0 : (0 : Int) ≤ (i : Int) := by omega
    have hi1 : ((i : Int) < (rows.length : Int)) = True := eq_true (by omega)
    have hwi := succ_wrap (i := i) (by omega)
    have hin := Tryd.tableIn m0 H0 n hn v wv w hw hwn hwb rows.length i p u r hu hsr.2.1 hsr.1 hsr.2.2
    subst e1
    simp only [Tryd.fn10_l1, Tryd.fn10_r8, hi1, AmR, kp, pushA, exe, Arg.val, Env.at, lk, putd, okM, abin, Option.getD_some, if_true, if_false, Nat.reduceEqDiff, decide_true]
    simp only [Tryd.fn10_r9, hi0, hi1, e2', e3, Int.toNat_natCast, and_self, AmR, kp, exe, Arg.val, Env.at, lk, putd, ok1, okM, Option.getD_some, if_true, if_false, Nat.reduceEqDiff]
    simp only [Tryd.fn10_r10, hul, AmR, kp, exe, Arg.val, Env.at, lk, putd, ok1, okM, Option.getD_some, if_true, if_false, Nat.reduceEqDiff, Option.map_some, ↓exe_lenl]
    have hl2 : (b ++ rowTxt w r).length ≤ 1048576 := by rw [List.length_append] at hln; omega
    refine hin K _ _ rfl r.length 0 b H (by omega) hb hK hmn (by rw [List.drop_zero, List.drop_zero]; exact hl2) (by rw [List.drop_zero, List.drop_zero]; exact hsr.2.2) fun H' x y h1 h2 h3 => ?_
    rw [List.drop_zero, List.drop_zero] at h1
    obtain ⟨H2, a1, a2, a3⟩ := h1.byte h3 10 (by omega)
    have a1' : Tryd.call 23 [.ptr p 0, .int .u8 10] H' = some (.ok .nili, H2) := a1
    simp only [Tryd.fn10_r16, a1', AmR, kp, exe, Arg.val, Env.at, lk, putd, Option.getD_some, if_true, if_false, Nat.reduceEqDiff, List.map_cons, List.map_nil]
    simp only [Tryd.fn10_r17, hwi, AmR, kp, exe, Arg.val, Env.at, lk, putd, ok1, okM, abin, Option.getD_some, if_true, if_false, Nat.reduceEqDiff]
    refine ih (i + 1) _ H2 (by omega) a2 (h2.trans a3) (by have := a3.2.1; omega) (by rw [← List.append_assoc] at hln; exact hln) fun H3 x' y' k1 k2 => hd H3 x' y' (by rw [← List.append_assoc]; exact k1) k2

theorem wid_le {n b : Nat} : ∀ {rows : List (List (List UInt8))} {w : List Nat}, (∀ x ∈ w, x ≤ b) → (∀ r ∈ rows, ∀ s ∈ r, s.length ≤ b) → ∀ x ∈ rows.foldl (fun w r => List.zipWith max w (r.map List.length)) w, x ≤ b
  | [], w, h, _ => h
  | r :: rows, w, h, hr => wid_le (n := n) (rows := rows) (w := List.zipWith max w (r.map List.length)) (fun x hx => by
      rw [List.mem_iff_getElem?] at hx
      obtain ⟨i, hi⟩ := hx
      rw [List.getElem?_zipWith] at hi
      cases h1 : w[i]? with
      | none => simp [h1] at hi
      | some a =>
        cases h2 : (r.map List.length)[i]? with
        | none => simp [h1, h2] at hi
        | some c =>
          simp only [h1, h2, Option.some.injEq] at hi
          have ha := h a (List.mem_of_getElem? h1)
          have hc : c ≤ b := by
            have := List.mem_of_getElem? h2
            rw [List.mem_map] at this
            obtain ⟨s, hs, rfl⟩ := this
            exact hr r (by simp) s hs
          omega) fun q hq => hr q (by simp [hq])

theorem tabLen_eq {w : List Nat} : ∀ {rows : List (List (List UInt8))}, (∀ r ∈ rows, r ≠ [] ∧ fitsW w r) → tabLen w rows = (tabTxt w rows).length
  | [], _ => rfl
  | r :: rows, h => by
    have ih := tabLen_eq (w := w) (rows := rows) fun q hq => h q (by simp [hq])
    have hr := h r (by simp)
    have := lenR_eq hr.1 hr.2
    simp only [tabLen, tabTxt, List.map_cons, List.sum_cons, List.flatMap_cons, List.length_append, List.length_cons, List.length_nil] at ih ⊢
    omega

theorem Tryd.table (H : AH) (hN : Names H) (hfl : H.floor ≤ H.next) (v : AV) (rows : List (List (List UInt8))) (hv : TabV H.next H v rows) (hs : ∀ r ∈ rows, r.length ≤ 4000000 ∧ ∀ s ∈ r, s.length ≤ 4000000) (hrl : rows.length ≤ 4000000) :
    ∃ H', Tryd.call 10 [v] H = some (.ok (.tup [.str (tableS rows), .int .i64 (tableE rows)]), H') ∧ Kept H.next H H' ∧ Names H' := by
  obtain ⟨ws, H1, hR, hwc⟩ := Tryd.widths H hfl v rows hv hs hrl
  by_cases hb : tabB rows = false
  · have hR' : ws = [.nils, .bool false] ∧ GrowN H H1 := by
      rcases hR with ⟨_, h1, h2⟩ | ⟨h0, _⟩ | ⟨h0, _⟩
      · exact ⟨h1, h2⟩
      · rw [hb] at h0; cases h0
      · rw [hb] at h0; cases h0
    obtain ⟨rfl, hg⟩ := hR'
    have hE : tableE rows = 1 := by unfold tableE; rw [if_neg (by rw [hb]; simp)]
    have hS : tableS rows = [] := by unfold tableS; rw [if_neg (by rw [hE]; simp)]
    have hwc' : Tryd.call 20 [v] H = some (.ok (.tup [.nils, .bool false]), H1) := hwc
    refine ⟨H1, ?_, hg.1.kept (Nat.le_refl _), hg.2 hN⟩
    refine ecall_W 6 [] _ _ (out := [.str (tableS rows), .int .i64 (tableE rows)]) rfl rfl rfl ?_
    show W Tryd.call _ _ _ _ _
    rw [hE, hS]
    simp only [Tryd.fn10, Tryd.fn10_r0, Tryd.fn10_r1, hwc', AmR, kp, exe, number, Arg.val, Env.at, lk, putd, ok1, okM, Option.getD_some, if_true, if_false, List.getElem?_cons_zero, List.getElem?_cons_succ, reduceCtorEq, Nat.reduceEqDiff, List.map_cons, List.map_nil]
    simp only [Tryd.fn10_r2, Tryd.fn10_r3, exactK_ret, AmR, kp, pushA, exe, Arg.val, Env.at, lk, putd, ok1, okM, Option.getD_some, if_true, if_false, Bool.not_false, reduceCtorEq, Nat.reduceEqDiff, resAll, resOf, and_true, aun]
  · have hb' : tabB rows = true := by simpa using hb
    have hg := tabB_len hb'
    have hfit := wid_fits (n := (rows.headD []).length) fun r hr => (hg r hr).2.1
    generalize hwd : wid (rows.headD []).length rows = w at *
    have hT : tableT rows = tabTxt w rows := by unfold tableT; rw [hwd]
    have hwb : ∀ x ∈ w, x ≤ 4000000 := by
      rw [← hwd]
      refine wid_le (n := 0) (fun x hx => ?_) fun r hr => (hs r hr).2
      rw [List.mem_replicate] at hx
      omega
    obtain ⟨wv, rfl, hg1, hN1, hwv, hwn⟩ : ∃ wv, ws = [wv, .bool true] ∧ Grow H H1 ∧ Names H1 ∧ WidV H1 wv w ∧ ∀ i o z m c, wv = .sl i o z m c → i < H1.next := by
      rcases hR with ⟨h0, _⟩ | ⟨_, h1, h2, h3⟩ | ⟨_, h1, h2, h3⟩
      · rw [hb'] at h0; cases h0
      · refine ⟨.nils, h2, by rw [h3]; exact Grow.refl _, by rw [h3]; exact hN, ?_, fun _ _ _ _ _ e => by cases e⟩
        rw [h1] at hwd
        have : w = [] := by rw [← hwd]; rfl
        subst this
        exact .nil
      · have hlw : w.length = (rows.headD []).length := by rw [← hwd]; exact wid_len fun r hr => (hg r hr).2.1
        rw [hwd] at h3
        refine ⟨_, h2, by rw [h3]; exact Grow.push _ _ _ _, by rw [h3]; exact hN.push _ _ _, ?_, fun i o z m c e => ?_⟩
        · rw [h3, ← hlw]
          have := SliceV.sl (H := H.push 3 false (intsC w)) (z := 1) (i := H.next) (o := 0) (n := w.length) (c := some w.length) (get_push_new H 3 false (intsC w)) (by simp [intsC])
          rw [List.drop_zero, List.take_of_length_le (by simp [intsC])] at this
          exact this
        · cases e; rw [h3]; exact Nat.lt_succ_self _
    have hwc' : Tryd.call 20 [v] H = some (.ok (.tup [wv, .bool true]), H1) := hwc
    have hv1 : TabV H.next H1 v rows := hv.old (Nat.le_refl _) hg1.2.2
    obtain ⟨x, hsz, hx1, hx2⟩ := Tryd.size H.next H1 v wv w hwv hwb rows hv1 (fun r hr => ⟨(hs r hr).1, (hs r hr).2, fitsW_len (hfit r hr)⟩) hrl
    have hlen := tabLen_eq fun r hr => ⟨(hg r hr).1, hfit r hr⟩
    have hvl := hv.lenS
    have hgn := hg1.2.1
    by_cases hbig : (x : Int) > 1048576
    · have hE : tableE rows = 6 := by unfold tableE; rw [if_pos hb', hT, if_neg (by omega)]
      have hS : tableS rows = [] := by unfold tableS; rw [if_neg (by rw [hE]; simp)]
      refine ⟨H1, ?_, hg1.kept (Nat.le_refl _), hN1⟩
      refine ecall_W 6 [] _ _ (out := [.str (tableS rows), .int .i64 (tableE rows)]) rfl rfl rfl ?_
      show W Tryd.call _ _ _ _ _
      rw [hE, hS]
      have e1 : ((x : Int) > 1048576) = True := eq_true hbig
      simp only [Tryd.fn10, Tryd.fn10_r0, Tryd.fn10_r1, hwc', AmR, kp, exe, number, Arg.val, Env.at, lk, putd, ok1, okM, Option.getD_some, if_true, if_false, List.getElem?_cons_zero, List.getElem?_cons_succ, reduceCtorEq, Nat.reduceEqDiff, List.map_cons, List.map_nil]
      simp only [Tryd.fn10_r2, AmR, kp, pushA, exe, Arg.val, Env.at, lk, putd, ok1, okM, Option.getD_some, if_true, if_false, Bool.not_true, reduceCtorEq, Nat.reduceEqDiff, aun]
      simp only [Tryd.fn10_r4, hsz, e1, AmR, kp, pushA, exe, Arg.val, Env.at, lk, putd, ok1, okM, abin, Option.getD_some, if_true, if_false, reduceCtorEq, Nat.reduceEqDiff, decide_true, List.map_cons, List.map_nil]
      simp only [Tryd.fn10_r5, exactK_ret, AmR, kp, exe, Arg.val, Env.at, lk, putd, ok1, Option.getD_some, if_true, if_false, reduceCtorEq, Nat.reduceEqDiff, resAll, resOf, and_true]
    · have hl1 : (tabTxt w rows).length ≤ 1048576 := by omega
      have hE : tableE rows = 0 := by unfold tableE; rw [if_pos hb', hT, if_pos hl1]
      have hS : tableS rows = tabTxt w rows := by unfold tableS; rw [if_pos hE, hT]
      have e1 : ((x : Int) > 1048576) = False := eq_false hbig
      have sb : SB H1.next (H1.push 51 true [.nilp, .nils]) H1.next [] := ⟨hN1.push _ _ _, by show H1.floor ≤ H1.next; have := hg1.1; omega, Nat.le_refl _, Nat.lt_succ_self _, .inl ⟨rfl, get_push_new _ _ _ _⟩⟩
      have k1 := Kept.push H1.next H1 (Nat.le_refl _) 51 true [.nilp, .nils]
      have hout := Tryd.tableOut H1.next H1 H.next hgn v wv w hwv hwn hwb H1.next rows hv1 (fun r hr => ⟨(hs r hr).1, fun s hs' => ⟨((hg r hr).2.2 s hs').ne, (hs r hr).2 s hs'⟩, hfit r hr⟩) hrl
      obtain ⟨vs, H', ⟨h1, h2, h3⟩, hc⟩ := ecall_E 6 [] (lk Tryd.ext) (lk Tryd.tab) (f := 10) (fn := Tryd.fn10) (args := [v]) (H := H) (R := fun vs H' => vs = [.str (tabTxt w rows), .int .i64 0] ∧ Kept H1.next H1 H' ∧ Names H') rfl rfl rfl (by
        show W Tryd.call _ _ _ _ _
        simp only [Tryd.fn10, Tryd.fn10_r0, Tryd.fn10_r1, hwc', AmR, kp, exe, number, Arg.val, Env.at, lk, putd, ok1, okM, Option.getD_some, if_true, if_false, List.getElem?_cons_zero, List.getElem?_cons_succ, reduceCtorEq, Nat.reduceEqDiff, List.map_cons, List.map_nil]
        simp only [Tryd.fn10_r2, AmR, kp, pushA, exe, Arg.val, Env.at, lk, putd, ok1, okM, Option.getD_some, if_true, if_false, Bool.not_true, reduceCtorEq, Nat.reduceEqDiff, aun]
        simp only [Tryd.fn10_r4, hsz, e1, AmR, kp, pushA, exe, Arg.val, Env.at, lk, putd, ok1, okM, abin, Option.getD_some, if_true, if_false, reduceCtorEq, Nat.reduceEqDiff, decide_false, List.map_cons, List.map_nil]
        simp only [Tryd.fn10_r6, AmR, kp, exe, Env.at, lk, putd, ok1, Option.getD_some, if_true, if_false, reduceCtorEq, Nat.reduceEqDiff]
        simp only [Tryd.fn10_r7, hvl, AmR, kp, exe, Arg.val, Env.at, lk, putd, ok1, okM, Option.getD_some, if_true, if_false, reduceCtorEq, Nat.reduceEqDiff, Option.map_some, ↓exe_lenl]
        refine hout _ _ _ rfl rows.length 0 [] _ (by omega) sb k1 (by show H1.next ≤ H1.next + 1; omega) (by rw [List.drop_zero, List.nil_append]; exact hl1) fun H2 x' y' a1 a2 => ?_
        rw [List.drop_zero, List.nil_append] at a1
        obtain ⟨H3, b1, b2, b3⟩ := a1.stringK (by omega)
        simp only [Tryd.fn10_r18, b1, endK_ret, AmR, kp, exe, Arg.val, Env.at, lk, putd, ok1, Option.getD_some, if_true, if_false, Nat.reduceEqDiff, resAll, resOf, Option.some.injEq, true_and, List.map_cons, List.map_nil, exists_eq_left']
        exact ⟨a2.trans b2, b3⟩)
      rw [h1] at hc
      refine ⟨H', ?_, ⟨h2.1.trans hg1.1, Nat.le_trans hgn h2.2.1, fun i hi => (h2.2.2 i (by omega)).trans (hg1.2.2 i hi)⟩, h3⟩
      rw [hE, hS]
      exact hc

end Go.Am
