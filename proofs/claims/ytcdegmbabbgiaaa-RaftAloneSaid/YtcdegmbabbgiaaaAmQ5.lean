/-
  The quick machine says what the machine says: regions, code, calls.
-/
import Derived.Test.YtcdegmbabbgiaaaAmQ4
import Derived.Test.YtcdegmbabbgiaaaAmCls
set_option linter.unusedSimpArgs false
set_option linter.unusedVariables false
namespace Go.AM

theorem evF_tmp (G : Nat → Bool) (E : FE) (t : Nat) : evF G E (.tmp t) = if G t = true then E.g.get t else lcF E.l t := by
  show @Bool.rec (fun _ => Option V) (lcF E.l t) (Tr.get E.g t) (G t) = _
  cases G t <;> rfl
theorem lcF_cons (d : Nat) (v : V) (r : Lc) (t : Nat) : lcF (.cons d v r) t = if d = t then some v else lcF r t := by
  show @Bool.rec (fun _ => Option V) (lcF r t) (some v) (Nat.beq d t) = _
  by_cases h : d = t
  · subst h; simp
  · have h1 : Nat.beq d t = false := by
      cases hb : Nat.beq d t with
      | false => rfl
      | true => exact absurd (Nat.eq_of_beq_eq_true hb) h
    rw [h1, if_neg h]
theorem Sub.put {G : Nat → Bool} {E : FE} {e : Env} (hs : Sub G E e) {d : Nat} (hd : d < lim) (v : V) :
    Sub G (if G d = true then ⟨E.l, E.g.put d v⟩ else ⟨.cons d v E.l, E.g⟩) (e.put d v) := by
  intro t w hw
  rw [evF_tmp] at hw
  by_cases ht : t = d
  · subst ht
    rw [Tr.get_put_same _ _ _ hd]
    by_cases hg : G t = true
    · rw [if_pos hg, if_pos hg] at hw
      simp only at hw
      rw [Tr.get_put_same _ _ _ hd] at hw; exact hw
    · rw [if_neg hg, if_neg hg] at hw
      simp only at hw
      rw [lcF_cons, if_pos rfl] at hw; exact hw
  · rw [Tr.get_put_ne _ _ _ _ hd ht]
    refine hs t w ?_
    rw [evF_tmp]
    by_cases hgt : G t = true
    · rw [if_pos hgt] at hw ⊢
      by_cases hg : G d = true
      · rw [if_pos hg] at hw
        simp only at hw
        rw [Tr.get_put_ne _ _ _ _ hd ht] at hw; exact hw
      · rw [if_neg hg] at hw; exact hw
    · rw [if_neg hgt] at hw ⊢
      by_cases hg : G d = true
      · rw [if_pos hg] at hw; exact hw
      · rw [if_neg hg] at hw
        simp only at hw
        rw [lcF_cons, if_neg (Ne.symm ht)] at hw; exact hw
theorem Sub.nil {G : Nat → Bool} {E : FE} {e : Env} (hs : Sub G E e) : Sub G ⟨.nil, E.g⟩ e := by
  intro t w hw
  refine hs t w ?_
  rw [evF_tmp] at hw ⊢
  by_cases hg : G t = true
  · rw [if_pos hg] at hw ⊢; exact hw
  · rw [if_neg hg] at hw; cases hw
theorem dstK_some {X : Cx} (hX : X.n < lim) {d : Option Tmp} {E : FE} {e : Env} (hs : Sub X.g E e) {K : KE} {v : V} {n : Nat} {h : Tr Blk} {z : V × St} (H : dstK X d E K v n h = some z) :
    ∃ e' E', putDst X.n e d v = .ok e' ∧ Sub X.g E' e' ∧ K E' n h = some z ∧ (∀ t, d = some t → e'.get t = some v) := by
  have H : @DK.rec (fun _ => FE → KE → V → Nat → Tr Blk → Ans) (fun E K _ n h => K E n h) setL0 setG0 (fun _ _ _ _ _ => none) (dkind X d) E K v n h = some z := H
  cases d with
  | none => exact ⟨e, E, rfl, hs, H, fun t ht => by cases ht⟩
  | some d =>
    unfold dkind at H
    simp only at H
    cases hb : Nat.blt d X.n with
    | false => rw [hb] at H; cases H
    | true =>
      have hlt : d < X.n := Nat.le_of_ble_eq_true hb
      have hdl : d < lim := Nat.lt_trans hlt hX
      rw [hb] at H
      simp only [cond_true] at H
      have hp := hs.put hdl v
      refine ⟨e.put d v, _, by simp only [putDst, hb, cond_true], hp, ?_, fun t ht => ?_⟩
      · cases hg : X.g d with
        | true =>
          rw [hg] at H
          have H : setPV v (pth 32 d) E.g (fun g => K ⟨E.l, g⟩ n h) = some z := H
          rw [setPV_eq] at H
          exact H
        | false => rw [hg] at H; exact H
      · cases ht
        exact Tr.get_put_same _ _ _ hdl
theorem wantK_some {G : Nat → Bool} {E : FE} {e : Env} (hs : Sub G E e) {ops : Array Oper} {o : Oper} {j : Nat} {want : Bool} (hg : o.guard = some (j, want)) {x y : Ans} {z : V × St} (H : wantK G E ops j want x y = some z) :
    (wanted ops o e = .ok true ∧ x = some z) ∨ (wanted ops o e = .ok false ∧ y = some z) := by
  have H : @Option.rec Oper (fun _ => Ans) y (fun o => @Option.rec Tmp (fun _ => Ans) y (fun d => slotK G E d (fun v => asBool v (fun b => @Bool.rec (fun _ => Ans) (selQ want y x) (selQ want x y) b) y)) o.dst) (nthQO ops.toList j) = some z := H
  rw [nthQO_eq] at H
  unfold wanted
  simp only [hg]
  have e1 : ops[j]? = ops.toList[j]? := by simp
  rw [e1]
  cases ho : ops.toList[j]? with
  | none => rw [ho] at H; exact .inr ⟨rfl, H⟩
  | some oj =>
    rw [ho] at H
    simp only at H ⊢
    cases hd : oj.dst with
    | none => rw [hd] at H; exact .inr ⟨rfl, H⟩
    | some d =>
      rw [hd] at H
      obtain ⟨v, h1, H⟩ := slotK_some H
      simp only [hs d v h1]
      have HZ := H
      clear H
      rcases asBool_some HZ with ⟨b, rfl, H⟩ | ⟨hb, H⟩
      · cases b <;> cases want <;> first | exact .inl ⟨rfl, H⟩ | exact .inr ⟨rfl, H⟩
      · refine .inr ⟨?_, H⟩
        cases v <;> first | rfl | exact absurd rfl (hb _)

theorem stepQ_some {P : Program} {C : CallQ} {X : Cx} {ops : Array Oper} {o : Oper} {fr : Option Nat} {E : FE} {e : Env} (hs : Sub X.g E e) {n : Nat} {h : Tr Blk} {Kd : KM} {Ks : Ans} {z : V × St} (H : stepQ P C X ops o fr E n h Kd Ks = some z) :
    (wanted ops o e = .ok true ∧ ∃ out, evalOp P (ev e) o fr ⟨n, h⟩ = .ok out ∧ After C n h Kd z out) ∨ (wanted ops o e = .ok false ∧ Ks = some z) := by
  have op : opQ o.op P C X o fr E n h Kd = some z → ∃ out, evalOp P (ev e) o fr ⟨n, h⟩ = .ok out ∧ After C n h Kd z out := by
    intro H
    obtain ⟨out, h1, h2⟩ := opQ_some H
    exact ⟨out, evalOp_mono hs.ev h1, h2⟩
  have H : @Option.rec (Nat × Bool) (fun _ => Program → CallQ → Cx → Array Oper → Oper → Option Nat → FE → Nat → Tr Blk → KM → Ans → Ans) plainQ guardedQ o.guard P C X ops o fr E n h Kd Ks = some z := H
  cases hg : o.guard with
  | none =>
    rw [hg] at H
    exact .inl ⟨by unfold wanted; rw [hg], op H⟩
  | some g =>
    rw [hg] at H
    obtain ⟨j, want⟩ := g
    rcases wantK_some hs hg H with ⟨h1, H⟩ | ⟨h1, H⟩
    · exact .inl ⟨h1, op H⟩
    · exact .inr ⟨h1, H⟩

/-- The quick call says what the call says. -/
def CallQOK (call : Call) (cq : CallQ) : Prop := ∀ (f : FuncId) (args : List V) (n : Nat) (h : Tr Blk) (K : KM) (z : V × St), cq f args n h K = some z → ∃ v S', call f args ⟨n, h⟩ = .ok (v, S') ∧ K v S'.next S'.heap = some z

/-- An operation with its slot. -/
theorem stepOp_some {P : Program} {C : CallQ} {X : Cx} {call : Call} (hc : CallQOK call C) (hX : X.n < lim) {ops : Array Oper} {o : Oper} {fr : Option Nat} {E : FE} {e : Env} (hs : Sub X.g E e) {n : Nat} {h : Tr Blk} {Kd : V → KE} {Ks : KE} {z : V × St}
    (H : stepQ P C X ops o fr E n h (fun v n h => dstK X o.dst E (Kd v) v n h) (dstK X o.dst E Ks (.tup []) n h) = some z) :
    ∃ e' E' S', stepOp P call X.n ops o fr e ⟨n, h⟩ = .ok (e', S') ∧ Sub X.g E' e' ∧
      ((wanted ops o e = .ok true ∧ ∃ v, Kd v E' S'.next S'.heap = some z ∧ (∀ t, o.dst = some t → e'.get t = some v)) ∨ (wanted ops o e = .ok false ∧ Ks E' S'.next S'.heap = some z)) := by
  rcases stepQ_some hs H with ⟨hw, out, h1, H⟩ | ⟨hw, H⟩
  · cases out with
    | val v S' =>
      obtain ⟨e', E', h2, h3, h4, h5⟩ := dstK_some hX hs H
      exact ⟨e', E', S', by simp only [stepOp, hw, h1, h2], h3, .inl ⟨hw, v, h4, h5⟩⟩
    | skip S' =>
      obtain ⟨e', E', h2, h3, h4, h5⟩ := dstK_some hX hs H
      exact ⟨e', E', S', by simp only [stepOp, hw, h1, h2], h3, .inl ⟨hw, _, h4, h5⟩⟩
    | call f args =>
      obtain ⟨v, S', h6, H⟩ := hc _ _ _ _ _ _ H
      obtain ⟨e', E', h2, h3, h4, h5⟩ := dstK_some hX hs H
      exact ⟨e', E', S', by simp only [stepOp, hw, h1, h6, h2], h3, .inl ⟨hw, v, h4, h5⟩⟩
  · obtain ⟨e', E', h2, h3, h4, h5⟩ := dstK_some hX hs H
    exact ⟨e', E', ⟨n, h⟩, by simp only [stepOp, hw, h2], h3, .inr ⟨hw, h4⟩⟩

theorem runQ_some {P : Program} {C : CallQ} {X : Cx} {call : Call} (hc : CallQOK call C) (hX : X.n < lim) {ops : Array Oper} {K : KE} {z : V × St} : ∀ {l : List Oper} {E : FE} {e : Env} {n : Nat} {h : Tr Blk}, Sub X.g E e → runQ P C X ops l K E n h = some z →
    ∃ e' E' S', runOps P call X.n ops l e ⟨n, h⟩ = .ok (e', S') ∧ Sub X.g E' e' ∧ K E' S'.next S'.heap = some z
  | [], E, e, n, h, hs, H => ⟨e, E, ⟨n, h⟩, rfl, hs, H⟩
  | o :: l, E, e, n, h, hs, H => by
    have H : stepQ P C X ops o none E n h (fun v n h => dstK X o.dst E ((fun _ => runQ P C X ops l K) v) v n h) (dstK X o.dst E (runQ P C X ops l K) (.tup []) n h) = some z := H
    obtain ⟨e1, E1, S1, h1, h2, h3⟩ := stepOp_some (Kd := fun _ => runQ P C X ops l K) hc hX hs H
    have h3 : runQ P C X ops l K E1 S1.next S1.heap = some z := by
      rcases h3 with ⟨_, v, h, _⟩ | ⟨_, h⟩ <;> exact h
    obtain ⟨e2, E2, S2, h4, h5, h6⟩ := runQ_some hc hX h2 h3
    exact ⟨e2, E2, S2, by simp only [runOps, h1]; exact h4, h5, h6⟩

/-- The readers' records, side by side. -/
inductive RecsR (P : Program) (G : Nat → Bool) (ops : Array Oper) : List RecQ → List Rec → Prop
  | nil : RecsR P G ops [] []
  | cons (i : Nat) (E : FE) (e : Env) (v : V) (a : List RecQ) (b : List Rec) (hs : Sub G E e) (hc : ∀ o, ops[i]? = some o → cls P o.op = 1) (t : RecsR P G ops a b) : RecsR P G ops ((i, E, v) :: a) ((i, e, v) :: b)
theorem cls1_val {P : Program} {ρ : Operand → Option V} {o : Oper} {fr : Option Nat} {S : St} {r : Out} (hc : cls P o.op = 1) (h : evalOp P ρ o fr S = .ok r) : ∃ v S', r = .val v S' := by
  obtain ⟨v, e, _⟩ := cls1 hc h
  exact ⟨v, _, e⟩
theorem againQ1_some {P : Program} {C : CallQ} {X : Cx} {ops : Array Oper} {n : Nat} {h : Tr Blk} {x : Ans} {i : Nat} {z : V × St} : ∀ {a : List RecQ} {b : List Rec}, RecsR P X.g ops a b → againQ1 P C X ops n h x i a = some z →
    (match findRec i b with
      | none => true
      | some (e, v) => match ops[i]? with
        | none => false
        | some o => match evalOp P (ev e) o none ⟨n, h⟩ with
          | .ok (.val v' _) => beqV v v'
          | _ => false) = true ∧ x = some z
  | _, _, .nil, H => ⟨rfl, H⟩
  | _, _, .cons j E e v a b hs hc t, H => by
    have H : selQ (Nat.beq i j) (bindO (nthQO ops.toList i) (fun o => opQ o.op P C X o none E n h (fun v' _ _ => ifQ (beqV v v') x))) (againQ1 P C X ops n h x i a) = some z := H
    simp only [findRec]
    rcases selQ_some H with ⟨hb, HA⟩ | ⟨hb, HA⟩
    · have hij := Nat.eq_of_beq_eq_true hb
      clear H
      subst hij
      obtain ⟨o, ho, H⟩ := bindO_some HA
      rw [nthQO_eq] at ho
      have ho' : ops[i]? = some o := by simpa using ho
      obtain ⟨out, h1, H⟩ := opQ_some H
      have h1 := evalOp_mono hs.ev h1
      obtain ⟨v', S', rfl⟩ := cls1_val (hc o ho') h1
      obtain ⟨h2, H⟩ := ifQ_some H
      exact ⟨by simp only [hb, cond_true, ho', h1, h2], H⟩
    · obtain ⟨h1, h2⟩ := againQ1_some t HA
      exact ⟨by simp only [hb, cond_false]; exact h1, h2⟩
theorem againQ_some {P : Program} {C : CallQ} {X : Cx} {ops : Array Oper} {n : Nat} {h : Tr Blk} {x : Ans} {z : V × St} {a : List RecQ} {b : List Rec} (hr : RecsR P X.g ops a b) : ∀ {re : List Nat}, againQ P C X ops a n h re x = some z →
    again P ops b ⟨n, h⟩ re = true ∧ x = some z
  | [], H => ⟨rfl, H⟩
  | i :: re, H => by
    obtain ⟨h1, H⟩ := againQ1_some hr H
    obtain ⟨h2, H⟩ := againQ_some hr H
    refine ⟨?_, H⟩
    simp only [again]
    rw [h2, Bool.and_true]
    exact h1
theorem drawQ_some {P : Program} {C : CallQ} {X : Cx} {call : Call} (hc : CallQOK call C) (hX : X.n < lim) {ops : Array Oper} {base : Nat} {K : KE} {z : V × St} :
    ∀ {l : List Step} {a : List RecQ} {b : List Rec} {E : FE} {e : Env} {n : Nat} {h : Tr Blk}, RecsR P X.g ops a b → Sub X.g E e → drawQ P C X ops base l K a E n h = some z →
    ∃ e' E' S', drawGo P call X.n ops base l b e ⟨n, h⟩ = .ok (e', S') ∧ Sub X.g E' e' ∧ K E' S'.next S'.heap = some z
  | [], a, b, E, e, n, h, hr, hs, H => ⟨e, E, ⟨n, h⟩, rfl, hs, H⟩
  | (i, re) :: l, a, b, E, e, n, h, hr, hs, H => by
    have H : bindO (nthQO ops.toList i) (fun o => forceN (Nat.add base i) (fun k => stepQ P C X ops o (some k) E n h
      (fun v n h => dstK X o.dst E (fun E' n h => againQ P C X ops a n h re (drawQ P C X ops base l K (recQ P o i E v a) E' n h)) v n h)
      (dstK X o.dst E (fun E' n h => againQ P C X ops a n h re (drawQ P C X ops base l K a E' n h)) (.tup []) n h))) = some z := H
    obtain ⟨o, ho, H⟩ := bindO_some H
    rw [nthQO_eq] at ho
    have ho' : ops[i]? = some o := by simpa using ho
    rw [forceN_eq] at H
    obtain ⟨e1, E1, S1, h1, h2, h3⟩ := stepOp_some (Kd := fun v E' n h => againQ P C X ops a n h re (drawQ P C X ops base l K (recQ P o i E v a) E' n h)) hc hX hs H
    have h1' : stepOp P call X.n ops o (some (base + i)) e ⟨n, h⟩ = .ok (e1, S1) := h1
    rcases h3 with ⟨hw, v, H, hv⟩ | ⟨hw, H⟩
    · obtain ⟨h4, H⟩ := againQ_some hr H
      have h4' : again P ops b S1 re = true := h4
      have hr' : RecsR P X.g ops (recQ P o i E v a) (bif Nat.beq (cls P o.op) 1 && isTrue (wanted ops o e) then
            (match o.dst with
            | none => b
            | some d => match e1.get d with
              | some v => (i, e, v) :: b
              | none => b) else b) := by
        unfold recQ
        rw [hw]
        cases hcl : Nat.beq (cls P o.op) 1 with
        | false => exact hr
        | true =>
          cases hd : o.dst with
          | none => exact hr
          | some d =>
            have := hv d hd
            simp only [this]
            exact .cons i E e v a b hs (fun o' ho2 => by rw [ho'] at ho2; cases ho2; exact Nat.eq_of_beq_eq_true hcl) hr
      obtain ⟨e2, E2, S2, h5, h6, h7⟩ := drawQ_some hc hX hr' h2 H
      refine ⟨e2, E2, S2, ?_, h6, h7⟩
      simp only [drawGo, ho', h1', h4', cond_true]
      exact h5
    · obtain ⟨h4, H⟩ := againQ_some hr H
      have h4' : again P ops b S1 re = true := h4
      have hr' : RecsR P X.g ops a (bif Nat.beq (cls P o.op) 1 && isTrue (wanted ops o e) then
            (match o.dst with
            | none => b
            | some d => match e1.get d with
              | some v => (i, e, v) :: b
              | none => b) else b) := by
        rw [hw]
        simp only [isTrue, Bool.and_false, cond_false]
        exact hr
      obtain ⟨e2, E2, S2, h5, h6, h7⟩ := drawQ_some hc hX hr' h2 H
      refine ⟨e2, E2, S2, ?_, h6, h7⟩
      simp only [drawGo, ho', h1', h4', cond_true]
      exact h5

/-- What is left to do behind a code. -/
def AfterX (G : Nat → Bool) (Kn : KE) (Kx : KX) (Kr : KE) (z : V × St) : Ex × Env × St → Prop
  | (.normal, e, S) => ∃ E, Sub G E e ∧ Kn E S.next S.heap = some z
  | (.exit id, e, S) => ∃ E, Sub G E e ∧ Kx id E S.next S.heap = some z
  | (.ret, e, S) => ∃ E, Sub G E e ∧ Kr E S.next S.heap = some z
theorem loopQ_some {G : Nat → Bool} {a : ExQ} {body : Env → St → Run}
    (ha : ∀ {E : FE} {e : Env} {n : Nat} {h : Tr Blk} {Kn : KE} {Kx : KX} {Kr : KE} {z : V × St}, Sub G E e → a E n h Kn Kx Kr = some z → ∃ r, body e ⟨n, h⟩ = .ok r ∧ AfterX G Kn Kx Kr z r) {Kn : KE} {Kx : KX} {Kr : KE} {z : V × St} :
    ∀ {k : Nat} {E : FE} {e : Env} {n : Nat} {h : Tr Blk}, Sub G E e → loopQ a Kx Kr k E n h = some z → ∃ r, iter body k e ⟨n, h⟩ = .ok r ∧ AfterX G Kn Kx Kr z r
  | 0, E, e, n, h, hs, H => by cases H
  | k + 1, E, e, n, h, hs, H => by
    obtain ⟨⟨x, e1, S1⟩, h1, h2⟩ := ha (Kn := loopQ a Kx Kr k) hs H
    cases x with
    | normal =>
      obtain ⟨E1, h3, h4⟩ := h2
      obtain ⟨r, h5, h6⟩ := loopQ_some ha h3 h4
      exact ⟨r, by simp only [iter, h1]; exact h5, h6⟩
    | exit id => exact ⟨(.exit id, e1, S1), by simp only [iter, h1], h2⟩
    | ret => exact ⟨(.ret, e1, S1), by simp only [iter, h1], h2⟩
theorem execQ_some {P : Program} {C : CallQ} {X : Cx} {call : Call} (hc : CallQOK call C) (hX : X.n < lim) {pl : Nat → Option (List Step)} {k : Nat} (c : Code) :
    ∀ {E : FE} {e : Env} {n : Nat} {h : Tr Blk} {Kn : KE} {Kx : KX} {Kr : KE} {z : V × St}, Sub X.g E e → execQ P C X pl k c E n h Kn Kx Kr = some z → ∃ r, exec P pl call k X.n c e ⟨n, h⟩ = .ok r ∧ AfterX X.g Kn Kx Kr z r := by
  induction c with
  | skip => intro E e n h Kn Kx Kr z hs H; exact ⟨_, rfl, E, hs, H⟩
  | region id ops d =>
    intro E e n h Kn Kx Kr z hs H
    rcases selQ_some H with ⟨hd, H⟩ | ⟨hd, H⟩
    · rw [forceN_eq, lenQO_eq] at H
      obtain ⟨e', E', S', h1, h2, h3⟩ := drawQ_some hc hX .nil hs.nil H
      refine ⟨(.normal, e', S'), ?_, E', h2, h3⟩
      have : draw P call X.n ops (stepsOf (pl id) ops.size) e ⟨n, h⟩ = .ok (e', S') := h1
      simp only [exec, hd, cond_true, this]
    · obtain ⟨e', E', S', h1, h2, h3⟩ := runQ_some hc hX hs.nil H
      refine ⟨(.normal, e', S'), ?_, E', h2, h3⟩
      simp only [exec, hd, cond_false, h1]
  | seq a b iha ihb =>
    intro E e n h Kn Kx Kr z hs H
    obtain ⟨⟨x, e1, S1⟩, h1, h2⟩ := iha (Kn := fun e n h => execQ P C X pl k b e n h Kn Kx Kr) hs H
    cases x with
    | normal =>
      obtain ⟨E1, h3, h4⟩ := h2
      obtain ⟨r, h5, h6⟩ := ihb h3 h4
      exact ⟨r, by simp only [exec, h1]; exact h5, h6⟩
    | exit id => exact ⟨(.exit id, e1, S1), by simp only [exec, h1], h2⟩
    | ret => exact ⟨(.ret, e1, S1), by simp only [exec, h1], h2⟩
  | cond c a b iha ihb =>
    intro E e n h Kn Kx Kr z hs H
    obtain ⟨v, h1, H⟩ := evK_some (K := fun v => asBool v (fun r => selQ r (execQ P C X pl k a E n h Kn Kx Kr) (execQ P C X pl k b E n h Kn Kx Kr)) none) H
    have h1 := hs.ev _ _ h1
    have HZ := H
    clear H
    rcases asBool_some HZ with ⟨t, rfl, H⟩ | ⟨_, H⟩
    · rcases selQ_some H with ⟨ht, H⟩ | ⟨ht, H⟩
      · subst ht
        obtain ⟨r, h2, h3⟩ := iha hs H
        exact ⟨r, by simp only [exec, h1]; exact h2, h3⟩
      · subst ht
        obtain ⟨r, h2, h3⟩ := ihb hs H
        exact ⟨r, by simp only [exec, h1]; exact h2, h3⟩
    · cases H
  | block id a iha =>
    intro E e n h Kn Kx Kr z hs H
    obtain ⟨⟨x, e1, S1⟩, h1, h2⟩ := iha (Kn := Kn) (Kx := fun j e n h => selQ (Nat.beq j id) (Kn e n h) (Kx j e n h)) hs H
    cases x with
    | normal => exact ⟨(.normal, e1, S1), by simp only [exec, h1], h2⟩
    | ret => exact ⟨(.ret, e1, S1), by simp only [exec, h1], h2⟩
    | exit j =>
      obtain ⟨E1, h3, h4⟩ := h2
      rcases selQ_some h4 with ⟨hj, h4⟩ | ⟨hj, h4⟩
      · exact ⟨(.normal, e1, S1), by simp only [exec, h1, hj, cond_true], E1, h3, h4⟩
      · exact ⟨(.exit j, e1, S1), by simp only [exec, h1, hj, cond_false], E1, h3, h4⟩
  | loop a iha =>
    intro E e n h Kn Kx Kr z hs H
    obtain ⟨r, h1, h2⟩ := loopQ_some (Kn := Kn) iha hs H
    exact ⟨r, h1, h2⟩
  | rangeFunc f ps a b iha ihb => intro E e n h Kn Kx Kr z hs H; cases H
  | exit id => intro E e n h Kn Kx Kr z hs H; exact ⟨_, rfl, E, hs, H⟩
  | scope a iha => intro E e n h Kn Kx Kr z hs H; cases H
  | label l => intro E e n h Kn Kx Kr z hs H; exact ⟨_, rfl, E, hs, H⟩
  | goto l => intro E e n h Kn Kx Kr z hs H; cases H
  | ret => intro E e n h Kn Kx Kr z hs H; exact ⟨_, rfl, E, hs, H⟩
  | refuse w => intro E e n h Kn Kx Kr z hs H; cases H

theorem argsK_eq : ∀ (l : List V) (i : Nat) (e : Env) (K : Env → Ans), argsK l i e K = K (argsEnv i l e)
  | [], i, e, K => rfl
  | v :: l, i, e, K => by
    show setPV v (pth 32 i) e (fun e => argsK l (Nat.succ i) e K) = _
    rw [setPV_eq]
    exact argsK_eq l (i + 1) _ K
theorem resK_some {P : Program} {G : Nat → Bool} {E : FE} {e : Env} (hs : Sub G E e) {n : Nat} {h : Tr Blk} : ∀ {l : List ResultVar} {K : List V → Ans} {z : V × St}, resK P G E h l K = some z → ∃ vs, resV P e ⟨n, h⟩ l = .ok vs ∧ K vs = some z
  | [], K, z, H => ⟨[], rfl, H⟩
  | .tmp t :: l, K, z, H => by
    obtain ⟨v, h1, H⟩ := slotK_some (K := fun v => resK P G E h l (fun r => K (v :: r))) H
    obtain ⟨vs, h2, H⟩ := resK_some (n := n) hs H
    exact ⟨v :: vs, by simp only [resV, hs t v h1, h2], H⟩
  | .cell a t :: l, K, z, H => by
    obtain ⟨p, h1, H⟩ := slotK_some (K := fun p => ldK P t p h (fun v => resK P G E h l (fun r => K (v :: r)))) H
    obtain ⟨v, h3, H⟩ := ldK_some H
    obtain ⟨vs, h2, H⟩ := resK_some (n := n) hs H
    exact ⟨v :: vs, by simp only [resV, hs a p h1, h3 n, h2], H⟩
theorem oneK_eq (l : List V) (K : KV) : oneK l K = K (resOne l) := by
  cases l with
  | nil => rfl
  | cons v l => cases l <;> rfl
theorem retK_some {P : Program} {G : Nat → Bool} {rs : List ResultVar} {K : KM} {E : FE} {e : Env} (hs : Sub G E e) {n : Nat} {h : Tr Blk} {z : V × St} (H : retK P G rs K E n h = some z) : ∃ vs, resV P e ⟨n, h⟩ rs = .ok vs ∧ K (resOne vs) n h = some z := by
  obtain ⟨vs, h1, H⟩ := resK_some (n := n) hs H
  rw [oneK_eq] at H
  exact ⟨vs, h1, H⟩

theorem callQ_some {P : Program} {pl : Plans} : ∀ k, CallQOK (callF P pl k) (callQ P pl k)
  | 0 => fun _ _ _ _ _ _ H => by cases H
  | k + 1 => fun f args n h K z H => by
    obtain ⟨x, hx, H⟩ := bindO_some (K := fun x => @Ent.rec (fun _ => Ans) (fun p => bindO (bodyOf P f) (fun b => forceN (maskOf P f) (fun m => codeQ P (callQ P pl k) p (isG m) k args n h K b.1 b.2.1 b.2.2))) (fun g => specQ g args n h K) x) H
    cases x with
    | spec g =>
      obtain ⟨r, h1, H⟩ := bindR_some (K := fun r : V × St => normV r.1 (fun v => forceN r.2.next (fun n => K v n r.2.heap))) H
      rw [normV_eq, forceN_eq] at H
      exact ⟨r.1, r.2, by simp only [callF, hx, h1], H⟩
    | code p =>
      obtain ⟨b, hb, H⟩ := bindO_some (K := fun b : Code × Nat × List ResultVar => forceN (maskOf P f) (fun m => codeQ P (callQ P pl k) p (isG m) k args n h K b.1 b.2.1 b.2.2)) H
      rw [forceN_eq] at H
      unfold bodyOf at hb
      rw [nthQF_eq] at hb
      split at hb
      · cases hb
      · rename_i fn hfn
        have hfn : P.funcs[f]? = some fn := by simpa using hfn
        split at hb
        · cases hb
        · rename_i c hcb
          rw [cond_eq_ite] at hb
          split at hb
          · rename_i hlt
            cases hb
            obtain ⟨hle, H⟩ := ifQ_some H
            rw [argsK_eq] at H
            rw [lenQV_eq] at hle
            have hs : Sub (isG (maskOf P f)) ⟨.nil, argsEnv 0 args .nil⟩ (argsEnv 0 args .nil) := by
              intro t v hv
              rw [evF_tmp] at hv
              split at hv
              · exact hv
              · cases hv
            have hl : fn.ntmps < lim := Nat.le_of_ble_eq_true hlt
            obtain ⟨⟨x, e1, S1⟩, h1, h2⟩ := execQ_some (C := callQ P pl k) (X := ⟨fn.ntmps, isG (maskOf P f)⟩) (call := callF P pl k) (callQ_some k) hl c hs H
            have hck : (Nat.ble args.length fn.ntmps && Nat.blt fn.ntmps lim) = true := by rw [hle, hlt]; rfl
            have fin : ∀ {x : Ex}, (∀ id, x ≠ .exit id) → exec P p (callF P pl k) k fn.ntmps c (argsEnv 0 args .nil) ⟨n, h⟩ = .ok (x, e1, S1) → (∃ E, Sub (isG (maskOf P f)) E e1 ∧ retK P (isG (maskOf P f)) fn.results.toList K E S1.next S1.heap = some z) →
                ∃ v S', callF P pl (k + 1) f args ⟨n, h⟩ = .ok (v, S') ∧ K v S'.next S'.heap = some z := by
              rintro x hne h1 ⟨E, h3, h4⟩
              obtain ⟨vs, h5, h6⟩ := retK_some h3 h4
              have h5' : resV P e1 S1 fn.results.toList = .ok vs := h5
              refine ⟨resOne vs, S1, ?_, h6⟩
              simp only [callF, hx, hfn, hcb, hck, cond_true, h1]
              cases x with
              | exit id => exact absurd rfl (hne id)
              | normal => simp only [h5']
              | ret => simp only [h5']
            cases x with
            | normal => exact fin (fun _ => Ex.noConfusion) h1 h2
            | ret => exact fin (fun _ => Ex.noConfusion) h1 h2
            | exit id =>
              obtain ⟨E, _, h4⟩ := h2
              cases h4
          · cases hb

/-- What the quick machine says. -/
theorem saysQ_true {P : Program} {pl : Plans} {k : Nat} {f : FuncId} (h : saysQ P pl k f = true) : saysTrue (callF P pl k f [] ⟨0, .nil⟩) = true := by
  unfold saysQ at h
  cases hc : callQ P pl k f [] 0 .nil (fun v n h => some (v, ⟨n, h⟩)) with
  | none => rw [hc] at h; cases h
  | some r =>
    rw [hc] at h
    obtain ⟨v, S', h1, h2⟩ := callQ_some k _ _ _ _ _ _ hc
    rw [h1]
    cases h2
    exact h
end Go.AM
