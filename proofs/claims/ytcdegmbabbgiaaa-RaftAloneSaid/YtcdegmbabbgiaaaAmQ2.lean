/-
  The quick machine says what the machine says: lists, trees, values, memory.
-/
import Derived.Test.YtcdegmbabbgiaaaAmQ
import Derived.Test.YtcdegmbabbgiaaaAmOps3
set_option linter.unusedSimpArgs false
set_option linter.unusedVariables false
namespace Go.AM

theorem bindO_some {α : Type} {x : Option α} {K : α → Ans} {z : V × St} (h : bindO x K = some z) : ∃ a, x = some a ∧ K a = some z := by
  cases x with
  | none => cases h
  | some a => exact ⟨a, rfl, h⟩
theorem bindR_some {α : Type} {x : R α} {K : α → Ans} {z : V × St} (h : bindR x K = some z) : ∃ a, x = .ok a ∧ K a = some z := by
  cases x with
  | error e => cases h
  | ok a => exact ⟨a, rfl, h⟩
theorem ifQ_some {b : Bool} {x : Ans} {z : V × St} (h : ifQ b x = some z) : b = true ∧ x = some z := by
  cases b with
  | false => cases h
  | true => exact ⟨rfl, h⟩
theorem selQ_some {b : Bool} {x y : Ans} {z : V × St} (h : selQ b x y = some z) : (b = true ∧ x = some z) ∨ (b = false ∧ y = some z) := by
  cases b with
  | false => exact .inr ⟨rfl, h⟩
  | true => exact .inl ⟨rfl, h⟩
theorem forceN_eq (n : Nat) (K : Nat → Ans) : forceN n K = K n := by cases n <;> rfl
theorem forceI_eq (n : Int) (K : Int → Ans) : forceI n K = K n := by
  cases n with
  | ofNat n => exact forceN_eq n fun n => K (.ofNat n)
  | negSucc n => exact forceN_eq n fun n => K (.negSucc n)
theorem forceB_eq (b : Bool) (K : Bool → Ans) : forceB b K = K b := by cases b <;> rfl
theorem normV_eq (v : V) (K : KV) : normV v K = K v := by
  cases v with
  | int k n => exact forceI_eq n fun n => K (.int k n)
  | bool b => exact forceB_eq b fun b => K (.bool b)
  | _ => rfl

/-! ### Lists -/
theorem lenQV_eq : ∀ l : List V, lenQV l = l.length
  | [] => rfl
  | _ :: l => congrArg Nat.succ (lenQV_eq l)
theorem lenQL_eq : ∀ l : List (List V), lenQL l = l.length
  | [] => rfl
  | _ :: l => congrArg Nat.succ (lenQL_eq l)
theorem lenQO_eq : ∀ l : List Oper, lenQO l = l.length
  | [] => rfl
  | _ :: l => congrArg Nat.succ (lenQO_eq l)
theorem nthQV_eq : ∀ (i : Nat) (l : List V), nthQV l i = l[i]?
  | 0, [] => rfl
  | 0, _ :: _ => rfl
  | i + 1, [] => rfl
  | i + 1, _ :: l => by rw [List.getElem?_cons_succ]; exact nthQV_eq i l
theorem nthQL_eq : ∀ (i : Nat) (l : List (List V)), nthQL l i = l[i]?
  | 0, [] => rfl
  | 0, _ :: _ => rfl
  | i + 1, [] => rfl
  | i + 1, _ :: l => by rw [List.getElem?_cons_succ]; exact nthQL_eq i l
theorem nthQO_eq : ∀ (i : Nat) (l : List Oper), nthQO l i = l[i]?
  | 0, [] => rfl
  | 0, _ :: _ => rfl
  | i + 1, [] => rfl
  | i + 1, _ :: l => by rw [List.getElem?_cons_succ]; exact nthQO_eq i l
theorem nthQT_eq : ∀ (i : Nat) (l : List TypeId), nthQT l i = l[i]?
  | 0, [] => rfl
  | 0, _ :: _ => rfl
  | i + 1, [] => rfl
  | i + 1, _ :: l => by rw [List.getElem?_cons_succ]; exact nthQT_eq i l
theorem dropQV_eq : ∀ (i : Nat) (l : List V), dropQV l i = l.drop i
  | 0, _ => rfl
  | i + 1, [] => rfl
  | i + 1, _ :: l => dropQV_eq i l
theorem dropQL_eq : ∀ (i : Nat) (l : List (List V)), dropQL l i = l.drop i
  | 0, _ => rfl
  | i + 1, [] => rfl
  | i + 1, _ :: l => dropQL_eq i l
theorem takeKV_some : ∀ {n : Nat} {l : List V} {K : List V → Ans} {z : V × St}, takeKV n l K = some z → n ≤ l.length ∧ K (l.take n) = some z
  | 0, l, K, z, h => ⟨Nat.zero_le _, h⟩
  | n + 1, [], K, z, h => by cases h
  | n + 1, a :: l, K, z, h => by
    obtain ⟨h1, h2⟩ := takeKV_some (n := n) (l := l) (K := fun r => K (a :: r)) h
    exact ⟨by simpa using h1, by simpa using h2⟩
theorem takeKL_some : ∀ {n : Nat} {l : List (List V)} {K : List (List V) → Ans} {z : V × St}, takeKL n l K = some z → n ≤ l.length ∧ K (l.take n) = some z
  | 0, l, K, z, h => ⟨Nat.zero_le _, h⟩
  | n + 1, [], K, z, h => by cases h
  | n + 1, a :: l, K, z, h => by
    obtain ⟨h1, h2⟩ := takeKL_some (n := n) (l := l) (K := fun r => K (a :: r)) h
    exact ⟨by simpa using h1, by simpa using h2⟩
theorem appKL_eq : ∀ (a b : List (List V)) (K : List (List V) → Ans), appKL a b K = K (a ++ b)
  | [], b, K => rfl
  | x :: a, b, K => appKL_eq a b fun r => K (x :: r)
theorem setNthKL_some {x : List V} : ∀ {i : Nat} {l : List (List V)} {K : List (List V) → Ans} {z : V × St}, setNthKL x i l K = some z → K (l.set i x) = some z
  | 0, [], K, z, h => by cases h
  | 0, _ :: l, K, z, h => h
  | i + 1, [], K, z, h => by cases h
  | i + 1, a :: l, K, z, h => setNthKL_some (i := i) (l := l) (K := fun r => K (a :: r)) h
theorem overKV_some : ∀ {xs l : List V} {K : List V → Ans} {z : V × St}, overKV xs l K = some z → xs.length ≤ l.length ∧ K (xs ++ l.drop xs.length) = some z
  | [], l, K, z, h => ⟨Nat.zero_le _, h⟩
  | x :: xs, [], K, z, h => by cases h
  | x :: xs, a :: l, K, z, h => by
    obtain ⟨h1, h2⟩ := overKV_some (xs := xs) (l := l) (K := fun r => K (x :: r)) h
    exact ⟨by simpa using h1, by simpa using h2⟩
theorem spliceKV_some {xs : List V} : ∀ {j : Nat} {l : List V} {K : List V → Ans} {z : V × St}, spliceKV xs j l K = some z → j + xs.length ≤ l.length ∧ K (splice l j xs) = some z
  | 0, l, K, z, h => by
    obtain ⟨h1, h2⟩ := overKV_some h
    exact ⟨by omega, by simpa [splice] using h2⟩
  | j + 1, [], K, z, h => by cases h
  | j + 1, a :: l, K, z, h => by
    obtain ⟨h1, h2⟩ := spliceKV_some (j := j) (l := l) (K := fun r => K (a :: r)) h
    refine ⟨by simp; omega, ?_⟩
    have : splice (a :: l) (j + 1) xs = a :: splice l j xs := by
      simp [splice, Nat.add_right_comm j 1 xs.length]
    rw [this]; exact h2

/-! ### Trees -/
theorem pth_zero (f : Nat) : pth (f + 1) 0 = .here := rfl
theorem pth_step (f n : Nat) (h : n ≠ 0) : pth (f + 1) n = if n % 2 = 1 then .left (pth f (n / 2)) else .right (pth f (n / 2 - 1)) := by
  have h1 : Nat.beq n 0 = false := by
    cases hb : Nat.beq n 0 with
    | false => rfl
    | true => exact absurd (Nat.eq_of_beq_eq_true hb) h
  show (bif Nat.beq n 0 then Pth.here else _) = _
  rw [h1]
  show (bif Nat.beq (n % 2) 1 then Pth.left (pth f (n / 2)) else Pth.right (pth f (n / 2 - 1))) = _
  simp only [cond_eq_ite, Nat.beq_eq]
theorem setPV_eq (x : V) : ∀ (f : Nat) (t : Tr V) (n : Nat) (K : Tr V → Ans), setPV x (pth f n) t K = K (Tr.set f t n x)
  | 0, t, n, K => rfl
  | f + 1, t, n, K => by
    by_cases h : n = 0
    · subst h
      cases t <;> rfl
    · rw [pth_step f n h]
      have h1 : Nat.beq n 0 = false := by
        cases hb : Nat.beq n 0 with
        | false => rfl
        | true => exact absurd (Nat.eq_of_beq_eq_true hb) h
      by_cases h2 : n % 2 = 1
      · rw [if_pos h2]
        have h3 : Nat.beq (n % 2) 1 = true := by rw [h2]; rfl
        cases t with
        | nil => simp only [Tr.set, h1, h3, cond_false, cond_true]; exact setPV_eq x f .nil (n / 2) _
        | node l v r => simp only [Tr.set, h1, h3, cond_false, cond_true]; exact setPV_eq x f l (n / 2) _
      · rw [if_neg h2]
        have h3 : Nat.beq (n % 2) 1 = false := by
          cases hb : Nat.beq (n % 2) 1 with
          | false => rfl
          | true => exact absurd (Nat.eq_of_beq_eq_true hb) h2
        cases t with
        | nil => simp only [Tr.set, h1, h3, cond_false]; exact setPV_eq x f .nil (n / 2 - 1) _
        | node l v r => simp only [Tr.set, h1, h3, cond_false]; exact setPV_eq x f r (n / 2 - 1) _
theorem setPB_eq (x : Blk) : ∀ (f : Nat) (t : Tr Blk) (n : Nat) (K : Tr Blk → Ans), setPB x (pth f n) t K = K (Tr.set f t n x)
  | 0, t, n, K => rfl
  | f + 1, t, n, K => by
    by_cases h : n = 0
    · subst h
      cases t <;> rfl
    · rw [pth_step f n h]
      have h1 : Nat.beq n 0 = false := by
        cases hb : Nat.beq n 0 with
        | false => rfl
        | true => exact absurd (Nat.eq_of_beq_eq_true hb) h
      by_cases h2 : n % 2 = 1
      · rw [if_pos h2]
        have h3 : Nat.beq (n % 2) 1 = true := by rw [h2]; rfl
        cases t with
        | nil => simp only [Tr.set, h1, h3, cond_false, cond_true]; exact setPB_eq x f .nil (n / 2) _
        | node l v r => simp only [Tr.set, h1, h3, cond_false, cond_true]; exact setPB_eq x f l (n / 2) _
      · rw [if_neg h2]
        have h3 : Nat.beq (n % 2) 1 = false := by
          cases hb : Nat.beq (n % 2) 1 with
          | false => rfl
          | true => exact absurd (Nat.eq_of_beq_eq_true hb) h2
        cases t with
        | nil => simp only [Tr.set, h1, h3, cond_false]; exact setPB_eq x f .nil (n / 2 - 1) _
        | node l v r => simp only [Tr.set, h1, h3, cond_false]; exact setPB_eq x f r (n / 2 - 1) _
theorem putQ_eq (t : Tr Blk) (n : Nat) (x : Blk) (K : Tr Blk → Ans) : putQ t n x K = K (t.put n x) := setPB_eq x 32 t n K
theorem getPV_some : ∀ {f : Nat} {t : Tr V} {n : Nat} {K : V → Ans} {z : V × St}, getPV (pth f n) t K = some z → ∃ v, t.get n = some v ∧ K v = some z
  | 0, t, n, K, z, h => by cases h
  | f + 1, t, n, K, z, h => by
    by_cases h0 : n = 0
    · subst h0
      cases t with
      | nil => cases h
      | node l v r =>
        cases v with
        | none => cases h
        | some v => exact ⟨v, rfl, h⟩
    · rw [pth_step f n h0] at h
      by_cases h2 : n % 2 = 1
      · rw [if_pos h2] at h
        cases t with
        | nil => cases h
        | node l v r =>
          obtain ⟨v', e1, e2⟩ := getPV_some (f := f) (t := l) (n := n / 2) (K := K) h
          exact ⟨v', by rw [Tr.get_node, if_neg h0, if_pos h2]; exact e1, e2⟩
      · rw [if_neg h2] at h
        cases t with
        | nil => cases h
        | node l v r =>
          obtain ⟨v', e1, e2⟩ := getPV_some (f := f) (t := r) (n := n / 2 - 1) (K := K) h
          exact ⟨v', by rw [Tr.get_node, if_neg h0, if_neg h2]; exact e1, e2⟩
theorem getPB_some : ∀ {f : Nat} {t : Tr Blk} {n : Nat} {K : Blk → Ans} {z : V × St}, getPB (pth f n) t K = some z → ∃ v, t.get n = some v ∧ K v = some z
  | 0, t, n, K, z, h => by cases h
  | f + 1, t, n, K, z, h => by
    by_cases h0 : n = 0
    · subst h0
      cases t with
      | nil => cases h
      | node l v r =>
        cases v with
        | none => cases h
        | some v => exact ⟨v, rfl, h⟩
    · rw [pth_step f n h0] at h
      by_cases h2 : n % 2 = 1
      · rw [if_pos h2] at h
        cases t with
        | nil => cases h
        | node l v r =>
          obtain ⟨v', e1, e2⟩ := getPB_some (f := f) (t := l) (n := n / 2) (K := K) h
          exact ⟨v', by rw [Tr.get_node, if_neg h0, if_pos h2]; exact e1, e2⟩
      · rw [if_neg h2] at h
        cases t with
        | nil => cases h
        | node l v r =>
          obtain ⟨v', e1, e2⟩ := getPB_some (f := f) (t := r) (n := n / 2 - 1) (K := K) h
          exact ⟨v', by rw [Tr.get_node, if_neg h0, if_neg h2]; exact e1, e2⟩

/-! ### Values -/
theorem asInt_some {v : V} {K : IntKind → Int → Ans} {o : Ans} {z : V × St} (h : asInt v K o = some z) : (∃ k n, v = .int k n ∧ K k n = some z) ∨ o = some z := by
  cases v <;> first | exact .inl ⟨_, _, rfl, h⟩ | exact .inr h
theorem asBool_some {v : V} {K : Bool → Ans} {o : Ans} {z : V × St} (h : asBool v K o = some z) : (∃ b, v = .bool b ∧ K b = some z) ∨ ((∀ b, v ≠ .bool b) ∧ o = some z) := by
  cases v <;> first | exact .inl ⟨_, rfl, h⟩ | exact .inr ⟨fun _ => V.noConfusion, h⟩
theorem asPtr_some {v : V} {K : Nat → Nat → Nat → Nat → Ans} {Ki : List V → Nat → Ans} {o : Ans} {z : V × St} (h : asPtr v K Ki o = some z) :
    (∃ a ver i j, v = .ptr a ver i j ∧ K a ver i j = some z) ∨ (∃ cs j, v = .iptr cs j ∧ Ki cs j = some z) ∨ o = some z := by
  cases v <;> first | exact .inl ⟨_, _, _, _, rfl, h⟩ | exact .inr (.inl ⟨_, _, rfl, h⟩) | exact .inr (.inr h)
theorem asSl_some {v : V} {K : Nat → Nat → Nat → Nat → Nat → Ans} {Kn o : Ans} {z : V × St} (h : asSl v K Kn o = some z) :
    (∃ a ver es off len, v = .sl a ver es off len ∧ K a ver es off len = some z) ∨ (v = .nils ∧ Kn = some z) ∨ o = some z := by
  cases v <;> first | exact .inl ⟨_, _, _, _, _, rfl, h⟩ | exact .inr (.inl ⟨rfl, h⟩) | exact .inr (.inr h)
theorem asTup_some {v : V} {K : List V → Ans} {z : V × St} (h : asTup v K none = some z) : ∃ vs, v = .tup vs ∧ K vs = some z := by
  cases v <;> first | exact ⟨_, rfl, h⟩ | cases h
theorem asAgg_some {v : V} {K : List V → Ans} {z : V × St} (h : asAgg v K = some z) : ∃ vs, v = .agg vs ∧ K vs = some z := by
  cases v <;> first | exact ⟨_, rfl, h⟩ | cases h
theorem asFunc_some {v : V} {K : FuncId → List V → List V → Ans} {z : V × St} (h : asFunc v K none = some z) : ∃ f a b, v = .func f a b ∧ K f a b = some z := by
  cases v <;> first | exact ⟨_, _, _, rfl, h⟩ | cases h
theorem cellsK_eq (v : V) (K : List V → Ans) : cellsK v K = K v.cells := by cases v <;> rfl
theorem oneQ_eq (v : V) : oneQ v = v.one := by cases v <;> rfl
theorem allOneQ_eq : ∀ l : List V, allOneQ l = allOne l
  | [] => rfl
  | v :: l => by
    show @Bool.rec (fun _ => Bool) false (allOneQ l) (oneQ v) = (V.one v && allOne l)
    rw [allOneQ_eq l, oneQ_eq]
    cases v.one <;> rfl

/-! ### Slots -/
/-- The quick slots say nothing that the slots do not say. -/
def Sub (G : Nat → Bool) (E : FE) (e : Env) : Prop := ∀ t v, evF G E (.tmp t) = some v → e.get t = some v
theorem lcK_some : ∀ {l : Lc} {t : Nat} {K : KV} {z : V × St}, lcK l t K = some z → ∃ v, lcF l t = some v ∧ K v = some z
  | .nil, t, K, z, h => by cases h
  | .cons d v r, t, K, z, h => by
    have h' : @Bool.rec (fun _ => Ans) (lcK r t K) (K v) (Nat.beq d t) = some z := h
    show ∃ v', @Bool.rec (fun _ => Option V) (lcF r t) (some v) (Nat.beq d t) = some v' ∧ _
    cases hb : Nat.beq d t with
    | true => rw [hb] at h'; exact ⟨v, rfl, h'⟩
    | false => rw [hb] at h'; exact lcK_some h'
theorem slotK_some {G : Nat → Bool} {E : FE} {t : Nat} {K : KV} {z : V × St} (h : slotK G E t K = some z) : ∃ v, evF G E (.tmp t) = some v ∧ K v = some z := by
  show ∃ v, @Bool.rec (fun _ => Option V) (lcF E.l t) (Tr.get E.g t) (G t) = some v ∧ _
  unfold slotK at h
  cases hg : G t with
  | true => rw [hg] at h; exact getPV_some h
  | false => rw [hg] at h; exact lcK_some h
theorem evK_some {G : Nat → Bool} {E : FE} {x : Operand} {K : KV} {z : V × St} (h : evK G E x K = some z) : ∃ v, evF G E x = some v ∧ K v = some z := by
  have h : @OK.rec (fun _ => FE → KV → Ans) slotL0 slotG0 (fun v _ K => K v) (fun _ _ => none) (okind G x) E K = some z := h
  cases x with
  | tmp t =>
    show ∃ v, @Bool.rec (fun _ => Option V) (lcF E.l t) (Tr.get E.g t) (G t) = some v ∧ _
    have h : @OK.rec (fun _ => FE → KV → Ans) slotL0 slotG0 (fun v _ K => K v) (fun _ _ => none) (bif G t then .glob (pth 32 t) else .loc t) E K = some z := h
    cases hg : G t with
    | true => rw [hg] at h; exact getPV_some h
    | false => rw [hg] at h; exact lcK_some h
  | const v =>
    have h : @OK.rec (fun _ => FE → KV → Ans) slotL0 slotG0 (fun v _ K => K v) (fun _ _ => none) (match ofValue v with | some v => .val v | none => .bad) E K = some z := h
    cases hv : ofValue v with
    | none => rw [hv] at h; cases h
    | some w => rw [hv] at h; exact ⟨w, hv, h⟩
  | global g => cases h
  | func f => exact ⟨_, rfl, h⟩
theorem Sub.ev {G : Nat → Bool} {E : FE} {e : Env} (hs : Sub G E e) (x : Operand) (v : V) (h : evF G E x = some v) : ev e x = some v := by
  cases x with
  | tmp t => exact hs t v h
  | const w => exact h
  | global g => cases h
  | func f => exact h
theorem evsK_some {G : Nat → Bool} {E : FE} : ∀ {l : List Operand} {K : List V → Ans} {z : V × St}, evsK G E l K = some z → ∃ vs, evs (evF G E) l = some vs ∧ K vs = some z
  | [], K, z, h => ⟨[], rfl, h⟩
  | x :: l, K, z, h => by
    obtain ⟨v, h1, h2⟩ := evK_some (K := fun v => evsK G E l (fun r => K (v :: r))) h
    obtain ⟨vs, h3, h4⟩ := evsK_some h2
    exact ⟨v :: vs, by simp [evs, h1, h3], h4⟩
theorem evPsK_some {G : Nat → Bool} {E : FE} : ∀ {l : List (Nat × Operand)} {K : List (Nat × V) → Ans} {z : V × St}, evPsK G E l K = some z → ∃ vs, evPs (evF G E) l = some vs ∧ K vs = some z
  | [], K, z, h => ⟨[], rfl, h⟩
  | (i, x) :: l, K, z, h => by
    obtain ⟨v, h1, h2⟩ := evK_some (K := fun v => evPsK G E l (fun r => K ((i, v) :: r))) h
    obtain ⟨vs, h3, h4⟩ := evPsK_some h2
    exact ⟨(i, v) :: vs, by simp [evPs, h1, h3], h4⟩
theorem evOK_some {G : Nat → Bool} {E : FE} {x : Option Operand} {K : Option V → Ans} {z : V × St} (h : evOK G E x K = some z) : ∃ v, evO (evF G E) x = some v ∧ K v = some z := by
  cases x with
  | none => exact ⟨none, rfl, h⟩
  | some x =>
    obtain ⟨v, h1, h2⟩ := evK_some (K := fun v => K (some v)) h
    exact ⟨some v, by simp [evO, h1], h2⟩

/-! ### Memory -/
theorem rowK_some {h : Tr Blk} {a ver : Nat} {K : Nat → List (List V) → Ans} {z : V × St} (H : rowK h a ver K = some z) :
    ∃ es elems, (∀ n, getRow ⟨n, h⟩ a ver = .ok (es, elems)) ∧ K es elems = some z := by
  obtain ⟨b, h1, h2⟩ := getPB_some H
  cases b with
  | row v es elems =>
    obtain ⟨hv, hk⟩ := ifQ_some (b := Nat.beq v ver) (x := K es elems) h2
    exact ⟨es, elems, fun n => by simp [getRow, h1, hv], hk⟩
  | mp _ => cases h2
  | iter _ _ => cases h2
theorem newK_some {fr : Option Nat} {n : Nat} {h : Tr Blk} {b : Blk} {K : Nat → Nat → Tr Blk → Ans} {z : V × St} (H : newK fr n h b K = some z) :
    ∃ a n' h', newBlk fr ⟨n, h⟩ b = .ok (a, ⟨n', h'⟩) ∧ K a n' h' = some z := by
  cases fr with
  | none =>
    obtain ⟨h1, h2⟩ := ifQ_some (b := Nat.blt n lim) H
    rw [putQ_eq, forceN_eq] at h2
    exact ⟨n, n + 1, h.put n b, by simp [newBlk, h1], h2⟩
  | some k =>
    obtain ⟨h1, h2⟩ := ifQ_some (b := Nat.blt k lim) H
    rw [putQ_eq] at h2
    exact ⟨k, n, h.put k b, by simp [newBlk, h1], h2⟩
theorem aggK_some {cs : List V} {off s : Nat} {K : KV} {z : V × St} (h : aggK cs off s K = some z) : off + s ≤ cs.length ∧ K (.agg ((cs.drop off).take s)) = some z := by
  unfold aggK at h
  rcases selQ_some h with ⟨h0, hA⟩ | ⟨_, hA⟩
  · have e0 := Nat.eq_of_beq_eq_true h0
    clear h
    subst e0
    rcases selQ_some hA with ⟨h1, hB⟩ | ⟨_, hB⟩
    · have e1 := Nat.eq_of_beq_eq_true h1
      rw [lenQV_eq] at e1
      clear hA
      subst e1
      exact ⟨by omega, by simpa using hB⟩
    · obtain ⟨h1, h2⟩ := takeKV_some hB
      exact ⟨by omega, by simpa using h2⟩
  · obtain ⟨hb, hB⟩ := ifQ_some hA
    have hb' := Nat.le_of_ble_eq_true hb
    rw [lenQV_eq] at hb'
    obtain ⟨h1, h2⟩ := takeKV_some hB
    rw [dropQV_eq] at h2
    exact ⟨hb', h2⟩
theorem partK_some {P : Program} {t : TypeId} {cs : List V} {off : Nat} {K : KV} {z : V × St} (h : partK P t cs off K = some z) : ∃ v, partV P t cs off = .ok v ∧ K v = some z := by
  obtain ⟨d, hd, h⟩ := bindO_some h
  unfold tk at hd
  unfold partV
  split at hd
  · cases hd
  · rename_i td htd
    rw [cond_eq_ite] at hd
    simp only [htd]
    split at hd
    · rename_i ha
      cases hd
      obtain ⟨h1, h2⟩ := aggK_some h
      refine ⟨_, ?_, h2⟩
      have : Nat.ble (off + sz P t) cs.length = true := Nat.ble_eq_true_of_le h1
      rw [ha, this]; rfl
    · rename_i ha
      cases hd
      obtain ⟨v, h1, h2⟩ := bindO_some (α := V) h
      rw [nthQV_eq] at h1
      refine ⟨v, ?_, h2⟩
      simp [ha, h1]
theorem ldK_some {P : Program} {t : TypeId} {p : V} {h : Tr Blk} {K : KV} {z : V × St} (H : ldK P t p h K = some z) : ∃ v, (∀ n, loadV P t p ⟨n, h⟩ = .ok v) ∧ K v = some z := by
  rcases asPtr_some H with ⟨a, ver, i, j, rfl, H⟩ | ⟨cs, j, rfl, H⟩ | H
  · obtain ⟨es, elems, h1, H⟩ := rowK_some H
    obtain ⟨cs, h2, H⟩ := bindO_some H
    rw [nthQL_eq] at h2
    obtain ⟨v, h3, H⟩ := partK_some H
    exact ⟨v, fun n => by simp [loadV, h1 n, h2, h3], H⟩
  · obtain ⟨v, h3, H⟩ := partK_some H
    exact ⟨v, fun n => by simp [loadV, h3], H⟩
  · cases H
theorem layK_some {cs xs : List V} {j : Nat} {K : List V → Ans} {z : V × St} (h : layK cs j xs K = some z) : j + xs.length ≤ cs.length ∧ K (splice cs j xs) = some z := by
  unfold layK at h
  rcases selQ_some h with ⟨h0, h⟩ | ⟨_, h⟩
  · have e0 := Nat.eq_of_beq_eq_true h0
    rename_i h00
    clear h00
    subst e0
    rcases selQ_some h with ⟨h1, h⟩ | ⟨_, h⟩
    · have e1 := Nat.eq_of_beq_eq_true h1
      rw [lenQV_eq, lenQV_eq] at e1
      refine ⟨by omega, ?_⟩
      have : splice cs 0 xs = xs := by simp [splice, e1]
      rw [this]; exact h
    · exact spliceKV_some h
  · exact spliceKV_some h
theorem stK_some {P : Program} {t : TypeId} {p x : V} {h : Tr Blk} {K : Tr Blk → Ans} {z : V × St} (H : stK P t p x.cells h K = some z) : ∃ h', (∀ n, storeV P t p x ⟨n, h⟩ = .ok ⟨n, h'⟩) ∧ K h' = some z := by
  rcases asPtr_some H with ⟨a, ver, i, j, rfl, H⟩ | ⟨cs, j, rfl, H⟩ | H
  · obtain ⟨es, elems, h1, H⟩ := rowK_some H
    obtain ⟨cs, h2, H⟩ := bindO_some H
    rw [nthQL_eq] at h2
    obtain ⟨h3, H⟩ := ifQ_some H
    obtain ⟨h4, H⟩ := ifQ_some H
    obtain ⟨h5, H⟩ := ifQ_some H
    rw [lenQV_eq] at h4
    rw [allOneQ_eq] at h5
    obtain ⟨h6, H⟩ := layK_some H
    have H := setNthKL_some H
    rw [putQ_eq] at H
    refine ⟨_, fun n => ?_, H⟩
    have hu : ∃ d, P.underlying t = some d := by
      unfold tk at h3
      split at h3
      · cases h3
      · rename_i d hd; exact ⟨d, hd⟩
    obtain ⟨d, hd⟩ := hu
    have h6' : Nat.ble (j + x.cells.length) cs.length = true := Nat.ble_eq_true_of_le h6
    simp only [storeV, hd, h1 n, h2, h4, h5, h6', Bool.and_self, cond_true]
  · cases H
  · cases H
theorem elemsK_some {h : Tr Blk} {n : Nat} {x : V} {K : List (List V) → Ans} {z : V × St} (H : elemsK h n x K = some z) : ∃ xs, elemsOf ⟨n, h⟩ x = .ok xs ∧ K xs = some z := by
  rcases asSl_some H with ⟨a, ver, es, off, len, rfl, H⟩ | ⟨rfl, H⟩ | H
  · obtain ⟨es', elems, h1, H⟩ := rowK_some H
    have fin : off + len ≤ elems.length → K ((elems.drop off).take len) = some z → ∃ xs, elemsOf ⟨n, h⟩ (.sl a ver es off len) = .ok xs ∧ K xs = some z := by
      intro hle H
      have hb : Nat.ble (off + len) elems.length = true := Nat.ble_eq_true_of_le hle
      exact ⟨_, by simp only [elemsOf, h1 n, hb, cond_true], H⟩
    rcases selQ_some H with ⟨h0, HA⟩ | ⟨_, HA⟩
    · have e0 : off = 0 := Nat.eq_of_beq_eq_true h0
      rcases selQ_some HA with ⟨h2, HB⟩ | ⟨_, HB⟩
      · have e1 := Nat.eq_of_beq_eq_true h2
        rw [lenQL_eq] at e1
        exact fin (by omega) (by rw [e0, e1]; simpa using HB)
      · obtain ⟨h3, HB⟩ := takeKL_some HB
        exact fin (by omega) (by rw [e0]; simpa using HB)
    · obtain ⟨hb, H⟩ := ifQ_some HA
      have hb' := Nat.le_of_ble_eq_true hb
      rw [lenQL_eq] at hb'
      obtain ⟨h3, H⟩ := takeKL_some H
      rw [dropQL_eq] at H
      exact fin hb' H
  · exact ⟨[], rfl, H⟩
  · exact bindR_some H
theorem allFitQ_eq (s : Nat) : ∀ l : List (List V), allFitQ s l = true → allLen s l = true ∧ l.all allOne = true
  | [], _ => ⟨rfl, rfl⟩
  | x :: l, h => by
    have h' : @Bool.rec (fun _ => Bool) false (@Bool.rec (fun _ => Bool) false (allFitQ s l) (allOneQ x)) (Nat.beq (lenQV x) s) = true := h
    cases h1 : Nat.beq (lenQV x) s with
    | false => rw [h1] at h'; cases h'
    | true =>
      cases h2 : allOneQ x with
      | false => rw [h1, h2] at h'; cases h'
      | true =>
        rw [h1, h2] at h'
        obtain ⟨a, b⟩ := allFitQ_eq s l h'
        rw [lenQV_eq] at h1
        rw [allOneQ_eq] at h2
        refine ⟨?_, ?_⟩
        · show (Nat.beq x.length s && l.all fun cs => Nat.beq cs.length s) = true
          rw [h1]; exact a
        · show (allOne x && l.all allOne) = true
          rw [h2]; exact b
theorem apT_some {P : Program} {t : TypeId} {sb : Nat × Nat} (h : apT P t = some sb) : ∃ e, elemT P t = some e ∧ zeroFits P e = true ∧ sb = (sz P e, P.bytesOf e) := by
  unfold apT at h
  split at h
  · cases h
  · rename_i e he
    rw [cond_eq_ite] at h
    split at h
    · rename_i hz; cases h; exact ⟨e, he, hz, rfl⟩
    · cases h
theorem appendK_some {P : Program} {t : TypeId} {s x : V} {fr : Option Nat} {n : Nat} {h : Tr Blk} {K : KM} {z : V × St} (H : appendK P t s x fr n h K = some z) :
    ∃ v n' h', appendV P t s x fr ⟨n, h⟩ = .ok (v, ⟨n', h'⟩) ∧ K v n' h' = some z := by
  obtain ⟨sb, h1, H⟩ := bindO_some H
  obtain ⟨e, he, hz, rfl⟩ := apT_some h1
  obtain ⟨xs, h2, H⟩ := elemsK_some H
  obtain ⟨h3, H⟩ := ifQ_some H
  obtain ⟨h4, h5⟩ := allFitQ_eq _ _ h3
  have hck : (!(allLen (sz P e) xs && xs.all allOne && zeroFits P e)) = false := by rw [h4, h5, hz]; rfl
  rcases asSl_some H with ⟨a, ver, es0, off, len, rfl, HA⟩ | ⟨rfl, HA⟩ | HA
  · clear H
    obtain ⟨old, h6, HB⟩ := elemsK_some (x := .sl a ver (sz P e) off len) HA
    obtain ⟨es, elems, h7, HB⟩ := rowK_some HB
    obtain ⟨h8, HB⟩ := ifQ_some HB
    rw [forceN_eq] at HB
    obtain ⟨h9, HB⟩ := ifQ_some HB
    rw [appKL_eq, putQ_eq] at HB
    have h8' : es = sz P e := Nat.eq_of_beq_eq_true h8
    unfold elemsOf at h6
    simp only [h7 n] at h6
    rw [cond_eq_ite] at h6
    split at h6
    · rename_i hle
      cases h6
      refine ⟨_, _, _, ?_, HB⟩
      have h9' : room P e (len + xs.length) = true := by rw [lenQL_eq] at h9; exact h9
      have h10 : (Nat.ble (off + len) elems.length && Nat.beq es (sz P e) && room P e (len + xs.length)) = true := by rw [hle, h8, h9']; rfl
      unfold appendV
      simp only [he, h2, hck, cond_false, h7 n, h10, cond_true]
      rw [lenQL_eq, h8']
      rfl
    · cases h6
  · clear H
    unfold apNilK at HA
    cases xs with
    | nil =>
      refine ⟨.nils, n, h, ?_, HA⟩
      unfold appendV
      simp only [he, h2, hck, cond_false]
    | cons y xs =>
      have HB : forceN (lenQL (y :: xs)) (fun m => ifQ (roomQ m (P.bytesOf e)) (newK fr n h (.row 0 (sz P e) (y :: xs)) (fun a n h => K (.sl a 0 (sz P e) 0 m) n h))) = some z := HA
      rw [forceN_eq] at HB
      obtain ⟨h6, HB⟩ := ifQ_some HB
      obtain ⟨a, n', h', h7, HB⟩ := newK_some HB
      rw [lenQL_eq] at h6 HB
      refine ⟨_, n', h', ?_, HB⟩
      have h6' : room P e (y :: xs).length = true := h6
      unfold appendV
      simp only [he, h2, hck, cond_false, h6', cond_true, h7]
  · cases HA
end Go.AM
