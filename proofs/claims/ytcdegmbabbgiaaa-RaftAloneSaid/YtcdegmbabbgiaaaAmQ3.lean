/-
  The quick machine says what the machine says: numbers, parts.
-/
import Derived.Test.YtcdegmbabbgiaaaAmQ2
set_option linter.unusedSimpArgs false
set_option linter.unusedVariables false
namespace Go.AM

theorem plT_some {P : Program} {t : TypeId} {fs : Array Field} (hd : P.underlying t = some (.struct fs)) {i : Nat} {os : Nat × Nat} (h : plT P t i = some os) :
    (fs[i]?).map (fun f => (f.offset, sz P f.type)) = some (os.1, os.2) := by
  unfold plT at h
  simp only [hd] at h
  split at h
  · rename_i f hf
    cases h
    simp [hf]
  · cases h
theorem fillK_some {P : Program} {t : TypeId} {fs : Array Field} (hd : P.underlying t = some (.struct fs)) : ∀ {l : List (Nat × V)} {cs : List V} {K : KV} {z : V × St}, fillK P t l cs K = some z →
    ∃ cs', fillV (fun i => (fs[i]?).map fun f => (f.offset, sz P f.type)) cs l = .ok cs' ∧ K (.agg cs') = some z
  | [], cs, K, z, h => ⟨cs, rfl, h⟩
  | (i, v) :: l, cs, K, z, h => by
    have h : bindO (plT P t i) (fun os => cellsK v (fun xs => ifQ (Nat.beq (lenQV xs) os.2) (ifQ (allOneQ xs) (layK cs os.1 xs (fun cs => fillK P t l cs K))))) = some z := h
    obtain ⟨os, h1, h⟩ := bindO_some h
    rw [cellsK_eq] at h
    obtain ⟨h2, h⟩ := ifQ_some h
    obtain ⟨h3, h⟩ := ifQ_some h
    obtain ⟨h4, h⟩ := layK_some h
    obtain ⟨cs', h5, h⟩ := fillK_some hd h
    refine ⟨cs', ?_, h⟩
    rw [lenQV_eq] at h2
    rw [allOneQ_eq] at h3
    have h4' : Nat.ble (os.1 + v.cells.length) cs.length = true := Nat.ble_eq_true_of_le h4
    simp only [fillV, plT_some hd h1, h2, h3, h4', Bool.and_self, cond_true, h5]

theorem hi_eq (k : IntKind) : hi k = (hiN k : Int) := by cases k <;> rfl
theorem lo_le (k : IntKind) : lo k ≤ 0 := by cases k <;> decide
theorem wr_nat {k : IntKind} {n : Nat} (h : n ≤ hiN k) : wr k (n : Int) = n := by
  unfold wr
  rw [if_pos]
  rw [hi_eq]
  have := lo_le k
  omega
theorem slowI_some {op : BinOp} {j : IntKind} {a b : Int} {K : KV} {z : V × St} (h : slowI op j a b K = some z) : ∃ v, intOp op j a b = .ok v ∧ K v = some z := by
  obtain ⟨v, h1, h2⟩ := bindR_some h
  rw [normV_eq] at h2
  exact ⟨v, h1, h2⟩
theorem numK_some {op : BinOp} {j : IntKind} {f : Nat → Nat → Nat} (hf : ∀ m n : Nat, f m n ≤ hiN j → intOp op j (m : Int) (n : Int) = .ok (.int j (f m n : Nat))) {a b : Int} {K : KV} {z : V × St} (h : numK op j a b f K = some z) :
    ∃ v, intOp op j a b = .ok v ∧ K v = some z := by
  cases a with
  | negSucc m => exact slowI_some h
  | ofNat m =>
    cases b with
    | negSucc n => exact slowI_some h
    | ofNat n =>
      have h : forceN (f m n) (fun r => selQ (Nat.ble r (hiN j)) (K (.int j (.ofNat r))) (slowI op j (.ofNat m) (.ofNat n) K)) = some z := h
      rw [forceN_eq] at h
      rcases selQ_some h with ⟨h1, h⟩ | ⟨_, h⟩
      · exact ⟨_, hf m n (Nat.le_of_ble_eq_true h1), h⟩
      · exact slowI_some h
theorem subK_some {j : IntKind} {a b : Int} {K : KV} {z : V × St} (h : subK j a b K = some z) : ∃ v, intOp .sub j a b = .ok v ∧ K v = some z := by
  cases a with
  | negSucc m => exact slowI_some h
  | ofNat m =>
    cases b with
    | negSucc n => exact slowI_some h
    | ofNat n =>
      have h : selQ (Nat.ble n m) (forceN (Nat.sub m n) (fun r => selQ (Nat.ble r (hiN j)) (K (.int j (.ofNat r))) (slowI .sub j (.ofNat m) (.ofNat n) K))) (slowI .sub j (.ofNat m) (.ofNat n) K) = some z := h
      rcases selQ_some h with ⟨h0, h⟩ | ⟨_, h⟩
      · rw [forceN_eq] at h
        rcases selQ_some h with ⟨h1, h⟩ | ⟨_, h⟩
        · refine ⟨_, ?_, h⟩
          have hle := Nat.le_of_ble_eq_true h0
          have e : ((m : Int) - (n : Int)) = ((m - n : Nat) : Int) := by omega
          show (Except.ok (V.int j (wr j ((m : Int) - (n : Int)))) : R V) = .ok (.int j ((m - n : Nat) : Int))
          have h1' : m - n ≤ hiN j := Nat.le_of_ble_eq_true h1
          rw [e, wr_nat h1']
        · exact slowI_some h
      · exact slowI_some h
theorem divK_some {op : BinOp} {j : IntKind} {f : Nat → Nat → Nat} (hf : ∀ m n : Nat, n ≠ 0 → m ≤ hiN j → intOp op j (m : Int) (n : Int) = .ok (.int j (f m n : Nat))) {a b : Int} {K : KV} {z : V × St} (h : divK op j a b f K = some z) :
    ∃ v, intOp op j a b = .ok v ∧ K v = some z := by
  cases a with
  | negSucc m => exact slowI_some h
  | ofNat m =>
    cases b with
    | negSucc n => exact slowI_some h
    | ofNat n =>
      have h : selQ (Nat.beq n 0) none (forceN (f m n) (fun r => selQ (Nat.ble m (hiN j)) (K (.int j (.ofNat r))) (slowI op j (.ofNat m) (.ofNat n) K))) = some z := h
      rcases selQ_some h with ⟨_, h⟩ | ⟨h0, h⟩
      · cases h
      · rw [forceN_eq] at h
        rcases selQ_some h with ⟨h1, h⟩ | ⟨_, h⟩
        · exact ⟨_, hf m n (fun e => by subst e; cases h0) (Nat.le_of_ble_eq_true h1), h⟩
        · exact slowI_some h
theorem bitK_some {op : BinOp} {j : IntKind} {f : Nat → Nat → Nat} (hf : ∀ m n : Nat, m ≤ hiN j → n ≤ hiN j → f m n ≤ hiN j → intOp op j (m : Int) (n : Int) = .ok (.int j (f m n : Nat))) {a b : Int} {K : KV} {z : V × St} (h : bitK op j a b f K = some z) :
    ∃ v, intOp op j a b = .ok v ∧ K v = some z := by
  cases a with
  | negSucc m => exact slowI_some h
  | ofNat m =>
    cases b with
    | negSucc n => exact slowI_some h
    | ofNat n =>
      have h : selQ (Nat.ble m (hiN j)) (selQ (Nat.ble n (hiN j)) (forceN (f m n) (fun r => selQ (Nat.ble r (hiN j)) (K (.int j (.ofNat r))) (slowI op j (.ofNat m) (.ofNat n) K))) (slowI op j (.ofNat m) (.ofNat n) K)) (slowI op j (.ofNat m) (.ofNat n) K) = some z := h
      rcases selQ_some h with ⟨h0, h⟩ | ⟨_, h⟩
      · rcases selQ_some h with ⟨h1, h⟩ | ⟨_, h⟩
        · rw [forceN_eq] at h
          rcases selQ_some h with ⟨h2, h⟩ | ⟨_, h⟩
          · exact ⟨_, hf m n (Nat.le_of_ble_eq_true h0) (Nat.le_of_ble_eq_true h1) (Nat.le_of_ble_eq_true h2), h⟩
          · exact slowI_some h
        · exact slowI_some h
      · exact slowI_some h
theorem cmpK_some {op : BinOp} {j : IntKind} {f : Nat → Nat → Bool} (hf : ∀ m n : Nat, intOp op j (m : Int) (n : Int) = .ok (.bool (f m n))) {a b : Int} {K : KV} {z : V × St} (h : cmpK op j a b f K = some z) :
    ∃ v, intOp op j a b = .ok v ∧ K v = some z := by
  cases a with
  | negSucc m => exact slowI_some h
  | ofNat m =>
    cases b with
    | negSucc n => exact slowI_some h
    | ofNat n =>
      have h : forceB (f m n) (fun r => K (.bool r)) = some z := h
      rw [forceB_eq] at h
      exact ⟨_, hf m n, h⟩
theorem hiN_lt (k : IntKind) : hiN k < 2 ^ k.bits := by cases k <;> decide
theorem bits_nat {k : IntKind} {n : Nat} (h : n ≤ hiN k) : BitVec.ofInt k.bits (n : Int) = BitVec.ofNat k.bits n := by
  rw [BitVec.ofInt_natCast]
theorem toNat_nat {k : IntKind} {n : Nat} (h : n ≤ hiN k) : (BitVec.ofNat k.bits n).toNat = n := by
  rw [BitVec.toNat_ofNat, Nat.mod_eq_of_lt (Nat.lt_of_le_of_lt h (hiN_lt k))]
theorem beq_dec (m n : Nat) : Nat.beq m n = decide ((m : Int) = (n : Int)) := by
  by_cases h : m = n
  · subst h; simp
  · have h1 : Nat.beq m n = false := by
      cases hb : Nat.beq m n with
      | false => rfl
      | true => exact absurd (Nat.eq_of_beq_eq_true hb) h
    have h2 : ¬ ((m : Int) = (n : Int)) := by omega
    rw [h1, decide_eq_false h2]
theorem ble_dec (m n : Nat) : Nat.ble m n = decide ((m : Int) ≤ (n : Int)) := by
  by_cases h : m ≤ n
  · have h2 : (m : Int) ≤ (n : Int) := by omega
    rw [Nat.ble_eq_true_of_le h, decide_eq_true h2]
  · have h1 : Nat.ble m n = false := by
      cases hb : Nat.ble m n with
      | false => rfl
      | true => exact absurd (Nat.le_of_ble_eq_true hb) h
    have h2 : ¬ ((m : Int) ≤ (n : Int)) := by omega
    rw [h1, decide_eq_false h2]
theorem blt_dec (m n : Nat) : Nat.blt m n = decide ((m : Int) < (n : Int)) := by
  show Nat.ble (m + 1) n = _
  rw [ble_dec]
  by_cases h : (m : Int) < (n : Int)
  · rw [decide_eq_true h, decide_eq_true (by omega)]
  · rw [decide_eq_false h, decide_eq_false (by omega)]
theorem intK_some {op : BinOp} {j : IntKind} {a b : Int} {K : KV} {z : V × St} (h : intK op j a b K = some z) : ∃ v, intOp op j a b = .ok v ∧ K v = some z := by
  cases op with
  | add =>
    refine numK_some (op := .add) (f := Nat.add) (fun m n hle => ?_) h
    show (Except.ok (V.int j (wr j ((m : Int) + (n : Int)))) : R V) = .ok (.int j ((m + n : Nat) : Int))
    rw [show ((m : Int) + (n : Int)) = ((m + n : Nat) : Int) by omega, wr_nat (n := m + n) hle]
  | sub => exact subK_some h
  | mul =>
    refine numK_some (op := .mul) (f := Nat.mul) (fun m n hle => ?_) h
    show (Except.ok (V.int j (wr j ((m : Int) * (n : Int)))) : R V) = .ok (.int j ((m * n : Nat) : Int))
    rw [show ((m : Int) * (n : Int)) = ((m * n : Nat) : Int) by simp, wr_nat (n := m * n) hle]
  | quo =>
    refine divK_some (op := .quo) (f := Nat.div) (fun m n hn hle => ?_) h
    have h0 : decide ((n : Int) = 0) = false := decide_eq_false (by omega)
    show (bif decide ((n : Int) = 0) then _ else (Except.ok (V.int j (wr j ((m : Int).tdiv (n : Int)))) : R V)) = .ok (.int j ((m / n : Nat) : Int))
    rw [h0]
    show (Except.ok (V.int j (wr j ((m : Int).tdiv (n : Int)))) : R V) = _
    rw [show ((m : Int).tdiv (n : Int)) = ((m / n : Nat) : Int) from rfl, wr_nat (Nat.le_trans (Nat.div_le_self m n) hle)]
  | rem =>
    refine divK_some (op := .rem) (f := Nat.mod) (fun m n hn hle => ?_) h
    have h0 : decide ((n : Int) = 0) = false := decide_eq_false (by omega)
    show (bif decide ((n : Int) = 0) then _ else (Except.ok (V.int j ((m : Int).tmod (n : Int))) : R V)) = .ok (.int j ((m % n : Nat) : Int))
    rw [h0]; rfl
  | and =>
    refine bitK_some (op := .and) (f := Nat.land) (fun m n h1 h2 h3 => ?_) h
    show (Except.ok (V.int j (wr j (((BitVec.ofInt j.bits (m : Int) &&& BitVec.ofInt j.bits (n : Int)).toNat : Nat) : Int))) : R V) = .ok (.int j ((Nat.land m n : Nat) : Int))
    rw [bits_nat h1, bits_nat h2, BitVec.toNat_and, toNat_nat h1, toNat_nat h2]
    exact congrArg (fun x => Except.ok (V.int j x)) (wr_nat h3)
  | or =>
    refine bitK_some (op := .or) (f := Nat.lor) (fun m n h1 h2 h3 => ?_) h
    show (Except.ok (V.int j (wr j (((BitVec.ofInt j.bits (m : Int) ||| BitVec.ofInt j.bits (n : Int)).toNat : Nat) : Int))) : R V) = .ok (.int j ((Nat.lor m n : Nat) : Int))
    rw [bits_nat h1, bits_nat h2, BitVec.toNat_or, toNat_nat h1, toNat_nat h2]
    exact congrArg (fun x => Except.ok (V.int j x)) (wr_nat h3)
  | xor =>
    refine bitK_some (op := .xor) (f := Nat.xor) (fun m n h1 h2 h3 => ?_) h
    show (Except.ok (V.int j (wr j (((BitVec.ofInt j.bits (m : Int) ^^^ BitVec.ofInt j.bits (n : Int)).toNat : Nat) : Int))) : R V) = .ok (.int j ((Nat.xor m n : Nat) : Int))
    rw [bits_nat h1, bits_nat h2, BitVec.toNat_xor, toNat_nat h1, toNat_nat h2]
    exact congrArg (fun x => Except.ok (V.int j x)) (wr_nat h3)
  | shl => exact slowI_some h
  | shr => exact slowI_some h
  | andNot => exact slowI_some h
  | eql =>
    refine cmpK_some (op := .eql) (f := Nat.beq) (fun m n => ?_) h
    show (Except.ok (V.bool (decide ((m : Int) = (n : Int)))) : R V) = _
    rw [beq_dec]
  | neq =>
    refine cmpK_some (op := .neq) (f := fun m n => @Bool.rec (fun _ => Bool) true false (Nat.beq m n)) (fun m n => ?_) h
    show (Except.ok (V.bool (!decide ((m : Int) = (n : Int)))) : R V) = _
    rw [← beq_dec]
    cases Nat.beq m n <;> rfl
  | lss =>
    refine cmpK_some (op := .lss) (f := Nat.blt) (fun m n => ?_) h
    show (Except.ok (V.bool (decide ((m : Int) < (n : Int)))) : R V) = _
    rw [blt_dec]
  | leq =>
    refine cmpK_some (op := .leq) (f := Nat.ble) (fun m n => ?_) h
    show (Except.ok (V.bool (decide ((m : Int) ≤ (n : Int)))) : R V) = _
    rw [ble_dec]
  | gtr =>
    refine cmpK_some (op := .gtr) (f := fun m n => Nat.blt n m) (fun m n => ?_) h
    show (Except.ok (V.bool (decide ((n : Int) < (m : Int)))) : R V) = _
    rw [blt_dec]
  | geq =>
    refine cmpK_some (op := .geq) (f := fun m n => Nat.ble n m) (fun m n => ?_) h
    show (Except.ok (V.bool (decide ((n : Int) ≤ (m : Int)))) : R V) = _
    rw [ble_dec]
theorem kn_eq {j k : IntKind} (h : Nat.beq (kn j) (kn k) = true) : j = k := by
  cases j <;> cases k <;> first | rfl | (exact absurd h (by decide))
theorem binSlow_some {P : Program} {op : BinOp} {t : TypeId} {x y : V} {K : KV} {z : V × St} (h : binSlow P op t x y K = some z) : guardV P op t x y = true ∧ ∃ v, binV P op t x y = .ok v ∧ K v = some z := by
  obtain ⟨h1, h⟩ := ifQ_some h
  obtain ⟨v, h2, h⟩ := bindR_some h
  rw [normV_eq] at h
  exact ⟨h1, v, h2, h⟩
theorem kindBeq_self (j : IntKind) : kindBeq j j = true := by cases j <;> rfl
theorem binK_some {P : Program} {op : BinOp} {t : TypeId} {x y : V} {K : KV} {z : V × St} (h : binK P op t x y K = some z) : guardV P op t x y = true ∧ ∃ v, binV P op t x y = .ok v ∧ K v = some z := by
  rcases asInt_some h with ⟨j, a, rfl, hA⟩ | hA
  · rcases asInt_some hA with ⟨k, b, rfl, hB⟩ | hB
    · have hg : guardV P op t (.int j a) (.int k b) = true := by cases op <;> rfl
      refine ⟨hg, ?_⟩
      rcases selQ_some hB with ⟨hs, hC⟩ | ⟨hs, hC⟩
      · obtain ⟨v, h2, h3⟩ := bindR_some hC
        rw [normV_eq] at h3
        refine ⟨v, ?_, h3⟩
        cases op <;> first | exact h2 | cases hs
      · obtain ⟨hk, hD⟩ := ifQ_some hC
        have := kn_eq hk
        clear hC hB hA h hk
        subst this
        obtain ⟨v, h2, h3⟩ := intK_some hD
        refine ⟨v, ?_, h3⟩
        have hb := kindBeq_self j
        clear hD
        cases op <;> first | (cases hs; done) | (simp only [binV, hb, cond_true]; exact h2)
    · exact binSlow_some hB
  · exact binSlow_some hA
theorem cvK_some {k : IntKind} {n : Int} {K : KV} {z : V × St} (h : cvK k n K = some z) : K (.int k (wr k n)) = some z := by
  cases n with
  | negSucc m => have h : normV (.int k (wr k (.negSucc m))) K = some z := h; rwa [normV_eq] at h
  | ofNat m =>
    rcases selQ_some (x := K (.int k (.ofNat m))) (y := normV (.int k (wr k (.ofNat m))) K) h with ⟨h1, h⟩ | ⟨_, h⟩
    · have := wr_nat (Nat.le_of_ble_eq_true h1)
      show K (.int k (wr k (m : Int))) = some z
      rw [this]; exact h
    · rwa [normV_eq] at h
theorem idxK_some {x : V} {n : Nat} {K : Nat → Ans} {z : V × St} (h : idxK x n K = some z) : ∃ k, idxIn x n = some k ∧ K k = some z := by
  rcases asInt_some h with ⟨j, a, rfl, hA⟩ | hA
  · cases a with
    | negSucc m => cases hA
    | ofNat m =>
      obtain ⟨h1, hB⟩ := ifQ_some (b := Nat.blt m n) (x := K m) hA
      refine ⟨m, ?_, hB⟩
      have hlt : m < n := Nat.le_of_ble_eq_true h1
      have h2 : decide ((m : Int) < (n : Int)) = true := decide_eq_true (by omega)
      have h3 : decide ((0 : Int) ≤ (m : Int)) = true := decide_eq_true (by omega)
      show (bif decide ((0 : Int) ≤ (m : Int)) && decide ((m : Int) < (n : Int)) then some (m : Int).toNat else none) = some m
      rw [h2, h3]; rfl
  · cases hA
end Go.AM
