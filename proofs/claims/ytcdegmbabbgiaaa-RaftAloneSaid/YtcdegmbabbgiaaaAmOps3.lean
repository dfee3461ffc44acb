/-
  Numbers, texts, and what is equal.
-/
import Derived.Test.YtcdegmbabbgiaaaAmOps2
namespace Go.AM

theorem beqB_eq : ∀ (a b : List UInt8), beqB a b = (a == b)
  | [], [] => rfl
  | [], _ :: _ => rfl
  | _ :: _, [] => rfl
  | a :: x, b :: y => by
    simp only [beqB, beqB_eq x y, cond_eq_ite, Nat.beq_eq, List.cons_beq_cons]
    by_cases h : a = b
    · subst h; simp
    · have : a.toNat ≠ b.toNat := fun e => h (UInt8.toNat_inj.1 e)
      simp [h, this]
theorem ltB_eq : ∀ (a b : List UInt8), ltB a b = Op.bytesLess a b
  | _, [] => by simp [ltB, Op.bytesLess]
  | [], _ :: _ => by simp [ltB, Op.bytesLess]
  | a :: x, b :: y => by
    simp only [ltB, Op.bytesLess, ltB_eq x y, cond_eq_ite, Nat.beq_eq, Nat.blt_eq]
    by_cases h : a = b
    · subst h; simp
    · have h1 : a.toNat ≠ b.toNat := fun e => h (UInt8.toNat_inj.1 e)
      by_cases h2 : a.toNat < b.toNat
      · have : a < b := UInt8.lt_iff_toNat_lt.2 h2
        simp [h2, this]
      · have : ¬ a < b := fun q => h2 (UInt8.lt_iff_toNat_lt.1 q)
        simp [h, h1, h2, this]
theorem kindBeq_eq {j k : IntKind} (h : kindBeq j k = true) : j = k := by
  cases j <;> cases k <;> first | rfl | (simp [kindBeq] at h)
theorem bytes_toList (s : List UInt8) : (⟨⟨s⟩⟩ : ByteArray).toList = s := by rw [ByteArray.toList_eq]

theorem intOp_sound {P : Program} {op : BinOp} {t : TypeId} {k : IntKind} {a b : Int} {v : V} (hs : op ≠ .shl) (hr : op ≠ .shr) (h : intOp op k a b = .ok v) (G : Gh) (W : World) :
    ∃ w, (binOp op t (.int k a) (.int k b)).run P W = .ok w W ∧ VR G v w := by
  cases op <;> simp only [intOp] at h <;> first
    | (exact absurd rfl hs)
    | (exact absurd rfl hr)
    | (cases h; exact ⟨_, by simp [binOp, Op.intArith, Op.intBits, Op.intCmp]; rfl, by first | (rw [wr_eq]; exact .int _ _) | exact .bool _⟩)
    | (cases h
       refine ⟨.int k (k.wrap ((BitVec.ofInt k.bits a &&& ~~~(BitVec.ofInt k.bits b)).toNat)), ?_, by rw [wr_eq]; exact .int _ _⟩
       simp only [binOp, ne_eq, not_true_eq_false, if_false, Op.intBits]
       rfl)
    | (rw [cond_eq_ite] at h
       split at h
       · cases h
       · rename_i hb
         have hb' : b ≠ 0 := by simpa using hb
         cases h
         exact ⟨_, by simp [binOp, Op.intDiv, hb']; rfl, by first | (rw [wr_eq]; exact .int _ _) | exact .int _ _⟩)
    | (cases h)
theorem shiftOp_sound {P : Program} {op : BinOp} {t : TypeId} {k k' : IntKind} {a b : Int} {v : V} (h : shiftOp op k a b = .ok v) (G : Gh) (W : World) :
    ∃ w, (binOp op t (.int k a) (.int k' b)).run P W = .ok w W ∧ VR G v w := by
  unfold shiftOp at h
  rw [cond_eq_ite] at h
  split at h
  · cases h
  · rename_i hb
    have hb' : ¬ b < 0 := by simpa using hb
    split at h
    · cases h
      exact ⟨.int k (k.wrap (a * 2 ^ (min b.toNat k.bits))), by simp [binOp, Op.shift, hb'], by rw [wr_eq]; exact .int _ _⟩
    · cases h
      exact ⟨.int k (a.fdiv (2 ^ (min b.toNat k.bits))), by simp [binOp, Op.shift, hb'], .int _ _⟩
    · cases h
theorem strOp_sound {P : Program} {op : BinOp} {t : TypeId} {a b : List UInt8} {v : V} (h : strOp op a b = .ok v) (G : Gh) (W : World) :
    ∃ w, (binOp op t (.string ⟨⟨a⟩⟩) (.string ⟨⟨b⟩⟩)).run P W = .ok w W ∧ VR G v w := by
  have hb : ∀ s : List UInt8, (⟨⟨s⟩⟩ : ByteArray).size = s.length := fun _ => rfl
  unfold strOp at h
  split at h
  · rw [cond_eq_ite] at h
    split at h
    · rename_i hl
      cases h
      have hl' : a.length + b.length < 2147483648 := by simpa [lim] using hl
      have h63 : ¬ (9223372036854775807 < (a.length : Int) + (b.length : Int)) := by omega
      refine ⟨.string (⟨⟨a⟩⟩ ++ ⟨⟨b⟩⟩), by simp [binOp, Op.stringOp, hb, h63], ?_⟩
      have : (⟨⟨a⟩⟩ ++ ⟨⟨b⟩⟩ : ByteArray) = ⟨⟨a ++ b⟩⟩ := by
        apply ByteArray.ext
        simp
      rw [this]; exact .str _
    · cases h
  all_goals first
    | (cases h; exact ⟨_, by simp only [binOp, Op.stringOp, bytes_toList]; rfl, by rw [beqB_eq]; exact .bool _⟩)
    | (cases h; exact ⟨_, by simp only [binOp, Op.stringOp, bytes_toList]; rfl, by rw [ltB_eq, beqB_eq]; exact .bool _⟩)
    | (cases h; exact ⟨_, by simp only [binOp, Op.stringOp, bytes_toList]; rfl, by rw [ltB_eq]; exact .bool _⟩)
    | (cases h)

theorem eqT_sound {P : Program} : ∀ (d : Nat) {t : TypeId} {x y : V} {r : Bool}, eqT P d t x y = .ok r → ∀ {G : Gh} {a b : Value}, VR G x a → VR G y b → ∀ (m : Nat) (W : World), d ≤ m →
    (Op.equalIn m t a b).run P W = .ok r W
  | 0, _, _, _, _, h, _, _, _, _, _, _, _, _ => by simp [eqT] at h
  | d + 1, t, x, y, r, h, G, a, b, hx, hy, m, W, hm => by
    obtain ⟨m, rfl⟩ : ∃ m', m = m' + 1 := ⟨m - 1, by omega⟩
    have hdm : d ≤ m := by omega
    unfold eqT at h
    split at h
    · rename_i k hd
      split at h
      · rename_i j a' k' b'
        rw [cond_eq_ite] at h
        split at h
        · rename_i hk
          have := kindBeq_eq hk
          subst this
          cases h; cases hx; cases hy
          simp [Op.equalIn, run_underlying hd]
          rfl
        · cases h
      · cases h
    · rename_i hd
      split at h
      · cases h; cases hx; cases hy
        simp [Op.equalIn, run_underlying hd]
      · cases h
    · rename_i hd
      split at h
      · rename_i a' b'
        cases h; cases hx; cases hy
        rw [run_equalIn_string W m t _ _ hd, bytes_toList, bytes_toList, beqB_eq]
      · cases h
    · rename_i e hd
      split at h <;> first
        | (cases h; cases hx; cases hy; simp [Op.equalIn, run_underlying hd])
        | (cases h)
    · rename_i e hd
      split at h <;> first
        | (cases h; cases hx; cases hy; simp [Op.equalIn, run_underlying hd])
        | (cases h)
    · rename_i e hd
      split at h <;> first
        | (cases h; cases hx; cases hy; simp [Op.equalIn, run_underlying hd])
        | (cases h)
    · rename_i fs hd
      split at h
      · rename_i xs ys
        rw [cond_eq_ite] at h
        split at h
        · cases h
        · rename_i hst
          have hst' : P.stoodInHeld t = false := by simpa using hst
          cases hx with
          | agg _ xv hxv =>
            cases hy with
            | agg _ yv hyv =>
              have hfo : P.fieldsOf t = fs := by simp [Program.fieldsOf, hd]
              rw [run_equalIn_struct W m t xv yv (by rw [hfo]; exact hd) hst', hfo]
              have key : ∀ (l : List Field) (r : Bool), eqT.eqFs P (eqT P d) xs ys l = .ok r → (Op.eqFields m xv yv l).run P W = .ok r W := by
                intro l
                induction l with
                | nil => intro r h; simp [eqT.eqFs] at h; subst h; simp [Op.eqFields]
                | cons f l ih =>
                  intro r h
                  simp only [eqT.eqFs] at h
                  rw [cond_eq_ite] at h
                  split at h
                  · cases h
                  · rename_i hn
                    have hn' : f.name ≠ "_" := by simpa using hn
                    split at h
                    · cases h
                    · rename_i a' ha
                      split at h
                      · cases h
                      · rename_i b' hb
                        split at h
                        · cases h
                        · rename_i r' hr
                          obtain ⟨w1, p1, p2⟩ := part_sound ha hxv W
                          obtain ⟨w2, q1, q2⟩ := part_sound hb hyv W
                          have he := eqT_sound d hr p2 q2 m W hdm
                          have p1' : (part f.type xv f.offset).run P W = .ok w1 W := by simpa using p1
                          have q1' : (part f.type yv f.offset).run P W = .ok w2 W := by simpa using q1
                          simp only [Op.eqFields, hn', ne_eq, not_false_eq_true, if_true, Sem.run_bind, p1', q1', he, Result.andThen_ok]
                          cases r'
                          · simp at h ⊢; exact h
                          · simp at h ⊢; exact ih r h
              exact key fs.toList r h
      · cases h
    · cases h

/-- The guard ahead of '==' lets these by. -/
theorem guard_sound {P : Program} {op : BinOp} {t : TypeId} {x y : V} (h : guardV P op t x y = true) {G : Gh} {a b : Value} (hx : VR G x a) (hy : VR G y b) (ox oy : Operand) (W : World) :
    (eqGuard op t ox oy a b).run P W = .ok () W := by
  by_cases hop : op = .eql ∨ op = .neq
  · have hg : guardP P t x y = true := by
      rcases hop with rfl | rfl <;> exact h
    clear h
    cases hx <;> cases hy <;> first
      | (simp [guardP] at hg; done)
      | (exact run_eqGuard_agg W op t ox oy _ _ (by simpa [guardP] using hg))
      | (rcases hop with rfl | rfl <;> simp [eqGuard])
  · have : (eqGuard op t ox oy a b) = pure () := by
      unfold eqGuard
      cases op <;> first | rfl | (simp at hop)
    rw [this]; rfl
theorem kindBeq_tok {m : Nat} {k : IntKind} (h : kindBeq (tokKind m) k = true) : tokKind m = k := kindBeq_eq h
theorem tokCmp_int {op : BinOp} {m r : Nat} {k k' : IntKind} {n b : Int} {v : V} {sy : Nat → Int} (h : tokCmp op m r k b = .ok v) (hr : resP sy m r k' n) :
    k' = k ∧ intOp op k n b = .ok v ∧ intOp (flipOp op) k b n = .ok v ∧ (op = .eql ∨ op = .neq ∨ op = .lss ∨ op = .leq ∨ op = .gtr ∨ op = .geq) := by
  unfold tokCmp at h
  rw [cond_eq_ite] at h
  split at h
  · rename_i hc
    simp only [Bool.and_eq_true, Nat.ble_eq] at hc
    have hk := kindBeq_tok hc.2
    rcases hr with ⟨h1, _, _⟩ | ⟨h1, h2, _, h3, h4⟩
    · omega
    · refine ⟨h2.trans hk, ?_⟩
      cases op <;> simp only [cond_eq_ite, Bool.or_eq_true, decide_eq_true_eq] at h <;>
        first
        | (cases h; done)
        | (split at h
           · cases h
             refine ⟨?_, ?_, by simp⟩ <;> simp only [intOp, flipOp] <;> congr 2 <;> simp <;> omega
           · first
             | (cases h; done)
             | (split at h
                · cases h
                  refine ⟨?_, ?_, by simp⟩ <;> simp only [intOp, flipOp] <;> congr 2 <;> simp <;> omega
                · cases h))
  · cases h
theorem flip_flip {op : BinOp} (h : op = .eql ∨ op = .neq ∨ op = .lss ∨ op = .leq ∨ op = .gtr ∨ op = .geq) : op ≠ .shl ∧ op ≠ .shr := by
  rcases h with rfl | rfl | rfl | rfl | rfl | rfl <;> simp
theorem bin_sound {P : Program} {op : BinOp} {t : TypeId} {x y v : V} (h : binV P op t x y = .ok v) {G : Gh} {a b : Value} (hx : VR G x a) (hy : VR G y b) (W : World) :
    ∃ w, (binOp op t a b).run P W = .ok w W ∧ VR G v w := by
  unfold binV at h
  split at h
  · rename_i j a' k b'
    cases hx; cases hy
    split at h
    · exact shiftOp_sound h G W
    · exact shiftOp_sound h G W
    · rename_i h1 h2
      rw [cond_eq_ite] at h
      split at h
      · rename_i hk
        have := kindBeq_eq hk
        subst this
        exact intOp_sound (fun e => h1 e) (fun e => h2 e) h G W
      · cases h
  · cases hx; cases hy
    exact strOp_sound h G W
  · rename_i m r y' _
    split at h
    · cases hx with
      | res _ _ k' n hr =>
        cases hy
        obtain ⟨rfl, h1, _, h2⟩ := tokCmp_int h hr
        exact intOp_sound (flip_flip h2).1 (flip_flip h2).2 h1 G W
    · cases h
  · split at h
    · cases hy with
      | res _ _ k' n hr =>
        cases hx
        obtain ⟨rfl, _, h1, h2⟩ := tokCmp_int h hr
        have hf : flipOp (flipOp op) = op := by cases op <;> first | rfl | (simp [flipOp] at h2)
        rw [hf] at h1
        have h3 : op ≠ .shl ∧ op ≠ .shr := by cases op <;> first | (simp; done) | (simp [flipOp] at h2)
        exact intOp_sound h3.1 h3.2 h1 G W
    · cases h
  · rename_i n1 n2 n3 n4
    have key : ∀ r, eqT P 100 t x y = .ok r → (Op.equal t a b).run P W = .ok r W := fun r hr => eqT_sound 100 hr hx hy 10000 W (by omega)
    have hint : ∀ j n k m, a = .int j n → b = .int k m → False := by
      intro j n k m h1 h2
      subst h1; subst h2
      cases hx <;> cases hy <;> first | exact n3 _ _ _ _ rfl rfl | exact n1 _ _ rfl | exact n2 _ _ rfl
    have hstr : ∀ s u, a = .string s → b = .string u → False := by
      intro s u h1 h2
      subst h1; subst h2
      cases hx; cases hy
      exact n4 _ _ rfl rfl
    split at h
    · split at h
      · rename_i r hr
        cases h
        refine ⟨.bool r, ?_, .bool _⟩
        have : binOp .eql t a b = (do pure (.bool (← Op.equal t a b))) := by
          clear key hr n1 n2 n3 n4
          cases hx <;> cases hy <;> first
            | rfl
            | exact (hint _ _ _ _ rfl rfl).elim
            | exact (hstr _ _ rfl rfl).elim
        rw [this]; simp [key r hr]
      · cases h
    · split at h
      · rename_i r hr
        cases h
        refine ⟨.bool (!r), ?_, .bool _⟩
        have : binOp .neq t a b = (do pure (.bool (!(← Op.equal t a b)))) := by
          clear key hr n1 n2 n3 n4
          cases hx <;> cases hy <;> first
            | rfl
            | exact (hint _ _ _ _ rfl rfl).elim
            | exact (hstr _ _ rfl rfl).elim
        rw [this]; simp [key r hr]
      · cases h
    · cases h
end Go.AM
