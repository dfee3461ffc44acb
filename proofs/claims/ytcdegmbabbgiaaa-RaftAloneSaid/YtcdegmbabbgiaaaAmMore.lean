/-
  More operations: texts ranged over, interfaces, functions without a text.
-/
import Derived.Test.YtcdegmbabbgiaaaAmOps3
import Derived.Laws.Externs
set_option linter.unusedSimpArgs false
namespace Go.AM

theorem newIter_sound {fr : Option Nat} {S S' : St} {s : List UInt8} {a : Nat} (h : newBlk fr S (.iter s 0) = .ok (a, S'))
    {F : Nat → Option Obj} {G : Gh} {W : World} (R : Rel F G S W.heap) (hf : FrOK fr G S) :
    ∃ G', Sim F fr G S W G' S' (W.alloc (.stringIter ⟨⟨s⟩⟩ 0)) ∧ G'.loc a = some ⟨0, W.heap.size, 0, 0, 0⟩ := by
  have row : ∀ k, G.le { G with loc := fun x => if x = k then some ⟨0, W.heap.size, 0, 0, 0⟩ else G.loc x } →
      BlkAt { G with loc := fun x => if x = k then some ⟨0, W.heap.size, 0, 0, 0⟩ else G.loc x } (W.heap.push (.stringIter ⟨⟨s⟩⟩ 0)) k (.iter s 0) :=
    fun k _ => ⟨⟨0, W.heap.size, 0, 0, 0⟩, by simp, rfl, rfl, by simp⟩
  unfold newBlk at h
  split at h
  · rw [cond_eq_ite] at h
    split at h
    · rename_i hl
      cases h
      have hl' : S.next < lim := by simpa using hl
      obtain ⟨f1, f2⟩ := R.fresh S.next (Nat.le_refl _)
      obtain ⟨g1, g2⟩ := R.allocBlk (k := S.next) (nx := S.next + 1) f1 f2 hl' (by omega) (by omega) (ob := .stringIter ⟨⟨s⟩⟩ 0) (row _)
      refine ⟨_, ⟨g1, g2, Same.alloc _ _, by simp, fun x hx hlt _ => ⟨?_, rfl⟩, fun x hx hlt _ => ?_, fun _ => rfl⟩, by simp⟩
      · have : x ≠ S.next := by omega
        simp [this]
      · show (S.heap.put S.next _).get x = none
        rw [Tr.get_put_ne _ _ _ _ hl' (by omega)]; exact hx
    · cases h
  · rename_i k
    rw [cond_eq_ite] at h
    split at h
    · rename_i hl
      cases h
      have hl' : a < lim := by simpa using hl
      obtain ⟨f0, f1, f2⟩ := hf a rfl
      obtain ⟨g1, g2⟩ := R.allocBlk (k := a) (nx := S.next) f1 f2 hl' (Nat.le_refl _) f0 (ob := .stringIter ⟨⟨s⟩⟩ 0) (row _)
      refine ⟨_, ⟨g1, g2, Same.alloc _ _, by simp, fun x hx hlt hne => ⟨?_, rfl⟩, fun x hx hlt hne => ?_, fun _ => rfl⟩, by simp⟩
      · have : x ≠ a := fun e => hne (by rw [e])
        simp [this]
      · show (S.heap.put a _).get x = none
        rw [Tr.get_put_ne _ _ _ _ hl' (fun e => hne (by rw [e]))]; exact hx
    · cases h

theorem range_sound {P : Program} {t : TypeId} (hd : P.underlying t = some .string) {s : List UInt8} {fr : Option Nat} {S S' : St} {a : Nat} (h : newBlk fr S (.iter s 0) = .ok (a, S'))
    {F : Nat → Option Obj} {G : Gh} {W : World} (R : Rel F G S W.heap) (hf : FrOK fr G S) {y : Value} (hy : VR G (.str s) y) :
    ∃ W' G' w, (Instr.range t y).run P W = .ok w W' ∧ Sim F fr G S W G' S' W' ∧ VR G' (.ptr a 0 0 0) w := by
  cases hy
  obtain ⟨G', h1, h2⟩ := newIter_sound h R hf
  refine ⟨_, G', .pointer (some ⟨W.heap.size, 0, none⟩), ?_, h1, .ptr _ _ _ _ _ ⟨_, h2, .inr ⟨rfl, rfl⟩⟩⟩
  simp only [Instr.range, Sem.run_bind, run_underlying hd, Result.andThen_ok, Sem.run_pure, run_newObj]
  rfl

theorem next_sound {P : Program} {ty : TypeId} {a pos : Nat} {s : List UInt8} {S : St} (hg : S.heap.get a = some (.iter s pos)) {fr : Option Nat}
    {F : Nat → Option Obj} {G : Gh} {W : World} (R : Rel F G S W.heap) {y : Value} (hy : VR G (.ptr a 0 0 0) y) :
    (s.length ≤ pos → ∃ w, (Instr.next y true ty).run P W = .ok w W ∧ VR G (.tup [.bool false]) w) ∧
    (∀ b, s[pos]? = some b → b.toNat < 128 → ∃ W' w, (Instr.next y true ty).run P W = .ok w W' ∧
      Sim F fr G S W G ⟨S.next, S.heap.put a (.iter s (pos + 1))⟩ W' ∧ VR G (.tup [.bool true, .int .i64 pos, .int .i32 b.toNat]) w) := by
  cases hy with
  | ptr _ _ _ _ ad hp =>
    obtain ⟨L, hL, hp⟩ := hp
    obtain ⟨L', hL', r1, r2, hH⟩ := R.blk a _ hg
    rw [hL] at hL'; cases hL'
    rcases hp with hp | ⟨_, rfl⟩
    · omega
    · have e0 : L.co + 0 * L.es + 0 = 0 := by rw [r2]; simp
      rw [e0]
      have hsz : (⟨⟨s⟩⟩ : ByteArray).size = s.length := rfl
      have hget : (getObj L.cb).run P W = .ok (.stringIter ⟨⟨s⟩⟩ pos) W := by simp [getObj, Sem.run, hH]
      refine ⟨fun hge => ⟨.tuple #[.bool false], ?_, .tup _ _ (.cons _ _ _ _ (.bool _) .nil)⟩, fun b hb hlt => ?_⟩
      · unfold Instr.next
        simp only [Sem.run_bind, hget, Result.andThen_ok, hsz]
        rw [if_neg (by omega)]; rfl
      · have hpos : pos < s.length := (List.getElem?_eq_some_iff.1 hb).1
        have hdec : Utf8.decode ⟨⟨s⟩⟩ pos = (b.toNat, 1) := by
          have hb0 : (ByteArray.get! ⟨⟨s⟩⟩ (pos + 0)).toNat = b.toNat := by
            have : ByteArray.get! ⟨⟨s⟩⟩ (pos + 0) = b := by
              show ((⟨s⟩ : Array UInt8)[pos + 0]!) = b
              simp [List.getElem!_eq_getElem?_getD, hb]
            rw [this]
          unfold Utf8.decode
          simp only [hb0]
          rw [if_pos hlt]
        have hi := R.lt a L.cb (.inl ⟨L, hL, rfl⟩)
        refine ⟨{ W with heap := W.heap.setIfInBounds L.cb (.stringIter ⟨⟨s⟩⟩ (pos + 1)) }, .tuple #[.bool true, .int .i64 pos, .int .i32 b.toNat], ?_, ⟨G.le_refl, ?_, ⟨rfl, rfl, rfl, by simp⟩, Nat.le_refl _, fun _ _ _ _ => ⟨rfl, rfl⟩, fun x hx _ _ => ?_, fun _ => rfl⟩,
          .tup _ _ (.cons _ _ _ _ (.bool _) (.cons _ _ _ _ (.int _ _) (.cons _ _ _ _ (.int _ _) .nil)))⟩
        · unfold Instr.next
          simp only [Sem.run_bind, hget, Result.andThen_ok, hsz]
          rw [if_pos hpos]
          simp only [hdec, Sem.run_bind]
          have hset : (setObj L.cb (.stringIter ⟨⟨s⟩⟩ (pos + 1))).run P W = .ok () { W with heap := W.heap.setIfInBounds L.cb (.stringIter ⟨⟨s⟩⟩ (pos + 1)) } := by
            simp [setObj, Sem.run, hH]
          rw [hset]; rfl
        · refine R.keepBlk hg hL (fun i hi => ?_) (by simp) ⟨L, hL, r1, r2, ?_⟩
          · show (W.heap.setIfInBounds L.cb _)[i]? = W.heap[i]?
            rw [Array.getElem?_setIfInBounds_ne (Ne.symm hi)]
          · show (W.heap.setIfInBounds L.cb _)[L.cb]? = _
            simp [hi]
        · show (S.heap.put a _).get x = none
          rw [Tr.get_put_ne _ _ _ _ (R.small a _ hg) (fun e => by rw [e, hg] at hx; cases hx)]; exact hx

theorem zeroValue_sound {P : Program} {t : TypeId} {z : V} (hz : zeroOf P t = some z) (G : Gh) : ∃ w, (∀ W, (zeroValue t).run P W = .ok w W) ∧ VR G z w := by
  obtain ⟨i, w, h1, h2, h3⟩ := zeroOf_some hz
  exact ⟨w, fun W => by simp [zeroValue, typeInfo, h1, h2], ofValue_VR G h3⟩
theorem assert_sound {P : Program} {x v : V} {xt t : TypeId} {ok : Bool} (h : assertV P x t ok = .ok v) {G : Gh} {y : Value} (hy : VR G x y) (W : World) :
    ∃ w, (Instr.typeAssert y xt t ok).run P W = .ok w W ∧ VR G v w := by
  have fails : (bif ok then (match zeroOf P t with
    | some z => .ok (.tup [z, .bool false])
    | none => .error "typeAssert") else .error "typeAssert") = (Except.ok v : AM.R V) → ∃ w, (∀ a b c, (if ok = true then (do pure (Value.tuple #[← zeroValue t, .bool false])) else runtimePanic (.typeAssertion a b t c) : Sem Value).run P W = .ok w W) ∧ VR G v w := by
    intro hv
    cases ok
    · cases hv
    · simp only [cond_true] at hv
      split at hv
      · rename_i z hz
        cases hv
        obtain ⟨w, w1, w2⟩ := zeroValue_sound hz G
        exact ⟨.tuple #[w, .bool false], fun _ _ _ => by simp [w1], .tup _ _ (.cons _ _ _ _ w2 (.cons _ _ _ _ (.bool _) .nil))⟩
      · cases hv
  unfold assertV at h
  simp only at h
  split at h
  · cases h
  · cases h
  · rename_i d hni hd
    split at h
    · rename_i u x
      cases hy with
      | iface _ _ w hw =>
        rw [cond_eq_ite] at h
        split at h
        · rename_i hb
          have hb' := Nat.eq_of_beq_eq_true hb
          subst hb'
          cases h
          refine ⟨if ok then .tuple #[w, .bool true] else w, ?_, ?_⟩
          · cases d <;> first | exact (hni _ rfl).elim | (simp [Instr.typeAssert, run_underlying hd]; done)
          · cases ok
            · exact hw
            · exact .tup _ _ (.cons _ _ _ _ hw (.cons _ _ _ _ (.bool _) .nil))
        · rename_i hb
          have hb' : u ≠ t := fun e => hb (by simp [e])
          obtain ⟨w', w1, w2⟩ := fails h
          refine ⟨w', ?_, w2⟩
          cases d <;> first | exact (hni _ rfl).elim | (simp only [Instr.typeAssert, Sem.run_bind, run_underlying hd, Result.andThen_ok, hb', if_false]; exact w1 _ _ _)
    · cases hy
      obtain ⟨w', w1, w2⟩ := fails h
      refine ⟨w', ?_, w2⟩
      cases d <;> first | exact (hni _ rfl).elim | (simp only [Instr.typeAssert, Sem.run_bind, run_underlying hd, Result.andThen_ok]; exact w1 _ _ _)
    · cases h

theorem extern_sound {P : Program} {g : FuncId} {fn : Func} (hf : P.funcs[g]? = some fn) (hb : fn.body = none) {args : List V} {v : V} (h : externV fn args = .ok v) {G : Gh} {cs : List Value} (ha : VRs G args cs) (W : World) :
    ∃ w, (callFunc g cs.toArray).run P W = .ok (.value w) W ∧ VR G v w := by
  unfold externV at h
  rw [cond_eq_ite] at h
  split at h
  · rename_i hn
    simp only [Bool.and_eq_true, beq_iff_eq] at hn
    obtain ⟨hn1, hn2⟩ := hn
    split at h
    · rename_i ka a kb b kc c
      rw [cond_eq_ite] at h
      split at h
      · rename_i hc
        simp only [Bool.and_eq_true, decide_eq_true_eq] at hc
        obtain ⟨⟨⟨c1, c2⟩, c3⟩, c4⟩ := hc
        cases h
        cases ha with
        | cons _ _ _ _ ha t => cases t with
          | cons _ _ _ _ hb' t => cases t with
            | cons _ _ _ _ hc t =>
              cases t; cases ha; cases hb'; cases hc
              have hfn : Extern.findNext fn = none := by
                unfold Extern.findNext
                rw [hn1, hn2]
                kernel_rfl
              obtain ⟨e, he, hrun⟩ : ∃ e, Extern.find fn = some e ∧ (e #[.int ka a, .int kb b, .int kc c]).run P W = .ok (Extern.MathBitsCarry.pair ((a.toNat + b.toNat + c.toNat) % Extern.MathBitsCarry.m64) ((a.toNat + b.toNat + c.toNat) / Extern.MathBitsCarry.m64)) W := by
                refine ⟨fun args => do
                  let (x, y, c) ← Extern.MathBitsCarry.three "Add64" args
                  pure (Extern.MathBitsCarry.pair ((x + y + c) % Extern.MathBitsCarry.m64) ((x + y + c) / Extern.MathBitsCarry.m64)), ?_, ?_⟩
                · unfold Extern.find
                  rw [hn1, hn2]
                  rfl
                · rcases (by omega : c = 0 ∨ c = 1) with rfl | rfl <;> rfl
              refine ⟨_, by
                rw [run_callFunc_extern hf (by rw [hn1]; kernel_rfl) (by rw [hb]; rfl) hfn he, hrun]; rfl, ?_⟩
              refine .tup _ _ (.cons _ _ _ _ ?_ (.cons _ _ _ _ ?_ .nil))
              · have : ((a.toNat + b.toNat + c.toNat) % Extern.MathBitsCarry.m64 : Nat) = ((a + b + c) % 18446744073709551616 : Int) := by
                  unfold Extern.MathBitsCarry.m64; omega
                rw [← this]; exact .int _ _
              · have : ((a.toNat + b.toNat + c.toNat) / Extern.MathBitsCarry.m64 : Nat) = ((a + b + c) / 18446744073709551616 : Int) := by
                  unfold Extern.MathBitsCarry.m64; omega
                rw [← this]; exact .int _ _
      · cases h
    · cases h
  · cases h
end Go.AM
