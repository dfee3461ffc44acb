import Derived.KernelRfl
import Derived.Lib.Walk
import Derived.StillTactics
import Derived.Tactics2
import Derived.Test.YtbiidlmhadihlaaProg
import Derived.WalkKit
import Derived.Test.YtbiidlmhadihlaaX1
set_option linter.unusedSimpArgs false
set_option linter.unusedVariables false
set_option maxRecDepth 100000
section
namespace Go.AM
def Ok (g : Nat → KS → An) (Q : V → St → Prop) : Prop := ∃ v S N, Q v S ∧ ∀ k K, N ≤ k → g k K = K v S
theorem Ok.ret {Q : V → St → Prop} {v : V} {S : St} (h : Q v S) : Ok (fun _ K => K v S) Q := ⟨v, S, 0, h, fun _ _ _ => rfl⟩
theorem Ok.mono {g : Nat → KS → An} {Q R : V → St → Prop} (h : Ok g Q) (hq : ∀ v S, Q v S → R v S) : Ok g R := by
 obtain ⟨v, S, N, q, h⟩ := h
 exact ⟨v, S, N, hq v S q, h⟩
theorem Ok.bind {g : Nat → KS → An} {G : Nat → KS → V → St → An} {Q R : V → St → Prop} (h : Ok g Q) (k : ∀ v S, Q v S → Ok (fun k K => G k K v S) R) : Ok (fun k K => g k (fun v S => G k K v S)) R := by
 obtain ⟨v, S, N, q, h⟩ := h
 obtain ⟨v', S', N', q', h'⟩ := k v S q
 refine ⟨v', S', max N N', q', fun k K hk => ?_⟩
 show g k (fun v S => G k K v S) = K v' S'
 rw [h k _ (by omega)]
 exact h' k K (by omega)
theorem Ok.pick {b : Bool} {g g' : Nat → KS → An} {Q : V → St → Prop} (h : b = true → Ok g Q) (h' : b = false → Ok g' Q) : Ok (fun k K => pickD (.bool b) (g k K) (g' k K)) Q := by
 cases b with
 | true => exact h rfl
 | false => exact h' rfl
theorem Ok.pickP {p : Prop} [Decidable p] {g g' : Nat → KS → An} {Q : V → St → Prop} (h : p → Ok g Q) (h' : ¬ p → Ok g' Q) : Ok (fun k K => pickD (.bool (decide p)) (g k K) (g' k K)) Q :=
 Ok.pick (fun e => h (of_decide_eq_true e)) (fun e => h' (of_decide_eq_false e))
theorem Ok.pickN {p : Prop} [Decidable p] {g g' : Nat → KS → An} {Q : V → St → Prop} (h : ¬ p → Ok g Q) (h' : p → Ok g' Q) : Ok (fun k K => pickD (.bool (!decide p)) (g k K) (g' k K)) Q :=
 Ok.pick (fun e => h (by simpa using e)) (fun e => h' (by simpa using e))
def Does (P : Program) (pl : Plans) (lv : Lives) (f : FuncId) (args : List V) (S : St) (Q : V → St → Prop) : Prop := Ok (fun k K => callD P pl lv k f args S K) Q
theorem Does.enter {P : Program} {pl : Plans} {lv : Lives} {f : FuncId} {args : List V} {S : St} {Q : V → St → Prop} {m : CallD → Nat → KS → An} (he : ∀ k K, callD P pl lv (k + 1) f args S K = m (callD P pl lv k) k K)
  (h : Ok (fun k K => m (callD P pl lv k) k K) Q) : Does P pl lv f args S Q := by
 obtain ⟨v, S', N, q, h⟩ := h
 refine ⟨v, S', N + 1, q, fun k K hk => ?_⟩
 obtain ⟨k, rfl⟩ : ∃ m, k = m + 1 := ⟨k - 1, by omega⟩
 show callD P pl lv (k + 1) f args S K = _
 rw [he]
 exact h k K (by omega)
theorem Does.step {P : Program} {pl : Plans} {lv : Lives} {f : FuncId} {args : List V} {S : St} {g : List V → St → R (V × St)} (hf : pl f = some (.spec g)) {v : V} {S' : St} {Q : V → St → Prop} (h : g args S = .ok (v, S')) (q : Q v S') : Does P pl lv f args S Q := by
 refine ⟨v, S', 1, q, fun k K hk => ?_⟩
 obtain ⟨k, rfl⟩ : ∃ m, k = m + 1 := ⟨k - 1, by omega⟩
 simp only [callD, hf, dO_ok, h, dR_ok]
theorem Does.call {P : Program} {pl : Plans} {lv : Lives} {f : FuncId} {args : List V} {S : St} {Q R : V → St → Prop} (h : Does P pl lv f args S Q) {G : Nat → KS → V → St → An} (k : ∀ v S, Q v S → Ok (fun k K => G k K v S) R) :
  Ok (fun k K => callD P pl lv k f args S (fun v S => G k K v S)) R := Ok.bind h k
theorem Does.says {P : Program} {pl : Plans} {lv : Lives} {f : FuncId} {args : List V} {S : St} {Q : V → St → Prop} (h : Does P pl lv f args S Q) : ∃ k v S', Q v S' ∧ callF P pl k f args S = .ok (v, S') := by
 obtain ⟨v, S', N, q, h⟩ := h
 obtain ⟨v1, S1, h1, h2⟩ := callD_some N f args S (fun v S => some (v, S)) (v, S') (h N _ (Nat.le_refl _))
 cases h2
 exact ⟨N, v, S', q, h1⟩
def runL {σ ρ α : Type} (step : σ → α → ρ ⊕ σ) (fin : σ → ρ) : List α → σ → ρ
 | [], s => fin s
 | a :: l, s => match step s a with
  | .inl r => r
  | .inr s' => runL step fin l s'
theorem loop_rule {κ σ ρ α X : Type} {F : Nat → κ → List V → St → (List V → St → An) → An} {out : Nat → κ → X → St → An} (all : List α) {step : σ → α → ρ ⊕ σ} {fin : σ → ρ} (Inv : Nat → σ → List V → St → Prop) (Post : ρ → X → St → Prop)
  (hstep : ∀ i a s vs S, Inv i s vs S → all[i]? = some a →
   ∃ N, (∃ r x S', step s a = .inl r ∧ Post r x S' ∧ ∀ k K again, N ≤ k → F k K vs S again = out k K x S') ∨ (∃ s' vs' S', step s a = .inr s' ∧ Inv (i + 1) s' vs' S' ∧ ∀ k K again, N ≤ k → F k K vs S again = again vs' S'))
  (hend : ∀ s vs S, Inv all.length s vs S → ∃ N x S', Post (fin s) x S' ∧ ∀ k K again, N ≤ k → F k K vs S again = out k K x S') :
  ∀ (l : List α) (i : Nat) (s : σ) (vs : List V) (S : St), all.drop i = l → i ≤ all.length → Inv i s vs S → ∃ N x S', Post (runL step fin l s) x S' ∧ ∀ k m K, N ≤ k → l.length < m → loopD m vs S (F k K) = out k K x S' := by
 intro l
 induction l with
 | nil =>
  intro i s vs S hd hle hI
  have hi : i = all.length := by
   have : all.length ≤ i := by simpa using hd
   omega
  subst hi
  obtain ⟨N, x, S', hp, h⟩ := hend s vs S hI
  refine ⟨N, x, S', hp, fun k m K hk hm => ?_⟩
  obtain ⟨m, rfl⟩ : ∃ j, m = j + 1 := ⟨m - 1, by simp at hm; omega⟩
  rw [loopD_succ, h k K _ hk]
 | cons a l ih =>
  intro i s vs S hd hle hI
  have hi : all[i]? = some a := by
   have := congrArg (·[0]?) hd
   simpa using this
  have hil : i < all.length := (List.getElem?_eq_some_iff.1 hi).1
  have hd' : all.drop (i + 1) = l := by rw [← List.drop_drop, hd]; rfl
  obtain ⟨N, h⟩ := hstep i a s vs S hI hi
  rcases h with ⟨r, x, S', h1, h2, h3⟩ | ⟨s', vs', S', h1, h2, h3⟩
  ·refine ⟨N, x, S', by simp only [runL, h1]; exact h2, fun k m K hk hm => ?_⟩
   obtain ⟨m, rfl⟩ : ∃ j, m = j + 1 := ⟨m - 1, by simp at hm; omega⟩
   rw [loopD_succ, h3 k K _ hk]
  ·obtain ⟨N', x, S2, h4, h5⟩ := ih (i + 1) s' vs' S' hd' (by omega) h2
   refine ⟨max N N', x, S2, by simp only [runL, h1]; exact h4, fun k m K hk hm => ?_⟩
   obtain ⟨m, rfl⟩ : ∃ j, m = j + 1 := ⟨m - 1, by simp at hm; omega⟩
   rw [loopD_succ, h3 k K _ (by omega), h5 k m K (by omega) (by simp at hm; omega)]
theorem Ok.loop {σ ρ α X : Type} {F : Nat → KS → List V → St → (List V → St → An) → An} {out : Nat → KS → X → St → An} (all : List α) {step : σ → α → ρ ⊕ σ} {fin : σ → ρ} (Inv : Nat → σ → List V → St → Prop) (Post : ρ → X → St → Prop)
  (hstep : ∀ i a s vs S, Inv i s vs S → all[i]? = some a →
   ∃ N, (∃ r x S', step s a = .inl r ∧ Post r x S' ∧ ∀ k K again, N ≤ k → F k K vs S again = out k K x S') ∨ (∃ s' vs' S', step s a = .inr s' ∧ Inv (i + 1) s' vs' S' ∧ ∀ k K again, N ≤ k → F k K vs S again = again vs' S'))
  (hend : ∀ s vs S, Inv all.length s vs S → ∃ N x S', Post (fin s) x S' ∧ ∀ k K again, N ≤ k → F k K vs S again = out k K x S')
  {s : σ} {vs : List V} {S : St} (hI : Inv 0 s vs S) {Q : V → St → Prop} (hout : ∀ x S', Post (runL step fin all s) x S' → Ok (fun k K => out k K x S') Q) : Ok (fun k K => loopD k vs S (F k K)) Q := by
 obtain ⟨N, x, S', hp, h⟩ := loop_rule all Inv Post hstep hend all 0 s vs S rfl (Nat.zero_le _) hI
 obtain ⟨v, S2, N', hq, h'⟩ := hout x S' hp
 refine ⟨v, S2, max N (max N' (all.length + 1)), hq, fun k K hk => ?_⟩
 show loopD k vs S (F k K) = K v S2
 rw [h k k K (by omega) (by omega)]
 exact h' k K (by omega)
end Go.AM
end
section
set_option linter.unusedSimpArgs false
set_option linter.unusedVariables false
namespace Go.AM
structure Own (S0 S : St) (n : Nat) (v : V) (es : List (List V)) : Prop where
 is : (v = .nils ∧ es = []) ∨ ∃ a ver tl, v = .sl a ver n 0 es.length ∧ S0.next ≤ a ∧ a < S.next ∧ S.heap.get a = some (.row ver n (es ++ tl))
 len : ∀ cs, cs ∈ es → cs.length = n ∧ allOne cs = true
theorem row_get {S : St} {a ver n : Nat} {el : List (List V)} (h : S.heap.get a = some (.row ver n el)) : getRow S a ver = .ok (n, el) := by
 simp only [getRow, h, Nat.beq_refl, cond_true]
theorem Own.sl {S0 S : St} {n : Nat} {v : V} {es : List (List V)} (h : Own S0 S n v es) : Sl S n v es := by
 refine ⟨?_, h.len⟩
 rcases h.is with h1 | ⟨a, ver, tl, h1, h2, h3, h4⟩
 ·exact .inl h1
 ·exact .inr (.inr ⟨a, ver, 0, es ++ tl, h1, row_get h4, by simp, by simp⟩)
theorem Own.ext {S0 S S' : St} {n : Nat} {v : V} {es : List (List V)} (h : Own S0 S n v es) (x : Ext S S') : Own S0 S' n v es := by
 refine ⟨?_, h.len⟩
 rcases h.is with h1 | ⟨a, ver, tl, h1, h2, h3, h4⟩
 ·exact .inl h1
 ·exact .inr ⟨a, ver, tl, h1, h2, Nat.lt_of_lt_of_le h3 x.next, x.old _ _ h4⟩
theorem Own.nil (S0 S : St) (n : Nat) : Own S0 S n .nils [] := ⟨.inl ⟨rfl, rfl⟩, fun _ h => by cases h⟩
theorem Own.weaken {A B S : St} {n : Nat} {v : V} {es : List (List V)} (h : Own B S n v es) (x : A.next ≤ B.next) : Own A S n v es := by
 refine ⟨?_, h.len⟩
 rcases h.is with h1 | ⟨a, ver, tl, h1, h2, h3, h4⟩
 ·exact .inl h1
 ·exact .inr ⟨a, ver, tl, h1, Nat.le_trans x h2, h3, h4⟩
theorem allLen_of {n : Nat} {es : List (List V)} (h : ∀ cs, cs ∈ es → cs.length = n ∧ allOne cs = true) : allLen n es = true ∧ es.all allOne = true :=
 ⟨List.all_eq_true.2 fun cs hc => by simp [(h cs hc).1], List.all_eq_true.2 fun cs hc => (h cs hc).2⟩
theorem Sl.copy {S : St} {n b : Nat} {v : V} {es : List (List V)} (h : Sl S n v es) (w : WF S) (h1 : es.length * b ≤ 35184372088832) (h2 : es.length < lim) :
  ∃ v' S', appW n b .nils v none S = .ok (v', S') ∧ Ext S S' ∧ Own S S' n v' es := by
 obtain ⟨a1, a2⟩ := allLen_of h.len
 cases es with
 | nil => exact ⟨.nils, S, by simp only [appW, h.elems, a1, a2, and_self, if_true], Ext.refl S, Own.nil _ _ _⟩
 | cons c es =>
  refine ⟨.sl S.next 0 n 0 (c :: es).length, ⟨S.next + 1, S.heap.put S.next (.row 0 n (c :: es))⟩, ?_, Ext.new w _, ⟨.inr ⟨S.next, 0, [], rfl, Nat.le_refl _, Nat.lt_succ_self _, ?_⟩, h.len⟩⟩
  ·simp only [appW, h.elems, a1, a2, and_self, if_true, h1, h2, newBlk_none]
  ·rw [List.append_nil]; exact Tr.get_put_sameB _ _ _ trivial
theorem Own.pushK {S0 S : St} {n b : Nat} {v : V} {es : List (List V)} (h : Own S0 S n v es) (x : Ext S0 S) (w : WF S0) {u : V} {cs : List (List V)} (hu : elemsOf S u = .ok cs) (hc : ∀ c, c ∈ cs → c.length = n ∧ allOne c = true) (hne : cs ≠ [])
  (h1 : (es.length + cs.length) * b ≤ 35184372088832) (h2 : es.length + cs.length < lim) : ∃ v' S', appW n b v u none S = .ok (v', S') ∧ Ext S0 S' ∧ S'.next ≤ S.next + 1 ∧ Own S0 S' n v' (es ++ cs) ∧ ∀ y, y < S.next → (∀ a ver m, v = .sl a ver n 0 m → y ≠ a) → S'.heap.get y = S.heap.get y := by
 obtain ⟨a1, a2⟩ := allLen_of hc
 have hlen : ∀ c, c ∈ es ++ cs → c.length = n ∧ allOne c = true := fun c hm => (List.mem_append.1 hm).elim (h.len c) (hc c)
 rcases h.is with ⟨rfl, rfl⟩ | ⟨a, ver, tl, rfl, q1, q2, q3⟩
 ·cases cs with
  | nil => exact absurd rfl hne
  | cons c cs =>
   refine ⟨.sl S.next 0 n 0 (c :: cs).length, ⟨S.next + 1, S.heap.put S.next (.row 0 n (c :: cs))⟩, ?_, x.trans (Ext.new (x.wf w) _), Nat.le_refl _, ⟨.inr ⟨S.next, 0, [], rfl, x.next, Nat.lt_succ_self _, ?_⟩, hlen⟩, fun y hy _ => Tr.get_put_neB _ _ _ _ trivial (by omega)⟩
   ·simp only [List.length_nil, Nat.zero_add] at h1 h2
    simp only [appW, hu, a1, a2, and_self, if_true, h1, h2, newBlk_none]
   ·rw [List.append_nil]; exact Tr.get_put_sameB _ _ _ trivial
 ·have hb : 0 + es.length ≤ es.length + tl.length := by omega
  refine ⟨.sl a (ver + 1) n 0 (es ++ cs).length, ⟨S.next, S.heap.put a (.row (ver + 1) n (es ++ cs))⟩, ?_, x.set q1 q2 w _, Nat.le_succ _, ⟨.inr ⟨a, ver + 1, [], rfl, q1, q2, ?_⟩, hlen⟩, fun y _ hy => Tr.get_put_neB _ _ _ _ trivial (hy a ver _ rfl)⟩
  ·simp only [appW, hu, a1, a2, and_self, if_true, row_get q3, hb, h1, h2, List.drop_zero, List.take_left', List.length_append]
  ·rw [List.append_nil]; exact Tr.get_put_sameB _ _ _ trivial
theorem Own.push {S0 S : St} {n b : Nat} {v : V} {es : List (List V)} (h : Own S0 S n v es) (x : Ext S0 S) (w : WF S0) {u : V} {cs : List (List V)} (hu : elemsOf S u = .ok cs) (hc : ∀ c, c ∈ cs → c.length = n ∧ allOne c = true) (hne : cs ≠ [])
  (h1 : (es.length + cs.length) * b ≤ 35184372088832) (h2 : es.length + cs.length < lim) : ∃ v' S', appW n b v u none S = .ok (v', S') ∧ Ext S0 S' ∧ S'.next ≤ S.next + 1 ∧ Own S0 S' n v' (es ++ cs) := by
 obtain ⟨v', S', q1, q2, q3, q4, _⟩ := h.pushK x w hu hc hne h1 h2
 exact ⟨v', S', q1, q2, q3, q4⟩
theorem Own.set {S0 S : St} {n : Nat} {v : V} {es : List (List V)} (h : Own S0 S n v es) (x : Ext S0 S) (w : WF S0) {i : Nat} {cs : List V} (hi : es[i]? = some cs) (k : IntKind) :
  ∃ p, idxW n v (.int k (i : Int)) = .ok p ∧ At S p cs ∧ ∀ (j m : Nat) (u : V), u.cells.length = m → allOne u.cells = true → j + m ≤ n → ∃ S', storeW m (adv j p) u S = .ok S' ∧ Ext S0 S' ∧ S'.next = S.next ∧ Own S0 S' n v (es.set i (splice cs j u.cells)) ∧
   ∀ S1, Ext S1 S → (∀ a ver, v = .sl a ver n 0 es.length → S1.next ≤ a) → WF S1 → Ext S1 S' := by
 have hil : i < es.length := (List.getElem?_eq_some_iff.1 hi).1
 have hl := h.len cs (List.mem_of_getElem? hi)
 rcases h.is with ⟨rfl, rfl⟩ | ⟨a, ver, tl, rfl, q1, q2, q3⟩
 ·simp at hil
 ·have hg : (es ++ tl)[0 + i]? = some cs := by rw [Nat.zero_add, List.getElem?_append_left hil]; exact hi
  refine ⟨.ptr a ver (0 + i) 0, by simp only [idxW, idxIn_of hil, if_true], .inl ⟨a, ver, 0 + i, n, es ++ tl, rfl, row_get q3, hg⟩, fun j m u hu ho hj => ?_⟩
  have hsl : (splice cs j u.cells).length = n := by simp only [splice, List.length_append, List.length_take, List.length_drop]; omega
  have hso : allOne (splice cs j u.cells) = true := by
   have h1 := hl.2
   simp only [allOne, List.all_eq_true] at h1 ho ⊢
   intro y hy
   simp only [splice, List.mem_append] at hy
   rcases hy with hy | hy | hy
   ·exact h1 y (List.mem_of_mem_take hy)
   ·exact ho y hy
   ·exact h1 y (List.mem_of_mem_drop hy)
  have hst : storeW m (adv j (.ptr a ver (0 + i) 0)) u S = .ok ⟨S.next, S.heap.put a (.row ver n ((es ++ tl).set (0 + i) (splice cs j u.cells)))⟩ := by
   have hj' : 0 + j + u.cells.length ≤ cs.length := by omega
   simp only [adv, storeW, row_get q3, hg, hu, ho, true_and]
   rw [if_pos (by omega)]
   simp only [Nat.zero_add]
  have hset : (es ++ tl).set (0 + i) (splice cs j u.cells) = es.set i (splice cs j u.cells) ++ tl := by rw [Nat.zero_add, List.set_append_left _ _ hil]
  refine ⟨_, hst, x.set q1 q2 w _, rfl, ⟨.inr ⟨a, ver, tl, by rw [List.length_set], q1, q2, ?_⟩, fun c hc => ?_⟩, fun S1 x1 ha w1 => x1.set (ha a ver rfl) q2 w1 _⟩
  ·rw [hset]; exact Tr.get_put_sameB _ _ _ trivial
  ·rcases List.mem_or_eq_of_mem_set hc with hc | rfl
   ·exact h.len c hc
   ·exact ⟨hsl, hso⟩
theorem apT_elem {P : Program} {T : TypeId} {n b : Nat} (h : apT P T = some (n, b)) : ∃ e, elemT P T = some e ∧ zeroFits P e = true ∧ sz P e = n ∧ P.bytesOf e = b := by
 unfold apT at h
 split at h
 ·cases h
 ·rename_i e he
  rw [cond_eq_ite] at h
  split at h
  ·rename_i hz; cases h; exact ⟨e, he, hz, rfl, rfl⟩
  ·cases h
theorem Own.insertK {P : Program} {T : TypeId} {n b : Nat} (hT : apT P T = some (n, b)) (hn : 1 < n) {S0 S : St} {v : V} {es : List (List V)} (h : Own S0 S n v es) (x : Ext S0 S) (w : WF S0) {bx : Nat} {c : List V} (hb : getRow S bx 0 = .ok (n, [c]))
  (hne : ∀ a ver m, v = .sl a ver n 0 m → a ≠ bx) (hc : c.length = n ∧ allOne c = true) (h1 : (es.length + 1) * b ≤ 35184372088832) (h2 : es.length + 1 < lim) {i : Nat} (hi : i ≤ es.length) :
  ∃ v' S', insertV P T v (.int .i64 (i : Int)) (.sl bx 0 n 0 1) S = .ok (v', S') ∧ Ext S0 S' ∧ Own S0 S' n v' (es.take i ++ c :: es.drop i) ∧ ∀ y, y < S.next → (∀ a ver m, v = .sl a ver n 0 m → y ≠ a) → S'.heap.get y = S.heap.get y := by
 obtain ⟨e, he, hz, hsz, hby⟩ := apT_elem hT
 have hx : elemsOf S (.sl bx 0 n 0 1) = .ok [c] := by
  simp only [elemsOf, hb]
  rfl
 have h1n : Nat.ble n 1 = false := by
  cases hq : Nat.ble n 1 with
  | false => rfl
  | true => exact absurd (Nat.le_of_ble_eq_true hq) (by omega)
 have hcs : ∀ d, d ∈ [c] → d.length = n ∧ allOne d = true := fun d hd => by cases hd with
  | head => exact hc
  | tail _ hd => cases hd
 have hlen : ∀ d, d ∈ es.take i ++ c :: es.drop i → d.length = n ∧ allOne d = true := by
  intro d hd
  rcases List.mem_append.1 hd with hd | hd
  ·exact h.len d (List.mem_of_mem_take hd)
  ·rcases List.mem_cons.1 hd with rfl | hd
   ·exact hc
   ·exact h.len d (List.mem_of_mem_drop hd)
 have hlt : (es.take i ++ c :: es.drop i).length = es.length + 1 := by simp only [List.length_append, List.length_take, List.length_cons, List.length_drop]; omega
 by_cases hend : i = es.length
 ·subst hend
  obtain ⟨v', S', q1, q2, _, q3, q4⟩ := h.pushK (b := b) x w hx hcs (by simp) h1 h2
  refine ⟨v', S', ?_, q2, by simpa using q3, q4⟩
  rw [← appendV_of hT] at q1
  unfold insertV
  simp only [he, hx, hsz, h1n, Bool.false_or]
  rcases h.is with ⟨rfl, rfl⟩ | ⟨a, ver, tl, rfl, _⟩
  ·simp only [List.length_nil]
   show (bif Nat.beq 1 0 then _ else bif decide (((0 : Nat) : Int) = 0) then _ else _) = _
   simp only [Int.natCast_zero, decide_true, cond_true]
   exact q1
  ·simp only [decide_true, cond_true]
   exact q1
 ·rcases h.is with ⟨rfl, rfl⟩ | ⟨a, ver, tl, rfl, p1, p2, p3⟩
  ·simp at hi; exact absurd hi hend
  ·have hab : Nat.beq a bx = false := by
    cases hq : Nat.beq a bx with
    | false => rfl
    | true => exact absurd (Nat.eq_of_beq_eq_true hq) (hne a ver _ rfl)
   obtain ⟨a1, a2⟩ := allLen_of hcs
   obtain ⟨_, a3⟩ := allLen_of h.len
   have hb1 : Nat.ble (0 + es.length) (es ++ tl).length = true := Nat.ble_eq_true_of_le (by simp)
   have hroom : room P e (es.length + [c].length) = true := by
    simp only [room, hby, Bool.and_eq_true, Nat.ble_eq, Nat.blt_eq, List.length_cons, List.length_nil]
    exact ⟨h1, h2⟩
   have e1 : decide ((i : Int) = ((es.length : Nat) : Int)) = false := decide_eq_false (by omega)
   have e2 : decide ((i : Int) < 0) = false := decide_eq_false (by omega)
   have e3 : decide (((es.length : Nat) : Int) < (i : Int)) = false := decide_eq_false (by omega)
   refine ⟨.sl a (ver + 1) n 0 (es.take i ++ c :: es.drop i).length, ⟨S.next, S.heap.put a (.row (ver + 1) n (es.take i ++ c :: es.drop i))⟩, ?_, x.set p1 p2 w _, ⟨.inr ⟨a, ver + 1, [], rfl, p1, p2, ?_⟩, hlen⟩, fun y _ hy => Tr.get_put_neB _ _ _ _ trivial (hy a ver _ rfl)⟩
   ·unfold insertV
    simp only [he, hx, hsz, h1n, Bool.false_or, e1, cond_false, hab, e2, e3, a1, a2, hz, Bool.and_self, Bool.not_true, row_get p3, hb1, Nat.beq_refl, hroom, List.drop_zero, List.take_left', a3, cond_true, Int.toNat_natCast, hlt]
    rfl
   ·rw [List.append_nil]; exact Tr.get_put_sameB _ _ _ trivial
theorem Own.insert {P : Program} {T : TypeId} {n b : Nat} (hT : apT P T = some (n, b)) (hn : 1 < n) {S0 S : St} {v : V} {es : List (List V)} (h : Own S0 S n v es) (x : Ext S0 S) (w : WF S0) {bx : Nat} {c : List V} (hb : getRow S bx 0 = .ok (n, [c]))
  (hne : ∀ a ver m, v = .sl a ver n 0 m → a ≠ bx) (hc : c.length = n ∧ allOne c = true) (h1 : (es.length + 1) * b ≤ 35184372088832) (h2 : es.length + 1 < lim) {i : Nat} (hi : i ≤ es.length) :
  ∃ v' S', insertV P T v (.int .i64 (i : Int)) (.sl bx 0 n 0 1) S = .ok (v', S') ∧ Ext S0 S' ∧ Own S0 S' n v' (es.take i ++ c :: es.drop i) := by
 obtain ⟨v', S', q1, q2, q3, _⟩ := h.insertK hT hn x w hb hne hc h1 h2 hi
 exact ⟨v', S', q1, q2, q3⟩
theorem Own.delete {P : Program} {T e : TypeId} {n : Nat} {z : List V} (he : elemT P T = some e) (hz : zeroOne P e = some z) (hsz : sz P e = n) {S0 S : St} {v : V} {es : List (List V)} (h : Own S0 S n v es) (x : Ext S0 S) (w : WF S0)
  (h2 : es.length < lim) {i : Nat} (hi : i < es.length) :
  ∃ v' S', deleteV P T v (.int .i64 (i : Int)) (.int .i64 ((i : Int) + 1)) S = .ok (v', S') ∧ Ext S0 S' ∧ Own S0 S' n v' (es.take i ++ es.drop (i + 1)) := by
 have hlen : ∀ d, d ∈ es.take i ++ es.drop (i + 1) → d.length = n ∧ allOne d = true := by
  intro d hd
  rcases List.mem_append.1 hd with hd | hd
  ·exact h.len d (List.mem_of_mem_take hd)
  ·exact h.len d (List.mem_of_mem_drop hd)
 have hlt : (es.take i ++ es.drop (i + 1)).length = es.length - 1 := by simp only [List.length_append, List.length_take, List.length_drop]; omega
 rcases h.is with ⟨rfl, rfl⟩ | ⟨a, ver, tl, rfl, p1, p2, p3⟩
 ·simp at hi
 ·obtain ⟨_, a3⟩ := allLen_of h.len
  have e1 : decide ((i : Int) < 0) = false := decide_eq_false (by omega)
  have e2 : decide ((i : Int) + 1 < (i : Int)) = false := decide_eq_false (by omega)
  have e3 : decide (((es.length : Nat) : Int) < (i : Int) + 1) = false := decide_eq_false (by omega)
  have e4 : Nat.blt es.length lim = true := Nat.ble_eq_true_of_le h2
  have e5 : Nat.beq es.length 0 = false := by
   cases hq : Nat.beq es.length 0 with
   | false => rfl
   | true => have := Nat.eq_of_beq_eq_true hq; omega
  have e6 : decide ((i : Int) = (i : Int) + 1) = false := decide_eq_false (by omega)
  have hb1 : Nat.ble (0 + es.length) (es ++ tl).length = true := Nat.ble_eq_true_of_le (by simp)
  have hj : ((i : Int) + 1).toNat = i + 1 := by omega
  have hk : i + 1 - i = 1 := by omega
  have hrow : spliceL (es ++ tl) (0 + i) (es.drop (i + 1) ++ [z]) = (es.take i ++ es.drop (i + 1)) ++ (z :: tl) := by
   unfold spliceL
   rw [Nat.zero_add, List.take_append_of_le_length (by omega)]
   have : i + (es.drop (i + 1) ++ [z]).length = es.length + 0 := by simp only [List.length_append, List.length_drop, List.length_cons, List.length_nil]; omega
   rw [this, List.drop_length_add_append]
   simp
  refine ⟨.sl a ver n 0 (es.length - 1), ⟨S.next, S.heap.put a (.row ver n ((es.take i ++ es.drop (i + 1)) ++ (z :: tl)))⟩, ?_, x.set p1 p2 w _, ⟨.inr ⟨a, ver, z :: tl, by rw [hlt], p1, p2, Tr.get_put_sameB _ _ _ trivial⟩, hlen⟩⟩
  unfold deleteV
  simp only [he, e1, e2, e3, e4, e5, e6, Bool.or_false, Bool.not_true, cond_false, hz, hsz, row_get p3, Nat.beq_refl, hb1, Bool.true_and, List.drop_zero, List.take_left', a3, cond_true, Int.toNat_natCast, hj, hk, List.replicate_one, hrow]
end Go.AM
namespace Go.AM
theorem Ext.newAt {S : St} {k : Nat} (hk : S.heap.get k = none) (hk2 : k < S.next) (b : Blk) : Ext S ⟨S.next, S.heap.put k b⟩ := by
 refine ⟨fun a d hd => ?_, Nat.le_refl _, fun w a d hd => ?_⟩
 ·show (S.heap.put k _).get a = some d
  rw [Tr.get_put_neB _ _ _ _ trivial (fun e => by rw [e, hk] at hd; cases hd)]; exact hd
 ·have hd' : (S.heap.put k b).get a = some d := hd
  rw [Tr.get_putB _ _ _ _ trivial] at hd'
  split at hd'
  ·show a < S.next; omega
  ·exact w a d hd'
theorem Sl.copyAt2 {S : St} {n b : Nat} {v : V} {es : List (List V)} (h : Sl S n v es) {S0 : St} (x : Ext S0 S) {k : Nat} (hk : S0.next ≤ k) (hk2 : k < S.next) (hk3 : S.heap.get k = none) (h1 : es.length * b ≤ 35184372088832) (h2 : es.length < lim) :
  ∃ v' S', appW n b .nils v (some k) S = .ok (v', S') ∧ Ext S S' ∧ Own S0 S' n v' es ∧ S'.next = S.next ∧ (∀ y, y ≠ k → S'.heap.get y = S.heap.get y) ∧ ∀ a ver m, v' = .sl a ver n 0 m → a = k := by
 obtain ⟨a1, a2⟩ := allLen_of h.len
 cases es with
 | nil => exact ⟨.nils, S, by simp only [appW, h.elems, a1, a2, and_self, if_true], Ext.refl S, Own.nil _ _ _, rfl, fun _ _ => rfl, fun _ _ _ h => by cases h⟩
 | cons c es =>
  refine ⟨.sl k 0 n 0 (c :: es).length, ⟨S.next, S.heap.put k (.row 0 n (c :: es))⟩, ?_, Ext.newAt hk3 hk2 _, ⟨.inr ⟨k, 0, [], rfl, hk, hk2, ?_⟩, h.len⟩, rfl, fun y hy => Tr.get_put_neB _ _ _ _ trivial hy, fun a ver m hv => by cases hv; rfl⟩
  ·simp only [appW, h.elems, a1, a2, and_self, if_true, h1, h2, newBlk_at]
  ·rw [List.append_nil]; exact Tr.get_put_sameB _ _ _ trivial
theorem one_blockAt (S : St) (k n : Nat) (c : List V) (hc : c.length = n) (ho : allOne c = true) (hn : n ≤ 16777216) (z : List V) : buildSliceW n z 1 [(0, .agg c)] (some k) S = .ok (.sl k 0 n 0 1, ⟨S.next, S.heap.put k (.row 0 n [c])⟩) := by
 unfold buildSliceW
 rw [if_pos (by omega)]
 have h1 : Nat.beq c.length n = true := by rw [hc]; exact Nat.beq_refl n
 have h2 : Nat.blt 0 (List.replicate 1 z).length = true := rfl
 simp only [layV, agg_cells, h1, h2, ho, Bool.and_self, cond_true, newBlk_at]
 rfl
end Go.AM
namespace Go.AM
theorem Own.other {S0 S S' : St} {n : Nat} {v : V} {es : List (List V)} (h : Own S0 S n v es) (hn : S.next ≤ S'.next) (hg : ∀ a ver m, v = .sl a ver n 0 m → S'.heap.get a = S.heap.get a) : Own S0 S' n v es := by
 refine ⟨?_, h.len⟩
 rcases h.is with h1 | ⟨a, ver, tl, h1, h2, h3, h4⟩
 ·exact .inl h1
 ·exact .inr ⟨a, ver, tl, h1, h2, Nat.lt_of_lt_of_le h3 hn, by rw [hg a ver _ h1]; exact h4⟩
theorem var_set {S : St} {a n j m : Nat} {cs : List V} {x : V} (h : S.heap.get a = some (.row 0 n [cs])) (hx : x.cells.length = m) (ho : allOne x.cells = true) (hj : j + m ≤ cs.length) :
  storeW m (.ptr a 0 0 j) x S = .ok ⟨S.next, S.heap.put a (.row 0 n [splice cs j x.cells])⟩ := by
 have hr : getRow S a 0 = .ok (n, [cs]) := row_get h
 simp only [storeW, hr, List.getElem?_cons_zero, hx, ho, true_and]
 rw [if_pos hj]
 rfl
theorem row_has {S : St} {a ver n : Nat} {el : List (List V)} (h : getRow S a ver = .ok (n, el)) : S.heap.get a = some (.row ver n el) := by
 unfold getRow at h
 split at h
 ·rename_i v es elems hg
  rw [cond_eq_ite] at h
  split at h
  ·rename_i hb
   have := Nat.eq_of_beq_eq_true hb
   cases h
   subst this
   exact hg
  ·cases h
 ·cases h
end Go.AM
end
section
namespace Go.Proofs.Ytbiidlmhadihlaa
open Go.AM
def dSp : SpTab := [(10, .told), (26, .within)]
def dTab : PlTab := [
 (3, [(12, [(0,[]),(1,[]),(3,[]),(4,[]),(5,[]),(6,[]),(7,[]),(2,[7]),(8,[]),(9,[]),(10,[]),(11,[]),(12,[]),(13,[])])]),
 (4, []),
 (5, []),
 (6, [(12, [(0,[]),(1,[]),(2,[]),(3,[]),(4,[]),(5,[]),(7,[]),(8,[]),(9,[]),(10,[]),(11,[]),(12,[]),(6,[12]),(13,[]),(14,[]),(15,[]),(16,[]),(17,[])])]),
 (9, []),
 (11, [(4, [(0,[]),(1,[]),(3,[]),(4,[]),(5,[]),(6,[]),(2,[4]),(7,[]),(8,[]),(9,[]),(10,[])])]),
 (12, [(4, [(0,[]),(1,[]),(2,[]),(3,[]),(4,[]),(6,[]),(5,[3,0]),(7,[3,0]),(8,[]),(9,[]),(10,[]),(11,[])])]),
 (13, []),
 (14, []),
 (15, [(20, [(0,[]),(1,[]),(2,[]),(3,[]),(5,[]),(6,[]),(7,[]),(8,[]),(4,[7]),(9,[]),(10,[]),(11,[])])]),
 (16, [(2, [(0,[]),(2,[]),(3,[]),(4,[]),(5,[]),(6,[]),(7,[]),(8,[]),(9,[]),(10,[]),(11,[]),(12,[]),(13,[]),(14,[]),(16,[]),(17,[]),(18,[]),(19,[]),(20,[]),(1,[19,13,9,5]),(15,[19,13,9,5]),(21,[]),(22,[]),(23,[]),(24,[]),(26,[]),(27,[]),(28,[]),(29,[]),(25,[29]),(30,[]),(31,[]),(32,[]),(33,[]),(35,[]),(34,[]),(36,[]),(37,[]),(38,[]),(39,[])])]),
 (17, [(1, [(0,[]),(1,[]),(2,[]),(3,[]),(4,[]),(5,[]),(6,[]),(7,[]),(8,[]),(9,[]),(10,[]),(11,[]),(12,[]),(14,[]),(15,[]),(16,[]),(17,[]),(18,[]),(13,[17,11,7,3]),(19,[17,11,7,3]),(20,[]),(21,[])])]),
 (18, []),
 (19, []),
 (20, []),
 (21, [(2, [(0,[]),(1,[]),(2,[]),(3,[]),(4,[]),(5,[]),(6,[]),(7,[]),(8,[]),(9,[]),(10,[]),(11,[]),(12,[]),(13,[]),(14,[]),(15,[]),(16,[]),(17,[]),(18,[]),(19,[]),(20,[]),(21,[]),(22,[]),(23,[]),(24,[]),(26,[]),(27,[]),(28,[]),(29,[]),(30,[]),(25,[30]),(31,[]),(32,[]),(33,[]),(34,[]),(35,[]),(36,[]),(37,[]),(38,[]),(39,[]),(40,[]),(41,[]),(42,[]),(43,[]),(44,[]),(45,[]),(46,[])])]),
 (22, [(8, [(0,[]),(1,[]),(2,[]),(3,[]),(4,[]),(5,[]),(6,[]),(7,[]),(8,[]),(9,[]),(10,[]),(11,[]),(12,[]),(13,[]),(14,[]),(15,[]),(16,[]),(17,[]),(18,[]),(19,[]),(20,[]),(21,[]),(22,[10,5]),(23,[]),(24,[]),(25,[]),(26,[])])]),
 (23, []),
 (24, []),
 (25, [(13, [(0,[]),(2,[]),(3,[]),(4,[]),(5,[]),(6,[]),(7,[]),(9,[]),(10,[]),(11,[]),(12,[]),(13,[]),(14,[]),(15,[]),(1,[]),(8,[12]),(16,[]),(17,[]),(18,[]),(19,[])]), (26, [(0,[]),(1,[]),(2,[]),(3,[]),(4,[]),(5,[]),(6,[]),(8,[]),(9,[]),(7,[9]),(10,[]),(11,[]),(12,[]),(13,[]),(14,[]),(15,[])])]),
 (27, []),
 (30, []),
 (32, [(6, [(0,[]),(1,[]),(2,[]),(3,[]),(4,[]),(5,[]),(6,[]),(7,[]),(8,[]),(9,[]),(10,[7]),(11,[])])]),
 (33, []),
 (34, []),
 (35, []),
 (36, []),
 (37, []),
 (38, [(14, [(0,[]),(1,[]),(2,[]),(3,[]),(4,[2]),(5,[]),(6,[])]), (21, [(0,[]),(2,[]),(3,[]),(4,[]),(5,[]),(1,[5]),(6,[])])]),
 (39, []),
 (40, [(2, [(0,[]),(1,[]),(2,[]),(3,[]),(4,[]),(5,[]),(6,[]),(7,[]),(8,[]),(9,[]),(10,[]),(11,[]),(12,[]),(13,[]),(14,[]),(15,[]),(16,[]),(17,[]),(18,[]),(19,[]),(20,[]),(21,[]),(22,[]),(23,[]),(24,[]),(26,[]),(27,[]),(28,[]),(29,[]),(30,[]),(25,[30]),(31,[]),(32,[]),(33,[]),(34,[]),(35,[]),(36,[]),(37,[]),(38,[]),(39,[]),(40,[]),(41,[]),(42,[]),(43,[]),(44,[]),(45,[]),(46,[])]), (9, [(0,[]),(1,[]),(2,[]),(3,[]),(4,[]),(5,[]),(6,[]),(8,[]),(9,[]),(12,[]),(13,[]),(16,[]),(17,[]),(7,[]),(10,[]),(11,[]),(14,[]),(15,[]),(18,[]),(19,[])])]),
 (41, [(7, [(1,[]),(2,[]),(3,[]),(4,[]),(5,[]),(6,[]),(7,[]),(8,[]),(9,[]),(10,[]),(11,[]),(12,[]),(13,[]),(0,[]),(14,[]),(15,[])])]),
 (42, []),
 (43, []),
 (44, []),
 (45, []),
 (46, []),
 (47, []),
 (48, []),
 (49, []),
 (50, []),
 (51, [(2, [(0,[]),(2,[]),(3,[]),(4,[]),(5,[]),(1,[5]),(6,[])])]),
 (52, []),
 (53, [(6, [(0,[]),(1,[]),(2,[]),(3,[]),(4,[2]),(5,[]),(6,[])])]),
 (54, [(2, [(0,[]),(1,[]),(2,[]),(3,[]),(4,[]),(5,[]),(6,[]),(7,[]),(8,[]),(9,[]),(10,[]),(11,[]),(12,[]),(13,[]),(14,[]),(15,[]),(16,[]),(17,[]),(18,[]),(19,[]),(20,[]),(21,[]),(22,[]),(23,[]),(24,[]),(25,[]),(26,[]),(27,[]),(28,[]),(29,[]),(30,[28]),(31,[]),(32,[]),(33,[]),(34,[]),(35,[])])]),
 (55, [(3, [(0,[]),(2,[]),(3,[]),(4,[]),(5,[]),(1,[5]),(6,[])])]),
 (56, [(3, [(0,[]),(1,[]),(2,[]),(3,[1]),(4,[])]), (4, [(0,[]),(1,[]),(2,[]),(3,[]),(4,[2]),(5,[]),(6,[])]), (5, [(0,[]),(1,[]),(2,[]),(3,[]),(4,[]),(5,[]),(6,[]),(7,[]),(8,[]),(9,[]),(10,[]),(11,[]),(13,[]),(14,[]),(12,[14]),(15,[]),(16,[])]), (12, [(0,[]),(1,[]),(2,[]),(3,[]),(4,[]),(5,[]),(6,[]),(7,[]),(8,[]),(9,[]),(10,[]),(11,[]),(12,[]),(13,[]),(14,[]),(16,[]),(17,[]),(15,[17]),(18,[]),(19,[]),(20,[])])]),
 (57, [(1, [(0,[]),(1,[]),(2,[]),(3,[]),(4,[]),(5,[]),(6,[]),(7,[]),(8,[]),(9,[7]),(10,[]),(11,[])]), (9, [(0,[]),(1,[]),(2,[]),(3,[]),(4,[]),(5,[]),(6,[]),(7,[]),(8,[]),(9,[]),(10,[]),(11,[9]),(12,[]),(13,[])])]),
 (58, []),
 (59, []),
 (60, [(0, [(0,[]),(1,[]),(2,[]),(3,[]),(4,[]),(5,[]),(7,[]),(8,[]),(6,[4]),(9,[]),(10,[]),(11,[])])]),
 (61, []),
 (62, []),
 (63, []),
 (64, [(0, [(0,[]),(1,[]),(2,[]),(3,[]),(4,[]),(5,[]),(6,[]),(7,[]),(8,[]),(9,[]),(10,[]),(11,[4]),(12,[]),(13,[]),(14,[]),(15,[])])]),
 (65, [(1, [(0,[]),(1,[]),(2,[]),(3,[]),(4,[]),(5,[]),(7,[]),(8,[]),(9,[]),(10,[]),(11,[]),(12,[]),(6,[12]),(13,[]),(14,[]),(15,[]),(16,[]),(17,[])]), (16, [(0,[]),(1,[]),(2,[]),(3,[]),(4,[]),(5,[]),(6,[]),(7,[]),(8,[]),(9,[]),(10,[]),(11,[]),(12,[]),(13,[]),(14,[]),(15,[]),(16,[14]),(17,[]),(18,[])]), (20, [(0,[]),(1,[]),(2,[]),(3,[]),(4,[]),(5,[]),(6,[]),(7,[]),(8,[]),(9,[]),(10,[]),(11,[4]),(12,[]),(13,[]),(14,[])])]),
 (66, []),
 (67, []),
 (68, []),
 (69, []),
 (70, [(6, [(0,[]),(1,[]),(2,[]),(5,[]),(6,[]),(3,[]),(4,[]),(7,[]),(8,[])]), (11, [(0,[]),(1,[]),(2,[]),(3,[]),(4,[]),(5,[]),(7,[]),(8,[]),(6,[4]),(9,[]),(10,[])])]),
 (71, []),
 (72, []),
 (73, [(6, [(0,[]),(1,[]),(2,[]),(3,[]),(4,[]),(5,[3]),(6,[]),(7,[])]), (12, [(0,[]),(1,[]),(2,[]),(3,[]),(4,[]),(5,[]),(6,[]),(7,[5,3]),(8,[]),(9,[5]),(10,[]),(11,[])]), (23, [(0,[]),(1,[]),(2,[]),(3,[]),(4,[]),(5,[3]),(6,[]),(7,[])]), (25, [(0,[]),(1,[]),(2,[]),(3,[]),(4,[]),(5,[]),(6,[]),(7,[]),(8,[]),(9,[]),(10,[]),(11,[]),(12,[]),(13,[11,9,7,5,3]),(14,[]),(15,[11,9,7,5]),(16,[]),(17,[11,9,7]),(18,[]),(19,[11,9]),(20,[]),(21,[11]),(22,[]),(23,[])]), (29, [(0,[]),(1,[]),(2,[]),(3,[]),(4,[]),(5,[3]),(6,[]),(7,[])])]),
 (74, [(2, [(0,[]),(1,[]),(2,[]),(3,[]),(4,[]),(5,[]),(6,[]),(7,[]),(8,[]),(9,[]),(10,[]),(11,[]),(12,[]),(13,[]),(14,[]),(15,[]),(16,[]),(17,[]),(18,[]),(19,[]),(20,[]),(21,[]),(22,[]),(23,[]),(24,[]),(25,[]),(26,[]),(27,[]),(28,[]),(29,[]),(30,[28]),(31,[]),(32,[]),(33,[]),(34,[]),(35,[])])]),
 (75, []),
 (76, [(3, [(0,[]),(1,[]),(2,[]),(3,[1]),(4,[])]), (4, [(0,[]),(1,[]),(2,[]),(3,[]),(4,[2]),(5,[]),(6,[])]), (5, [(0,[]),(1,[]),(2,[]),(3,[]),(4,[]),(5,[]),(6,[]),(7,[]),(8,[]),(9,[]),(10,[]),(11,[]),(13,[]),(14,[]),(12,[14]),(15,[]),(16,[])]), (12, [(0,[]),(1,[]),(2,[]),(3,[]),(4,[]),(5,[]),(6,[]),(7,[]),(8,[]),(9,[]),(10,[]),(11,[]),(12,[]),(13,[]),(14,[]),(16,[]),(17,[]),(18,[]),(19,[]),(20,[]),(21,[]),(15,[21,17]),(22,[]),(23,[]),(24,[])]), (15, [(0,[]),(2,[]),(3,[]),(4,[]),(5,[]),(6,[]),(7,[]),(8,[]),(9,[]),(10,[]),(11,[]),(12,[]),(13,[]),(14,[]),(15,[]),(17,[]),(18,[]),(19,[]),(20,[]),(21,[]),(1,[]),(16,[21,18]),(22,[]),(23,[]),(24,[]),(25,[]),(26,[]),(27,[])])]),
 (77, [(1, [(0,[]),(1,[]),(2,[]),(3,[]),(4,[]),(5,[]),(6,[]),(7,[]),(8,[]),(9,[7]),(10,[]),(11,[])]), (12, [(0,[]),(1,[]),(2,[]),(3,[]),(4,[]),(5,[]),(6,[]),(7,[]),(8,[]),(9,[]),(10,[]),(11,[]),(12,[]),(13,[11]),(14,[]),(15,[])])]),
 (78, [(6, [(0,[]),(1,[]),(2,[]),(3,[]),(4,[]),(5,[]),(6,[]),(7,[]),(8,[]),(9,[]),(10,[]),(11,[]),(12,[9,7]),(13,[]),(14,[]),(15,[9]),(16,[]),(17,[]),(18,[]),(19,[]),(20,[]),(21,[])]), (14, [(0,[]),(1,[]),(2,[]),(3,[1]),(4,[]),(5,[]),(6,[]),(7,[]),(8,[]),(10,[]),(11,[]),(9,[11]),(12,[]),(13,[])]), (16, [(0,[]),(1,[]),(2,[]),(3,[]),(4,[]),(5,[]),(6,[]),(7,[]),(8,[]),(9,[]),(10,[]),(11,[]),(12,[]),(13,[]),(14,[]),(15,[]),(16,[]),(17,[]),(18,[]),(19,[10,8]),(20,[]),(21,[]),(22,[]),(23,[10]),(24,[]),(25,[]),(26,[]),(27,[]),(28,[]),(29,[]),(30,[]),(31,[]),(32,[]),(33,[]),(34,[]),(35,[])])]),
 (79, [(9, [(0,[]),(1,[]),(2,[]),(3,[]),(4,[]),(6,[]),(7,[]),(8,[]),(9,[]),(10,[]),(5,[10]),(11,[]),(12,[])])]),
 (80, [(0, [(0,[]),(1,[]),(2,[]),(3,[]),(4,[]),(5,[]),(7,[]),(8,[]),(6,[4]),(9,[]),(10,[])])]),
 (81, []),
 (82, []),
 (83, [(6, [(0,[]),(1,[]),(2,[]),(3,[]),(4,[]),(5,[]),(6,[]),(7,[]),(8,[]),(10,[]),(11,[]),(12,[]),(13,[]),(14,[]),(9,[14,3]),(15,[]),(16,[])])]),
 (84, []),
 (85, [(4, [(0,[]),(1,[]),(2,[]),(6,[]),(7,[]),(3,[]),(4,[]),(5,[]),(8,[]),(9,[])])]),
 (86, [(1, [(0,[]),(1,[]),(2,[]),(3,[]),(4,[]),(5,[]),(6,[]),(7,[]),(8,[]),(9,[]),(10,[8]),(11,[]),(12,[])])]),
 (87, []),
 (88, [(5, [(0,[]),(1,[]),(2,[]),(3,[]),(4,[]),(5,[]),(6,[]),(7,[]),(8,[]),(9,[]),(10,[]),(11,[]),(12,[]),(13,[]),(14,[]),(15,[]),(16,[]),(17,[]),(19,[]),(20,[]),(18,[20]),(21,[]),(22,[])])]),
 (89, []),
 (90, [(11, [(0,[]),(1,[]),(3,[]),(4,[]),(5,[]),(6,[]),(7,[]),(2,[7]),(8,[]),(9,[]),(10,[]),(11,[]),(12,[]),(13,[])])]),
 (91, [(2, [(0,[]),(1,[]),(2,[]),(3,[1]),(4,[]),(5,[]),(6,[]),(7,[]),(8,[]),(10,[]),(11,[]),(9,[11]),(12,[]),(13,[])]), (4, [(0,[]),(1,[]),(2,[]),(3,[]),(4,[]),(5,[]),(6,[]),(7,[]),(8,[]),(9,[]),(10,[]),(11,[]),(12,[]),(13,[]),(14,[]),(15,[]),(16,[10,8]),(17,[]),(18,[]),(19,[]),(20,[10]),(21,[]),(22,[]),(23,[]),(24,[]),(25,[]),(26,[]),(27,[]),(28,[]),(29,[]),(30,[]),(31,[]),(32,[])])]),
 (92, []),
 (93, []),
 (94, [(5, [(0,[]),(1,[]),(2,[]),(3,[]),(4,[]),(5,[]),(6,[]),(7,[]),(8,[]),(9,[]),(10,[]),(11,[]),(12,[]),(13,[]),(14,[]),(15,[]),(16,[]),(17,[]),(18,[]),(19,[]),(20,[17,13,10]),(21,[])])]),
 (95, []),
 (96, []),
 (97, []),
 (98, [(2, [(0,[]),(1,[]),(2,[]),(3,[]),(4,[]),(5,[]),(6,[]),(7,[]),(8,[]),(10,[]),(11,[]),(12,[]),(13,[]),(14,[]),(9,[14]),(15,[]),(16,[])])]),
 (99, [(5, [(0,[]),(1,[]),(2,[]),(3,[]),(4,[]),(5,[]),(6,[]),(7,[]),(8,[]),(9,[]),(10,[]),(11,[]),(12,[]),(13,[]),(14,[]),(15,[]),(16,[]),(17,[]),(19,[]),(20,[]),(21,[]),(22,[]),(23,[]),(24,[]),(18,[24,20]),(25,[]),(26,[])])]),
 (100, []),
 (101, []),
 (102, []),
 (103, []),
 (104, []),
 (105, []),
 (106, []),
 (107, [])]
noncomputable def dPl : Plans := plansOf Try.prog dSp dTab
def dLv : Lives := fun f => match f with
 | 3 => fun r => match r with
  | 8 => [8, 9, 11, 13]
  | _ => []
 | 4 => fun r => match r with
  | 26 => [8, 16]
  | 7 => [8, 11]
  | _ => []
 | 5 => fun r => match r with
  | 5 => [4, 6]
  | _ => []
 | 6 => fun r => match r with
  | 15 => [4, 10]
  | 10 => [4, 7]
  | 5 => [4, 6]
  | _ => []
 | 9 => fun r => match r with
  | 5 => [2, 3, 4]
  | _ => []
 | 13 => fun r => match r with
  | 9 => [3, 5]
  | 5 => [3, 4]
  | _ => []
 | 20 => fun r => match r with
  | 11 => [56]
  | 4 => [4, 5, 43]
  | _ => []
 | 21 => fun r => match r with
  | 7 => [85]
  | _ => []
 | 22 => fun r => match r with
  | 10 => [87]
  | _ => []
 | 23 => fun r => match r with
  | 5 => [2, 3, 4]
  | _ => []
 | 24 => fun r => match r with
  | 3 => [2, 4]
  | _ => []
 | 32 => fun r => match r with
  | 4 => [4, 5]
  | _ => []
 | 37 => fun r => match r with
  | 17 => [6]
  | _ => []
 | 39 => fun r => match r with
  | 10 => [8]
  | 4 => [4, 5, 6]
  | _ => []
 | 40 => fun r => match r with
  | 6 => [8]
  | _ => []
 | 42 => fun r => match r with
  | 2 => [2, 3, 4]
  | _ => []
 | 44 => fun r => match r with
  | 4 => [4, 5]
  | _ => []
 | 48 => fun r => match r with
  | 2 => [12]
  | _ => []
 | 49 => fun r => match r with
  | 2 => [2, 3, 4]
  | _ => []
 | 51 => fun r => match r with
  | 5 => [48]
  | _ => []
 | 56 => fun r => match r with
  | 9 => [4, 64]
  | _ => []
 | 65 => fun r => match r with
  | 18 => [4, 9]
  | 10 => []
  | 7 => [4, 7]
  | _ => []
 | 66 => fun r => match r with
  | 4 => [4, 5]
  | _ => []
 | 67 => fun r => match r with
  | 9 => [2, 3, 81]
  | _ => []
 | 68 => fun r => match r with
  | 2 => [3]
  | _ => []
 | 70 => fun r => match r with
  | 4 => [2]
  | _ => []
 | 73 => fun r => match r with
  | 17 => [2, 4, 5]
  | _ => []
 | 76 => fun r => match r with
  | 9 => [4, 5]
  | _ => []
 | 79 => fun r => match r with
  | 6 => [6, 7]
  | _ => []
 | 82 => fun r => match r with
  | 3 => [3, 10]
  | _ => []
 | 85 => fun r => match r with
  | 2 => [16]
  | _ => []
 | 88 => fun r => match r with
  | 2 => [4, 11]
  | _ => []
 | 90 => fun r => match r with
  | 6 => [5, 30]
  | 2 => [4]
  | _ => []
 | 94 => fun r => match r with
  | 3 => [4, 5, 6]
  | _ => []
 | 97 => fun r => match r with
  | 3 => [3, 4]
  | _ => []
 | 98 => fun r => match r with
  | 6 => [5, 6]
  | 2 => [4]
  | _ => []
 | 99 => fun r => match r with
  | 2 => [4, 5]
  | _ => []
 | 101 => fun r => match r with
  | 3 => [3, 5]
  | _ => []
 | _ => fun _ => []
end Go.Proofs.Ytbiidlmhadihlaa
end
section
namespace Go.AM
theorem callsQ_true {P : Program} {pl : Plans} (hp : PlansOK P pl) {k : Nat} {f : FuncId} (h : saysQ P pl k f = true) (W : World) :
  Calls P f #[] W fun e W' => e = .returned (.bool true) ∧ RowKit.Below W.heap.size W W' :=
 calls_true hp (saysQ_true h) W
end Go.AM
end
section
set_option linter.unusedSimpArgs false
set_option linter.unusedVariables false
namespace Go.AM
structure Lit where
 args : List V
 n : Nat
 blocks : List (Nat × Blk)
 v : V
 n' : Nat
 blocks' : List (Nat × Blk)
theorem RelH.part {F : Nat → Option Obj} {G : Gh} {S S1 : St} {H : Array Obj} (R : Rel F G S H) (hn : S1.next = S.next) (hs : ∀ a b, S1.heap.get a = some b → S.heap.get a = some b) : Rel F G S1 H := by
 constructor
 ·intro a ha; rw [hn] at ha; exact R.fresh a ha
 ·exact R.sep
 ·exact fun a b h => R.blk a b (hs a b h)
 ·exact fun a a' b b' i h h' => R.inj a a' b b' i (hs a b h) (hs a' b' h')
 ·exact R.fr
 ·exact R.pr
 ·exact fun a b i h => R.own a b i (hs a b h)
 ·exact R.lt
 ·exact fun a b h => R.small a b (hs a b h)
end Go.AM
namespace Go.AM
theorem body_get {fn : Func} (h : fn.body.isSome = true) : fn.body = some (fn.body.get h) := (Option.some_get h).symm
end Go.AM
end
section
set_option linter.unusedSimpArgs false
set_option linter.unusedVariables false
namespace Go.AM
open Go.RowKit
theorem RelH.grow {F : Nat → Option Obj} {G : Gh} {S : St} {H H' : Array Obj} (R : Rel F G S H) (hs : H.size ≤ H'.size) (old : ∀ i, i < H.size → H'[i]? = H[i]?) : Rel F G S H' := by
 have lt : ∀ {i : Nat} {o : Obj}, H[i]? = some o → i < H.size := fun h => (Array.getElem?_eq_some_iff.1 h).1
 constructor
 ·exact R.fresh
 ·exact R.sep
 ·intro a b hb
  have hold := R.blk a b hb
  cases b with
  | row ver' es' elems' =>
   obtain ⟨K, hK, r1, r2, r3, c', ty', fr', hc', r⟩ := hold
   exact ⟨K, hK, r1, r2, r3, c', ty', fr', by rw [old _ (lt hc')]; exact hc', r⟩
  | mp kvs =>
   obtain ⟨i, es', clock, hi, hH', r⟩ := hold
   exact ⟨i, es', clock, hi, by rw [old _ (lt hH')]; exact hH', r⟩
  | iter s pos =>
   obtain ⟨K, hK, r1, r2, hH'⟩ := hold
   exact ⟨K, hK, r1, r2, by rw [old _ (lt hH')]; exact hH'⟩
 ·exact R.inj
 ·intro i o h
  have := R.fr i o h
  rw [old i (lt this)]; exact this
 ·intro i o h
  have := R.pr i o h
  rw [old i (lt this)]; exact this
 ·exact R.own
 ·intro a i h
  have := R.lt a i h
  omega
 ·exact R.small
theorem spec_told {P : Program} {f : FuncId} {fn : Func} (hf : P.funcs[f]? = some fn) (hn : (fn.name == "runtime.NumGoroutine") = false) (hb : fn.body.isSome = true)
  (h : ∀ W, Calls P f #[] W fun e W' => e = .returned (.bool true) ∧ Below W.heap.size W W') : SpecOK P f (Sp.told.run P) := by
 refine ⟨⟨fn, _, hf, hn, body_get hb⟩, fun {args S S' v} hr => ?_⟩
 intro F G W cs R hvs
 match args, hr with
 | [], hr =>
  cases hr
  cases hvs
  refine (h W).mono ?_
  rintro e W' ⟨rfl, hw⟩
  have hw' := hw
  obtain ⟨w1, w2, w3, w4, w5⟩ := hw
  have old : ∀ i, i < W.heap.size → W'.heap[i]? = W.heap[i]? := w5
  exact ⟨G, .bool true, rfl, ⟨G.le_refl, R.grow w4 old, ⟨w1, w2, w3, w4⟩, Nat.le_refl _, fun _ _ _ _ => ⟨rfl, rfl⟩, fun _ h _ _ => h, fun _ => rfl⟩, .bool true⟩
def WithinAt (P : Program) (f : FuncId) : Prop := ∀ (W : World) (n lo hi : Int), lo ≤ hi → hi ≤ 1000000 → -1000000 ≤ lo →
 Calls P f #[.int .i64 n, .int .i64 lo, .int .i64 hi] W fun e W' => e = .returned (.int .i64 (lo + n % (hi - lo + 1))) ∧ Below W.heap.size W W'
theorem spec_within {P : Program} {f : FuncId} {fn : Func} (hf : P.funcs[f]? = some fn) (hn : (fn.name == "runtime.NumGoroutine") = false) (hb : fn.body.isSome = true) (h : WithinAt P f) : SpecOK P f (Sp.within.run P) := by
 refine ⟨⟨fn, _, hf, hn, body_get hb⟩, fun {args S S' v} hr => ?_⟩
 intro F G W cs R hvs
 have hd : ∃ x lo hi, args = [x, .int .i64 lo, .int .i64 hi] := by
  match args, hr with
  | [x, .int .i64 lo, .int .i64 hi], hr => exact ⟨x, lo, hi, rfl⟩
 obtain ⟨x, lo, hi, rfl⟩ := hd
 have fin : ∀ {n : Int} {c : Value}, VR G x (.int .i64 n) → c = .int .i64 n → v = .int .i64 (lo + n % (hi - lo + 1)) → S' = S → lo ≤ hi → hi ≤ 1000000 → -1000000 ≤ lo →
   Calls P f #[c, .int .i64 lo, .int .i64 hi] W fun e W' => ∃ G' w, e = .returned w ∧ Sim F none G S W G' S' W' ∧ VR G' v w := by
  intro n c _ hc hv hS h1 h2 h3
  subst hc hv hS
  refine (h W n lo hi h1 h2 h3).mono ?_
  rintro e W' ⟨rfl, hw⟩
  obtain ⟨w1, w2, w3, w4, w5⟩ := hw
  exact ⟨G, _, rfl, ⟨G.le_refl, R.grow w4 w5, ⟨w1, w2, w3, w4⟩, Nat.le_refl _, fun _ _ _ _ => ⟨rfl, rfl⟩, fun _ h _ _ => h, fun _ => rfl⟩, .int _ _⟩
 unfold Sp.run at hr
 simp only at hr
 rw [cond_eq_ite] at hr
 split at hr
 ·rename_i hck
  simp only [Bool.and_eq_true, decide_eq_true_eq] at hck
  obtain ⟨⟨h1, h2⟩, h3⟩ := hck
  cases hvs with
  | cons _ a1 _ _ hx t => cases t with
   | cons _ a2 _ _ hlo t => cases t with
    | cons _ a3 _ _ hhi t => cases t with
     | nil =>
      cases hlo
      cases hhi
      split at hr
      ·rename_i m r
       rw [cond_eq_ite] at hr
       split at hr
       ·rename_i hm
        have hm : hi - lo + 1 = (m : Int) := by simpa using hm
        cases hr
        have hx' := hx
        cases hx with
        | res _ _ kk n hn =>
         rcases hn with ⟨_, rfl, hn⟩ | ⟨hb, _⟩
         ·exact fin hx' rfl (by rw [hm, hn]) rfl h1 h2 h3
         ·have : (tokBase : Int) ≤ (m : Int) := by exact_mod_cast hb
          unfold tokBase at this
          omega
       ·cases hr
      ·rename_i n
       cases hr
       have hx' := hx
       cases hx
       exact fin hx' rfl rfl rfl h1 h2 h3
      ·cases hr
 ·cases hr
end Go.AM
namespace Go.AM
open Go.RowKit
end Go.AM
end
section
namespace Go.Proofs.Ytbiidlmhadihlaa
open Go.RowKit Go.AM
def raftRunsTab : PlTab := [
 (10, [(30, [(0,[]),(1,[]),(2,[]),(3,[]),(4,[]),(5,[]),(6,[]),(7,[]),(9,[]),(12,[]),(13,[]),(8,[13,12,9]),(10,[]),(11,[]),(14,[]),(15,[]),(16,[]),(17,[]),(18,[]),(19,[])])]),
 (11, [(4, [(0,[]),(1,[]),(3,[]),(4,[]),(5,[]),(6,[]),(2,[4]),(7,[]),(8,[]),(9,[]),(10,[])])]),
 (17, [(1, [(0,[]),(1,[]),(2,[]),(3,[]),(4,[]),(5,[]),(6,[]),(7,[]),(8,[]),(9,[]),(10,[]),(11,[]),(12,[]),(14,[]),(15,[]),(16,[]),(17,[]),(18,[]),(13,[17,11,7,3]),(19,[17,11,7,3]),(20,[]),(21,[])])]),
 (18, []),
 (19, []),
 (20, []),
 (21, [(2, [(0,[]),(1,[]),(2,[]),(3,[]),(4,[]),(5,[]),(6,[]),(7,[]),(8,[]),(9,[]),(10,[]),(11,[]),(12,[]),(13,[]),(14,[]),(15,[]),(16,[]),(17,[]),(18,[]),(19,[]),(20,[]),(21,[]),(22,[]),(23,[]),(24,[]),(26,[]),(27,[]),(28,[]),(29,[]),(30,[]),(25,[30]),(31,[]),(32,[]),(33,[]),(34,[]),(35,[]),(36,[]),(37,[]),(38,[]),(39,[]),(40,[]),(41,[]),(42,[]),(43,[]),(44,[]),(45,[]),(46,[])])]),
 (22, [(8, [(0,[]),(1,[]),(2,[]),(3,[]),(4,[]),(5,[]),(6,[]),(7,[]),(8,[]),(9,[]),(10,[]),(11,[]),(12,[]),(13,[]),(14,[]),(15,[]),(16,[]),(17,[]),(18,[]),(19,[]),(20,[]),(21,[]),(22,[10,5]),(23,[]),(24,[]),(25,[]),(26,[])])]),
 (27, []),
 (31, []),
 (32, [(6, [(0,[]),(1,[]),(2,[]),(3,[]),(4,[]),(5,[]),(6,[]),(7,[]),(8,[]),(9,[]),(10,[7]),(11,[])])]),
 (33, []),
 (34, []),
 (35, []),
 (46, []),
 (47, []),
 (48, []),
 (49, []),
 (50, []),
 (51, [(2, [(0,[]),(2,[]),(3,[]),(4,[]),(5,[]),(1,[5]),(6,[])])]),
 (52, []),
 (53, [(6, [(0,[]),(1,[]),(2,[]),(3,[]),(4,[2]),(5,[]),(6,[])])]),
 (54, [(2, [(0,[]),(1,[]),(2,[]),(3,[]),(4,[]),(5,[]),(6,[]),(7,[]),(8,[]),(9,[]),(10,[]),(11,[]),(12,[]),(13,[]),(14,[]),(15,[]),(16,[]),(17,[]),(18,[]),(19,[]),(20,[]),(21,[]),(22,[]),(23,[]),(24,[]),(25,[]),(26,[]),(27,[]),(28,[]),(29,[]),(30,[28]),(31,[]),(32,[]),(33,[]),(34,[]),(35,[])])]),
 (55, [(3, [(0,[]),(2,[]),(3,[]),(4,[]),(5,[]),(1,[5]),(6,[])])]),
 (56, [(3, [(0,[]),(1,[]),(2,[]),(3,[1]),(4,[])]), (4, [(0,[]),(1,[]),(2,[]),(3,[]),(4,[2]),(5,[]),(6,[])]), (5, [(0,[]),(1,[]),(2,[]),(3,[]),(4,[]),(5,[]),(6,[]),(7,[]),(8,[]),(9,[]),(10,[]),(11,[]),(13,[]),(14,[]),(12,[14]),(15,[]),(16,[])]), (12, [(0,[]),(1,[]),(2,[]),(3,[]),(4,[]),(5,[]),(6,[]),(7,[]),(8,[]),(9,[]),(10,[]),(11,[]),(12,[]),(13,[]),(14,[]),(16,[]),(17,[]),(15,[17]),(18,[]),(19,[]),(20,[])])]),
 (57, [(1, [(0,[]),(1,[]),(2,[]),(3,[]),(4,[]),(5,[]),(6,[]),(7,[]),(8,[]),(9,[7]),(10,[]),(11,[])]), (9, [(0,[]),(1,[]),(2,[]),(3,[]),(4,[]),(5,[]),(6,[]),(7,[]),(8,[]),(9,[]),(10,[]),(11,[9]),(12,[]),(13,[])])]),
 (58, []),
 (59, []),
 (60, [(0, [(0,[]),(1,[]),(2,[]),(3,[]),(4,[]),(5,[]),(7,[]),(8,[]),(6,[4]),(9,[]),(10,[]),(11,[])])]),
 (61, []),
 (62, []),
 (66, []),
 (67, []),
 (82, []),
 (83, [(6, [(0,[]),(1,[]),(2,[]),(3,[]),(4,[]),(5,[]),(6,[]),(7,[]),(8,[]),(10,[]),(11,[]),(12,[]),(13,[]),(14,[]),(9,[14,3]),(15,[]),(16,[])])]),
 (84, []),
 (85, [(4, [(0,[]),(1,[]),(2,[]),(6,[]),(7,[]),(3,[]),(4,[]),(5,[]),(8,[]),(9,[])])]),
 (86, [(1, [(0,[]),(1,[]),(2,[]),(3,[]),(4,[]),(5,[]),(6,[]),(7,[]),(8,[]),(9,[]),(10,[8]),(11,[]),(12,[])])]),
 (87, []),
 (88, [(5, [(0,[]),(1,[]),(2,[]),(3,[]),(4,[]),(5,[]),(6,[]),(7,[]),(8,[]),(9,[]),(10,[]),(11,[]),(12,[]),(13,[]),(14,[]),(15,[]),(16,[]),(17,[]),(19,[]),(20,[]),(18,[20]),(21,[]),(22,[])])]),
 (89, []),
 (90, [(11, [(0,[]),(1,[]),(3,[]),(4,[]),(5,[]),(6,[]),(7,[]),(2,[7]),(8,[]),(9,[]),(10,[]),(11,[]),(12,[]),(13,[])])]),
 (91, [(2, [(0,[]),(1,[]),(2,[]),(3,[1]),(4,[]),(5,[]),(6,[]),(7,[]),(8,[]),(10,[]),(11,[]),(9,[11]),(12,[]),(13,[])]), (4, [(0,[]),(1,[]),(2,[]),(3,[]),(4,[]),(5,[]),(6,[]),(7,[]),(8,[]),(9,[]),(10,[]),(11,[]),(12,[]),(13,[]),(14,[]),(15,[]),(16,[10,8]),(17,[]),(18,[]),(19,[]),(20,[10]),(21,[]),(22,[]),(23,[]),(24,[]),(25,[]),(26,[]),(27,[]),(28,[]),(29,[]),(30,[]),(31,[]),(32,[])])]),
 (92, []),
 (93, []),
 (95, []),
 (101, []),
 (102, []),
 (103, []),
 (104, []),
 (105, []),
 (106, []),
 (107, [])]
def raftRunsTabSp : SpTab := []
theorem raftRunsTabSp_ok : SpAll Try.prog raftRunsTabSp := trivial
theorem raftRunsTab_ok : tabOK Try.prog raftRunsTab = true := by kernel_rfl
theorem raftRuns_says : saysQ Try.prog (plansOf Try.prog raftRunsTabSp raftRunsTab) 1000 10 = true := by kernel_rfl
theorem raftRuns_any (W : World) : Calls Try.prog 10 #[] W fun e W' => e = .returned (.bool true) ∧ Below W.heap.size W W' :=
 callsQ_true (plansOK_of (by kernel_rfl) raftRunsTabSp_ok raftRunsTab_ok) raftRuns_says W
theorem within_at : WithinAt Try.prog 26 := by
 intro W n lo hi h1 h2 h3
 have hd0 : ¬ (hi - lo + 1 = 0) := by omega
 have hm := Int.emod_lt_of_pos n (b := hi - lo + 1) (by omega)
 have hm0 := Int.emod_nonneg n hd0
 have hr1 : n.tmod (hi - lo + 1) < hi - lo + 1 ∧ -(hi - lo + 1) < n.tmod (hi - lo + 1) ∧ (n % (hi - lo + 1) = n.tmod (hi - lo + 1) ∨ n.tmod (hi - lo + 1) < 0 ∧ n % (hi - lo + 1) = n.tmod (hi - lo + 1) + (hi - lo + 1)) ∧ (0 ≤ n.tmod (hi - lo + 1) → n % (hi - lo + 1) = n.tmod (hi - lo + 1)) := by
  rw [Int.tmod_eq_emod]
  split <;> omega
 have hB : Below W.heap.size W W := ⟨rfl, rfl, rfl, Nat.le_refl _, fun _ _ => rfl⟩
 go_enter Try.func26, Try.ntmps26
 go_wp2
 all_goals
  go_ret
  refine ⟨?_, hB⟩
  generalize n.tmod (hi - lo + 1) = r at *
  generalize n % (hi - lo + 1) = q at *
 ·show Ending.returned (Value.int .i64 (lo + (r + hi - lo + 1))) = _
  congr 2
  omega
 ·show Ending.returned (Value.int .i64 (lo + r)) = _
  congr 2
  omega
theorem dSp_ok : SpAll Try.prog dSp :=
 ⟨spec_told Try.func10 (by kernel_rfl) (by kernel_rfl) raftRuns_any, spec_within Try.func26 (by kernel_rfl) (by kernel_rfl) within_at, trivial⟩
theorem dTab_ok : tabOK Try.prog dTab = true := by kernel_rfl
theorem dPlans_ok : PlansOK Try.prog dPl := plansOK_of (by kernel_rfl) dSp_ok dTab_ok
end Go.Proofs.Ytbiidlmhadihlaa
end
section
namespace Go.Proofs.Ytbiidlmhadihlaa
open Go.AM
noncomputable def m4_l1 (C : CallD) (k : Nat) (K : KS) (again0 : List V → St → An) (p3 p9 p11 p12 p13 p14 : V) (vs : List V) (S : St) (again1 : List V → St → An) : An :=
unD vs fun x8 vs =>
unD vs fun x16 vs =>
dR (fieldAddrV Try.prog 50 p13 2) fun t47 =>
dR (loadV Try.prog 3 t47 S) fun t48 =>
dR (binV Try.prog .leq 3 x16 t48) fun t49 =>
pickD t49 (dR (fieldAddrV Try.prog 24 p12 6) fun t50 =>
dR (loadV Try.prog 22 t50 (⟨S.next + 19, S.heap⟩ : St)) fun t51 =>
dR (fieldAddrV Try.prog 24 p12 2) fun t52 =>
dR (loadV Try.prog 3 t52 (⟨S.next + 19, S.heap⟩ : St)) fun t53 =>
dR (binV Try.prog .sub 3 x16 t53) fun t54 =>
dR (binV Try.prog .sub 3 t54 (.int .i64 1)) fun t55 =>
dR (indexAddrV Try.prog 22 t51 t55) fun t56 =>
dR (loadV Try.prog 59 t56 (⟨S.next + 19, S.heap⟩ : St)) fun t57 =>
dR (fieldAddrV Try.prog 24 p14 6) fun t58 =>
dR (loadV Try.prog 22 t58 (⟨S.next + 19, S.heap⟩ : St)) fun t59 =>
dR (fieldAddrV Try.prog 24 p14 2) fun t60 =>
dR (loadV Try.prog 3 t60 (⟨S.next + 19, S.heap⟩ : St)) fun t61 =>
dR (binV Try.prog .sub 3 x16 t61) fun t62 =>
dR (binV Try.prog .sub 3 t62 (.int .i64 1)) fun t63 =>
dR (indexAddrV Try.prog 22 t59 t63) fun t64 =>
dR (loadV Try.prog 59 t64 (⟨S.next + 19, S.heap⟩ : St)) fun t65 =>
dIf (guardP Try.prog 59 t57 t65) (dR (binV Try.prog .neq 59 t57 t65) fun t66 =>
pickD t66 (K (.bool false) (⟨S.next + 19, S.heap⟩ : St)) (dR (binV Try.prog .add 3 x16 (.int .i64 1)) fun t67 =>
again1 [x8, t67] (⟨S.next + 19, S.heap⟩ : St)))) (dR (binV Try.prog .add 3 p11 (.int .i64 1)) fun t68 =>
again0 [x8, t68] S)
noncomputable def m4_j2 (C : CallD) (k : Nat) (K : KS) (again0 : List V → St → An) (p3 p8 p9 p11 p12 p13 p14 : V) (S : St) : An :=
dR (fieldAddrV Try.prog 24 p12 2) fun t41 =>
dR (loadV Try.prog 3 t41 S) fun t42 =>
dR (fieldAddrV Try.prog 24 p14 2) fun t43 =>
dR (loadV Try.prog 3 t43 S) fun t44 =>
dR (maxV [t42, t44]) fun t45 =>
dR (binV Try.prog .add 3 t45 (.int .i64 1)) fun t46 =>
loopD k [p8, t46] S (m4_l1 C k K again0 p3 p9 p11 p12 p13 p14)
noncomputable def m4_j1 (C : CallD) (k : Nat) (K : KS) (again0 : List V → St → An) (p3 p8 p9 p11 p12 p13 : V) (S : St) : An :=
C 14 [p9] S fun t33 S34 =>
C 17 [p9] S34 fun t35 S36 =>
dR (newBlk none S36 (.row 0 7 [[.int .i64 0,.int .i64 0,.int .i64 0,.int .i64 0,.int .i64 0,.str [],.nils]])) fun r37 =>
dR (newBlk none r37.2 (.row 0 6 [[.int .i64 0,.int .i64 0,.int .i64 0,.int .i64 0,.int .i64 0,.int .i64 0]])) fun r38 =>
dR (storeV Try.prog 24 (.ptr r37.1 0 0 0) t33 r38.2) fun S39 =>
dR (storeV Try.prog 50 (.ptr r38.1 0 0 0) t35 S39) fun S40 =>
dR (fieldAddrV Try.prog 24 (.ptr r37.1 0 0 0) 0) fun t69 =>
dR (loadV Try.prog 3 t69 S40) fun t70 =>
dR (fieldAddrV Try.prog 24 p12 0) fun t71 =>
dR (loadV Try.prog 3 t71 S40) fun t72 =>
dR (binV Try.prog .lss 3 t70 t72) fun t73 =>
pickD t73 (K (.bool false) S40) (dR (fieldAddrV Try.prog 24 (.ptr r37.1 0 0 0) 0) fun t74 =>
dR (loadV Try.prog 3 t74 S40) fun t75 =>
dR (fieldAddrV Try.prog 24 p12 0) fun t76 =>
dR (loadV Try.prog 3 t76 S40) fun t77 =>
dIf (guardP Try.prog 3 t75 t77) (dR (binV Try.prog .eql 3 t75 t77) fun t78 =>
pickD t78 (dR (fieldAddrV Try.prog 24 p12 1) fun t79 =>
dR (loadV Try.prog 3 t79 S40) fun t80 =>
dIf (guardP Try.prog 3 t80 (.int .i64 (-1))) (dR (binV Try.prog .neq 3 t80 (.int .i64 (-1))) fun t81 =>
pickD t81 (dR (fieldAddrV Try.prog 24 (.ptr r37.1 0 0 0) 1) fun t82 =>
dR (loadV Try.prog 3 t82 S40) fun t83 =>
dR (fieldAddrV Try.prog 24 p12 1) fun t84 =>
dR (loadV Try.prog 3 t84 S40) fun t85 =>
dIf (guardP Try.prog 3 t83 t85) (dR (binV Try.prog .neq 3 t83 t85) fun t86 =>
pickD t86 (K (.bool false) S40) (dR (fieldAddrV Try.prog 50 (.ptr r38.1 0 0 0) 2) fun t87 =>
dR (loadV Try.prog 3 t87 S40) fun t88 =>
dR (fieldAddrV Try.prog 50 p13 2) fun t89 =>
dR (loadV Try.prog 3 t89 S40) fun t90 =>
dR (binV Try.prog .lss 3 t88 t90) fun t91 =>
pickD t91 (K (.bool false) S40) (dR (fieldAddrV Try.prog 50 (.ptr r38.1 0 0 0) 2) fun t92 =>
dR (loadV Try.prog 3 t92 S40) fun t93 =>
dR (fieldAddrV Try.prog 50 (.ptr r38.1 0 0 0) 3) fun t94 =>
dR (loadV Try.prog 3 t94 S40) fun t95 =>
dR (binV Try.prog .gtr 3 t93 t95) fun t96 =>
pickD t96 (K (.bool false) S40) (dR (fieldAddrV Try.prog 50 (.ptr r38.1 0 0 0) 3) fun t97 =>
dR (loadV Try.prog 3 t97 S40) fun t98 =>
dR (fieldAddrV Try.prog 24 (.ptr r37.1 0 0 0) 2) fun t99 =>
dR (loadV Try.prog 3 t99 S40) fun t100 =>
dR (fieldAddrV Try.prog 24 (.ptr r37.1 0 0 0) 6) fun t101 =>
dR (loadV Try.prog 22 t101 S40) fun t102 =>
dR (lenV Try.prog 22 t102 S40) fun t103 =>
dR (binV Try.prog .add 3 t100 t103) fun t104 =>
dIf (guardP Try.prog 3 t98 t104) (dR (binV Try.prog .neq 3 t98 t104) fun t105 =>
pickD t105 (K (.bool false) S40) (dR (loadV Try.prog 24 (.ptr r37.1 0 0 0) S40) fun t106 =>
C 23 [t106] S40 fun t107 S108 =>
dR (unV .not t107) fun t109 =>
pickD t109 (K (.bool false) S108) (dR (fieldAddrV Try.prog 24 (.ptr r37.1 0 0 0) 2) fun t110 =>
dR (loadV Try.prog 3 t110 S108) fun t111 =>
dR (fieldAddrV Try.prog 24 p12 2) fun t112 =>
dR (loadV Try.prog 3 t112 S108) fun t113 =>
dR (binV Try.prog .lss 3 t111 t113) fun t114 =>
pickD t114 (K (.bool false) S108) (m4_j2 C k K again0 p3 p8 p9 p11 p12 p13 (.ptr r37.1 0 0 0) S108))))))))) (dR (fieldAddrV Try.prog 50 (.ptr r38.1 0 0 0) 2) fun t115 =>
dR (loadV Try.prog 3 t115 S40) fun t116 =>
dR (fieldAddrV Try.prog 50 p13 2) fun t117 =>
dR (loadV Try.prog 3 t117 S40) fun t118 =>
dR (binV Try.prog .lss 3 t116 t118) fun t119 =>
pickD t119 (K (.bool false) S40) (dR (fieldAddrV Try.prog 50 (.ptr r38.1 0 0 0) 2) fun t120 =>
dR (loadV Try.prog 3 t120 S40) fun t121 =>
dR (fieldAddrV Try.prog 50 (.ptr r38.1 0 0 0) 3) fun t122 =>
dR (loadV Try.prog 3 t122 S40) fun t123 =>
dR (binV Try.prog .gtr 3 t121 t123) fun t124 =>
pickD t124 (K (.bool false) S40) (dR (fieldAddrV Try.prog 50 (.ptr r38.1 0 0 0) 3) fun t125 =>
dR (loadV Try.prog 3 t125 S40) fun t126 =>
dR (fieldAddrV Try.prog 24 (.ptr r37.1 0 0 0) 2) fun t127 =>
dR (loadV Try.prog 3 t127 S40) fun t128 =>
dR (fieldAddrV Try.prog 24 (.ptr r37.1 0 0 0) 6) fun t129 =>
dR (loadV Try.prog 22 t129 S40) fun t130 =>
dR (lenV Try.prog 22 t130 S40) fun t131 =>
dR (binV Try.prog .add 3 t128 t131) fun t132 =>
dIf (guardP Try.prog 3 t126 t132) (dR (binV Try.prog .neq 3 t126 t132) fun t133 =>
pickD t133 (K (.bool false) S40) (dR (loadV Try.prog 24 (.ptr r37.1 0 0 0) S40) fun t134 =>
C 23 [t134] S40 fun t135 S136 =>
dR (unV .not t135) fun t137 =>
pickD t137 (K (.bool false) S136) (dR (fieldAddrV Try.prog 24 (.ptr r37.1 0 0 0) 2) fun t138 =>
dR (loadV Try.prog 3 t138 S136) fun t139 =>
dR (fieldAddrV Try.prog 24 p12 2) fun t140 =>
dR (loadV Try.prog 3 t140 S136) fun t141 =>
dR (binV Try.prog .lss 3 t139 t141) fun t142 =>
pickD t142 (K (.bool false) S136) (m4_j2 C k K again0 p3 p8 p9 p11 p12 p13 (.ptr r37.1 0 0 0) S136))))))))) (dR (fieldAddrV Try.prog 50 (.ptr r38.1 0 0 0) 2) fun t143 =>
dR (loadV Try.prog 3 t143 S40) fun t144 =>
dR (fieldAddrV Try.prog 50 p13 2) fun t145 =>
dR (loadV Try.prog 3 t145 S40) fun t146 =>
dR (binV Try.prog .lss 3 t144 t146) fun t147 =>
pickD t147 (K (.bool false) S40) (dR (fieldAddrV Try.prog 50 (.ptr r38.1 0 0 0) 2) fun t148 =>
dR (loadV Try.prog 3 t148 S40) fun t149 =>
dR (fieldAddrV Try.prog 50 (.ptr r38.1 0 0 0) 3) fun t150 =>
dR (loadV Try.prog 3 t150 S40) fun t151 =>
dR (binV Try.prog .gtr 3 t149 t151) fun t152 =>
pickD t152 (K (.bool false) S40) (dR (fieldAddrV Try.prog 50 (.ptr r38.1 0 0 0) 3) fun t153 =>
dR (loadV Try.prog 3 t153 S40) fun t154 =>
dR (fieldAddrV Try.prog 24 (.ptr r37.1 0 0 0) 2) fun t155 =>
dR (loadV Try.prog 3 t155 S40) fun t156 =>
dR (fieldAddrV Try.prog 24 (.ptr r37.1 0 0 0) 6) fun t157 =>
dR (loadV Try.prog 22 t157 S40) fun t158 =>
dR (lenV Try.prog 22 t158 S40) fun t159 =>
dR (binV Try.prog .add 3 t156 t159) fun t160 =>
dIf (guardP Try.prog 3 t154 t160) (dR (binV Try.prog .neq 3 t154 t160) fun t161 =>
pickD t161 (K (.bool false) S40) (dR (loadV Try.prog 24 (.ptr r37.1 0 0 0) S40) fun t162 =>
C 23 [t162] S40 fun t163 S164 =>
dR (unV .not t163) fun t165 =>
pickD t165 (K (.bool false) S164) (dR (fieldAddrV Try.prog 24 (.ptr r37.1 0 0 0) 2) fun t166 =>
dR (loadV Try.prog 3 t166 S164) fun t167 =>
dR (fieldAddrV Try.prog 24 p12 2) fun t168 =>
dR (loadV Try.prog 3 t168 S164) fun t169 =>
dR (binV Try.prog .lss 3 t167 t169) fun t170 =>
pickD t170 (K (.bool false) S164) (m4_j2 C k K again0 p3 p8 p9 p11 p12 p13 (.ptr r37.1 0 0 0) S164)))))))))
noncomputable def m4_l0 (C : CallD) (k : Nat) (K : KS) (p3 p9 : V) (vs : List V) (S : St) (again0 : List V → St → An) : An :=
unD vs fun x8 vs =>
unD vs fun x11 vs =>
dR (lenV Try.prog 25 p3 S) fun t16 =>
dR (binV Try.prog .lss 3 x11 t16) fun t17 =>
pickD t17 (dR (binV Try.prog .lss 3 x11 (.int .i64 60)) fun t18 =>
pickD t18 (dR (indexAddrV Try.prog 25 p3 x11) fun t19 =>
dR (loadV Try.prog 40 t19 S) fun t20 =>
C 13 [t20] S fun t21 S22 =>
dR (unV .not t21) fun t23 =>
pickD t23 (dR (binV Try.prog .add 3 x11 (.int .i64 1)) fun t24 =>
again0 [x8, t24] S22) (C 14 [p9] S22 fun t25 S26 =>
C 17 [p9] S26 fun t27 S28 =>
dR (newBlk none S28 (.row 0 7 [[.int .i64 0,.int .i64 0,.int .i64 0,.int .i64 0,.int .i64 0,.str [],.nils]])) fun r29 =>
dR (newBlk none r29.2 (.row 0 6 [[.int .i64 0,.int .i64 0,.int .i64 0,.int .i64 0,.int .i64 0,.int .i64 0]])) fun r30 =>
dR (storeV Try.prog 24 (.ptr r29.1 0 0 0) t25 r30.2) fun S31 =>
dR (storeV Try.prog 50 (.ptr r30.1 0 0 0) t27 S31) fun S32 =>
dR (indexAddrV Try.prog 25 p3 x11) fun t171 =>
dR (fieldAddrV Try.prog 40 t171 0) fun t172 =>
dR (loadV Try.prog 3 t172 S32) fun t173 =>
dIf (guardP Try.prog 3 t173 (.int .i64 1)) (dR (binV Try.prog .eql 3 t173 (.int .i64 1)) fun t174 =>
pickD t174 (dR (indexAddrV Try.prog 25 p3 x11) fun t175 =>
dR (fieldAddrV Try.prog 40 t175 1) fun t176 =>
dR (loadV Try.prog 3 t176 S32) fun t177 =>
C 18 [p9, t177] S32 fun t178 S179 =>
m4_j1 C k K again0 p3 x8 p9 x11 (.ptr r29.1 0 0 0) (.ptr r30.1 0 0 0) S179) (dIf (guardP Try.prog 3 t173 (.int .i64 2)) (dR (binV Try.prog .eql 3 t173 (.int .i64 2)) fun t180 =>
pickD t180 (dR (indexAddrV Try.prog 25 p3 x11) fun t181 =>
dR (fieldAddrV Try.prog 40 t181 2) fun t182 =>
dR (loadV Try.prog 37 t182 S32) fun t183 =>
C 19 [p9, t183] S32 fun t184 S185 =>
m4_j1 C k K again0 p3 x8 p9 x11 (.ptr r29.1 0 0 0) (.ptr r30.1 0 0 0) S185) (dIf (guardP Try.prog 3 t173 (.int .i64 3)) (dR (binV Try.prog .eql 3 t173 (.int .i64 3)) fun t186 =>
pickD t186 (dR (indexAddrV Try.prog 25 p3 x11) fun t187 =>
dR (fieldAddrV Try.prog 40 t187 3) fun t188 =>
dR (loadV Try.prog 38 t188 S32) fun t189 =>
C 20 [p9, t189] S32 fun t190 S191 =>
m4_j1 C k K again0 p3 x8 p9 x11 (.ptr r29.1 0 0 0) (.ptr r30.1 0 0 0) S191) (dIf (guardP Try.prog 3 t173 (.int .i64 4)) (dR (binV Try.prog .eql 3 t173 (.int .i64 4)) fun t192 =>
pickD t192 (dR (indexAddrV Try.prog 25 p3 x11) fun t193 =>
dR (fieldAddrV Try.prog 40 t193 1) fun t194 =>
dR (loadV Try.prog 3 t194 S32) fun t195 =>
C 21 [p9, t195] S32 fun t196 S197 =>
m4_j1 C k K again0 p3 x8 p9 x11 (.ptr r29.1 0 0 0) (.ptr r30.1 0 0 0) S197) (dIf (guardP Try.prog 3 t173 (.int .i64 5)) (dR (binV Try.prog .eql 3 t173 (.int .i64 5)) fun t198 =>
pickD t198 (dR (indexAddrV Try.prog 25 p3 x11) fun t199 =>
dR (fieldAddrV Try.prog 40 t199 1) fun t200 =>
dR (loadV Try.prog 3 t200 S32) fun t201 =>
C 22 [p9, t201, (.str [115])] S32 fun t202 S203 =>
m4_j1 C k K again0 p3 x8 p9 x11 (.ptr r29.1 0 0 0) (.ptr r30.1 0 0 0) S203) (m4_j1 C k K again0 p3 x8 p9 x11 (.ptr r29.1 0 0 0) (.ptr r30.1 0 0 0) S32)))))))))))) (C 10 [] S fun t204 S205 =>
K t204 S205)) (C 10 [] S fun t206 S207 =>
K t206 S207)
noncomputable def m4_j0 (C : CallD) (k : Nat) (K : KS) (p3 p9 p10 p33 : V) (S : St) : An :=
pickD p33 (dIf (guardP Try.prog 28 p9 (.nilp)) (dR (binV Try.prog .eql 28 p9 (.nilp)) fun t12 =>
pickD t12 (dIf (guardP Try.prog 29 p10 (.int .i64 1)) (dR (binV Try.prog .eql 29 p10 (.int .i64 1)) fun t13 =>
pickD t13 (C 10 [] S fun t14 S15 =>
K t14 S15) (K (.bool false) S))) (K (.bool false) S))) (loopD k [(.bool false), (.int .i64 0)] S (m4_l0 C k K p3 p9))
noncomputable def m4 (C : CallD) (k : Nat) (a0 a1 a2 a3 : V) (S : St) (K : KS) : An :=
dIf (allOne (a1 : V).cells) (dR (newBlk none S (.row 0 (a1 : V).cells.length [(a1 : V).cells])) fun r0 =>
dR (loadV Try.prog 24 (.ptr r0.1 0 0 0) r0.2) fun t1 =>
C 9 [t1] r0.2 fun t2 S3 =>
dR (unV .not t2) fun t4 =>
pickD t4 (C 10 [] S3 fun t5 S6 =>
K t5 S6) (dR (loadV Try.prog 24 (.ptr r0.1 0 0 0) S3) fun t7 =>
C 11 [a0, t7, a2] S3 fun t8 S9 =>
tupD t8 0 fun t10 =>
tupD t8 1 fun t11 =>
dIf (guardP Try.prog 28 t10 (.nilp)) (dR (binV Try.prog .eql 28 t10 (.nilp)) fun t208 =>
pickD t208 (m4_j0 C k K a3 t10 t11 (.bool true) S9) (dIf (guardP Try.prog 29 t11 (.int .i64 0)) (dR (binV Try.prog .neq 29 t11 (.int .i64 0)) fun t209 =>
m4_j0 C k K a3 t10 t11 t209 S9)))))
theorem m4_eq : (fun (k : Nat) (a0 a1 a2 a3 : V) (S : St) (K : KS) => callD Try.prog dPl dLv (k + 1) 4 [a0, a1, a2, a3] S K) = fun k a0 a1 a2 a3 S K => m4 (callD Try.prog dPl dLv k) k a0 a1 a2 a3 S K := by kernel_rfl
noncomputable def m9_l0 (C : CallD) (k : Nat) (K : KS) (p1 : V) (vs : List V) (S : St) (again0 : List V → St → An) : An :=
unD vs fun x2 vs =>
unD vs fun x3 vs =>
unD vs fun x4 vs =>
dR (fieldAddrV Try.prog 24 p1 6) fun t8 =>
dR (loadV Try.prog 22 t8 S) fun t9 =>
dR (lenV Try.prog 22 t9 S) fun t10 =>
dR (binV Try.prog .lss 3 x4 t10) fun t11 =>
pickD t11 (dR (fieldAddrV Try.prog 24 p1 6) fun t12 =>
dR (loadV Try.prog 22 t12 S) fun t13 =>
dR (indexAddrV Try.prog 22 t13 x4) fun t14 =>
dR (fieldAddrV Try.prog 59 t14 2) fun t15 =>
dR (loadV Try.prog 9 t15 S) fun t16 =>
dR (lenV Try.prog 9 t16 S) fun t17 =>
dR (binV Try.prog .add 3 x3 t17) fun t18 =>
dR (binV Try.prog .gtr 3 t18 (.int .i64 9000)) fun t19 =>
pickD t19 (K (.bool false) S) (dR (binV Try.prog .add 3 x4 (.int .i64 1)) fun t20 =>
again0 [x2, t18, t20] S)) (dR (binV Try.prog .leq 3 x3 (.int .i64 9000)) fun t21 =>
K t21 S)
noncomputable def m9 (C : CallD) (k : Nat) (a0 : V) (S : St) (K : KS) : An :=
dIf (allOne (a0 : V).cells) (dR (newBlk none S (.row 0 (a0 : V).cells.length [(a0 : V).cells])) fun r0 =>
dR (fieldAddrV Try.prog 24 (.ptr r0.1 0 0 0) 5) fun t1 =>
dR (loadV Try.prog 9 t1 r0.2) fun t2 =>
dR (lenV Try.prog 9 t2 r0.2) fun t3 =>
dR (fieldAddrV Try.prog 24 (.ptr r0.1 0 0 0) 6) fun t4 =>
dR (loadV Try.prog 22 t4 r0.2) fun t5 =>
dR (lenV Try.prog 22 t5 r0.2) fun t6 =>
dR (binV Try.prog .gtr 3 t6 (.int .i64 40)) fun t7 =>
pickD t7 (K (.bool false) r0.2) (loopD k [(.bool false), t3, (.int .i64 0)] r0.2 (m9_l0 C k K (.ptr r0.1 0 0 0))))
theorem m9_eq : (fun (k : Nat) (a0 : V) (S : St) (K : KS) => callD Try.prog dPl dLv (k + 1) 9 [a0] S K) = fun k a0 S K => m9 (callD Try.prog dPl dLv k) k a0 S K := by kernel_rfl
noncomputable def m11 (C : CallD) (k : Nat) (a0 a1 a2 : V) (S : St) (K : KS) : An :=
dIf (allOne (a1 : V).cells) (dR (newBlk none S (.row 0 (a1 : V).cells.length [(a1 : V).cells])) fun r0 =>
dR (binV Try.prog .lss 3 a0 (.int .i64 0)) fun t1 =>
pickD t1 (K (.tup [(.nilp), (.int .i64 1)]) r0.2) (dR (binV Try.prog .geq 3 a0 (.int .i64 7)) fun t2 =>
pickD t2 (K (.tup [(.nilp), (.int .i64 1)]) r0.2) (dR (loadV Try.prog 24 (.ptr r0.1 0 0 0) r0.2) fun t3 =>
C 33 [t3] r0.2 fun t4 S5 =>
dR (unV .not t4) fun t6 =>
pickD t6 (K (.tup [(.nilp), (.int .i64 1)]) S5) (C 34 [a2] S5 fun t7 S8 =>
dR (loadV Try.prog 24 (.ptr r0.1 0 0 0) (⟨S8.next + 11, S8.heap⟩ : St)) fun t9 =>
dR (fieldAddrV Try.prog 24 (.ptr r0.1 0 0 0) 2) fun t10 =>
dR (loadV Try.prog 3 t10 (⟨S8.next + 11, S8.heap⟩ : St)) fun t11 =>
C 35 [t9] (⟨S8.next + 11, S8.heap⟩ : St) fun t12 S13 =>
dR (loadV Try.prog 3 t10 S13) fun t14 =>
dIf (beqV t11 t14) (dR (buildV Try.prog 88 [(0, a0), (1, t12), (2, (.int .i64 1)), (3, (.int .i64 (-1))), (4, t11), (5, t7), (6, t7)]) fun t15 =>
dIf (allOne (t15 : V).cells) (dR (newBlk (some (S8.next + 8)) S13 (.row 0 (t15 : V).cells.length [(t15 : V).cells])) fun r16 =>
K (.tup [(.ptr r16.1 0 0 0), (.int .i64 0)]) r16.2))))))
theorem m11_eq : (fun (k : Nat) (a0 a1 a2 : V) (S : St) (K : KS) => callD Try.prog dPl dLv (k + 1) 11 [a0, a1, a2] S K) = fun k a0 a1 a2 S K => m11 (callD Try.prog dPl dLv k) k a0 a1 a2 S K := by kernel_rfl
noncomputable def m13_l1 (C : CallD) (k : Nat) (K : KS) (p1 : V) (vs : List V) (S : St) (again1 : List V → St → An) : An :=
unD vs fun x3 vs =>
unD vs fun x5 vs =>
dR (fieldAddrV Try.prog 40 p1 2) fun t26 =>
dR (fieldAddrV Try.prog 37 t26 12) fun t27 =>
dR (loadV Try.prog 22 t27 S) fun t28 =>
dR (lenV Try.prog 22 t28 S) fun t29 =>
dR (binV Try.prog .lss 3 x5 t29) fun t30 =>
pickD t30 (dR (fieldAddrV Try.prog 40 p1 2) fun t31 =>
dR (fieldAddrV Try.prog 37 t31 12) fun t32 =>
dR (loadV Try.prog 22 t32 S) fun t33 =>
dR (indexAddrV Try.prog 22 t33 x5) fun t34 =>
dR (fieldAddrV Try.prog 59 t34 2) fun t35 =>
dR (loadV Try.prog 9 t35 S) fun t36 =>
dR (lenV Try.prog 9 t36 S) fun t37 =>
dR (binV Try.prog .add 3 x3 t37) fun t38 =>
dR (binV Try.prog .add 3 x5 (.int .i64 1)) fun t39 =>
again1 [t38, t39] S) (dR (binV Try.prog .lss 3 x3 (.int .i64 5000)) fun t40 =>
K t40 S)
noncomputable def m13_l0 (C : CallD) (k : Nat) (K : KS) (p1 : V) (vs : List V) (S : St) (again0 : List V → St → An) : An :=
unD vs fun x3 vs =>
unD vs fun x4 vs =>
dR (fieldAddrV Try.prog 40 p1 3) fun t15 =>
dR (loadV Try.prog 38 t15 S) fun t16 =>
dR (lenV Try.prog 38 t16 S) fun t17 =>
dR (binV Try.prog .lss 3 x4 t17) fun t18 =>
pickD t18 (dR (fieldAddrV Try.prog 40 p1 3) fun t19 =>
dR (loadV Try.prog 38 t19 S) fun t20 =>
dR (indexAddrV Try.prog 38 t20 x4) fun t21 =>
dR (loadV Try.prog 9 t21 S) fun t22 =>
dR (lenV Try.prog 9 t22 S) fun t23 =>
dR (binV Try.prog .add 3 x3 t23) fun t24 =>
dR (binV Try.prog .add 3 x4 (.int .i64 1)) fun t25 =>
again0 [t24, t25] S) (loopD k [x3, (.int .i64 0)] S (m13_l1 C k K p1))
noncomputable def m13 (C : CallD) (k : Nat) (a0 : V) (S : St) (K : KS) : An :=
dIf (allOne (a0 : V).cells) (dR (newBlk none S (.row 0 (a0 : V).cells.length [(a0 : V).cells])) fun r0 =>
dR (fieldAddrV Try.prog 40 (.ptr r0.1 0 0 0) 2) fun t1 =>
dR (fieldAddrV Try.prog 37 t1 12) fun t2 =>
dR (loadV Try.prog 22 t2 r0.2) fun t3 =>
dR (lenV Try.prog 22 t3 r0.2) fun t4 =>
dR (binV Try.prog .gtr 3 t4 (.int .i64 20)) fun t5 =>
pickD t5 (K (.bool false) r0.2) (dR (fieldAddrV Try.prog 40 (.ptr r0.1 0 0 0) 3) fun t6 =>
dR (loadV Try.prog 38 t6 r0.2) fun t7 =>
dR (lenV Try.prog 38 t7 r0.2) fun t8 =>
dR (binV Try.prog .gtr 3 t8 (.int .i64 130)) fun t9 =>
pickD t9 (K (.bool false) r0.2) (dR (fieldAddrV Try.prog 40 (.ptr r0.1 0 0 0) 2) fun t10 =>
dR (fieldAddrV Try.prog 37 t10 11) fun t11 =>
dR (loadV Try.prog 9 t11 r0.2) fun t12 =>
dR (lenV Try.prog 9 t12 r0.2) fun t13 =>
dR (binV Try.prog .gtr 3 t13 (.int .i64 700)) fun t14 =>
pickD t14 (K (.bool false) r0.2) (loopD k [(.int .i64 0), (.int .i64 0)] r0.2 (m13_l0 C k K (.ptr r0.1 0 0 0))))))
theorem m13_eq : (fun (k : Nat) (a0 : V) (S : St) (K : KS) => callD Try.prog dPl dLv (k + 1) 13 [a0] S K) = fun k a0 S K => m13 (callD Try.prog dPl dLv k) k a0 S K := by kernel_rfl
noncomputable def m14 (C : CallD) (k : Nat) (a0 : V) (S : St) (K : KS) : An :=
dR (newBlk none S (.row 0 7 [[.int .i64 0,.int .i64 0,.int .i64 0,.int .i64 0,.int .i64 0,.str [],.nils]])) fun r0 =>
nilD a0 (dR (fieldAddrV Try.prog 88 a0 1) fun t1 =>
dR (loadV Try.prog 24 t1 r0.2) fun t2 =>
C 35 [t2] r0.2 fun t3 S4 =>
dR (storeV Try.prog 24 (.ptr r0.1 0 0 0) t3 S4) fun S5 =>
dR (loadV Try.prog 24 (.ptr r0.1 0 0 0) S5) fun t6 =>
K t6 S5)
theorem m14_eq : (fun (k : Nat) (a0 : V) (S : St) (K : KS) => callD Try.prog dPl dLv (k + 1) 14 [a0] S K) = fun k a0 S K => m14 (callD Try.prog dPl dLv k) k a0 S K := by kernel_rfl
noncomputable def m17 (C : CallD) (k : Nat) (a0 : V) (S : St) (K : KS) : An :=
dR (newBlk none S (.row 0 6 [[.int .i64 0,.int .i64 0,.int .i64 0,.int .i64 0,.int .i64 0,.int .i64 0]])) fun r0 =>
nilD a0 (dR (fieldAddrV Try.prog 88 a0 2) fun t1 =>
dR (loadV Try.prog 3 t1 (⟨r0.2.next + 22, r0.2.heap⟩ : St)) fun t2 =>
nilD a0 (dR (fieldAddrV Try.prog 88 a0 3) fun t3 =>
dR (loadV Try.prog 3 t3 (⟨r0.2.next + 22, r0.2.heap⟩ : St)) fun t4 =>
nilD a0 (dR (fieldAddrV Try.prog 88 a0 4) fun t5 =>
dR (loadV Try.prog 3 t5 (⟨r0.2.next + 22, r0.2.heap⟩ : St)) fun t6 =>
nilD a0 (dR (fieldAddrV Try.prog 88 a0 6) fun t7 =>
dR (loadV Try.prog 3 t7 (⟨r0.2.next + 22, r0.2.heap⟩ : St)) fun t8 =>
C 46 [a0] (⟨r0.2.next + 22, r0.2.heap⟩ : St) fun t9 S10 =>
dR (loadV Try.prog 3 t7 S10) fun t11 =>
dIf (beqV t8 t11) (dR (loadV Try.prog 3 t5 S10) fun t12 =>
dIf (beqV t6 t12) (dR (loadV Try.prog 3 t3 S10) fun t13 =>
dIf (beqV t4 t13) (dR (loadV Try.prog 3 t1 S10) fun t14 =>
dIf (beqV t2 t14) (C 47 [a0] S10 fun t15 S16 =>
dR (loadV Try.prog 3 t7 S16) fun t17 =>
dIf (beqV t8 t17) (dR (loadV Try.prog 3 t5 S16) fun t18 =>
dIf (beqV t6 t18) (dR (loadV Try.prog 3 t3 S16) fun t19 =>
dIf (beqV t4 t19) (dR (loadV Try.prog 3 t1 S16) fun t20 =>
dIf (beqV t2 t20) (dR (buildV Try.prog 50 [(0, t2), (1, t4), (2, t6), (3, t9), (4, t8), (5, t15)]) fun t21 =>
dR (storeV Try.prog 50 (.ptr r0.1 0 0 0) t21 S16) fun S22 =>
dR (loadV Try.prog 50 (.ptr r0.1 0 0 0) S22) fun t23 =>
K t23 S22))))))))))))
theorem m17_eq : (fun (k : Nat) (a0 : V) (S : St) (K : KS) => callD Try.prog dPl dLv (k + 1) 17 [a0] S K) = fun k a0 S K => m17 (callD Try.prog dPl dLv k) k a0 S K := by kernel_rfl
noncomputable def m18 (C : CallD) (k : Nat) (a0 a1 : V) (S : St) (K : KS) : An :=
nilD a0 (dR (fieldAddrV Try.prog 88 a0 6) fun t0 =>
dR (loadV Try.prog 3 t0 S) fun t1 =>
dR (binV Try.prog .sub 3 t1 (.int .i64 1)) fun t2 =>
nilD a0 (dR (fieldAddrV Try.prog 88 a0 6) fun t3 =>
dR (storeV Try.prog 3 t3 t2 S) fun S4 =>
nilD a0 (dR (fieldAddrV Try.prog 88 a0 6) fun t5 =>
dR (loadV Try.prog 3 t5 S4) fun t6 =>
dR (binV Try.prog .gtr 3 t6 (.int .i64 0)) fun t7 =>
pickD t7 (K (.tup []) S4) (nilD a0 (dR (fieldAddrV Try.prog 88 a0 2) fun t8 =>
dR (loadV Try.prog 3 t8 S4) fun t9 =>
dIf (guardP Try.prog 3 t9 (.int .i64 3)) (dR (binV Try.prog .eql 3 t9 (.int .i64 3)) fun t10 =>
pickD t10 (nilD a0 (dR (fieldAddrV Try.prog 88 a0 6) fun t11 =>
dR (storeV Try.prog 3 t11 (.int .i64 3) S4) fun S12 =>
C 48 [a0] S12 fun t13 S14 =>
K (.tup []) S14)) (C 34 [a1] S4 fun t15 S16 =>
nilD a0 (dR (fieldAddrV Try.prog 88 a0 5) fun t17 =>
dR (storeV Try.prog 3 t17 t15 S16) fun S18 =>
nilD a0 (dR (fieldAddrV Try.prog 88 a0 5) fun t19 =>
dR (loadV Try.prog 3 t19 S18) fun t20 =>
nilD a0 (dR (fieldAddrV Try.prog 88 a0 6) fun t21 =>
dR (storeV Try.prog 3 t21 t20 S18) fun S22 =>
nilD a0 (dR (fieldAddrV Try.prog 88 a0 1) fun t23 =>
dR (loadV Try.prog 24 t23 S22) fun t24 =>
C 49 [t24] S22 fun t25 S26 =>
tupD t25 0 fun t27 =>
tupD t25 1 fun t28 =>
nilD a0 (dR (fieldAddrV Try.prog 88 a0 1) fun t29 =>
dR (fieldAddrV Try.prog 24 t29 0) fun t30 =>
dR (loadV Try.prog 3 t30 S26) fun t31 =>
dR (binV Try.prog .lss 3 t31 (.int .i64 1099511627776)) fun t32 =>
pickD t32 (nilD a0 (dR (fieldAddrV Try.prog 88 a0 0) fun t33 =>
dR (loadV Try.prog 3 t33 S26) fun t34 =>
C 50 [t27, t34] S26 fun t35 S36 =>
pickD t35 (C 51 [a0] S36 fun t37 S38 =>
K (.tup []) S38) (nilD a0 (dR (fieldAddrV Try.prog 88 a0 4) fun t39 =>
dR (loadV Try.prog 3 t39 S36) fun t40 =>
dR (binV Try.prog .gtr 3 t28 t40) fun t41 =>
pickD t41 (C 51 [a0] S36 fun t42 S43 =>
K (.tup []) S43) (K (.tup []) S36))))) (K (.tup []) S26)))))))))))))
theorem m18_eq : (fun (k : Nat) (a0 a1 : V) (S : St) (K : KS) => callD Try.prog dPl dLv (k + 1) 18 [a0, a1] S K) = fun k a0 a1 S K => m18 (callD Try.prog dPl dLv k) k a0 a1 S K := by kernel_rfl
noncomputable def m19_j0 (C : CallD) (k : Nat) (K : KS) (p0 p3 : V) (S : St) : An :=
dR (fieldAddrV Try.prog 37 p3 3) fun t4 =>
dR (loadV Try.prog 3 t4 (⟨S.next + 8, S.heap⟩ : St)) fun t5 =>
nilD p0 (dR (fieldAddrV Try.prog 88 p0 1) fun t6 =>
dR (fieldAddrV Try.prog 24 t6 0) fun t7 =>
dR (loadV Try.prog 3 t7 (⟨S.next + 8, S.heap⟩ : St)) fun t8 =>
dR (binV Try.prog .lss 3 t5 t8) fun t9 =>
pickD t9 (dR (loadV Try.prog 37 p3 (⟨S.next + 8, S.heap⟩ : St)) fun t10 =>
C 53 [p0, t10] (⟨S.next + 8, S.heap⟩ : St) fun t11 S12 =>
K (.tup []) S12) (dR (fieldAddrV Try.prog 37 p3 0) fun t13 =>
dR (loadV Try.prog 3 t13 (⟨S.next + 8, S.heap⟩ : St)) fun t14 =>
dIf (guardP Try.prog 3 t14 (.int .i64 1)) (dR (binV Try.prog .eql 3 t14 (.int .i64 1)) fun t15 =>
pickD t15 (dR (loadV Try.prog 37 p3 (⟨S.next + 8, S.heap⟩ : St)) fun t16 =>
C 54 [p0, t16] (⟨S.next + 8, S.heap⟩ : St) fun t17 S18 =>
K (.tup []) S18) (dIf (guardP Try.prog 3 t14 (.int .i64 2)) (dR (binV Try.prog .eql 3 t14 (.int .i64 2)) fun t19 =>
pickD t19 (dR (loadV Try.prog 37 p3 (⟨S.next + 8, S.heap⟩ : St)) fun t20 =>
C 55 [p0, t20] (⟨S.next + 8, S.heap⟩ : St) fun t21 S22 =>
K (.tup []) S22) (dIf (guardP Try.prog 3 t14 (.int .i64 3)) (dR (binV Try.prog .eql 3 t14 (.int .i64 3)) fun t23 =>
pickD t23 (dR (loadV Try.prog 37 p3 (⟨S.next + 8, S.heap⟩ : St)) fun t24 =>
C 56 [p0, t24] (⟨S.next + 8, S.heap⟩ : St) fun t25 S26 =>
K (.tup []) S26) (dIf (guardP Try.prog 3 t14 (.int .i64 4)) (dR (binV Try.prog .eql 3 t14 (.int .i64 4)) fun t27 =>
pickD t27 (dR (loadV Try.prog 37 p3 (⟨S.next + 8, S.heap⟩ : St)) fun t28 =>
C 57 [p0, t28] (⟨S.next + 8, S.heap⟩ : St) fun t29 S30 =>
K (.tup []) S30) (dIf (guardP Try.prog 3 t14 (.int .i64 5)) (dR (binV Try.prog .eql 3 t14 (.int .i64 5)) fun t31 =>
pickD t31 (dR (loadV Try.prog 37 p3 (⟨S.next + 8, S.heap⟩ : St)) fun t32 =>
C 58 [p0, t32] (⟨S.next + 8, S.heap⟩ : St) fun t33 S34 =>
K (.tup []) S34) (dIf (guardP Try.prog 3 t14 (.int .i64 6)) (dR (binV Try.prog .eql 3 t14 (.int .i64 6)) fun t35 =>
pickD t35 (dR (loadV Try.prog 37 p3 (⟨S.next + 8, S.heap⟩ : St)) fun t36 =>
C 59 [p0, t36] (⟨S.next + 8, S.heap⟩ : St) fun t37 S38 =>
K (.tup []) S38) (K (.tup []) (⟨S.next + 8, S.heap⟩ : St)))))))))))))))
noncomputable def m19 (C : CallD) (k : Nat) (a0 a1 : V) (S : St) (K : KS) : An :=
dIf (allOne (a1 : V).cells) (dR (newBlk none S (.row 0 (a1 : V).cells.length [(a1 : V).cells])) fun r0 =>
dR (loadV Try.prog 37 (.ptr r0.1 0 0 0) r0.2) fun t1 =>
C 52 [a0, t1] r0.2 fun t2 S3 =>
pickD t2 (K (.tup []) S3) (dR (fieldAddrV Try.prog 37 (.ptr r0.1 0 0 0) 3) fun t39 =>
dR (loadV Try.prog 3 t39 (⟨S3.next + 8, S3.heap⟩ : St)) fun t40 =>
nilD a0 (dR (fieldAddrV Try.prog 88 a0 1) fun t41 =>
dR (fieldAddrV Try.prog 24 t41 0) fun t42 =>
dR (loadV Try.prog 3 t42 (⟨S3.next + 8, S3.heap⟩ : St)) fun t43 =>
dR (binV Try.prog .gtr 3 t40 t43) fun t44 =>
pickD t44 (dR (fieldAddrV Try.prog 37 (.ptr r0.1 0 0 0) 3) fun t45 =>
dR (loadV Try.prog 3 t45 (⟨S3.next + 8, S3.heap⟩ : St)) fun t46 =>
nilD a0 (dR (fieldAddrV Try.prog 88 a0 1) fun t47 =>
dR (fieldAddrV Try.prog 24 t47 0) fun t48 =>
dR (storeV Try.prog 3 t48 t46 (⟨S3.next + 8, S3.heap⟩ : St)) fun S49 =>
nilD a0 (dR (fieldAddrV Try.prog 88 a0 1) fun t50 =>
dR (fieldAddrV Try.prog 24 t50 1) fun t51 =>
dR (storeV Try.prog 3 t51 (.int .i64 (-1)) S49) fun S52 =>
nilD a0 (dR (fieldAddrV Try.prog 88 a0 2) fun t53 =>
dR (storeV Try.prog 3 t53 (.int .i64 1) S52) fun S54 =>
nilD a0 (dR (fieldAddrV Try.prog 88 a0 3) fun t55 =>
dR (storeV Try.prog 3 t55 (.int .i64 (-1)) S54) fun S56 =>
m19_j0 C k K a0 (.ptr r0.1 0 0 0) S56))))) (m19_j0 C k K a0 (.ptr r0.1 0 0 0) (⟨S3.next + 8, S3.heap⟩ : St)))))
theorem m19_eq : (fun (k : Nat) (a0 a1 : V) (S : St) (K : KS) => callD Try.prog dPl dLv (k + 1) 19 [a0, a1] S K) = fun k a0 a1 S K => m19 (callD Try.prog dPl dLv k) k a0 a1 S K := by kernel_rfl
noncomputable def m20_l1 (C : CallD) (k : Nat) (K : KS) (p0 p4 p5 p8 p54 p55 : V) (vs : List V) (S : St) (again1 : List V → St → An) : An :=
unD vs fun x56 vs =>
dR (binV Try.prog .lss 3 x56 p55) fun t28 =>
pickD t28 (dR (indexAddrV Try.prog 38 p54 x56) fun t29 =>
dR (loadV Try.prog 9 t29 S) fun t30 =>
nilD p0 (dR (fieldAddrV Try.prog 88 p0 1) fun t31 =>
dR (fieldAddrV Try.prog 24 t31 6) fun t32 =>
dR (loadV Try.prog 22 t32 (⟨S.next + 19, S.heap⟩ : St)) fun t33 =>
nilD p0 (dR (fieldAddrV Try.prog 88 p0 1) fun t34 =>
dR (fieldAddrV Try.prog 24 t34 0) fun t35 =>
dR (loadV Try.prog 3 t35 (⟨S.next + 19, S.heap⟩ : St)) fun t36 =>
dR (buildV Try.prog 59 [(0, t36), (2, t30)]) fun t37 =>
dR (buildSliceV Try.prog 22 1 [(0, t37)] (some (S.next + 13)) (⟨S.next + 19, S.heap⟩ : St)) fun r38 =>
dR (appendV Try.prog 22 t33 r38.1 (some (S.next + 14)) r38.2) fun r39 =>
nilD p0 (dR (fieldAddrV Try.prog 88 p0 1) fun t40 =>
dR (fieldAddrV Try.prog 24 t40 6) fun t41 =>
dR (storeV Try.prog 22 t41 r39.1 r39.2) fun S42 =>
dR (binV Try.prog .add 3 x56 (.int .i64 1)) fun t43 =>
again1 [t43] S42)))) (C 60 [p0] S fun t44 S45 =>
K (.tup [p8, (.bool true)]) S45)
noncomputable def m20_l0 (C : CallD) (k : Nat) (K : KS) (p0 p1 p41 p42 : V) (vs : List V) (S : St) (again0 : List V → St → An) : An :=
unD vs fun x4 vs =>
unD vs fun x5 vs =>
unD vs fun x43 vs =>
dR (binV Try.prog .lss 3 x43 p42) fun t18 =>
pickD t18 (dR (indexAddrV Try.prog 38 p41 x43) fun t19 =>
dR (loadV Try.prog 9 t19 S) fun t20 =>
dR (lenV Try.prog 9 t20 S) fun t21 =>
dR (binV Try.prog .gtr 3 t21 (.int .i64 1100)) fun t22 =>
pickD t22 (K (.tup [(.int .i64 0), (.bool false)]) S) (dR (binV Try.prog .add 3 x43 (.int .i64 1)) fun t23 =>
again0 [x4, x5, t23] S)) (C 46 [p0] S fun t24 S25 =>
dR (binV Try.prog .add 3 t24 (.int .i64 1)) fun t26 =>
dR (lenV Try.prog 38 p1 S25) fun t27 =>
loopD k [(.int .i64 0)] S25 (m20_l1 C k K p0 x4 x5 t26 p1 t27))
noncomputable def m20 (C : CallD) (k : Nat) (a0 a1 : V) (S : St) (K : KS) : An :=
nilD a0 (dR (fieldAddrV Try.prog 88 a0 2) fun t0 =>
dR (loadV Try.prog 3 t0 S) fun t1 =>
dIf (guardP Try.prog 3 t1 (.int .i64 3)) (dR (binV Try.prog .neq 3 t1 (.int .i64 3)) fun t2 =>
pickD t2 (K (.tup [(.int .i64 0), (.bool false)]) S) (dR (lenV Try.prog 38 a1 S) fun t3 =>
dIf (guardP Try.prog 3 t3 (.int .i64 0)) (dR (binV Try.prog .eql 3 t3 (.int .i64 0)) fun t4 =>
pickD t4 (K (.tup [(.int .i64 0), (.bool false)]) S) (dR (lenV Try.prog 38 a1 S) fun t5 =>
nilD a0 (dR (fieldAddrV Try.prog 88 a0 1) fun t6 =>
dR (fieldAddrV Try.prog 24 t6 6) fun t7 =>
dR (loadV Try.prog 22 t7 S) fun t8 =>
dR (lenV Try.prog 22 t8 S) fun t9 =>
dR (binV Try.prog .sub 3 (.int .i64 120) t9) fun t10 =>
dR (binV Try.prog .gtr 3 t5 t10) fun t11 =>
pickD t11 (K (.tup [(.int .i64 0), (.bool false)]) S) (dR (lenV Try.prog 38 a1 S) fun t12 =>
C 46 [a0] S fun t13 S14 =>
dR (binV Try.prog .sub 3 (.int .i64 1099511627776) t13) fun t15 =>
dR (binV Try.prog .gtr 3 t12 t15) fun t16 =>
pickD t16 (K (.tup [(.int .i64 0), (.bool false)]) S14) (dR (lenV Try.prog 38 a1 S14) fun t17 =>
loopD k [(.int .i64 0), (.bool false), (.int .i64 0)] S14 (m20_l0 C k K a0 a1 a1 t17)))))))))
theorem m20_eq : (fun (k : Nat) (a0 a1 : V) (S : St) (K : KS) => callD Try.prog dPl dLv (k + 1) 20 [a0, a1] S K) = fun k a0 a1 S K => m20 (callD Try.prog dPl dLv k) k a0 a1 S K := by kernel_rfl
noncomputable def m21_j0 (C : CallD) (k : Nat) (K : KS) (again0 : List V → St → An) (p0 p1 p6 p8 p9 p85 p104 : V) (S : St) : An :=
pickD p104 (dR (buildV Try.prog 84 [(0, p8)]) fun t47 =>
nilD p0 (dR (fieldAddrV Try.prog 88 p0 8) fun t48 =>
dR (indexAddrV Try.prog 85 t48 p9) fun t49 =>
dR (storeV Try.prog 84 t49 t47 S) fun S50 =>
dR (binV Try.prog .add 3 p85 (.int .i64 1)) fun t51 =>
again0 [t51] S50)) (dR (binV Try.prog .add 3 p85 (.int .i64 1)) fun t52 =>
again0 [t52] S)
noncomputable def m21_l0 (C : CallD) (k : Nat) (K : KS) (p0 p1 p6 p8 : V) (vs : List V) (S : St) (again0 : List V → St → An) : An :=
unD vs fun x85 vs =>
dR (binV Try.prog .lss 3 x85 (.int .i64 7)) fun t46 =>
pickD t46 (nilD p0 (dR (fieldAddrV Try.prog 88 p0 0) fun t53 =>
dR (loadV Try.prog 3 t53 S) fun t54 =>
dIf (guardP Try.prog 3 x85 t54) (dR (binV Try.prog .neq 3 x85 t54) fun t55 =>
pickD t55 (C 50 [p1, x85] S fun t56 S57 =>
pickD t56 (C 50 [p6, x85] S57 fun t58 S59 =>
dR (unV .not t58) fun t60 =>
m21_j0 C k K again0 p0 p1 p6 p8 x85 x85 t60 S59) (m21_j0 C k K again0 p0 p1 p6 p8 x85 x85 (.bool false) S57)) (m21_j0 C k K again0 p0 p1 p6 p8 x85 x85 (.bool false) S)))) (C 60 [p0] S fun t61 S62 =>
K (.tup [p8, (.bool true)]) S62)
noncomputable def m21 (C : CallD) (k : Nat) (a0 a1 : V) (S : St) (K : KS) : An :=
nilD a0 (dR (fieldAddrV Try.prog 88 a0 1) fun t0 =>
dR (loadV Try.prog 24 t0 S) fun t1 =>
C 49 [t1] S fun t2 S3 =>
tupD t2 0 fun t4 =>
tupD t2 1 fun t5 =>
nilD a0 (dR (fieldAddrV Try.prog 88 a0 2) fun t6 =>
dR (loadV Try.prog 3 t6 (⟨S3.next + 47, S3.heap⟩ : St)) fun t7 =>
dIf (guardP Try.prog 3 t7 (.int .i64 3)) (dR (binV Try.prog .neq 3 t7 (.int .i64 3)) fun t8 =>
pickD t8 (K (.tup [(.int .i64 0), (.bool false)]) (⟨S3.next + 47, S3.heap⟩ : St)) (C 61 [t4, a1] (⟨S3.next + 47, S3.heap⟩ : St) fun t9 S10 =>
dR (unV .not t9) fun t11 =>
pickD t11 (K (.tup [(.int .i64 0), (.bool false)]) S10) (nilD a0 (dR (fieldAddrV Try.prog 88 a0 4) fun t12 =>
dR (loadV Try.prog 3 t12 S10) fun t13 =>
dR (binV Try.prog .gtr 3 t5 t13) fun t14 =>
pickD t14 (K (.tup [(.int .i64 0), (.bool false)]) S10) (nilD a0 (dR (fieldAddrV Try.prog 88 a0 4) fun t15 =>
dR (loadV Try.prog 3 t15 S10) fun t16 =>
nilD a0 (dR (fieldAddrV Try.prog 88 a0 1) fun t17 =>
dR (fieldAddrV Try.prog 24 t17 0) fun t18 =>
dR (loadV Try.prog 3 t18 S10) fun t19 =>
C 62 [a0, t16] S10 fun t20 S21 =>
dR (loadV Try.prog 3 t18 S21) fun t22 =>
dIf (beqV t19 t22) (dIf (guardP Try.prog 3 t20 t19) (dR (binV Try.prog .neq 3 t20 t19) fun t23 =>
pickD t23 (K (.tup [(.int .i64 0), (.bool false)]) S21) (nilD a0 (dR (fieldAddrV Try.prog 88 a0 1) fun t24 =>
dR (fieldAddrV Try.prog 24 t24 6) fun t25 =>
dR (loadV Try.prog 22 t25 S21) fun t26 =>
dR (lenV Try.prog 22 t26 S21) fun t27 =>
dR (binV Try.prog .geq 3 t27 (.int .i64 120)) fun t28 =>
pickD t28 (K (.tup [(.int .i64 0), (.bool false)]) S21) (C 46 [a0] S21 fun t29 S30 =>
dR (binV Try.prog .geq 3 t29 (.int .i64 1099511627776)) fun t31 =>
pickD t31 (K (.tup [(.int .i64 0), (.bool false)]) S30) (nilD a0 (dR (fieldAddrV Try.prog 88 a0 1) fun t32 =>
dR (fieldAddrV Try.prog 24 t32 6) fun t33 =>
dR (loadV Try.prog 22 t33 (⟨S30.next + 19, S30.heap⟩ : St)) fun t34 =>
nilD a0 (dR (fieldAddrV Try.prog 88 a0 1) fun t35 =>
dR (fieldAddrV Try.prog 24 t35 0) fun t36 =>
dR (loadV Try.prog 3 t36 (⟨S30.next + 19, S30.heap⟩ : St)) fun t37 =>
dR (buildV Try.prog 59 [(0, t37), (1, a1)]) fun t38 =>
dR (buildSliceV Try.prog 22 1 [(0, t38)] (some (S30.next + 13)) (⟨S30.next + 19, S30.heap⟩ : St)) fun r39 =>
dR (appendV Try.prog 22 t34 r39.1 (some (S30.next + 14)) r39.2) fun r40 =>
nilD a0 (dR (fieldAddrV Try.prog 88 a0 1) fun t41 =>
dR (fieldAddrV Try.prog 24 t41 6) fun t42 =>
dR (storeV Try.prog 22 t42 r40.1 r40.2) fun S43 =>
C 46 [a0] S43 fun t44 S45 =>
loopD k [(.int .i64 0)] S45 (m21_l0 C k K a0 a1 t4 t44)))))))))))))))))))
theorem m21_eq : (fun (k : Nat) (a0 a1 : V) (S : St) (K : KS) => callD Try.prog dPl dLv (k + 1) 21 [a0, a1] S K) = fun k a0 a1 S K => m21 (callD Try.prog dPl dLv k) k a0 a1 S K := by kernel_rfl
noncomputable def m22_l0 (C : CallD) (k : Nat) (K : KS) (p0 : V) (vs : List V) (S : St) (again0 : List V → St → An) : An :=
unD vs fun x87 vs =>
dR (binV Try.prog .lss 3 x87 (.int .i64 7)) fun t46 =>
pickD t46 (nilD p0 (dR (fieldAddrV Try.prog 88 p0 8) fun t47 =>
dR (indexAddrV Try.prog 85 t47 x87) fun t48 =>
dR (fieldAddrV Try.prog 84 t48 2) fun t49 =>
dR (storeV Try.prog 3 t49 (.int .i64 0) S) fun S50 =>
dR (binV Try.prog .add 3 x87 (.int .i64 1)) fun t51 =>
again0 [t51] S50)) (K (.int .i64 0) S)
noncomputable def m22 (C : CallD) (k : Nat) (a0 a1 a2 : V) (S : St) (K : KS) : An :=
nilD a0 (dR (fieldAddrV Try.prog 88 a0 1) fun t0 =>
dR (fieldAddrV Try.prog 24 t0 2) fun t1 =>
dR (loadV Try.prog 3 t1 S) fun t2 =>
dR (binV Try.prog .leq 3 a1 t2) fun t3 =>
pickD t3 (K (.int .i64 1) S) (nilD a0 (dR (fieldAddrV Try.prog 88 a0 4) fun t4 =>
dR (loadV Try.prog 3 t4 S) fun t5 =>
dR (binV Try.prog .gtr 3 a1 t5) fun t6 =>
pickD t6 (K (.int .i64 1) S) (dIf (guardP Try.prog 9 a2 (.str [])) (dR (binV Try.prog .eql 9 a2 (.str [])) fun t7 =>
pickD t7 (K (.int .i64 1) S) (dR (lenV Try.prog 9 a2 S) fun t8 =>
dR (binV Try.prog .gtr 3 t8 (.int .i64 65536)) fun t9 =>
pickD t9 (K (.int .i64 1) S) (nilD a0 (dR (fieldAddrV Try.prog 88 a0 1) fun t10 =>
dR (fieldAddrV Try.prog 24 t10 2) fun t11 =>
dR (loadV Try.prog 3 t11 S) fun t12 =>
dR (binV Try.prog .sub 3 a1 t12) fun t13 =>
C 62 [a0, a1] S fun t14 S15 =>
nilD a0 (dR (fieldAddrV Try.prog 88 a0 1) fun t16 =>
dR (loadV Try.prog 24 t16 S15) fun t17 =>
dR (newBlk none S15 (.row 0 7 [[.int .i64 0,.int .i64 0,.int .i64 0,.int .i64 0,.int .i64 0,.str [],.nils]])) fun r18 =>
dR (storeV Try.prog 24 (.ptr r18.1 0 0 0) t17 r18.2) fun S19 =>
dR (fieldAddrV Try.prog 24 (.ptr r18.1 0 0 0) 6) fun t20 =>
dR (loadV Try.prog 22 t20 S19) fun t21 =>
dR (sliceV Try.prog 22 t21 none (some t13)) fun t22 =>
dR (fieldAddrV Try.prog 24 (.ptr r18.1 0 0 0) 6) fun t23 =>
dR (storeV Try.prog 22 t23 t22 S19) fun S24 =>
dR (loadV Try.prog 24 (.ptr r18.1 0 0 0) S24) fun t25 =>
C 49 [t25] S24 fun t26 S27 =>
tupD t26 0 fun t28 =>
tupD t26 1 fun t29 =>
nilD a0 (dR (fieldAddrV Try.prog 88 a0 1) fun t30 =>
dR (fieldAddrV Try.prog 24 t30 0) fun t31 =>
dR (loadV Try.prog 3 t31 (⟨S27.next + 27, S27.heap⟩ : St)) fun t32 =>
nilD a0 (dR (fieldAddrV Try.prog 88 a0 1) fun t33 =>
dR (fieldAddrV Try.prog 24 t33 1) fun t34 =>
dR (loadV Try.prog 3 t34 (⟨S27.next + 27, S27.heap⟩ : St)) fun t35 =>
nilD a0 (dR (fieldAddrV Try.prog 88 a0 1) fun t36 =>
dR (fieldAddrV Try.prog 24 t36 6) fun t37 =>
dR (loadV Try.prog 22 t37 (⟨S27.next + 27, S27.heap⟩ : St)) fun t38 =>
dR (sliceV Try.prog 22 t38 (some t13) none) fun t39 =>
dR (appendV Try.prog 22 (.nils) t39 (some (S27.next + 22)) (⟨S27.next + 27, S27.heap⟩ : St)) fun r40 =>
dR (loadV Try.prog 3 t34 r40.2) fun t41 =>
dIf (beqV t35 t41) (dR (loadV Try.prog 3 t31 r40.2) fun t42 =>
dIf (beqV t32 t42) (dR (buildV Try.prog 24 [(0, t32), (1, t35), (2, a1), (3, t14), (4, t28), (5, a2), (6, r40.1)]) fun t43 =>
nilD a0 (dR (fieldAddrV Try.prog 88 a0 1) fun t44 =>
dR (storeV Try.prog 24 t44 t43 r40.2) fun S45 =>
loopD k [(.int .i64 0)] S45 (m22_l0 C k K a0))))))))))))))))
theorem m22_eq : (fun (k : Nat) (a0 a1 a2 : V) (S : St) (K : KS) => callD Try.prog dPl dLv (k + 1) 22 [a0, a1, a2] S K) = fun k a0 a1 a2 S K => m22 (callD Try.prog dPl dLv k) k a0 a1 a2 S K := by kernel_rfl
noncomputable def m23_l0 (C : CallD) (k : Nat) (K : KS) (p1 : V) (vs : List V) (S : St) (again0 : List V → St → An) : An :=
unD vs fun x2 vs =>
unD vs fun x3 vs =>
unD vs fun x4 vs =>
dR (fieldAddrV Try.prog 24 p1 6) fun t64 =>
dR (loadV Try.prog 22 t64 S) fun t65 =>
dR (lenV Try.prog 22 t65 S) fun t66 =>
dR (binV Try.prog .lss 3 x4 t66) fun t67 =>
pickD t67 (dR (fieldAddrV Try.prog 24 p1 6) fun t68 =>
dR (loadV Try.prog 22 t68 (⟨S.next + 10, S.heap⟩ : St)) fun t69 =>
dR (indexAddrV Try.prog 22 t69 x4) fun t70 =>
dR (loadV Try.prog 59 t70 (⟨S.next + 10, S.heap⟩ : St)) fun t71 =>
dR (fieldAddrV Try.prog 24 p1 0) fun t72 =>
dR (loadV Try.prog 3 t72 (⟨S.next + 10, S.heap⟩ : St)) fun t73 =>
C 63 [t71, x3, t73] (⟨S.next + 10, S.heap⟩ : St) fun t74 S75 =>
dR (unV .not t74) fun t76 =>
pickD t76 (K (.bool false) S75) (dR (fieldAddrV Try.prog 24 p1 6) fun t77 =>
dR (loadV Try.prog 22 t77 S75) fun t78 =>
dR (indexAddrV Try.prog 22 t78 x4) fun t79 =>
dR (fieldAddrV Try.prog 59 t79 0) fun t80 =>
dR (loadV Try.prog 3 t80 S75) fun t81 =>
dR (binV Try.prog .add 3 x4 (.int .i64 1)) fun t82 =>
again0 [x2, t81, t82] S75)) (K (.bool true) S)
noncomputable def m23 (C : CallD) (k : Nat) (a0 : V) (S : St) (K : KS) : An :=
dIf (allOne (a0 : V).cells) (dR (newBlk none S (.row 0 (a0 : V).cells.length [(a0 : V).cells])) fun r0 =>
dR (fieldAddrV Try.prog 24 (.ptr r0.1 0 0 0) 0) fun t1 =>
dR (loadV Try.prog 3 t1 r0.2) fun t2 =>
dR (binV Try.prog .lss 3 t2 (.int .i64 0)) fun t3 =>
pickD t3 (K (.bool false) r0.2) (dR (fieldAddrV Try.prog 24 (.ptr r0.1 0 0 0) 0) fun t4 =>
dR (loadV Try.prog 3 t4 r0.2) fun t5 =>
dR (binV Try.prog .gtr 3 t5 (.int .i64 1099511627776)) fun t6 =>
pickD t6 (K (.bool false) r0.2) (dR (fieldAddrV Try.prog 24 (.ptr r0.1 0 0 0) 1) fun t7 =>
dR (loadV Try.prog 3 t7 r0.2) fun t8 =>
dR (binV Try.prog .lss 3 t8 (.int .i64 (-1))) fun t9 =>
pickD t9 (K (.bool false) r0.2) (dR (fieldAddrV Try.prog 24 (.ptr r0.1 0 0 0) 1) fun t10 =>
dR (loadV Try.prog 3 t10 r0.2) fun t11 =>
dR (binV Try.prog .geq 3 t11 (.int .i64 7)) fun t12 =>
pickD t12 (K (.bool false) r0.2) (dR (fieldAddrV Try.prog 24 (.ptr r0.1 0 0 0) 2) fun t13 =>
dR (loadV Try.prog 3 t13 r0.2) fun t14 =>
dR (binV Try.prog .lss 3 t14 (.int .i64 0)) fun t15 =>
pickD t15 (K (.bool false) r0.2) (dR (fieldAddrV Try.prog 24 (.ptr r0.1 0 0 0) 2) fun t16 =>
dR (loadV Try.prog 3 t16 r0.2) fun t17 =>
dR (binV Try.prog .gtr 3 t17 (.int .i64 1099511627776)) fun t18 =>
pickD t18 (K (.bool false) r0.2) (dR (fieldAddrV Try.prog 24 (.ptr r0.1 0 0 0) 3) fun t19 =>
dR (loadV Try.prog 3 t19 r0.2) fun t20 =>
dR (binV Try.prog .lss 3 t20 (.int .i64 0)) fun t21 =>
pickD t21 (K (.bool false) r0.2) (dR (fieldAddrV Try.prog 24 (.ptr r0.1 0 0 0) 3) fun t22 =>
dR (loadV Try.prog 3 t22 r0.2) fun t23 =>
dR (fieldAddrV Try.prog 24 (.ptr r0.1 0 0 0) 0) fun t24 =>
dR (loadV Try.prog 3 t24 r0.2) fun t25 =>
dR (binV Try.prog .gtr 3 t23 t25) fun t26 =>
pickD t26 (K (.bool false) r0.2) (dR (fieldAddrV Try.prog 24 (.ptr r0.1 0 0 0) 2) fun t27 =>
dR (loadV Try.prog 3 t27 r0.2) fun t28 =>
dIf (guardP Try.prog 3 t28 (.int .i64 0)) (dR (binV Try.prog .eql 3 t28 (.int .i64 0)) fun t29 =>
dR (fieldAddrV Try.prog 24 (.ptr r0.1 0 0 0) 3) fun t30 =>
dR (loadV Try.prog 3 t30 r0.2) fun t31 =>
dIf (guardP Try.prog 3 t31 (.int .i64 0)) (dR (binV Try.prog .eql 3 t31 (.int .i64 0)) fun t32 =>
dIf (guardP Try.prog 4 t29 t32) (dR (binV Try.prog .neq 4 t29 t32) fun t33 =>
pickD t33 (K (.bool false) r0.2) (dR (fieldAddrV Try.prog 24 (.ptr r0.1 0 0 0) 4) fun t34 =>
dR (loadV Try.prog 3 t34 r0.2) fun t35 =>
dR (binV Try.prog .lss 3 t35 (.int .i64 1)) fun t36 =>
pickD t36 (K (.bool false) r0.2) (dR (fieldAddrV Try.prog 24 (.ptr r0.1 0 0 0) 4) fun t37 =>
dR (loadV Try.prog 3 t37 r0.2) fun t38 =>
dR (binV Try.prog .geq 3 t38 (.int .i64 128)) fun t39 =>
pickD t39 (K (.bool false) r0.2) (dR (fieldAddrV Try.prog 24 (.ptr r0.1 0 0 0) 2) fun t40 =>
dR (loadV Try.prog 3 t40 r0.2) fun t41 =>
dIf (guardP Try.prog 3 t41 (.int .i64 0)) (dR (binV Try.prog .eql 3 t41 (.int .i64 0)) fun t42 =>
dR (fieldAddrV Try.prog 24 (.ptr r0.1 0 0 0) 5) fun t43 =>
dR (loadV Try.prog 9 t43 r0.2) fun t44 =>
dIf (guardP Try.prog 9 t44 (.str [])) (dR (binV Try.prog .eql 9 t44 (.str [])) fun t45 =>
dIf (guardP Try.prog 4 t42 t45) (dR (binV Try.prog .neq 4 t42 t45) fun t46 =>
pickD t46 (K (.bool false) r0.2) (dR (fieldAddrV Try.prog 24 (.ptr r0.1 0 0 0) 5) fun t47 =>
dR (loadV Try.prog 9 t47 r0.2) fun t48 =>
dR (lenV Try.prog 9 t48 r0.2) fun t49 =>
dR (binV Try.prog .gtr 3 t49 (.int .i64 65536)) fun t50 =>
pickD t50 (K (.bool false) r0.2) (dR (fieldAddrV Try.prog 24 (.ptr r0.1 0 0 0) 6) fun t51 =>
dR (loadV Try.prog 22 t51 r0.2) fun t52 =>
dR (lenV Try.prog 22 t52 r0.2) fun t53 =>
dR (binV Try.prog .gtr 3 t53 (.int .i64 200)) fun t54 =>
pickD t54 (K (.bool false) r0.2) (dR (fieldAddrV Try.prog 24 (.ptr r0.1 0 0 0) 2) fun t55 =>
dR (loadV Try.prog 3 t55 r0.2) fun t56 =>
dR (fieldAddrV Try.prog 24 (.ptr r0.1 0 0 0) 6) fun t57 =>
dR (loadV Try.prog 22 t57 r0.2) fun t58 =>
dR (lenV Try.prog 22 t58 r0.2) fun t59 =>
dR (binV Try.prog .sub 3 (.int .i64 1099511627776) t59) fun t60 =>
dR (binV Try.prog .gtr 3 t56 t60) fun t61 =>
pickD t61 (K (.bool false) r0.2) (dR (fieldAddrV Try.prog 24 (.ptr r0.1 0 0 0) 3) fun t62 =>
dR (loadV Try.prog 3 t62 r0.2) fun t63 =>
loopD k [(.bool false), t63, (.int .i64 0)] r0.2 (m23_l0 C k K (.ptr r0.1 0 0 0))))))))))))))))))))))))
theorem m23_eq : (fun (k : Nat) (a0 : V) (S : St) (K : KS) => callD Try.prog dPl dLv (k + 1) 23 [a0] S K) = fun k a0 S K => m23 (callD Try.prog dPl dLv k) k a0 S K := by kernel_rfl
noncomputable def m33 (C : CallD) (k : Nat) (a0 : V) (S : St) (K : KS) : An :=
dIf (allOne (a0 : V).cells) (dR (newBlk none S (.row 0 (a0 : V).cells.length [(a0 : V).cells])) fun r0 =>
dR (loadV Try.prog 24 (.ptr r0.1 0 0 0) r0.2) fun t1 =>
C 67 [t1] r0.2 fun t2 S3 =>
pickD t2 (dR (fieldAddrV Try.prog 24 (.ptr r0.1 0 0 0) 5) fun t4 =>
dR (loadV Try.prog 9 t4 S3) fun t5 =>
dIf (guardP Try.prog 9 t5 (.str [])) (dR (binV Try.prog .eql 9 t5 (.str [])) fun t6 =>
dR (fieldAddrV Try.prog 24 (.ptr r0.1 0 0 0) 2) fun t7 =>
dR (loadV Try.prog 3 t7 S3) fun t8 =>
dIf (guardP Try.prog 3 t8 (.int .i64 0)) (dR (binV Try.prog .eql 3 t8 (.int .i64 0)) fun t9 =>
dIf (guardP Try.prog 4 t6 t9) (dR (binV Try.prog .eql 4 t6 t9) fun t10 =>
pickD t10 (dR (fieldAddrV Try.prog 24 (.ptr r0.1 0 0 0) 5) fun t11 =>
dR (loadV Try.prog 9 t11 S3) fun t12 =>
dR (lenV Try.prog 9 t12 S3) fun t13 =>
dR (binV Try.prog .leq 3 t13 (.int .i64 65536)) fun t14 =>
K t14 S3) (K (.bool false) S3))))) (K (.bool false) S3))
theorem m33_eq : (fun (k : Nat) (a0 : V) (S : St) (K : KS) => callD Try.prog dPl dLv (k + 1) 33 [a0] S K) = fun k a0 S K => m33 (callD Try.prog dPl dLv k) k a0 S K := by kernel_rfl
noncomputable def m34 (C : CallD) (k : Nat) (a0 : V) (S : St) (K : KS) : An :=
dR (binV Try.prog .rem 3 a0 (.int .i64 11)) fun t0 =>
dR (binV Try.prog .lss 3 t0 (.int .i64 0)) fun t1 =>
pickD t1 (dR (binV Try.prog .add 3 t0 (.int .i64 11)) fun t2 =>
dR (binV Try.prog .add 3 (.int .i64 10) t2) fun t3 =>
K t3 S) (dR (binV Try.prog .add 3 (.int .i64 10) t0) fun t4 =>
K t4 S)
theorem m34_eq : (fun (k : Nat) (a0 : V) (S : St) (K : KS) => callD Try.prog dPl dLv (k + 1) 34 [a0] S K) = fun k a0 S K => m34 (callD Try.prog dPl dLv k) k a0 S K := by kernel_rfl
noncomputable def m35 (C : CallD) (k : Nat) (a0 : V) (S : St) (K : KS) : An :=
dIf (allOne (a0 : V).cells) (dR (newBlk none S (.row 0 (a0 : V).cells.length [(a0 : V).cells])) fun r0 =>
dR (newBlk none r0.2 (.row 0 7 [[.int .i64 0,.int .i64 0,.int .i64 0,.int .i64 0,.int .i64 0,.str [],.nils]])) fun r1 =>
dR (fieldAddrV Try.prog 24 (.ptr r0.1 0 0 0) 6) fun t2 =>
dR (loadV Try.prog 22 t2 r1.2) fun t3 =>
dR (appendV Try.prog 22 (.nils) t3 none r1.2) fun r4 =>
dR (fieldAddrV Try.prog 24 (.ptr r0.1 0 0 0) 6) fun t5 =>
dR (storeV Try.prog 22 t5 r4.1 r4.2) fun S6 =>
dR (loadV Try.prog 24 (.ptr r0.1 0 0 0) S6) fun t7 =>
dR (storeV Try.prog 24 (.ptr r1.1 0 0 0) t7 S6) fun S8 =>
dR (loadV Try.prog 24 (.ptr r1.1 0 0 0) S8) fun t9 =>
K t9 S8)
theorem m35_eq : (fun (k : Nat) (a0 : V) (S : St) (K : KS) => callD Try.prog dPl dLv (k + 1) 35 [a0] S K) = fun k a0 S K => m35 (callD Try.prog dPl dLv k) k a0 S K := by kernel_rfl
noncomputable def m46 (C : CallD) (k : Nat) (a0 : V) (S : St) (K : KS) : An :=
nilD a0 (dR (fieldAddrV Try.prog 88 a0 1) fun t0 =>
dR (fieldAddrV Try.prog 24 t0 2) fun t1 =>
dR (loadV Try.prog 3 t1 (⟨S.next + 13, S.heap⟩ : St)) fun t2 =>
nilD a0 (dR (fieldAddrV Try.prog 88 a0 1) fun t3 =>
dR (fieldAddrV Try.prog 24 t3 6) fun t4 =>
dR (loadV Try.prog 22 t4 (⟨S.next + 13, S.heap⟩ : St)) fun t5 =>
dR (lenV Try.prog 22 t5 (⟨S.next + 13, S.heap⟩ : St)) fun t6 =>
dR (binV Try.prog .add 3 t2 t6) fun t7 =>
K t7 (⟨S.next + 13, S.heap⟩ : St)))
theorem m46_eq : (fun (k : Nat) (a0 : V) (S : St) (K : KS) => callD Try.prog dPl dLv (k + 1) 46 [a0] S K) = fun k a0 S K => m46 (callD Try.prog dPl dLv k) k a0 S K := by kernel_rfl
noncomputable def m47 (C : CallD) (k : Nat) (a0 : V) (S : St) (K : KS) : An :=
nilD a0 (dR (fieldAddrV Try.prog 88 a0 1) fun t0 =>
dR (loadV Try.prog 24 t0 S) fun t1 =>
C 49 [t1] S fun t2 S3 =>
tupD t2 0 fun t4 =>
tupD t2 1 fun t5 =>
K t4 S3)
theorem m47_eq : (fun (k : Nat) (a0 : V) (S : St) (K : KS) => callD Try.prog dPl dLv (k + 1) 47 [a0] S K) = fun k a0 S K => m47 (callD Try.prog dPl dLv k) k a0 S K := by kernel_rfl
noncomputable def m48_l0 (C : CallD) (k : Nat) (K : KS) (p0 p10 p11 : V) (vs : List V) (S : St) (again0 : List V → St → An) : An :=
unD vs fun x12 vs =>
dR (binV Try.prog .lss 3 x12 p11) fun t6 =>
pickD t6 (dR (indexAddrV Try.prog 68 p10 x12) fun t7 =>
dR (loadV Try.prog 3 t7 S) fun t8 =>
C 83 [p0, t8] S fun t9 S10 =>
dR (binV Try.prog .add 3 x12 (.int .i64 1)) fun t11 =>
again0 [t11] S10) (K (.tup []) S)
noncomputable def m48 (C : CallD) (k : Nat) (a0 : V) (S : St) (K : KS) : An :=
nilD a0 (dR (fieldAddrV Try.prog 88 a0 2) fun t0 =>
dR (loadV Try.prog 3 t0 S) fun t1 =>
dIf (guardP Try.prog 3 t1 (.int .i64 3)) (dR (binV Try.prog .neq 3 t1 (.int .i64 3)) fun t2 =>
pickD t2 (K (.tup []) S) (C 82 [a0] S fun t3 S4 =>
dR (lenV Try.prog 68 t3 S4) fun t5 =>
loopD k [(.int .i64 0)] S4 (m48_l0 C k K a0 t3 t5))))
theorem m48_eq : (fun (k : Nat) (a0 : V) (S : St) (K : KS) => callD Try.prog dPl dLv (k + 1) 48 [a0] S K) = fun k a0 S K => m48 (callD Try.prog dPl dLv k) k a0 S K := by kernel_rfl
noncomputable def m49_l0 (C : CallD) (k : Nat) (K : KS) (p1 : V) (vs : List V) (S : St) (again0 : List V → St → An) : An :=
unD vs fun x2 vs =>
unD vs fun x3 vs =>
unD vs fun x4 vs =>
dR (binV Try.prog .geq 3 x4 (.int .i64 0)) fun t5 =>
pickD t5 (dR (fieldAddrV Try.prog 24 p1 6) fun t6 =>
dR (loadV Try.prog 22 t6 S) fun t7 =>
dR (indexAddrV Try.prog 22 t7 x4) fun t8 =>
dR (fieldAddrV Try.prog 59 t8 1) fun t9 =>
dR (loadV Try.prog 3 t9 S) fun t10 =>
dIf (guardP Try.prog 3 t10 (.int .i64 0)) (dR (binV Try.prog .neq 3 t10 (.int .i64 0)) fun t11 =>
pickD t11 (dR (fieldAddrV Try.prog 24 p1 6) fun t12 =>
dR (loadV Try.prog 22 t12 (⟨S.next + 13, S.heap⟩ : St)) fun t13 =>
dR (indexAddrV Try.prog 22 t13 x4) fun t14 =>
dR (fieldAddrV Try.prog 59 t14 1) fun t15 =>
dR (loadV Try.prog 3 t15 (⟨S.next + 13, S.heap⟩ : St)) fun t16 =>
dR (fieldAddrV Try.prog 24 p1 2) fun t17 =>
dR (loadV Try.prog 3 t17 (⟨S.next + 13, S.heap⟩ : St)) fun t18 =>
dR (binV Try.prog .add 3 t18 x4) fun t19 =>
dR (binV Try.prog .add 3 t19 (.int .i64 1)) fun t20 =>
K (.tup [t16, t20]) (⟨S.next + 13, S.heap⟩ : St)) (dR (binV Try.prog .sub 3 x4 (.int .i64 1)) fun t21 =>
again0 [x2, x3, t21] S))) (dR (fieldAddrV Try.prog 24 p1 4) fun t22 =>
dR (loadV Try.prog 3 t22 (⟨S.next + 6, S.heap⟩ : St)) fun t23 =>
dR (fieldAddrV Try.prog 24 p1 2) fun t24 =>
dR (loadV Try.prog 3 t24 (⟨S.next + 6, S.heap⟩ : St)) fun t25 =>
K (.tup [t23, t25]) (⟨S.next + 6, S.heap⟩ : St))
noncomputable def m49 (C : CallD) (k : Nat) (a0 : V) (S : St) (K : KS) : An :=
dIf (allOne (a0 : V).cells) (dR (newBlk none S (.row 0 (a0 : V).cells.length [(a0 : V).cells])) fun r0 =>
dR (fieldAddrV Try.prog 24 (.ptr r0.1 0 0 0) 6) fun t1 =>
dR (loadV Try.prog 22 t1 r0.2) fun t2 =>
dR (lenV Try.prog 22 t2 r0.2) fun t3 =>
dR (binV Try.prog .sub 3 t3 (.int .i64 1)) fun t4 =>
loopD k [(.int .i64 0), (.int .i64 0), t4] r0.2 (m49_l0 C k K (.ptr r0.1 0 0 0)))
theorem m49_eq : (fun (k : Nat) (a0 : V) (S : St) (K : KS) => callD Try.prog dPl dLv (k + 1) 49 [a0] S K) = fun k a0 S K => m49 (callD Try.prog dPl dLv k) k a0 S K := by kernel_rfl
noncomputable def m50 (C : CallD) (k : Nat) (a0 a1 : V) (S : St) (K : KS) : An :=
dR (binV Try.prog .geq 3 a1 (.int .i64 0)) fun t0 =>
pickD t0 (dR (binV Try.prog .lss 3 a1 (.int .i64 7)) fun t1 =>
pickD t1 (dR (convertV Try.prog 3 96 a1 none S) fun r2 =>
dR (binV Try.prog .shr 3 a0 r2.1) fun t3 =>
dR (binV Try.prog .and 3 t3 (.int .i64 1)) fun t4 =>
dIf (guardP Try.prog 3 t4 (.int .i64 1)) (dR (binV Try.prog .eql 3 t4 (.int .i64 1)) fun t5 =>
K t5 r2.2)) (K (.bool false) S)) (K (.bool false) S)
theorem m50_eq : (fun (k : Nat) (a0 a1 : V) (S : St) (K : KS) => callD Try.prog dPl dLv (k + 1) 50 [a0, a1] S K) = fun k a0 a1 S K => m50 (callD Try.prog dPl dLv k) k a0 a1 S K := by kernel_rfl
noncomputable def m51_l0 (C : CallD) (k : Nat) (K : KS) (p0 p46 p47 : V) (vs : List V) (S : St) (again0 : List V → St → An) : An :=
unD vs fun x48 vs =>
dR (binV Try.prog .lss 3 x48 p47) fun t34 =>
pickD t34 (dR (indexAddrV Try.prog 68 p46 x48) fun t35 =>
dR (loadV Try.prog 3 t35 S) fun t36 =>
C 46 [p0] S fun t37 S38 =>
C 46 [p0] S38 fun t39 S40 =>
C 62 [p0, t39] S40 fun t41 S42 =>
dR (buildV Try.prog 37 [(0, (.int .i64 1)), (2, t36), (4, t37), (5, t41)]) fun t43 =>
C 86 [p0, t43] S42 fun t44 S45 =>
dR (binV Try.prog .add 3 x48 (.int .i64 1)) fun t46 =>
again0 [t46] S45) (K (.tup []) S)
noncomputable def m51 (C : CallD) (k : Nat) (a0 : V) (S : St) (K : KS) : An :=
nilD a0 (dR (fieldAddrV Try.prog 88 a0 1) fun t0 =>
dR (fieldAddrV Try.prog 24 t0 0) fun t1 =>
dR (loadV Try.prog 3 t1 S) fun t2 =>
dR (binV Try.prog .add 3 t2 (.int .i64 1)) fun t3 =>
nilD a0 (dR (fieldAddrV Try.prog 88 a0 1) fun t4 =>
dR (fieldAddrV Try.prog 24 t4 0) fun t5 =>
dR (storeV Try.prog 3 t5 t3 S) fun S6 =>
nilD a0 (dR (fieldAddrV Try.prog 88 a0 0) fun t7 =>
dR (loadV Try.prog 3 t7 (⟨S6.next + 27, S6.heap⟩ : St)) fun t8 =>
nilD a0 (dR (fieldAddrV Try.prog 88 a0 0) fun t9 =>
dR (loadV Try.prog 3 t9 (⟨S6.next + 27, S6.heap⟩ : St)) fun t10 =>
dR (convertV Try.prog 3 96 t10 (some (S6.next + 12)) (⟨S6.next + 27, S6.heap⟩ : St)) fun r11 =>
dR (binV Try.prog .shl 3 (.int .i64 1) r11.1) fun t12 =>
nilD a0 (dR (fieldAddrV Try.prog 88 a0 1) fun t13 =>
dR (fieldAddrV Try.prog 24 t13 1) fun t14 =>
dR (storeV Try.prog 3 t14 t8 r11.2) fun S15 =>
nilD a0 (dR (fieldAddrV Try.prog 88 a0 2) fun t16 =>
dR (storeV Try.prog 3 t16 (.int .i64 2) S15) fun S17 =>
nilD a0 (dR (fieldAddrV Try.prog 88 a0 3) fun t18 =>
dR (storeV Try.prog 3 t18 (.int .i64 (-1)) S17) fun S19 =>
nilD a0 (dR (fieldAddrV Try.prog 88 a0 7) fun t20 =>
dR (storeV Try.prog 3 t20 t12 S19) fun S21 =>
nilD a0 (dR (fieldAddrV Try.prog 88 a0 7) fun t22 =>
dR (loadV Try.prog 3 t22 (⟨S21.next + 7, S21.heap⟩ : St)) fun t23 =>
C 47 [a0] (⟨S21.next + 7, S21.heap⟩ : St) fun t24 S25 =>
dR (loadV Try.prog 3 t22 S25) fun t26 =>
dIf (beqV t23 t26) (C 84 [t24, t23] S25 fun t27 S28 =>
pickD t27 (C 85 [a0] S28 fun t29 S30 =>
K (.tup []) S30) (C 82 [a0] S28 fun t31 S32 =>
dR (lenV Try.prog 68 t31 S32) fun t33 =>
loopD k [(.int .i64 0)] S32 (m51_l0 C k K a0 t31 t33))))))))))))
theorem m51_eq : (fun (k : Nat) (a0 : V) (S : St) (K : KS) => callD Try.prog dPl dLv (k + 1) 51 [a0] S K) = fun k a0 S K => m51 (callD Try.prog dPl dLv k) k a0 S K := by kernel_rfl
noncomputable def m52 (C : CallD) (k : Nat) (a0 a1 : V) (S : St) (K : KS) : An :=
dIf (allOne (a1 : V).cells) (dR (newBlk none S (.row 0 (a1 : V).cells.length [(a1 : V).cells])) fun r0 =>
dR (loadV Try.prog 37 (.ptr r0.1 0 0 0) (⟨r0.2.next + 12, r0.2.heap⟩ : St)) fun t1 =>
C 87 [t1] (⟨r0.2.next + 12, r0.2.heap⟩ : St) fun t2 S3 =>
dR (unV .not t2) fun t4 =>
pickD t4 (K (.bool true) S3) (dR (fieldAddrV Try.prog 37 (.ptr r0.1 0 0 0) 2) fun t5 =>
dR (loadV Try.prog 3 t5 S3) fun t6 =>
nilD a0 (dR (fieldAddrV Try.prog 88 a0 0) fun t7 =>
dR (loadV Try.prog 3 t7 S3) fun t8 =>
dIf (guardP Try.prog 3 t6 t8) (dR (binV Try.prog .neq 3 t6 t8) fun t9 =>
pickD t9 (K (.bool true) S3) (dR (fieldAddrV Try.prog 37 (.ptr r0.1 0 0 0) 0) fun t10 =>
dR (loadV Try.prog 3 t10 (⟨S3.next + 30, S3.heap⟩ : St)) fun t11 =>
dIf (guardP Try.prog 3 t11 (.int .i64 1)) (dR (binV Try.prog .eql 3 t11 (.int .i64 1)) fun t12 =>
pickD t12 (nilD a0 (dR (fieldAddrV Try.prog 88 a0 2) fun t13 =>
dR (loadV Try.prog 3 t13 (⟨S3.next + 30, S3.heap⟩ : St)) fun t14 =>
dIf (guardP Try.prog 3 t14 (.int .i64 3)) (dR (binV Try.prog .eql 3 t14 (.int .i64 3)) fun t15 =>
pickD t15 (K (.bool true) (⟨S3.next + 30, S3.heap⟩ : St)) (nilD a0 (dR (fieldAddrV Try.prog 88 a0 3) fun t16 =>
dR (loadV Try.prog 3 t16 (⟨S3.next + 30, S3.heap⟩ : St)) fun t17 =>
dIf (guardP Try.prog 3 t17 (.int .i64 (-1))) (dR (binV Try.prog .neq 3 t17 (.int .i64 (-1))) fun t18 =>
pickD t18 (nilD a0 (dR (fieldAddrV Try.prog 88 a0 5) fun t19 =>
dR (loadV Try.prog 3 t19 (⟨S3.next + 30, S3.heap⟩ : St)) fun t20 =>
nilD a0 (dR (fieldAddrV Try.prog 88 a0 6) fun t21 =>
dR (loadV Try.prog 3 t21 (⟨S3.next + 30, S3.heap⟩ : St)) fun t22 =>
dR (binV Try.prog .sub 3 t20 t22) fun t23 =>
dR (binV Try.prog .lss 3 t23 (.int .i64 10)) fun t24 =>
K t24 (⟨S3.next + 30, S3.heap⟩ : St)))) (K (.bool false) (⟨S3.next + 30, S3.heap⟩ : St)))))))) (K (.bool false) (⟨S3.next + 30, S3.heap⟩ : St))))))))
theorem m52_eq : (fun (k : Nat) (a0 a1 : V) (S : St) (K : KS) => callD Try.prog dPl dLv (k + 1) 52 [a0, a1] S K) = fun k a0 a1 S K => m52 (callD Try.prog dPl dLv k) k a0 a1 S K := by kernel_rfl
noncomputable def m53_j0 (C : CallD) (k : Nat) (K : KS) (p0 p3 p13 : V) (S : St) : An :=
pickD p13 (dR (fieldAddrV Try.prog 37 p3 1) fun t9 =>
dR (loadV Try.prog 3 t9 (⟨S.next + 7, S.heap⟩ : St)) fun t10 =>
C 46 [p0] (⟨S.next + 7, S.heap⟩ : St) fun t11 S12 =>
dR (loadV Try.prog 3 t9 S12) fun t13 =>
dIf (beqV t10 t13) (dR (buildV Try.prog 37 [(0, (.int .i64 4)), (2, t10), (4, t11)]) fun t14 =>
C 86 [p0, t14] S12 fun t15 S16 =>
K (.tup []) S16)) (K (.tup []) S)
noncomputable def m53 (C : CallD) (k : Nat) (a0 a1 : V) (S : St) (K : KS) : An :=
dIf (allOne (a1 : V).cells) (dR (newBlk none S (.row 0 (a1 : V).cells.length [(a1 : V).cells])) fun r0 =>
dR (fieldAddrV Try.prog 37 (.ptr r0.1 0 0 0) 0) fun t1 =>
dR (loadV Try.prog 3 t1 r0.2) fun t2 =>
dIf (guardP Try.prog 3 t2 (.int .i64 1)) (dR (binV Try.prog .eql 3 t2 (.int .i64 1)) fun t3 =>
pickD t3 (dR (fieldAddrV Try.prog 37 (.ptr r0.1 0 0 0) 1) fun t4 =>
dR (loadV Try.prog 3 t4 r0.2) fun t5 =>
dR (buildV Try.prog 37 [(0, (.int .i64 2)), (2, t5)]) fun t6 =>
C 86 [a0, t6] r0.2 fun t7 S8 =>
K (.tup []) S8) (dIf (guardP Try.prog 3 t2 (.int .i64 3)) (dR (binV Try.prog .eql 3 t2 (.int .i64 3)) fun t17 =>
pickD t17 (m53_j0 C k K a0 (.ptr r0.1 0 0 0) (.bool true) r0.2) (dIf (guardP Try.prog 3 t2 (.int .i64 5)) (dR (binV Try.prog .eql 3 t2 (.int .i64 5)) fun t18 =>
m53_j0 C k K a0 (.ptr r0.1 0 0 0) t18 r0.2))))))
theorem m53_eq : (fun (k : Nat) (a0 a1 : V) (S : St) (K : KS) => callD Try.prog dPl dLv (k + 1) 53 [a0, a1] S K) = fun k a0 a1 S K => m53 (callD Try.prog dPl dLv k) k a0 a1 S K := by kernel_rfl
noncomputable def m54_j1 (C : CallD) (k : Nat) (K : KS) (p0 p3 p5 : V) (S : St) : An :=
dR (fieldAddrV Try.prog 37 p3 1) fun t5 =>
dR (loadV Try.prog 3 t5 S) fun t6 =>
dR (buildV Try.prog 37 [(0, (.int .i64 2)), (2, t6), (10, p5)]) fun t7 =>
C 86 [p0, t7] S fun t8 S9 =>
K (.tup []) S9
noncomputable def m54_j0 (C : CallD) (k : Nat) (K : KS) (p0 p3 p5 : V) (S : St) : An :=
pickD p5 (dR (fieldAddrV Try.prog 37 p3 1) fun t10 =>
dR (loadV Try.prog 3 t10 (⟨S.next + 15, S.heap⟩ : St)) fun t11 =>
nilD p0 (dR (fieldAddrV Try.prog 88 p0 5) fun t12 =>
dR (loadV Try.prog 3 t12 (⟨S.next + 15, S.heap⟩ : St)) fun t13 =>
nilD p0 (dR (fieldAddrV Try.prog 88 p0 1) fun t14 =>
dR (fieldAddrV Try.prog 24 t14 1) fun t15 =>
dR (storeV Try.prog 3 t15 t11 (⟨S.next + 15, S.heap⟩ : St)) fun S16 =>
nilD p0 (dR (fieldAddrV Try.prog 88 p0 6) fun t17 =>
dR (storeV Try.prog 3 t17 t13 S16) fun S18 =>
m54_j1 C k K p0 p3 p5 S18)))) (m54_j1 C k K p0 p3 p5 S)
noncomputable def m54 (C : CallD) (k : Nat) (a0 a1 : V) (S : St) (K : KS) : An :=
dIf (allOne (a1 : V).cells) (dR (newBlk none S (.row 0 (a1 : V).cells.length [(a1 : V).cells])) fun r0 =>
C 46 [a0] r0.2 fun t1 S2 =>
C 62 [a0, t1] S2 fun t3 S4 =>
nilD a0 (dR (fieldAddrV Try.prog 88 a0 1) fun t19 =>
dR (fieldAddrV Try.prog 24 t19 1) fun t20 =>
dR (loadV Try.prog 3 t20 (⟨S4.next + 36, S4.heap⟩ : St)) fun t21 =>
dIf (guardP Try.prog 3 t21 (.int .i64 (-1))) (dR (binV Try.prog .eql 3 t21 (.int .i64 (-1))) fun t22 =>
pickD t22 (dR (fieldAddrV Try.prog 37 (.ptr r0.1 0 0 0) 5) fun t23 =>
dR (loadV Try.prog 3 t23 (⟨S4.next + 36, S4.heap⟩ : St)) fun t24 =>
dR (binV Try.prog .gtr 3 t24 t3) fun t25 =>
pickD t25 (m54_j0 C k K a0 (.ptr r0.1 0 0 0) (.bool true) (⟨S4.next + 36, S4.heap⟩ : St)) (dR (fieldAddrV Try.prog 37 (.ptr r0.1 0 0 0) 5) fun t26 =>
dR (loadV Try.prog 3 t26 (⟨S4.next + 36, S4.heap⟩ : St)) fun t27 =>
dIf (guardP Try.prog 3 t27 t3) (dR (binV Try.prog .eql 3 t27 t3) fun t28 =>
pickD t28 (dR (fieldAddrV Try.prog 37 (.ptr r0.1 0 0 0) 4) fun t29 =>
dR (loadV Try.prog 3 t29 (⟨S4.next + 36, S4.heap⟩ : St)) fun t30 =>
C 46 [a0] (⟨S4.next + 36, S4.heap⟩ : St) fun t31 S32 =>
dR (loadV Try.prog 3 t29 S32) fun t33 =>
dIf (beqV t30 t33) (dR (binV Try.prog .geq 3 t30 t31) fun t34 =>
m54_j0 C k K a0 (.ptr r0.1 0 0 0) t34 S32)) (m54_j0 C k K a0 (.ptr r0.1 0 0 0) (.bool false) (⟨S4.next + 36, S4.heap⟩ : St))))) (nilD a0 (dR (fieldAddrV Try.prog 88 a0 1) fun t35 =>
dR (fieldAddrV Try.prog 24 t35 1) fun t36 =>
dR (loadV Try.prog 3 t36 (⟨S4.next + 36, S4.heap⟩ : St)) fun t37 =>
dR (fieldAddrV Try.prog 37 (.ptr r0.1 0 0 0) 1) fun t38 =>
dR (loadV Try.prog 3 t38 (⟨S4.next + 36, S4.heap⟩ : St)) fun t39 =>
dIf (guardP Try.prog 3 t37 t39) (dR (binV Try.prog .eql 3 t37 t39) fun t40 =>
pickD t40 (dR (fieldAddrV Try.prog 37 (.ptr r0.1 0 0 0) 5) fun t41 =>
dR (loadV Try.prog 3 t41 (⟨S4.next + 36, S4.heap⟩ : St)) fun t42 =>
dR (binV Try.prog .gtr 3 t42 t3) fun t43 =>
pickD t43 (m54_j0 C k K a0 (.ptr r0.1 0 0 0) (.bool true) (⟨S4.next + 36, S4.heap⟩ : St)) (dR (fieldAddrV Try.prog 37 (.ptr r0.1 0 0 0) 5) fun t44 =>
dR (loadV Try.prog 3 t44 (⟨S4.next + 36, S4.heap⟩ : St)) fun t45 =>
dIf (guardP Try.prog 3 t45 t3) (dR (binV Try.prog .eql 3 t45 t3) fun t46 =>
pickD t46 (dR (fieldAddrV Try.prog 37 (.ptr r0.1 0 0 0) 4) fun t47 =>
dR (loadV Try.prog 3 t47 (⟨S4.next + 36, S4.heap⟩ : St)) fun t48 =>
C 46 [a0] (⟨S4.next + 36, S4.heap⟩ : St) fun t49 S50 =>
dR (loadV Try.prog 3 t47 S50) fun t51 =>
dIf (beqV t48 t51) (dR (binV Try.prog .geq 3 t48 t49) fun t52 =>
m54_j0 C k K a0 (.ptr r0.1 0 0 0) t52 S50)) (m54_j0 C k K a0 (.ptr r0.1 0 0 0) (.bool false) (⟨S4.next + 36, S4.heap⟩ : St))))) (m54_j0 C k K a0 (.ptr r0.1 0 0 0) (.bool false) (⟨S4.next + 36, S4.heap⟩ : St))))))))
theorem m54_eq : (fun (k : Nat) (a0 a1 : V) (S : St) (K : KS) => callD Try.prog dPl dLv (k + 1) 54 [a0, a1] S K) = fun k a0 a1 S K => m54 (callD Try.prog dPl dLv k) k a0 a1 S K := by kernel_rfl
noncomputable def m55 (C : CallD) (k : Nat) (a0 a1 : V) (S : St) (K : KS) : An :=
dIf (allOne (a1 : V).cells) (dR (newBlk none S (.row 0 (a1 : V).cells.length [(a1 : V).cells])) fun r0 =>
nilD a0 (dR (fieldAddrV Try.prog 88 a0 2) fun t1 =>
dR (loadV Try.prog 3 t1 r0.2) fun t2 =>
dIf (guardP Try.prog 3 t2 (.int .i64 2)) (dR (binV Try.prog .neq 3 t2 (.int .i64 2)) fun t3 =>
pickD t3 (K (.tup []) r0.2) (dR (fieldAddrV Try.prog 37 (.ptr r0.1 0 0 0) 10) fun t4 =>
dR (loadV Try.prog 4 t4 r0.2) fun t5 =>
dR (unV .not t5) fun t6 =>
pickD t6 (K (.tup []) r0.2) (nilD a0 (dR (fieldAddrV Try.prog 88 a0 7) fun t7 =>
dR (loadV Try.prog 3 t7 (⟨r0.2.next + 12, r0.2.heap⟩ : St)) fun t8 =>
dR (fieldAddrV Try.prog 37 (.ptr r0.1 0 0 0) 1) fun t9 =>
dR (loadV Try.prog 3 t9 (⟨r0.2.next + 12, r0.2.heap⟩ : St)) fun t10 =>
dR (convertV Try.prog 3 96 t10 (some (r0.2.next + 6)) (⟨r0.2.next + 12, r0.2.heap⟩ : St)) fun r11 =>
dR (binV Try.prog .shl 3 (.int .i64 1) r11.1) fun t12 =>
dR (binV Try.prog .or 3 t8 t12) fun t13 =>
nilD a0 (dR (fieldAddrV Try.prog 88 a0 7) fun t14 =>
dR (storeV Try.prog 3 t14 t13 r11.2) fun S15 =>
nilD a0 (dR (fieldAddrV Try.prog 88 a0 7) fun t16 =>
dR (loadV Try.prog 3 t16 (⟨S15.next + 7, S15.heap⟩ : St)) fun t17 =>
C 47 [a0] (⟨S15.next + 7, S15.heap⟩ : St) fun t18 S19 =>
dR (loadV Try.prog 3 t16 S19) fun t20 =>
dIf (beqV t17 t20) (C 84 [t18, t17] S19 fun t21 S22 =>
pickD t21 (C 85 [a0] S22 fun t23 S24 =>
K (.tup []) S24) (K (.tup []) S22))))))))))
theorem m55_eq : (fun (k : Nat) (a0 a1 : V) (S : St) (K : KS) => callD Try.prog dPl dLv (k + 1) 55 [a0, a1] S K) = fun k a0 a1 S K => m55 (callD Try.prog dPl dLv k) k a0 a1 S K := by kernel_rfl
noncomputable def m56_j1 (C : CallD) (k : Nat) (K : KS) (p0 p3 p4 : V) (S : St) : An :=
nilD p0 (dR (fieldAddrV Try.prog 88 p0 4) fun t35 =>
dR (loadV Try.prog 3 t35 (⟨S.next + 13, S.heap⟩ : St)) fun t36 =>
dR (fieldAddrV Try.prog 37 p3 6) fun t37 =>
dR (loadV Try.prog 3 t37 (⟨S.next + 13, S.heap⟩ : St)) fun t38 =>
dR (minV [t38, p4]) fun t39 =>
dR (maxV [t36, t39]) fun t40 =>
nilD p0 (dR (fieldAddrV Try.prog 88 p0 4) fun t41 =>
dR (storeV Try.prog 3 t41 t40 (⟨S.next + 13, S.heap⟩ : St)) fun S42 =>
dR (fieldAddrV Try.prog 37 p3 1) fun t43 =>
dR (loadV Try.prog 3 t43 S42) fun t44 =>
dR (buildV Try.prog 37 [(0, (.int .i64 4)), (2, t44), (10, (.bool true)), (4, p4)]) fun t45 =>
C 86 [p0, t45] S42 fun t46 S47 =>
K (.tup []) S47))
noncomputable def m56_j2 (C : CallD) (k : Nat) (K : KS) (again0 : List V → St → An) (p0 p3 p4 p6 p7 p62 p63 p64 p94 : V) (S : St) : An :=
pickD p94 (nilD p0 (dR (fieldAddrV Try.prog 88 p0 1) fun t60 =>
dR (fieldAddrV Try.prog 24 t60 2) fun t61 =>
dR (loadV Try.prog 3 t61 S) fun t62 =>
dR (binV Try.prog .sub 3 p7 t62) fun t63 =>
dR (binV Try.prog .gtr 3 t63 (.int .i64 200)) fun t64 =>
pickD t64 (m56_j1 C k K p0 p3 p4 S) (nilD p0 (dR (fieldAddrV Try.prog 88 p0 1) fun t65 =>
dR (fieldAddrV Try.prog 24 t65 6) fun t66 =>
dR (loadV Try.prog 22 t66 (⟨S.next + 22, S.heap⟩ : St)) fun t67 =>
nilD p0 (dR (fieldAddrV Try.prog 88 p0 1) fun t68 =>
dR (fieldAddrV Try.prog 24 t68 2) fun t69 =>
dR (loadV Try.prog 3 t69 (⟨S.next + 22, S.heap⟩ : St)) fun t70 =>
dR (binV Try.prog .sub 3 p7 t70) fun t71 =>
dR (binV Try.prog .sub 3 t71 (.int .i64 1)) fun t72 =>
dR (sliceV Try.prog 22 t67 none (some t72)) fun t73 =>
dR (loadV Try.prog 59 p6 (⟨S.next + 22, S.heap⟩ : St)) fun t74 =>
dR (buildSliceV Try.prog 22 1 [(0, t74)] (some (S.next + 16)) (⟨S.next + 22, S.heap⟩ : St)) fun r75 =>
dR (appendV Try.prog 22 t73 r75.1 (some (S.next + 17)) r75.2) fun r76 =>
nilD p0 (dR (fieldAddrV Try.prog 88 p0 1) fun t77 =>
dR (fieldAddrV Try.prog 24 t77 6) fun t78 =>
dR (storeV Try.prog 22 t78 r76.1 r76.2) fun S79 =>
dR (binV Try.prog .add 3 p64 (.int .i64 1)) fun t80 =>
again0 [p7, t80] S79)))))) (dR (binV Try.prog .add 3 p64 (.int .i64 1)) fun t81 =>
again0 [p7, t81] S)
noncomputable def m56_l0 (C : CallD) (k : Nat) (K : KS) (p0 p3 p62 p63 : V) (vs : List V) (S : St) (again0 : List V → St → An) : An :=
unD vs fun x4 vs =>
unD vs fun x64 vs =>
dR (binV Try.prog .lss 3 x64 p63) fun t51 =>
pickD t51 (dR (indexAddrV Try.prog 22 p62 x64) fun t52 =>
dR (loadV Try.prog 59 t52 S) fun t53 =>
dR (newBlk none S (.row 0 3 [[.int .i64 0,.int .i64 0,.str []]])) fun r54 =>
dR (storeV Try.prog 59 (.ptr r54.1 0 0 0) t53 r54.2) fun S55 =>
dR (fieldAddrV Try.prog 37 p3 4) fun t56 =>
dR (loadV Try.prog 3 t56 S55) fun t57 =>
dR (binV Try.prog .add 3 t57 (.int .i64 1)) fun t58 =>
dR (binV Try.prog .add 3 t58 x64) fun t59 =>
nilD p0 (dR (fieldAddrV Try.prog 88 p0 1) fun t82 =>
dR (fieldAddrV Try.prog 24 t82 2) fun t83 =>
dR (loadV Try.prog 3 t83 (⟨S55.next + 21, S55.heap⟩ : St)) fun t84 =>
dR (binV Try.prog .gtr 3 t59 t84) fun t85 =>
pickD t85 (C 46 [p0] (⟨S55.next + 21, S55.heap⟩ : St) fun t86 S87 =>
dR (binV Try.prog .gtr 3 t59 t86) fun t88 =>
pickD t88 (m56_j2 C k K again0 p0 p3 x4 (.ptr r54.1 0 0 0) t59 p62 p63 x64 (.bool true) S87) (dR (fieldAddrV Try.prog 59 (.ptr r54.1 0 0 0) 0) fun t89 =>
dR (loadV Try.prog 3 t89 S87) fun t90 =>
C 62 [p0, t59] S87 fun t91 S92 =>
dR (loadV Try.prog 3 t89 S92) fun t93 =>
dIf (beqV t90 t93) (dIf (guardP Try.prog 3 t91 t90) (dR (binV Try.prog .neq 3 t91 t90) fun t94 =>
m56_j2 C k K again0 p0 p3 x4 (.ptr r54.1 0 0 0) t59 p62 p63 x64 t94 S92)))) (m56_j2 C k K again0 p0 p3 x4 (.ptr r54.1 0 0 0) t59 p62 p63 x64 (.bool false) (⟨S55.next + 21, S55.heap⟩ : St)))) (m56_j1 C k K p0 p3 x4 S)
noncomputable def m56_j0 (C : CallD) (k : Nat) (K : KS) (p0 p3 p50 : V) (S : St) : An :=
pickD p50 (dR (fieldAddrV Try.prog 37 p3 1) fun t25 =>
dR (loadV Try.prog 3 t25 S) fun t26 =>
dR (fieldAddrV Try.prog 37 p3 4) fun t27 =>
dR (loadV Try.prog 3 t27 S) fun t28 =>
dR (binV Try.prog .sub 3 t28 (.int .i64 1)) fun t29 =>
dR (buildV Try.prog 37 [(0, (.int .i64 4)), (2, t26), (4, t29)]) fun t30 =>
C 86 [p0, t30] S fun t31 S32 =>
K (.tup []) S32) (dR (fieldAddrV Try.prog 37 p3 4) fun t33 =>
dR (loadV Try.prog 3 t33 S) fun t34 =>
dR (fieldAddrV Try.prog 37 p3 12) fun t48 =>
dR (loadV Try.prog 22 t48 S) fun t49 =>
dR (lenV Try.prog 22 t49 S) fun t50 =>
loopD k [t34, (.int .i64 0)] S (m56_l0 C k K p0 p3 t49 t50))
noncomputable def m56 (C : CallD) (k : Nat) (a0 a1 : V) (S : St) (K : KS) : An :=
dIf (allOne (a1 : V).cells) (dR (newBlk none S (.row 0 (a1 : V).cells.length [(a1 : V).cells])) fun r0 =>
nilD a0 (dR (fieldAddrV Try.prog 88 a0 2) fun t1 =>
dR (loadV Try.prog 3 t1 r0.2) fun t2 =>
dIf (guardP Try.prog 3 t2 (.int .i64 3)) (dR (binV Try.prog .eql 3 t2 (.int .i64 3)) fun t3 =>
pickD t3 (K (.tup []) r0.2) (dR (loadV Try.prog 37 (.ptr r0.1 0 0 0) r0.2) fun t4 =>
C 88 [a0, t4] r0.2 fun t5 S6 =>
pickD t5 (K (.tup []) S6) (dR (fieldAddrV Try.prog 37 (.ptr r0.1 0 0 0) 1) fun t7 =>
dR (loadV Try.prog 3 t7 S6) fun t8 =>
C 89 [a0, t8] S6 fun t9 S10 =>
dR (fieldAddrV Try.prog 37 (.ptr r0.1 0 0 0) 4) fun t11 =>
dR (loadV Try.prog 3 t11 (⟨S10.next + 5, S10.heap⟩ : St)) fun t12 =>
C 46 [a0] (⟨S10.next + 5, S10.heap⟩ : St) fun t13 S14 =>
dR (loadV Try.prog 3 t11 S14) fun t15 =>
dIf (beqV t12 t15) (dR (binV Try.prog .gtr 3 t12 t13) fun t16 =>
pickD t16 (dR (fieldAddrV Try.prog 37 (.ptr r0.1 0 0 0) 1) fun t17 =>
dR (loadV Try.prog 3 t17 (⟨S14.next + 7, S14.heap⟩ : St)) fun t18 =>
C 46 [a0] (⟨S14.next + 7, S14.heap⟩ : St) fun t19 S20 =>
dR (loadV Try.prog 3 t17 S20) fun t21 =>
dIf (beqV t18 t21) (dR (buildV Try.prog 37 [(0, (.int .i64 4)), (2, t18), (4, t19)]) fun t22 =>
C 86 [a0, t22] S20 fun t23 S24 =>
K (.tup []) S24)) (dR (fieldAddrV Try.prog 37 (.ptr r0.1 0 0 0) 4) fun t95 =>
dR (loadV Try.prog 3 t95 (⟨S14.next + 17, S14.heap⟩ : St)) fun t96 =>
nilD a0 (dR (fieldAddrV Try.prog 88 a0 1) fun t97 =>
dR (fieldAddrV Try.prog 24 t97 2) fun t98 =>
dR (loadV Try.prog 3 t98 (⟨S14.next + 17, S14.heap⟩ : St)) fun t99 =>
dR (binV Try.prog .geq 3 t96 t99) fun t100 =>
pickD t100 (dR (fieldAddrV Try.prog 37 (.ptr r0.1 0 0 0) 4) fun t101 =>
dR (loadV Try.prog 3 t101 (⟨S14.next + 17, S14.heap⟩ : St)) fun t102 =>
dR (fieldAddrV Try.prog 37 (.ptr r0.1 0 0 0) 5) fun t103 =>
dR (loadV Try.prog 3 t103 (⟨S14.next + 17, S14.heap⟩ : St)) fun t104 =>
C 62 [a0, t102] (⟨S14.next + 17, S14.heap⟩ : St) fun t105 S106 =>
dR (loadV Try.prog 3 t103 S106) fun t107 =>
dIf (beqV t104 t107) (dIf (guardP Try.prog 3 t105 t104) (dR (binV Try.prog .neq 3 t105 t104) fun t108 =>
m56_j0 C k K a0 (.ptr r0.1 0 0 0) t108 S106))) (m56_j0 C k K a0 (.ptr r0.1 0 0 0) (.bool false) (⟨S14.next + 17, S14.heap⟩ : St))))))))))
theorem m56_eq : (fun (k : Nat) (a0 a1 : V) (S : St) (K : KS) => callD Try.prog dPl dLv (k + 1) 56 [a0, a1] S K) = fun k a0 a1 S K => m56 (callD Try.prog dPl dLv k) k a0 a1 S K := by kernel_rfl
noncomputable def m57_j0 (C : CallD) (k : Nat) (K : KS) (p0 p3 p78 : V) (S : St) : An :=
pickD p78 (dR (fieldAddrV Try.prog 37 p3 1) fun t48 =>
dR (loadV Try.prog 3 t48 S) fun t49 =>
C 83 [p0, t49] S fun t50 S51 =>
K (.tup []) S51) (K (.tup []) S)
noncomputable def m57 (C : CallD) (k : Nat) (a0 a1 : V) (S : St) (K : KS) : An :=
dIf (allOne (a1 : V).cells) (dR (newBlk none S (.row 0 (a1 : V).cells.length [(a1 : V).cells])) fun r0 =>
nilD a0 (dR (fieldAddrV Try.prog 88 a0 2) fun t1 =>
dR (loadV Try.prog 3 t1 (⟨r0.2.next + 12, r0.2.heap⟩ : St)) fun t2 =>
dIf (guardP Try.prog 3 t2 (.int .i64 3)) (dR (binV Try.prog .neq 3 t2 (.int .i64 3)) fun t3 =>
pickD t3 (K (.tup []) (⟨r0.2.next + 12, r0.2.heap⟩ : St)) (dR (fieldAddrV Try.prog 37 (.ptr r0.1 0 0 0) 4) fun t4 =>
dR (loadV Try.prog 3 t4 (⟨r0.2.next + 12, r0.2.heap⟩ : St)) fun t5 =>
C 46 [a0] (⟨r0.2.next + 12, r0.2.heap⟩ : St) fun t6 S7 =>
dR (loadV Try.prog 3 t4 S7) fun t8 =>
dIf (beqV t5 t8) (dR (binV Try.prog .gtr 3 t5 t6) fun t9 =>
pickD t9 (K (.tup []) S7) (dR (fieldAddrV Try.prog 37 (.ptr r0.1 0 0 0) 1) fun t10 =>
dR (loadV Try.prog 3 t10 (⟨S7.next + 7, S7.heap⟩ : St)) fun t11 =>
nilD a0 (dR (fieldAddrV Try.prog 88 a0 8) fun t12 =>
dR (indexAddrV Try.prog 85 t12 t11) fun t13 =>
dR (fieldAddrV Try.prog 37 (.ptr r0.1 0 0 0) 10) fun t14 =>
dR (loadV Try.prog 4 t14 (⟨S7.next + 7, S7.heap⟩ : St)) fun t15 =>
dR (unV .not t15) fun t16 =>
pickD t16 (nilD t13 (dR (fieldAddrV Try.prog 84 t13 0) fun t17 =>
dR (loadV Try.prog 3 t17 (⟨S7.next + 26, S7.heap⟩ : St)) fun t18 =>
dR (binV Try.prog .sub 3 t18 (.int .i64 1)) fun t19 =>
dR (fieldAddrV Try.prog 37 (.ptr r0.1 0 0 0) 4) fun t20 =>
dR (loadV Try.prog 3 t20 (⟨S7.next + 26, S7.heap⟩ : St)) fun t21 =>
dR (binV Try.prog .add 3 t21 (.int .i64 1)) fun t22 =>
dR (minV [t19, t22]) fun t23 =>
nilD t13 (dR (fieldAddrV Try.prog 84 t13 1) fun t24 =>
dR (loadV Try.prog 3 t24 (⟨S7.next + 26, S7.heap⟩ : St)) fun t25 =>
dR (binV Try.prog .add 3 t25 (.int .i64 1)) fun t26 =>
dR (maxV [t23, t26]) fun t27 =>
nilD t13 (dR (fieldAddrV Try.prog 84 t13 0) fun t28 =>
dR (storeV Try.prog 3 t28 t27 (⟨S7.next + 26, S7.heap⟩ : St)) fun S29 =>
dR (fieldAddrV Try.prog 37 (.ptr r0.1 0 0 0) 1) fun t30 =>
dR (loadV Try.prog 3 t30 S29) fun t31 =>
C 83 [a0, t31] S29 fun t32 S33 =>
K (.tup []) S33)))) (dR (fieldAddrV Try.prog 37 (.ptr r0.1 0 0 0) 4) fun t34 =>
dR (loadV Try.prog 3 t34 (⟨S7.next + 14, S7.heap⟩ : St)) fun t35 =>
nilD t13 (dR (fieldAddrV Try.prog 84 t13 1) fun t36 =>
dR (loadV Try.prog 3 t36 (⟨S7.next + 14, S7.heap⟩ : St)) fun t37 =>
dR (binV Try.prog .leq 3 t35 t37) fun t38 =>
pickD t38 (K (.tup []) (⟨S7.next + 14, S7.heap⟩ : St)) (dR (fieldAddrV Try.prog 37 (.ptr r0.1 0 0 0) 4) fun t39 =>
dR (loadV Try.prog 3 t39 (⟨S7.next + 14, S7.heap⟩ : St)) fun t40 =>
dR (binV Try.prog .add 3 t40 (.int .i64 1)) fun t41 =>
dR (fieldAddrV Try.prog 37 (.ptr r0.1 0 0 0) 4) fun t42 =>
dR (loadV Try.prog 3 t42 (⟨S7.next + 14, S7.heap⟩ : St)) fun t43 =>
dR (buildV Try.prog 84 [(0, t41), (1, t43)]) fun t44 =>
nilD t13 (dR (storeV Try.prog 84 t13 t44 (⟨S7.next + 14, S7.heap⟩ : St)) fun S45 =>
C 90 [a0] S45 fun t46 S47 =>
nilD a0 (dR (fieldAddrV Try.prog 88 a0 2) fun t52 =>
dR (loadV Try.prog 3 t52 (⟨S47.next + 14, S47.heap⟩ : St)) fun t53 =>
dIf (guardP Try.prog 3 t53 (.int .i64 3)) (dR (binV Try.prog .eql 3 t53 (.int .i64 3)) fun t54 =>
pickD t54 (nilD t13 (dR (fieldAddrV Try.prog 84 t13 0) fun t55 =>
dR (loadV Try.prog 3 t55 (⟨S47.next + 14, S47.heap⟩ : St)) fun t56 =>
C 46 [a0] (⟨S47.next + 14, S47.heap⟩ : St) fun t57 S58 =>
dR (loadV Try.prog 3 t55 S58) fun t59 =>
dIf (beqV t56 t59) (dR (binV Try.prog .leq 3 t56 t57) fun t60 =>
m57_j0 C k K a0 (.ptr r0.1 0 0 0) t60 S58))) (m57_j0 C k K a0 (.ptr r0.1 0 0 0) (.bool false) (⟨S47.next + 14, S47.heap⟩ : St)))))))))))))))
theorem m57_eq : (fun (k : Nat) (a0 a1 : V) (S : St) (K : KS) => callD Try.prog dPl dLv (k + 1) 57 [a0, a1] S K) = fun k a0 a1 S K => m57 (callD Try.prog dPl dLv k) k a0 a1 S K := by kernel_rfl
noncomputable def m58_j2 (C : CallD) (k : Nat) (K : KS) (p0 p3 p4 : V) (S : St) : An :=
nilD p4 (dR (fieldAddrV Try.prog 102 p4 3) fun t29 =>
dR (loadV Try.prog 74 t29 (⟨S.next + 10, S.heap⟩ : St)) fun t30 =>
dR (lenV Try.prog 74 t30 (⟨S.next + 10, S.heap⟩ : St)) fun t31 =>
nilD p4 (dR (fieldAddrV Try.prog 102 p4 2) fun t32 =>
dR (loadV Try.prog 3 t32 (⟨S.next + 10, S.heap⟩ : St)) fun t33 =>
dR (binV Try.prog .lss 3 t31 t33) fun t34 =>
pickD t34 (dR (fieldAddrV Try.prog 37 p3 1) fun t35 =>
dR (loadV Try.prog 3 t35 (⟨S.next + 22, S.heap⟩ : St)) fun t36 =>
dR (fieldAddrV Try.prog 37 p3 4) fun t37 =>
dR (loadV Try.prog 3 t37 (⟨S.next + 22, S.heap⟩ : St)) fun t38 =>
nilD p4 (dR (fieldAddrV Try.prog 102 p4 3) fun t39 =>
dR (loadV Try.prog 74 t39 (⟨S.next + 22, S.heap⟩ : St)) fun t40 =>
dR (lenV Try.prog 74 t40 (⟨S.next + 22, S.heap⟩ : St)) fun t41 =>
dR (buildV Try.prog 37 [(0, (.int .i64 6)), (2, t36), (4, t38), (8, t41)]) fun t42 =>
C 86 [p0, t42] (⟨S.next + 22, S.heap⟩ : St) fun t43 S44 =>
K (.tup []) S44)) (dR (loadV Try.prog 37 p3 (⟨S.next + 18, S.heap⟩ : St)) fun t45 =>
nilD p4 (dR (fieldAddrV Try.prog 102 p4 3) fun t46 =>
dR (loadV Try.prog 74 t46 (⟨S.next + 18, S.heap⟩ : St)) fun t47 =>
dR (convertV Try.prog 74 9 t47 (some ((⟨S.next + 10, S.heap⟩ : St).next + 6)) (⟨S.next + 18, S.heap⟩ : St)) fun r48 =>
C 91 [p0, t45, r48.1] r48.2 fun t49 S50 =>
dR (fieldAddrV Try.prog 37 p3 1) fun t51 =>
dR (loadV Try.prog 3 t51 S50) fun t52 =>
dR (fieldAddrV Try.prog 37 p3 4) fun t53 =>
dR (loadV Try.prog 3 t53 S50) fun t54 =>
dR (buildV Try.prog 37 [(0, (.int .i64 4)), (2, t52), (10, (.bool true)), (4, t54)]) fun t55 =>
C 86 [p0, t55] S50 fun t56 S57 =>
K (.tup []) S57))))
noncomputable def m58_j1 (C : CallD) (k : Nat) (K : KS) (p0 p3 p4 p74 : V) (S : St) : An :=
pickD p74 (dR (fieldAddrV Try.prog 37 p3 1) fun t22 =>
dR (loadV Try.prog 3 t22 S) fun t23 =>
dR (fieldAddrV Try.prog 37 p3 4) fun t24 =>
dR (loadV Try.prog 3 t24 S) fun t25 =>
dR (buildV Try.prog 37 [(0, (.int .i64 6)), (2, t23), (4, t25)]) fun t26 =>
C 86 [p0, t26] S fun t27 S28 =>
K (.tup []) S28) (dR (fieldAddrV Try.prog 37 p3 8) fun t58 =>
dR (loadV Try.prog 3 t58 (⟨S.next + 8, S.heap⟩ : St)) fun t59 =>
nilD p4 (dR (fieldAddrV Try.prog 102 p4 3) fun t60 =>
dR (loadV Try.prog 74 t60 (⟨S.next + 8, S.heap⟩ : St)) fun t61 =>
dR (lenV Try.prog 74 t61 (⟨S.next + 8, S.heap⟩ : St)) fun t62 =>
dIf (guardP Try.prog 3 t59 t62) (dR (binV Try.prog .eql 3 t59 t62) fun t63 =>
pickD t63 (nilD p4 (dR (fieldAddrV Try.prog 102 p4 3) fun t64 =>
dR (loadV Try.prog 74 t64 (⟨S.next + 19, S.heap⟩ : St)) fun t65 =>
dR (fieldAddrV Try.prog 37 p3 11) fun t66 =>
dR (loadV Try.prog 9 t66 (⟨S.next + 19, S.heap⟩ : St)) fun t67 =>
dR (appendV Try.prog 74 t65 t67 (some ((⟨S.next + 8, S.heap⟩ : St).next + 7)) (⟨S.next + 19, S.heap⟩ : St)) fun r68 =>
nilD p4 (dR (fieldAddrV Try.prog 102 p4 3) fun t69 =>
dR (storeV Try.prog 74 t69 r68.1 r68.2) fun S70 =>
m58_j2 C k K p0 p3 p4 S70))) (m58_j2 C k K p0 p3 p4 (⟨S.next + 8, S.heap⟩ : St)))))
noncomputable def m58_j0 (C : CallD) (k : Nat) (K : KS) (p0 p3 : V) (S : St) : An :=
nilD p0 (dR (fieldAddrV Try.prog 88 p0 9) fun t20 =>
dR (loadV Try.prog 86 t20 S) fun t21 =>
dIf (guardP Try.prog 86 t21 (.nilp)) (dR (binV Try.prog .eql 86 t21 (.nilp)) fun t71 =>
pickD t71 (m58_j1 C k K p0 p3 t21 (.bool true) (⟨S.next + 29, S.heap⟩ : St)) (nilD t21 (dR (fieldAddrV Try.prog 102 t21 0) fun t72 =>
dR (loadV Try.prog 3 t72 (⟨S.next + 29, S.heap⟩ : St)) fun t73 =>
dR (fieldAddrV Try.prog 37 p3 4) fun t74 =>
dR (loadV Try.prog 3 t74 (⟨S.next + 29, S.heap⟩ : St)) fun t75 =>
dIf (guardP Try.prog 3 t73 t75) (dR (binV Try.prog .neq 3 t73 t75) fun t76 =>
pickD t76 (m58_j1 C k K p0 p3 t21 (.bool true) (⟨S.next + 29, S.heap⟩ : St)) (nilD t21 (dR (fieldAddrV Try.prog 102 t21 1) fun t77 =>
dR (loadV Try.prog 3 t77 (⟨S.next + 29, S.heap⟩ : St)) fun t78 =>
dR (fieldAddrV Try.prog 37 p3 5) fun t79 =>
dR (loadV Try.prog 3 t79 (⟨S.next + 29, S.heap⟩ : St)) fun t80 =>
dIf (guardP Try.prog 3 t78 t80) (dR (binV Try.prog .neq 3 t78 t80) fun t81 =>
pickD t81 (m58_j1 C k K p0 p3 t21 (.bool true) (⟨S.next + 29, S.heap⟩ : St)) (nilD t21 (dR (fieldAddrV Try.prog 102 t21 2) fun t82 =>
dR (loadV Try.prog 3 t82 (⟨S.next + 29, S.heap⟩ : St)) fun t83 =>
dR (fieldAddrV Try.prog 37 p3 9) fun t84 =>
dR (loadV Try.prog 3 t84 (⟨S.next + 29, S.heap⟩ : St)) fun t85 =>
dIf (guardP Try.prog 3 t83 t85) (dR (binV Try.prog .neq 3 t83 t85) fun t86 =>
m58_j1 C k K p0 p3 t21 t86 (⟨S.next + 29, S.heap⟩ : St))))))))))))
noncomputable def m58 (C : CallD) (k : Nat) (a0 a1 : V) (S : St) (K : KS) : An :=
dIf (allOne (a1 : V).cells) (dR (newBlk none S (.row 0 (a1 : V).cells.length [(a1 : V).cells])) fun r0 =>
nilD a0 (dR (fieldAddrV Try.prog 88 a0 2) fun t1 =>
dR (loadV Try.prog 3 t1 r0.2) fun t2 =>
dIf (guardP Try.prog 3 t2 (.int .i64 3)) (dR (binV Try.prog .eql 3 t2 (.int .i64 3)) fun t3 =>
pickD t3 (K (.tup []) r0.2) (dR (fieldAddrV Try.prog 37 (.ptr r0.1 0 0 0) 1) fun t4 =>
dR (loadV Try.prog 3 t4 r0.2) fun t5 =>
C 89 [a0, t5] r0.2 fun t6 S7 =>
dR (fieldAddrV Try.prog 37 (.ptr r0.1 0 0 0) 4) fun t8 =>
dR (loadV Try.prog 3 t8 (⟨S7.next + 7, S7.heap⟩ : St)) fun t9 =>
nilD a0 (dR (fieldAddrV Try.prog 88 a0 4) fun t10 =>
dR (loadV Try.prog 3 t10 (⟨S7.next + 7, S7.heap⟩ : St)) fun t11 =>
dR (binV Try.prog .leq 3 t9 t11) fun t12 =>
pickD t12 (dR (fieldAddrV Try.prog 37 (.ptr r0.1 0 0 0) 1) fun t13 =>
dR (loadV Try.prog 3 t13 (⟨S7.next + 7, S7.heap⟩ : St)) fun t14 =>
dR (fieldAddrV Try.prog 37 (.ptr r0.1 0 0 0) 4) fun t15 =>
dR (loadV Try.prog 3 t15 (⟨S7.next + 7, S7.heap⟩ : St)) fun t16 =>
dR (buildV Try.prog 37 [(0, (.int .i64 4)), (2, t14), (10, (.bool true)), (4, t16)]) fun t17 =>
C 86 [a0, t17] (⟨S7.next + 7, S7.heap⟩ : St) fun t18 S19 =>
K (.tup []) S19) (dR (fieldAddrV Try.prog 37 (.ptr r0.1 0 0 0) 8) fun t87 =>
dR (loadV Try.prog 3 t87 (⟨S7.next + 7, S7.heap⟩ : St)) fun t88 =>
dIf (guardP Try.prog 3 t88 (.int .i64 0)) (dR (binV Try.prog .eql 3 t88 (.int .i64 0)) fun t89 =>
pickD t89 (dR (fieldAddrV Try.prog 37 (.ptr r0.1 0 0 0) 4) fun t90 =>
dR (loadV Try.prog 3 t90 (⟨S7.next + 7, S7.heap⟩ : St)) fun t91 =>
dR (fieldAddrV Try.prog 37 (.ptr r0.1 0 0 0) 5) fun t92 =>
dR (loadV Try.prog 3 t92 (⟨S7.next + 7, S7.heap⟩ : St)) fun t93 =>
dR (fieldAddrV Try.prog 37 (.ptr r0.1 0 0 0) 9) fun t94 =>
dR (loadV Try.prog 3 t94 (⟨S7.next + 7, S7.heap⟩ : St)) fun t95 =>
dR (buildV Try.prog 102 [(0, t91), (1, t93), (2, t95)]) fun t96 =>
dIf (allOne (t96 : V).cells) (dR (newBlk none (⟨S7.next + 7, S7.heap⟩ : St) (.row 0 (t96 : V).cells.length [(t96 : V).cells])) fun r97 =>
nilD a0 (dR (fieldAddrV Try.prog 88 a0 9) fun t98 =>
dR (storeV Try.prog 86 t98 (.ptr r97.1 0 0 0) r97.2) fun S99 =>
m58_j0 C k K a0 (.ptr r0.1 0 0 0) S99))) (m58_j0 C k K a0 (.ptr r0.1 0 0 0) (⟨S7.next + 7, S7.heap⟩ : St)))))))))
theorem m58_eq : (fun (k : Nat) (a0 a1 : V) (S : St) (K : KS) => callD Try.prog dPl dLv (k + 1) 58 [a0, a1] S K) = fun k a0 a1 S K => m58 (callD Try.prog dPl dLv k) k a0 a1 S K := by kernel_rfl
noncomputable def m59 (C : CallD) (k : Nat) (a0 a1 : V) (S : St) (K : KS) : An :=
dIf (allOne (a1 : V).cells) (dR (newBlk none S (.row 0 (a1 : V).cells.length [(a1 : V).cells])) fun r0 =>
dR (fieldAddrV Try.prog 37 (.ptr r0.1 0 0 0) 1) fun t1 =>
dR (loadV Try.prog 3 t1 (⟨r0.2.next + 7, r0.2.heap⟩ : St)) fun t2 =>
nilD a0 (dR (fieldAddrV Try.prog 88 a0 8) fun t3 =>
dR (indexAddrV Try.prog 85 t3 t2) fun t4 =>
nilD a0 (dR (fieldAddrV Try.prog 88 a0 2) fun t5 =>
dR (loadV Try.prog 3 t5 (⟨r0.2.next + 54, r0.2.heap⟩ : St)) fun t6 =>
dIf (guardP Try.prog 3 t6 (.int .i64 3)) (dR (binV Try.prog .neq 3 t6 (.int .i64 3)) fun t7 =>
pickD t7 (K (.tup []) (⟨r0.2.next + 54, r0.2.heap⟩ : St)) (dR (fieldAddrV Try.prog 37 (.ptr r0.1 0 0 0) 4) fun t8 =>
dR (loadV Try.prog 3 t8 (⟨r0.2.next + 54, r0.2.heap⟩ : St)) fun t9 =>
nilD a0 (dR (fieldAddrV Try.prog 88 a0 1) fun t10 =>
dR (fieldAddrV Try.prog 24 t10 2) fun t11 =>
dR (loadV Try.prog 3 t11 (⟨r0.2.next + 54, r0.2.heap⟩ : St)) fun t12 =>
dIf (guardP Try.prog 3 t9 t12) (dR (binV Try.prog .neq 3 t9 t12) fun t13 =>
pickD t13 (K (.tup []) (⟨r0.2.next + 54, r0.2.heap⟩ : St)) (nilD t4 (dR (fieldAddrV Try.prog 84 t4 0) fun t14 =>
dR (loadV Try.prog 3 t14 (⟨r0.2.next + 54, r0.2.heap⟩ : St)) fun t15 =>
nilD a0 (dR (fieldAddrV Try.prog 88 a0 1) fun t16 =>
dR (fieldAddrV Try.prog 24 t16 2) fun t17 =>
dR (loadV Try.prog 3 t17 (⟨r0.2.next + 54, r0.2.heap⟩ : St)) fun t18 =>
dR (binV Try.prog .gtr 3 t15 t18) fun t19 =>
pickD t19 (K (.tup []) (⟨r0.2.next + 54, r0.2.heap⟩ : St)) (dR (fieldAddrV Try.prog 37 (.ptr r0.1 0 0 0) 8) fun t20 =>
dR (loadV Try.prog 3 t20 (⟨r0.2.next + 54, r0.2.heap⟩ : St)) fun t21 =>
nilD a0 (dR (fieldAddrV Try.prog 88 a0 1) fun t22 =>
dR (fieldAddrV Try.prog 24 t22 5) fun t23 =>
dR (loadV Try.prog 9 t23 (⟨r0.2.next + 54, r0.2.heap⟩ : St)) fun t24 =>
dR (lenV Try.prog 9 t24 (⟨r0.2.next + 54, r0.2.heap⟩ : St)) fun t25 =>
dR (binV Try.prog .geq 3 t21 t25) fun t26 =>
pickD t26 (K (.tup []) (⟨r0.2.next + 54, r0.2.heap⟩ : St)) (dR (fieldAddrV Try.prog 37 (.ptr r0.1 0 0 0) 8) fun t27 =>
dR (loadV Try.prog 3 t27 (⟨r0.2.next + 54, r0.2.heap⟩ : St)) fun t28 =>
nilD t4 (dR (fieldAddrV Try.prog 84 t4 2) fun t29 =>
dR (loadV Try.prog 3 t29 (⟨r0.2.next + 54, r0.2.heap⟩ : St)) fun t30 =>
dIf (guardP Try.prog 3 t28 t30) (dR (binV Try.prog .eql 3 t28 t30) fun t31 =>
pickD t31 (K (.tup []) (⟨r0.2.next + 54, r0.2.heap⟩ : St)) (dR (fieldAddrV Try.prog 37 (.ptr r0.1 0 0 0) 8) fun t32 =>
dR (loadV Try.prog 3 t32 (⟨r0.2.next + 54, r0.2.heap⟩ : St)) fun t33 =>
nilD t4 (dR (fieldAddrV Try.prog 84 t4 2) fun t34 =>
dR (storeV Try.prog 3 t34 t33 (⟨r0.2.next + 54, r0.2.heap⟩ : St)) fun S35 =>
dR (fieldAddrV Try.prog 37 (.ptr r0.1 0 0 0) 1) fun t36 =>
dR (loadV Try.prog 3 t36 S35) fun t37 =>
C 83 [a0, t37] S35 fun t38 S39 =>
K (.tup []) S39)))))))))))))))))
theorem m59_eq : (fun (k : Nat) (a0 a1 : V) (S : St) (K : KS) => callD Try.prog dPl dLv (k + 1) 59 [a0, a1] S K) = fun k a0 a1 S K => m59 (callD Try.prog dPl dLv k) k a0 a1 S K := by kernel_rfl
noncomputable def m60 (C : CallD) (k : Nat) (a0 : V) (S : St) (K : KS) : An :=
nilD a0 (dR (fieldAddrV Try.prog 88 a0 0) fun t0 =>
dR (loadV Try.prog 3 t0 (⟨S.next + 12, S.heap⟩ : St)) fun t1 =>
nilD a0 (dR (fieldAddrV Try.prog 88 a0 8) fun t2 =>
C 46 [a0] (⟨S.next + 12, S.heap⟩ : St) fun t3 S4 =>
dR (loadV Try.prog 3 t0 S4) fun t5 =>
dIf (beqV t1 t5) (dR (indexAddrV Try.prog 85 t2 t1) fun t6 =>
dR (fieldAddrV Try.prog 84 t6 1) fun t7 =>
dR (storeV Try.prog 3 t7 t3 S4) fun S8 =>
C 90 [a0] S8 fun t9 S10 =>
C 48 [a0] S10 fun t11 S12 =>
K (.tup []) S12)))
theorem m60_eq : (fun (k : Nat) (a0 : V) (S : St) (K : KS) => callD Try.prog dPl dLv (k + 1) 60 [a0] S K) = fun k a0 S K => m60 (callD Try.prog dPl dLv k) k a0 S K := by kernel_rfl
noncomputable def m61 (C : CallD) (k : Nat) (a0 a1 : V) (S : St) (K : KS) : An :=
C 92 [a0] S fun t0 S1 =>
pickD t0 (C 92 [a1] S1 fun t2 S3 =>
pickD t2 (dR (binV Try.prog .xor 3 a0 a1) fun t4 =>
C 93 [t4] S3 fun t5 S6 =>
dIf (guardP Try.prog 3 t5 (.int .i64 1)) (dR (binV Try.prog .eql 3 t5 (.int .i64 1)) fun t7 =>
K t7 S6)) (K (.bool false) S3)) (K (.bool false) S1)
theorem m61_eq : (fun (k : Nat) (a0 a1 : V) (S : St) (K : KS) => callD Try.prog dPl dLv (k + 1) 61 [a0, a1] S K) = fun k a0 a1 S K => m61 (callD Try.prog dPl dLv k) k a0 a1 S K := by kernel_rfl
noncomputable def m62 (C : CallD) (k : Nat) (a0 a1 : V) (S : St) (K : KS) : An :=
nilD a0 (dR (fieldAddrV Try.prog 88 a0 1) fun t0 =>
dR (fieldAddrV Try.prog 24 t0 2) fun t1 =>
dR (loadV Try.prog 3 t1 S) fun t2 =>
dIf (guardP Try.prog 3 a1 t2) (dR (binV Try.prog .eql 3 a1 t2) fun t3 =>
pickD t3 (nilD a0 (dR (fieldAddrV Try.prog 88 a0 1) fun t4 =>
dR (fieldAddrV Try.prog 24 t4 3) fun t5 =>
dR (loadV Try.prog 3 t5 S) fun t6 =>
K t6 S)) (nilD a0 (dR (fieldAddrV Try.prog 88 a0 1) fun t7 =>
dR (fieldAddrV Try.prog 24 t7 6) fun t8 =>
dR (loadV Try.prog 22 t8 (⟨S.next + 17, S.heap⟩ : St)) fun t9 =>
nilD a0 (dR (fieldAddrV Try.prog 88 a0 1) fun t10 =>
dR (fieldAddrV Try.prog 24 t10 2) fun t11 =>
dR (loadV Try.prog 3 t11 (⟨S.next + 17, S.heap⟩ : St)) fun t12 =>
dR (binV Try.prog .sub 3 a1 t12) fun t13 =>
dR (binV Try.prog .sub 3 t13 (.int .i64 1)) fun t14 =>
dR (indexAddrV Try.prog 22 t9 t14) fun t15 =>
dR (fieldAddrV Try.prog 59 t15 0) fun t16 =>
dR (loadV Try.prog 3 t16 (⟨S.next + 17, S.heap⟩ : St)) fun t17 =>
K t17 (⟨S.next + 17, S.heap⟩ : St))))))
theorem m62_eq : (fun (k : Nat) (a0 a1 : V) (S : St) (K : KS) => callD Try.prog dPl dLv (k + 1) 62 [a0, a1] S K) = fun k a0 a1 S K => m62 (callD Try.prog dPl dLv k) k a0 a1 S K := by kernel_rfl
noncomputable def m63 (C : CallD) (k : Nat) (a0 a1 a2 : V) (S : St) (K : KS) : An :=
dIf (allOne (a0 : V).cells) (dR (newBlk none S (.row 0 (a0 : V).cells.length [(a0 : V).cells])) fun r0 =>
dR (fieldAddrV Try.prog 59 (.ptr r0.1 0 0 0) 0) fun t1 =>
dR (loadV Try.prog 3 t1 r0.2) fun t2 =>
dR (binV Try.prog .geq 3 t2 (.int .i64 1)) fun t3 =>
pickD t3 (dR (fieldAddrV Try.prog 59 (.ptr r0.1 0 0 0) 0) fun t4 =>
dR (loadV Try.prog 3 t4 r0.2) fun t5 =>
dR (binV Try.prog .geq 3 t5 a1) fun t6 =>
pickD t6 (dR (fieldAddrV Try.prog 59 (.ptr r0.1 0 0 0) 0) fun t7 =>
dR (loadV Try.prog 3 t7 r0.2) fun t8 =>
dR (binV Try.prog .leq 3 t8 a2) fun t9 =>
pickD t9 (dR (fieldAddrV Try.prog 59 (.ptr r0.1 0 0 0) 1) fun t10 =>
dR (loadV Try.prog 3 t10 r0.2) fun t11 =>
dR (binV Try.prog .geq 3 t11 (.int .i64 0)) fun t12 =>
pickD t12 (dR (fieldAddrV Try.prog 59 (.ptr r0.1 0 0 0) 1) fun t13 =>
dR (loadV Try.prog 3 t13 r0.2) fun t14 =>
dR (binV Try.prog .lss 3 t14 (.int .i64 128)) fun t15 =>
pickD t15 (dR (fieldAddrV Try.prog 59 (.ptr r0.1 0 0 0) 2) fun t16 =>
dR (loadV Try.prog 9 t16 r0.2) fun t17 =>
dR (lenV Try.prog 9 t17 r0.2) fun t18 =>
dR (binV Try.prog .leq 3 t18 (.int .i64 1100)) fun t19 =>
pickD t19 (dR (fieldAddrV Try.prog 59 (.ptr r0.1 0 0 0) 1) fun t20 =>
dR (loadV Try.prog 3 t20 r0.2) fun t21 =>
dIf (guardP Try.prog 3 t21 (.int .i64 0)) (dR (binV Try.prog .eql 3 t21 (.int .i64 0)) fun t22 =>
pickD t22 (K (.bool true) r0.2) (dR (fieldAddrV Try.prog 59 (.ptr r0.1 0 0 0) 2) fun t23 =>
dR (loadV Try.prog 9 t23 r0.2) fun t24 =>
dIf (guardP Try.prog 9 t24 (.str [])) (dR (binV Try.prog .eql 9 t24 (.str [])) fun t25 =>
K t25 r0.2)))) (K (.bool false) r0.2)) (K (.bool false) r0.2)) (K (.bool false) r0.2)) (K (.bool false) r0.2)) (K (.bool false) r0.2)) (K (.bool false) r0.2))
theorem m63_eq : (fun (k : Nat) (a0 a1 a2 : V) (S : St) (K : KS) => callD Try.prog dPl dLv (k + 1) 63 [a0, a1, a2] S K) = fun k a0 a1 a2 S K => m63 (callD Try.prog dPl dLv k) k a0 a1 a2 S K := by kernel_rfl
noncomputable def m67_l0 (C : CallD) (k : Nat) (K : KS) (p1 p79 p80 : V) (vs : List V) (S : St) (again0 : List V → St → An) : An :=
unD vs fun x2 vs =>
unD vs fun x3 vs =>
unD vs fun x81 vs =>
dR (binV Try.prog .lss 3 x81 p80) fun t56 =>
pickD t56 (dR (indexAddrV Try.prog 22 p79 x81) fun t57 =>
dR (loadV Try.prog 59 t57 S) fun t58 =>
dR (newBlk none S (.row 0 3 [[.int .i64 0,.int .i64 0,.str []]])) fun r59 =>
dR (storeV Try.prog 59 (.ptr r59.1 0 0 0) t58 r59.2) fun S60 =>
dR (loadV Try.prog 59 (.ptr r59.1 0 0 0) S60) fun t61 =>
dR (fieldAddrV Try.prog 24 p1 0) fun t62 =>
dR (loadV Try.prog 3 t62 S60) fun t63 =>
C 95 [t61, x3, t63] S60 fun t64 S65 =>
dR (unV .not t64) fun t66 =>
pickD t66 (K (.bool false) S65) (dR (fieldAddrV Try.prog 59 (.ptr r59.1 0 0 0) 0) fun t67 =>
dR (loadV Try.prog 3 t67 S65) fun t68 =>
dR (binV Try.prog .add 3 x81 (.int .i64 1)) fun t69 =>
again0 [x2, t68, t69] S65)) (K (.bool true) S)
noncomputable def m67 (C : CallD) (k : Nat) (a0 : V) (S : St) (K : KS) : An :=
dIf (allOne (a0 : V).cells) (dR (newBlk none S (.row 0 (a0 : V).cells.length [(a0 : V).cells])) fun r0 =>
dR (fieldAddrV Try.prog 24 (.ptr r0.1 0 0 0) 0) fun t1 =>
dR (loadV Try.prog 3 t1 r0.2) fun t2 =>
dR (binV Try.prog .lss 3 t2 (.int .i64 0)) fun t3 =>
pickD t3 (K (.bool false) r0.2) (dR (fieldAddrV Try.prog 24 (.ptr r0.1 0 0 0) 0) fun t4 =>
dR (loadV Try.prog 3 t4 r0.2) fun t5 =>
dR (binV Try.prog .gtr 3 t5 (.int .i64 1099511627776)) fun t6 =>
pickD t6 (K (.bool false) r0.2) (dR (fieldAddrV Try.prog 24 (.ptr r0.1 0 0 0) 1) fun t7 =>
dR (loadV Try.prog 3 t7 r0.2) fun t8 =>
dR (binV Try.prog .lss 3 t8 (.int .i64 (-1))) fun t9 =>
pickD t9 (K (.bool false) r0.2) (dR (fieldAddrV Try.prog 24 (.ptr r0.1 0 0 0) 1) fun t10 =>
dR (loadV Try.prog 3 t10 r0.2) fun t11 =>
dR (binV Try.prog .geq 3 t11 (.int .i64 7)) fun t12 =>
pickD t12 (K (.bool false) r0.2) (dR (fieldAddrV Try.prog 24 (.ptr r0.1 0 0 0) 4) fun t13 =>
dR (loadV Try.prog 3 t13 r0.2) fun t14 =>
dR (binV Try.prog .lss 3 t14 (.int .i64 1)) fun t15 =>
pickD t15 (K (.bool false) r0.2) (dR (fieldAddrV Try.prog 24 (.ptr r0.1 0 0 0) 4) fun t16 =>
dR (loadV Try.prog 3 t16 r0.2) fun t17 =>
dR (binV Try.prog .gtr 3 t17 (.int .i64 127)) fun t18 =>
pickD t18 (K (.bool false) r0.2) (dR (fieldAddrV Try.prog 24 (.ptr r0.1 0 0 0) 2) fun t19 =>
dR (loadV Try.prog 3 t19 r0.2) fun t20 =>
dR (binV Try.prog .lss 3 t20 (.int .i64 0)) fun t21 =>
pickD t21 (K (.bool false) r0.2) (dR (fieldAddrV Try.prog 24 (.ptr r0.1 0 0 0) 2) fun t22 =>
dR (loadV Try.prog 3 t22 r0.2) fun t23 =>
dR (binV Try.prog .gtr 3 t23 (.int .i64 1099511627776)) fun t24 =>
pickD t24 (K (.bool false) r0.2) (dR (fieldAddrV Try.prog 24 (.ptr r0.1 0 0 0) 3) fun t25 =>
dR (loadV Try.prog 3 t25 r0.2) fun t26 =>
dR (binV Try.prog .lss 3 t26 (.int .i64 0)) fun t27 =>
pickD t27 (K (.bool false) r0.2) (dR (fieldAddrV Try.prog 24 (.ptr r0.1 0 0 0) 3) fun t28 =>
dR (loadV Try.prog 3 t28 r0.2) fun t29 =>
dR (fieldAddrV Try.prog 24 (.ptr r0.1 0 0 0) 0) fun t30 =>
dR (loadV Try.prog 3 t30 r0.2) fun t31 =>
dR (binV Try.prog .gtr 3 t29 t31) fun t32 =>
pickD t32 (K (.bool false) r0.2) (dR (fieldAddrV Try.prog 24 (.ptr r0.1 0 0 0) 3) fun t33 =>
dR (loadV Try.prog 3 t33 r0.2) fun t34 =>
dIf (guardP Try.prog 3 t34 (.int .i64 0)) (dR (binV Try.prog .eql 3 t34 (.int .i64 0)) fun t35 =>
dR (fieldAddrV Try.prog 24 (.ptr r0.1 0 0 0) 2) fun t36 =>
dR (loadV Try.prog 3 t36 r0.2) fun t37 =>
dIf (guardP Try.prog 3 t37 (.int .i64 0)) (dR (binV Try.prog .eql 3 t37 (.int .i64 0)) fun t38 =>
dIf (guardP Try.prog 4 t35 t38) (dR (binV Try.prog .neq 4 t35 t38) fun t39 =>
pickD t39 (K (.bool false) r0.2) (dR (fieldAddrV Try.prog 24 (.ptr r0.1 0 0 0) 6) fun t40 =>
dR (loadV Try.prog 22 t40 r0.2) fun t41 =>
dR (lenV Try.prog 22 t41 r0.2) fun t42 =>
dR (binV Try.prog .gtr 3 t42 (.int .i64 200)) fun t43 =>
pickD t43 (K (.bool false) r0.2) (dR (fieldAddrV Try.prog 24 (.ptr r0.1 0 0 0) 6) fun t44 =>
dR (loadV Try.prog 22 t44 r0.2) fun t45 =>
dR (lenV Try.prog 22 t45 r0.2) fun t46 =>
dR (fieldAddrV Try.prog 24 (.ptr r0.1 0 0 0) 2) fun t47 =>
dR (loadV Try.prog 3 t47 r0.2) fun t48 =>
dR (binV Try.prog .sub 3 (.int .i64 1099511627776) t48) fun t49 =>
dR (binV Try.prog .gtr 3 t46 t49) fun t50 =>
pickD t50 (K (.bool false) r0.2) (dR (fieldAddrV Try.prog 24 (.ptr r0.1 0 0 0) 3) fun t51 =>
dR (loadV Try.prog 3 t51 r0.2) fun t52 =>
dR (fieldAddrV Try.prog 24 (.ptr r0.1 0 0 0) 6) fun t53 =>
dR (loadV Try.prog 22 t53 r0.2) fun t54 =>
dR (lenV Try.prog 22 t54 r0.2) fun t55 =>
loopD k [(.bool false), t52, (.int .i64 0)] r0.2 (m67_l0 C k K (.ptr r0.1 0 0 0) t54 t55))))))))))))))))))
theorem m67_eq : (fun (k : Nat) (a0 : V) (S : St) (K : KS) => callD Try.prog dPl dLv (k + 1) 67 [a0] S K) = fun k a0 S K => m67 (callD Try.prog dPl dLv k) k a0 S K := by kernel_rfl
noncomputable def m82_l0 (C : CallD) (k : Nat) (K : KS) (p0 p8 p9 : V) (vs : List V) (S : St) (again0 : List V → St → An) : An :=
unD vs fun x3 vs =>
unD vs fun x10 vs =>
dR (binV Try.prog .lss 3 x10 p9) fun t5 =>
pickD t5 (dR (indexAddrV Try.prog 68 p8 x10) fun t6 =>
dR (loadV Try.prog 3 t6 S) fun t7 =>
nilD p0 (dR (fieldAddrV Try.prog 88 p0 0) fun t8 =>
dR (loadV Try.prog 3 t8 S) fun t9 =>
dIf (guardP Try.prog 3 t7 t9) (dR (binV Try.prog .neq 3 t7 t9) fun t10 =>
pickD t10 (dR (buildSliceV Try.prog 68 1 [(0, t7)] none S) fun r11 =>
dR (appendV Try.prog 68 x3 r11.1 none r11.2) fun r12 =>
dR (binV Try.prog .add 3 x10 (.int .i64 1)) fun t13 =>
again0 [r12.1, t13] r12.2) (dR (binV Try.prog .add 3 x10 (.int .i64 1)) fun t14 =>
again0 [x3, t14] S)))) (K x3 S)
noncomputable def m82 (C : CallD) (k : Nat) (a0 : V) (S : St) (K : KS) : An :=
C 47 [a0] S fun t0 S1 =>
C 101 [t0] S1 fun t2 S3 =>
dR (lenV Try.prog 68 t2 S3) fun t4 =>
loopD k [(.nils), (.int .i64 0)] S3 (m82_l0 C k K a0 t2 t4)
theorem m82_eq : (fun (k : Nat) (a0 : V) (S : St) (K : KS) => callD Try.prog dPl dLv (k + 1) 82 [a0] S K) = fun k a0 S K => m82 (callD Try.prog dPl dLv k) k a0 S K := by kernel_rfl
noncomputable def m83 (C : CallD) (k : Nat) (a0 a1 : V) (S : St) (K : KS) : An :=
nilD a0 (dR (fieldAddrV Try.prog 88 a0 8) fun t0 =>
dR (indexAddrV Try.prog 85 t0 a1) fun t1 =>
dR (loadV Try.prog 84 t1 S) fun t2 =>
dR (newBlk none S (.row 0 3 [[.int .i64 0,.int .i64 0,.int .i64 0]])) fun r3 =>
dR (storeV Try.prog 84 (.ptr r3.1 0 0 0) t2 r3.2) fun S4 =>
dR (fieldAddrV Try.prog 84 (.ptr r3.1 0 0 0) 0) fun t5 =>
dR (loadV Try.prog 3 t5 (⟨S4.next + 8, S4.heap⟩ : St)) fun t6 =>
nilD a0 (dR (fieldAddrV Try.prog 88 a0 1) fun t7 =>
dR (fieldAddrV Try.prog 24 t7 2) fun t8 =>
dR (loadV Try.prog 3 t8 (⟨S4.next + 8, S4.heap⟩ : St)) fun t9 =>
dR (binV Try.prog .leq 3 t6 t9) fun t10 =>
pickD t10 (nilD a0 (dR (fieldAddrV Try.prog 88 a0 1) fun t11 =>
dR (fieldAddrV Try.prog 24 t11 5) fun t12 =>
dR (loadV Try.prog 9 t12 (⟨S4.next + 17, S4.heap⟩ : St)) fun t13 =>
dR (fieldAddrV Try.prog 84 (.ptr r3.1 0 0 0) 2) fun t14 =>
dR (loadV Try.prog 3 t14 (⟨S4.next + 17, S4.heap⟩ : St)) fun t15 =>
dR (sliceV Try.prog 9 t13 (some t15) none) fun t16 =>
nilD a0 (dR (fieldAddrV Try.prog 88 a0 1) fun t17 =>
dR (fieldAddrV Try.prog 24 t17 2) fun t18 =>
dR (loadV Try.prog 3 t18 (⟨S4.next + 49, S4.heap⟩ : St)) fun t19 =>
nilD a0 (dR (fieldAddrV Try.prog 88 a0 1) fun t20 =>
dR (fieldAddrV Try.prog 24 t20 3) fun t21 =>
dR (loadV Try.prog 3 t21 (⟨S4.next + 49, S4.heap⟩ : St)) fun t22 =>
nilD a0 (dR (fieldAddrV Try.prog 88 a0 1) fun t23 =>
dR (fieldAddrV Try.prog 24 t23 4) fun t24 =>
dR (loadV Try.prog 3 t24 (⟨S4.next + 49, S4.heap⟩ : St)) fun t25 =>
dR (fieldAddrV Try.prog 84 (.ptr r3.1 0 0 0) 2) fun t26 =>
dR (loadV Try.prog 3 t26 (⟨S4.next + 49, S4.heap⟩ : St)) fun t27 =>
nilD a0 (dR (fieldAddrV Try.prog 88 a0 1) fun t28 =>
dR (fieldAddrV Try.prog 24 t28 5) fun t29 =>
dR (loadV Try.prog 9 t29 (⟨S4.next + 49, S4.heap⟩ : St)) fun t30 =>
dR (lenV Try.prog 9 t30 (⟨S4.next + 49, S4.heap⟩ : St)) fun t31 =>
dR (lenV Try.prog 9 t16 (⟨S4.next + 49, S4.heap⟩ : St)) fun t32 =>
dR (minV [t32, (.int .i64 600)]) fun t33 =>
dR (sliceV Try.prog 9 t16 none (some t33)) fun t34 =>
dR (buildV Try.prog 37 [(0, (.int .i64 5)), (2, a1), (4, t19), (5, t22), (7, t25), (8, t27), (9, t31), (11, t34)]) fun t35 =>
C 86 [a0, t35] (⟨S4.next + 49, S4.heap⟩ : St) fun t36 S37 =>
K (.tup []) S37)))))) (nilD a0 (dR (fieldAddrV Try.prog 88 a0 1) fun t38 =>
dR (fieldAddrV Try.prog 24 t38 6) fun t39 =>
dR (loadV Try.prog 22 t39 (⟨S4.next + 24, S4.heap⟩ : St)) fun t40 =>
dR (fieldAddrV Try.prog 84 (.ptr r3.1 0 0 0) 0) fun t41 =>
dR (loadV Try.prog 3 t41 (⟨S4.next + 24, S4.heap⟩ : St)) fun t42 =>
nilD a0 (dR (fieldAddrV Try.prog 88 a0 1) fun t43 =>
dR (fieldAddrV Try.prog 24 t43 2) fun t44 =>
dR (loadV Try.prog 3 t44 (⟨S4.next + 24, S4.heap⟩ : St)) fun t45 =>
dR (binV Try.prog .sub 3 t42 t45) fun t46 =>
dR (binV Try.prog .sub 3 t46 (.int .i64 1)) fun t47 =>
dR (sliceV Try.prog 22 t40 (some t47) none) fun t48 =>
dR (lenV Try.prog 22 t48 (⟨S4.next + 24, S4.heap⟩ : St)) fun t49 =>
dR (minV [t49, (.int .i64 8)]) fun t50 =>
dR (sliceV Try.prog 22 t48 none (some t50)) fun t51 =>
dR (appendV Try.prog 22 (.nils) t51 none (⟨S4.next + 24, S4.heap⟩ : St)) fun r52 =>
dR (fieldAddrV Try.prog 84 (.ptr r3.1 0 0 0) 0) fun t53 =>
dR (loadV Try.prog 3 t53 (⟨r52.2.next + 17, r52.2.heap⟩ : St)) fun t54 =>
dR (binV Try.prog .sub 3 t54 (.int .i64 1)) fun t55 =>
dR (fieldAddrV Try.prog 84 (.ptr r3.1 0 0 0) 0) fun t56 =>
dR (loadV Try.prog 3 t56 (⟨r52.2.next + 17, r52.2.heap⟩ : St)) fun t57 =>
dR (binV Try.prog .sub 3 t57 (.int .i64 1)) fun t58 =>
nilD a0 (dR (fieldAddrV Try.prog 88 a0 4) fun t59 =>
dR (loadV Try.prog 3 t59 (⟨r52.2.next + 17, r52.2.heap⟩ : St)) fun t60 =>
C 62 [a0, t58] (⟨r52.2.next + 17, r52.2.heap⟩ : St) fun t61 S62 =>
dR (loadV Try.prog 3 t59 S62) fun t63 =>
dIf (beqV t60 t63) (dR (loadV Try.prog 3 t53 S62) fun t64 =>
dIf (beqV t54 t64) (dR (buildV Try.prog 37 [(0, (.int .i64 3)), (2, a1), (4, t55), (5, t61), (12, r52.1), (6, t60)]) fun t65 =>
C 86 [a0, t65] S62 fun t66 S67 =>
K (.tup []) S67))))))))
theorem m83_eq : (fun (k : Nat) (a0 a1 : V) (S : St) (K : KS) => callD Try.prog dPl dLv (k + 1) 83 [a0, a1] S K) = fun k a0 a1 S K => m83 (callD Try.prog dPl dLv k) k a0 a1 S K := by kernel_rfl
noncomputable def m84 (C : CallD) (k : Nat) (a0 a1 : V) (S : St) (K : KS) : An :=
C 92 [a0] S fun t0 S1 =>
pickD t0 (dR (binV Try.prog .and 3 a0 a1) fun t2 =>
C 93 [t2] S1 fun t3 S4 =>
dR (binV Try.prog .mul 3 (.int .i64 2) t3) fun t5 =>
C 93 [a0] S4 fun t6 S7 =>
dR (binV Try.prog .gtr 3 t5 t6) fun t8 =>
K t8 S7) (K (.bool false) S1)
theorem m84_eq : (fun (k : Nat) (a0 a1 : V) (S : St) (K : KS) => callD Try.prog dPl dLv (k + 1) 84 [a0, a1] S K) = fun k a0 a1 S K => m84 (callD Try.prog dPl dLv k) k a0 a1 S K := by kernel_rfl
noncomputable def m85_j0 (C : CallD) (k : Nat) (K : KS) (p0 p40 : V) (S : St) : An :=
pickD p40 (nilD p0 (dR (fieldAddrV Try.prog 88 p0 1) fun t17 =>
dR (fieldAddrV Try.prog 24 t17 6) fun t18 =>
dR (loadV Try.prog 22 t18 (⟨S.next + 18, S.heap⟩ : St)) fun t19 =>
nilD p0 (dR (fieldAddrV Try.prog 88 p0 1) fun t20 =>
dR (fieldAddrV Try.prog 24 t20 0) fun t21 =>
dR (loadV Try.prog 3 t21 (⟨S.next + 18, S.heap⟩ : St)) fun t22 =>
dR (buildV Try.prog 59 [(0, t22)]) fun t23 =>
dR (buildSliceV Try.prog 22 1 [(0, t23)] (some (S.next + 12)) (⟨S.next + 18, S.heap⟩ : St)) fun r24 =>
dR (appendV Try.prog 22 t19 r24.1 (some (S.next + 13)) r24.2) fun r25 =>
nilD p0 (dR (fieldAddrV Try.prog 88 p0 1) fun t26 =>
dR (fieldAddrV Try.prog 24 t26 6) fun t27 =>
dR (storeV Try.prog 22 t27 r25.1 r25.2) fun S28 =>
C 60 [p0] S28 fun t29 S30 =>
K (.tup []) S30)))) (C 60 [p0] S fun t31 S32 =>
K (.tup []) S32)
noncomputable def m85_l0 (C : CallD) (k : Nat) (K : KS) (p0 : V) (vs : List V) (S : St) (again0 : List V → St → An) : An :=
unD vs fun x16 vs =>
dR (binV Try.prog .lss 3 x16 (.int .i64 7)) fun t8 =>
pickD t8 (nilD p0 (dR (fieldAddrV Try.prog 88 p0 8) fun t9 =>
C 46 [p0] (⟨S.next + 10, S.heap⟩ : St) fun t10 S11 =>
dR (binV Try.prog .add 3 t10 (.int .i64 1)) fun t12 =>
dR (buildV Try.prog 84 [(0, t12)]) fun t13 =>
dR (indexAddrV Try.prog 85 t9 x16) fun t14 =>
dR (storeV Try.prog 84 t14 t13 S11) fun S15 =>
dR (binV Try.prog .add 3 x16 (.int .i64 1)) fun t16 =>
again0 [t16] S15)) (C 46 [p0] S fun t33 S34 =>
dR (binV Try.prog .lss 3 t33 (.int .i64 1099511627776)) fun t35 =>
pickD t35 (nilD p0 (dR (fieldAddrV Try.prog 88 p0 1) fun t36 =>
dR (fieldAddrV Try.prog 24 t36 6) fun t37 =>
dR (loadV Try.prog 22 t37 S34) fun t38 =>
dR (lenV Try.prog 22 t38 S34) fun t39 =>
dR (binV Try.prog .lss 3 t39 (.int .i64 200)) fun t40 =>
m85_j0 C k K p0 t40 S34)) (m85_j0 C k K p0 (.bool false) S34))
noncomputable def m85 (C : CallD) (k : Nat) (a0 : V) (S : St) (K : KS) : An :=
nilD a0 (dR (fieldAddrV Try.prog 88 a0 0) fun t0 =>
dR (loadV Try.prog 3 t0 S) fun t1 =>
nilD a0 (dR (fieldAddrV Try.prog 88 a0 2) fun t2 =>
dR (storeV Try.prog 3 t2 (.int .i64 3) S) fun S3 =>
nilD a0 (dR (fieldAddrV Try.prog 88 a0 3) fun t4 =>
dR (storeV Try.prog 3 t4 t1 S3) fun S5 =>
nilD a0 (dR (fieldAddrV Try.prog 88 a0 6) fun t6 =>
dR (storeV Try.prog 3 t6 (.int .i64 3) S5) fun S7 =>
loopD k [(.int .i64 0)] S7 (m85_l0 C k K a0)))))
theorem m85_eq : (fun (k : Nat) (a0 : V) (S : St) (K : KS) => callD Try.prog dPl dLv (k + 1) 85 [a0] S K) = fun k a0 S K => m85 (callD Try.prog dPl dLv k) k a0 S K := by kernel_rfl
noncomputable def m86 (C : CallD) (k : Nat) (a0 a1 : V) (S : St) (K : KS) : An :=
dIf (allOne (a1 : V).cells) (dR (newBlk none S (.row 0 (a1 : V).cells.length [(a1 : V).cells])) fun r0 =>
nilD a0 (dR (fieldAddrV Try.prog 88 a0 0) fun t1 =>
dR (loadV Try.prog 3 t1 (⟨r0.2.next + 13, r0.2.heap⟩ : St)) fun t2 =>
nilD a0 (dR (fieldAddrV Try.prog 88 a0 1) fun t3 =>
dR (fieldAddrV Try.prog 24 t3 0) fun t4 =>
dR (loadV Try.prog 3 t4 (⟨r0.2.next + 13, r0.2.heap⟩ : St)) fun t5 =>
dR (fieldAddrV Try.prog 37 (.ptr r0.1 0 0 0) 1) fun t6 =>
dR (storeV Try.prog 3 t6 t2 (⟨r0.2.next + 13, r0.2.heap⟩ : St)) fun S7 =>
dR (loadV Try.prog 3 t4 S7) fun t8 =>
dIf (beqV t5 t8) (dR (fieldAddrV Try.prog 37 (.ptr r0.1 0 0 0) 3) fun t9 =>
dR (storeV Try.prog 3 t9 t5 S7) fun S10 =>
nilD a0 (dR (fieldAddrV Try.prog 88 a0 10) fun t11 =>
dR (loadV Try.prog 43 t11 (⟨S10.next + 11, S10.heap⟩ : St)) fun t12 =>
dR (loadV Try.prog 37 (.ptr r0.1 0 0 0) (⟨S10.next + 11, S10.heap⟩ : St)) fun t13 =>
dR (buildSliceV Try.prog 43 1 [(0, t13)] (some (S10.next + 6)) (⟨S10.next + 11, S10.heap⟩ : St)) fun r14 =>
dR (appendV Try.prog 43 t12 r14.1 (some (S10.next + 7)) r14.2) fun r15 =>
nilD a0 (dR (fieldAddrV Try.prog 88 a0 10) fun t16 =>
dR (storeV Try.prog 43 t16 r15.1 r15.2) fun S17 =>
K (.tup []) S17))))))
theorem m86_eq : (fun (k : Nat) (a0 a1 : V) (S : St) (K : KS) => callD Try.prog dPl dLv (k + 1) 86 [a0, a1] S K) = fun k a0 a1 S K => m86 (callD Try.prog dPl dLv k) k a0 a1 S K := by kernel_rfl
noncomputable def m87 (C : CallD) (k : Nat) (a0 : V) (S : St) (K : KS) : An :=
dIf (allOne (a0 : V).cells) (dR (newBlk none S (.row 0 (a0 : V).cells.length [(a0 : V).cells])) fun r0 =>
dR (loadV Try.prog 37 (.ptr r0.1 0 0 0) r0.2) fun t1 =>
C 102 [t1] r0.2 fun t2 S3 =>
dR (unV .not t2) fun t4 =>
pickD t4 (K (.bool false) S3) (dR (fieldAddrV Try.prog 37 (.ptr r0.1 0 0 0) 1) fun t5 =>
dR (loadV Try.prog 3 t5 S3) fun t6 =>
C 103 [t6, (.int .i64 0), (.int .i64 6)] S3 fun t7 S8 =>
dR (unV .not t7) fun t9 =>
pickD t9 (K (.bool false) S8) (dR (fieldAddrV Try.prog 37 (.ptr r0.1 0 0 0) 2) fun t10 =>
dR (loadV Try.prog 3 t10 S8) fun t11 =>
C 103 [t11, (.int .i64 0), (.int .i64 6)] S8 fun t12 S13 =>
dR (unV .not t12) fun t14 =>
pickD t14 (K (.bool false) S13) (dR (fieldAddrV Try.prog 37 (.ptr r0.1 0 0 0) 1) fun t15 =>
dR (loadV Try.prog 3 t15 S13) fun t16 =>
dR (fieldAddrV Try.prog 37 (.ptr r0.1 0 0 0) 2) fun t17 =>
dR (loadV Try.prog 3 t17 S13) fun t18 =>
dIf (guardP Try.prog 3 t16 t18) (dR (binV Try.prog .eql 3 t16 t18) fun t19 =>
pickD t19 (K (.bool false) S13) (dR (fieldAddrV Try.prog 37 (.ptr r0.1 0 0 0) 3) fun t20 =>
dR (loadV Try.prog 3 t20 S13) fun t21 =>
C 103 [t21, (.int .i64 1), (.int .i64 1099511627776)] S13 fun t22 S23 =>
dR (unV .not t22) fun t24 =>
pickD t24 (K (.bool false) S23) (dR (fieldAddrV Try.prog 37 (.ptr r0.1 0 0 0) 4) fun t25 =>
dR (loadV Try.prog 3 t25 S23) fun t26 =>
C 103 [t26, (.int .i64 0), (.int .i64 1099511627776)] S23 fun t27 S28 =>
dR (unV .not t27) fun t29 =>
pickD t29 (K (.bool false) S28) (dR (fieldAddrV Try.prog 37 (.ptr r0.1 0 0 0) 5) fun t30 =>
dR (loadV Try.prog 3 t30 S28) fun t31 =>
dR (fieldAddrV Try.prog 37 (.ptr r0.1 0 0 0) 3) fun t32 =>
dR (loadV Try.prog 3 t32 S28) fun t33 =>
C 103 [t31, (.int .i64 0), t33] S28 fun t34 S35 =>
dR (unV .not t34) fun t36 =>
pickD t36 (K (.bool false) S35) (dR (fieldAddrV Try.prog 37 (.ptr r0.1 0 0 0) 6) fun t37 =>
dR (loadV Try.prog 3 t37 S35) fun t38 =>
C 103 [t38, (.int .i64 0), (.int .i64 1099511627776)] S35 fun t39 S40 =>
dR (unV .not t39) fun t41 =>
pickD t41 (K (.bool false) S40) (dR (fieldAddrV Try.prog 37 (.ptr r0.1 0 0 0) 0) fun t42 =>
dR (loadV Try.prog 3 t42 S40) fun t43 =>
dIf (guardP Try.prog 3 t43 (.int .i64 1)) (dR (binV Try.prog .eql 3 t43 (.int .i64 1)) fun t44 =>
pickD t44 (dR (fieldAddrV Try.prog 37 (.ptr r0.1 0 0 0) 5) fun t45 =>
dR (loadV Try.prog 3 t45 S40) fun t46 =>
dIf (guardP Try.prog 3 t46 (.int .i64 0)) (dR (binV Try.prog .eql 3 t46 (.int .i64 0)) fun t47 =>
dR (fieldAddrV Try.prog 37 (.ptr r0.1 0 0 0) 4) fun t48 =>
dR (loadV Try.prog 3 t48 S40) fun t49 =>
dIf (guardP Try.prog 3 t49 (.int .i64 0)) (dR (binV Try.prog .eql 3 t49 (.int .i64 0)) fun t50 =>
dIf (guardP Try.prog 4 t47 t50) (dR (binV Try.prog .eql 4 t47 t50) fun t51 =>
K t51 S40)))) (dIf (guardP Try.prog 3 t43 (.int .i64 3)) (dR (binV Try.prog .eql 3 t43 (.int .i64 3)) fun t52 =>
pickD t52 (dR (fieldAddrV Try.prog 37 (.ptr r0.1 0 0 0) 5) fun t53 =>
dR (loadV Try.prog 3 t53 S40) fun t54 =>
dIf (guardP Try.prog 3 t54 (.int .i64 0)) (dR (binV Try.prog .eql 3 t54 (.int .i64 0)) fun t55 =>
dR (fieldAddrV Try.prog 37 (.ptr r0.1 0 0 0) 4) fun t56 =>
dR (loadV Try.prog 3 t56 S40) fun t57 =>
dIf (guardP Try.prog 3 t57 (.int .i64 0)) (dR (binV Try.prog .eql 3 t57 (.int .i64 0)) fun t58 =>
dIf (guardP Try.prog 4 t55 t58) (dR (binV Try.prog .eql 4 t55 t58) fun t59 =>
pickD t59 (dR (loadV Try.prog 37 (.ptr r0.1 0 0 0) S40) fun t60 =>
C 104 [t60] S40 fun t61 S62 =>
K t61 S62) (K (.bool false) S40))))) (dIf (guardP Try.prog 3 t43 (.int .i64 5)) (dR (binV Try.prog .eql 3 t43 (.int .i64 5)) fun t63 =>
pickD t63 (dR (loadV Try.prog 37 (.ptr r0.1 0 0 0) S40) fun t64 =>
C 105 [t64] S40 fun t65 S66 =>
K t65 S66) (dIf (guardP Try.prog 3 t43 (.int .i64 6)) (dR (binV Try.prog .eql 3 t43 (.int .i64 6)) fun t67 =>
pickD t67 (dR (fieldAddrV Try.prog 37 (.ptr r0.1 0 0 0) 4) fun t68 =>
dR (loadV Try.prog 3 t68 S40) fun t69 =>
dIf (guardP Try.prog 3 t69 (.int .i64 0)) (dR (binV Try.prog .neq 3 t69 (.int .i64 0)) fun t70 =>
pickD t70 (dR (fieldAddrV Try.prog 37 (.ptr r0.1 0 0 0) 8) fun t71 =>
dR (loadV Try.prog 3 t71 S40) fun t72 =>
C 103 [t72, (.int .i64 0), (.int .i64 65536)] S40 fun t73 S74 =>
K t73 S74) (K (.bool false) S40))) (K (.bool true) S40))))))))))))))))))
theorem m87_eq : (fun (k : Nat) (a0 : V) (S : St) (K : KS) => callD Try.prog dPl dLv (k + 1) 87 [a0] S K) = fun k a0 S K => m87 (callD Try.prog dPl dLv k) k a0 S K := by kernel_rfl
noncomputable def m88_l0 (C : CallD) (k : Nat) (K : KS) (p0 p3 p9 p10 : V) (vs : List V) (S : St) (again0 : List V → St → An) : An :=
unD vs fun x4 vs =>
unD vs fun x11 vs =>
dR (binV Try.prog .lss 3 x11 p10) fun t4 =>
pickD t4 (dR (indexAddrV Try.prog 22 p9 x11) fun t5 =>
dR (loadV Try.prog 59 t5 S) fun t6 =>
dR (newBlk none S (.row 0 3 [[.int .i64 0,.int .i64 0,.str []]])) fun r7 =>
dR (storeV Try.prog 59 (.ptr r7.1 0 0 0) t6 r7.2) fun S8 =>
dR (fieldAddrV Try.prog 37 p3 4) fun t9 =>
dR (loadV Try.prog 3 t9 S8) fun t10 =>
dR (binV Try.prog .add 3 t10 (.int .i64 1)) fun t11 =>
dR (binV Try.prog .add 3 t11 x11) fun t12 =>
nilD p0 (dR (fieldAddrV Try.prog 88 p0 1) fun t13 =>
dR (fieldAddrV Try.prog 24 t13 2) fun t14 =>
dR (loadV Try.prog 3 t14 (⟨S8.next + 23, S8.heap⟩ : St)) fun t15 =>
dR (binV Try.prog .geq 3 t12 t15) fun t16 =>
pickD t16 (nilD p0 (dR (fieldAddrV Try.prog 88 p0 4) fun t17 =>
dR (loadV Try.prog 3 t17 (⟨S8.next + 23, S8.heap⟩ : St)) fun t18 =>
dR (binV Try.prog .leq 3 t12 t18) fun t19 =>
pickD t19 (dR (fieldAddrV Try.prog 59 (.ptr r7.1 0 0 0) 0) fun t20 =>
dR (loadV Try.prog 3 t20 (⟨S8.next + 23, S8.heap⟩ : St)) fun t21 =>
C 62 [p0, t12] (⟨S8.next + 23, S8.heap⟩ : St) fun t22 S23 =>
dR (loadV Try.prog 3 t20 S23) fun t24 =>
dIf (beqV t21 t24) (dIf (guardP Try.prog 3 t22 t21) (dR (binV Try.prog .neq 3 t22 t21) fun t25 =>
pickD t25 (K (.bool true) S23) (dR (binV Try.prog .add 3 x11 (.int .i64 1)) fun t26 =>
again0 [x4, t26] S23)))) (dR (binV Try.prog .add 3 x11 (.int .i64 1)) fun t27 =>
again0 [x4, t27] (⟨S8.next + 23, S8.heap⟩ : St)))) (dR (binV Try.prog .add 3 x11 (.int .i64 1)) fun t28 =>
again0 [x4, t28] (⟨S8.next + 23, S8.heap⟩ : St)))) (K (.bool false) S)
noncomputable def m88 (C : CallD) (k : Nat) (a0 a1 : V) (S : St) (K : KS) : An :=
dIf (allOne (a1 : V).cells) (dR (newBlk none S (.row 0 (a1 : V).cells.length [(a1 : V).cells])) fun r0 =>
dR (fieldAddrV Try.prog 37 (.ptr r0.1 0 0 0) 12) fun t1 =>
dR (loadV Try.prog 22 t1 r0.2) fun t2 =>
dR (lenV Try.prog 22 t2 r0.2) fun t3 =>
loopD k [(.bool false), (.int .i64 0)] r0.2 (m88_l0 C k K a0 (.ptr r0.1 0 0 0) t2 t3))
theorem m88_eq : (fun (k : Nat) (a0 a1 : V) (S : St) (K : KS) => callD Try.prog dPl dLv (k + 1) 88 [a0, a1] S K) = fun k a0 a1 S K => m88 (callD Try.prog dPl dLv k) k a0 a1 S K := by kernel_rfl
noncomputable def m89 (C : CallD) (k : Nat) (a0 a1 : V) (S : St) (K : KS) : An :=
nilD a0 (dR (fieldAddrV Try.prog 88 a0 5) fun t0 =>
dR (loadV Try.prog 3 t0 S) fun t1 =>
nilD a0 (dR (fieldAddrV Try.prog 88 a0 2) fun t2 =>
dR (storeV Try.prog 3 t2 (.int .i64 1) S) fun S3 =>
nilD a0 (dR (fieldAddrV Try.prog 88 a0 3) fun t4 =>
dR (storeV Try.prog 3 t4 a1 S3) fun S5 =>
nilD a0 (dR (fieldAddrV Try.prog 88 a0 6) fun t6 =>
dR (storeV Try.prog 3 t6 t1 S5) fun S7 =>
K (.tup []) S7))))
theorem m89_eq : (fun (k : Nat) (a0 a1 : V) (S : St) (K : KS) => callD Try.prog dPl dLv (k + 1) 89 [a0, a1] S K) = fun k a0 a1 S K => m89 (callD Try.prog dPl dLv k) k a0 a1 S K := by kernel_rfl
noncomputable def m90_j0 (C : CallD) (k : Nat) (K : KS) (again0 : List V → St → An) (p0 p2 p3 p4 p57 : V) (S : St) : An :=
pickD p57 (nilD p0 (dR (fieldAddrV Try.prog 88 p0 4) fun t25 =>
dR (storeV Try.prog 3 t25 p4 S) fun S26 =>
dR (binV Try.prog .sub 3 p4 (.int .i64 1)) fun t27 =>
again0 [t27] S26)) (dR (binV Try.prog .sub 3 p4 (.int .i64 1)) fun t28 =>
again0 [t28] S)
noncomputable def m90_l1 (C : CallD) (k : Nat) (K : KS) (again0 : List V → St → An) (p0 p2 p3 p4 p29 : V) (vs : List V) (S : St) (again1 : List V → St → An) : An :=
unD vs fun x5 vs =>
unD vs fun x30 vs =>
dR (binV Try.prog .lss 3 x30 (.int .i64 7)) fun t13 =>
pickD t13 (dR (indexV Try.prog 85 p29 x30) fun t14 =>
dR (newBlk none S (.row 0 3 [[.int .i64 0,.int .i64 0,.int .i64 0]])) fun r15 =>
dR (storeV Try.prog 84 (.ptr r15.1 0 0 0) t14 r15.2) fun S16 =>
dR (fieldAddrV Try.prog 84 (.ptr r15.1 0 0 0) 1) fun t17 =>
dR (loadV Try.prog 3 t17 S16) fun t18 =>
dR (binV Try.prog .geq 3 t18 p4) fun t19 =>
pickD t19 (dR (convertV Try.prog 3 96 x30 none S16) fun r20 =>
dR (binV Try.prog .shl 3 (.int .i64 1) r20.1) fun t21 =>
dR (binV Try.prog .or 3 x5 t21) fun t22 =>
dR (binV Try.prog .add 3 x30 (.int .i64 1)) fun t23 =>
again1 [t22, t23] r20.2) (dR (binV Try.prog .add 3 x30 (.int .i64 1)) fun t24 =>
again1 [x5, t24] S16)) (nilD p0 (dR (fieldAddrV Try.prog 88 p0 1) fun t29 =>
dR (fieldAddrV Try.prog 24 t29 0) fun t30 =>
dR (loadV Try.prog 3 t30 (⟨S.next + 14, S.heap⟩ : St)) fun t31 =>
C 62 [p0, p4] (⟨S.next + 14, S.heap⟩ : St) fun t32 S33 =>
dR (loadV Try.prog 3 t30 S33) fun t34 =>
dIf (beqV t31 t34) (dIf (guardP Try.prog 3 t32 t31) (dR (binV Try.prog .eql 3 t32 t31) fun t35 =>
pickD t35 (C 84 [p2, x5] S33 fun t36 S37 =>
m90_j0 C k K again0 p0 p2 p3 p4 t36 S37) (m90_j0 C k K again0 p0 p2 p3 p4 (.bool false) S33)))))
noncomputable def m90_l0 (C : CallD) (k : Nat) (K : KS) (p0 p2 p3 : V) (vs : List V) (S : St) (again0 : List V → St → An) : An :=
unD vs fun x4 vs =>
nilD p0 (dR (fieldAddrV Try.prog 88 p0 4) fun t8 =>
dR (loadV Try.prog 3 t8 S) fun t9 =>
dR (binV Try.prog .gtr 3 x4 t9) fun t10 =>
pickD t10 (nilD p0 (dR (fieldAddrV Try.prog 88 p0 8) fun t11 =>
dR (loadV Try.prog 85 t11 S) fun t12 =>
loopD k [(.int .i64 0), (.int .i64 0)] S (m90_l1 C k K again0 p0 p2 p3 x4 t12))) (nilD p0 (dR (fieldAddrV Try.prog 88 p0 0) fun t38 =>
dR (loadV Try.prog 3 t38 S) fun t39 =>
C 50 [p2, t39] S fun t40 S41 =>
dR (unV .not t40) fun t42 =>
pickD t42 (nilD p0 (dR (fieldAddrV Try.prog 88 p0 4) fun t43 =>
dR (loadV Try.prog 3 t43 S41) fun t44 =>
dR (binV Try.prog .leq 3 p3 t44) fun t45 =>
pickD t45 (C 106 [p0] S41 fun t46 S47 =>
K (.tup []) S47) (K (.tup []) S41))) (K (.tup []) S41))))
noncomputable def m90 (C : CallD) (k : Nat) (a0 : V) (S : St) (K : KS) : An :=
nilD a0 (dR (fieldAddrV Try.prog 88 a0 1) fun t0 =>
dR (loadV Try.prog 24 t0 S) fun t1 =>
C 49 [t1] S fun t2 S3 =>
tupD t2 0 fun t4 =>
tupD t2 1 fun t5 =>
C 46 [a0] S3 fun t6 S7 =>
loopD k [t6] S7 (m90_l0 C k K a0 t4 t5))
theorem m90_eq : (fun (k : Nat) (a0 : V) (S : St) (K : KS) => callD Try.prog dPl dLv (k + 1) 90 [a0] S K) = fun k a0 S K => m90 (callD Try.prog dPl dLv k) k a0 S K := by kernel_rfl
noncomputable def m91_j0 (C : CallD) (k : Nat) (K : KS) (p0 p2 p4 p6 : V) (S : St) : An :=
dR (fieldAddrV Try.prog 37 p4 4) fun t1 =>
dR (loadV Try.prog 3 t1 (⟨S.next + 33, S.heap⟩ : St)) fun t2 =>
dR (fieldAddrV Try.prog 37 p4 5) fun t3 =>
dR (loadV Try.prog 3 t3 (⟨S.next + 33, S.heap⟩ : St)) fun t4 =>
dR (fieldAddrV Try.prog 37 p4 7) fun t5 =>
dR (loadV Try.prog 3 t5 (⟨S.next + 33, S.heap⟩ : St)) fun t6 =>
nilD p0 (dR (fieldAddrV Try.prog 88 p0 1) fun t7 =>
dR (fieldAddrV Try.prog 24 t7 2) fun t8 =>
dR (storeV Try.prog 3 t8 t2 (⟨S.next + 33, S.heap⟩ : St)) fun S9 =>
dR (loadV Try.prog 3 t5 S9) fun t10 =>
dIf (beqV t6 t10) (dR (loadV Try.prog 3 t3 S9) fun t11 =>
dIf (beqV t4 t11) (nilD p0 (dR (fieldAddrV Try.prog 88 p0 1) fun t12 =>
dR (fieldAddrV Try.prog 24 t12 3) fun t13 =>
dR (storeV Try.prog 3 t13 t4 S9) fun S14 =>
dR (loadV Try.prog 3 t5 S14) fun t15 =>
dIf (beqV t6 t15) (nilD p0 (dR (fieldAddrV Try.prog 88 p0 1) fun t16 =>
dR (fieldAddrV Try.prog 24 t16 4) fun t17 =>
dR (storeV Try.prog 3 t17 t6 S14) fun S18 =>
nilD p0 (dR (fieldAddrV Try.prog 88 p0 1) fun t19 =>
dR (fieldAddrV Try.prog 24 t19 5) fun t20 =>
dR (storeV Try.prog 9 t20 p2 S18) fun S21 =>
nilD p0 (dR (fieldAddrV Try.prog 88 p0 1) fun t22 =>
dR (fieldAddrV Try.prog 24 t22 6) fun t23 =>
dR (storeV Try.prog 22 t23 p6 S21) fun S24 =>
dR (fieldAddrV Try.prog 37 p4 4) fun t25 =>
dR (loadV Try.prog 3 t25 S24) fun t26 =>
nilD p0 (dR (fieldAddrV Try.prog 88 p0 4) fun t27 =>
dR (storeV Try.prog 3 t27 t26 S24) fun S28 =>
nilD p0 (dR (fieldAddrV Try.prog 88 p0 9) fun t29 =>
dR (storeV Try.prog 86 t29 (.nilp) S28) fun S30 =>
K (.tup []) S30))))))))))
noncomputable def m91_j1 (C : CallD) (k : Nat) (K : KS) (p0 p2 p4 p20 : V) (S : St) : An :=
pickD p20 (nilD p0 (dR (fieldAddrV Try.prog 88 p0 1) fun t31 =>
dR (fieldAddrV Try.prog 24 t31 6) fun t32 =>
dR (loadV Try.prog 22 t32 (⟨S.next + 17, S.heap⟩ : St)) fun t33 =>
dR (fieldAddrV Try.prog 37 p4 4) fun t34 =>
dR (loadV Try.prog 3 t34 (⟨S.next + 17, S.heap⟩ : St)) fun t35 =>
nilD p0 (dR (fieldAddrV Try.prog 88 p0 1) fun t36 =>
dR (fieldAddrV Try.prog 24 t36 2) fun t37 =>
dR (loadV Try.prog 3 t37 (⟨S.next + 17, S.heap⟩ : St)) fun t38 =>
dR (binV Try.prog .sub 3 t35 t38) fun t39 =>
dR (sliceV Try.prog 22 t33 (some t39) none) fun t40 =>
dR (appendV Try.prog 22 (.nils) t40 (some (S.next + 15)) (⟨S.next + 17, S.heap⟩ : St)) fun r41 =>
m91_j0 C k K p0 p2 p4 r41.1 r41.2))) (m91_j0 C k K p0 p2 p4 (.nils) S)
noncomputable def m91 (C : CallD) (k : Nat) (a0 a1 a2 : V) (S : St) (K : KS) : An :=
dIf (allOne (a1 : V).cells) (dR (newBlk none S (.row 0 (a1 : V).cells.length [(a1 : V).cells])) fun r0 =>
dR (fieldAddrV Try.prog 37 (.ptr r0.1 0 0 0) 4) fun t42 =>
dR (loadV Try.prog 3 t42 (⟨r0.2.next + 14, r0.2.heap⟩ : St)) fun t43 =>
C 46 [a0] (⟨r0.2.next + 14, r0.2.heap⟩ : St) fun t44 S45 =>
dR (loadV Try.prog 3 t42 S45) fun t46 =>
dIf (beqV t43 t46) (dR (binV Try.prog .leq 3 t43 t44) fun t47 =>
pickD t47 (dR (fieldAddrV Try.prog 37 (.ptr r0.1 0 0 0) 4) fun t48 =>
dR (loadV Try.prog 3 t48 S45) fun t49 =>
dR (fieldAddrV Try.prog 37 (.ptr r0.1 0 0 0) 5) fun t50 =>
dR (loadV Try.prog 3 t50 S45) fun t51 =>
C 62 [a0, t49] S45 fun t52 S53 =>
dR (loadV Try.prog 3 t50 S53) fun t54 =>
dIf (beqV t51 t54) (dIf (guardP Try.prog 3 t52 t51) (dR (binV Try.prog .eql 3 t52 t51) fun t55 =>
m91_j1 C k K a0 a2 (.ptr r0.1 0 0 0) t55 S53))) (m91_j1 C k K a0 a2 (.ptr r0.1 0 0 0) (.bool false) S45)))
theorem m91_eq : (fun (k : Nat) (a0 a1 a2 : V) (S : St) (K : KS) => callD Try.prog dPl dLv (k + 1) 91 [a0, a1, a2] S K) = fun k a0 a1 a2 S K => m91 (callD Try.prog dPl dLv k) k a0 a1 a2 S K := by kernel_rfl
noncomputable def m92 (C : CallD) (k : Nat) (a0 : V) (S : St) (K : KS) : An :=
dR (binV Try.prog .geq 3 a0 (.int .i64 1)) fun t0 =>
pickD t0 (dR (binV Try.prog .leq 3 a0 (.int .i64 127)) fun t1 =>
K t1 S) (K (.bool false) S)
theorem m92_eq : (fun (k : Nat) (a0 : V) (S : St) (K : KS) => callD Try.prog dPl dLv (k + 1) 92 [a0] S K) = fun k a0 S K => m92 (callD Try.prog dPl dLv k) k a0 S K := by kernel_rfl
noncomputable def m93 (C : CallD) (k : Nat) (a0 : V) (S : St) (K : KS) : An :=
C 101 [a0] S fun t0 S1 =>
dR (lenV Try.prog 68 t0 S1) fun t2 =>
K t2 S1
theorem m93_eq : (fun (k : Nat) (a0 : V) (S : St) (K : KS) => callD Try.prog dPl dLv (k + 1) 93 [a0] S K) = fun k a0 S K => m93 (callD Try.prog dPl dLv k) k a0 S K := by kernel_rfl
noncomputable def m95 (C : CallD) (k : Nat) (a0 a1 a2 : V) (S : St) (K : KS) : An :=
dIf (allOne (a0 : V).cells) (dR (newBlk none S (.row 0 (a0 : V).cells.length [(a0 : V).cells])) fun r0 =>
dR (fieldAddrV Try.prog 59 (.ptr r0.1 0 0 0) 0) fun t1 =>
dR (loadV Try.prog 3 t1 r0.2) fun t2 =>
dR (binV Try.prog .lss 3 t2 (.int .i64 1)) fun t3 =>
pickD t3 (K (.bool false) r0.2) (dR (fieldAddrV Try.prog 59 (.ptr r0.1 0 0 0) 0) fun t4 =>
dR (loadV Try.prog 3 t4 r0.2) fun t5 =>
dR (binV Try.prog .lss 3 t5 a1) fun t6 =>
pickD t6 (K (.bool false) r0.2) (dR (fieldAddrV Try.prog 59 (.ptr r0.1 0 0 0) 0) fun t7 =>
dR (loadV Try.prog 3 t7 r0.2) fun t8 =>
dR (binV Try.prog .gtr 3 t8 a2) fun t9 =>
pickD t9 (K (.bool false) r0.2) (dR (fieldAddrV Try.prog 59 (.ptr r0.1 0 0 0) 1) fun t10 =>
dR (loadV Try.prog 3 t10 r0.2) fun t11 =>
dR (binV Try.prog .lss 3 t11 (.int .i64 0)) fun t12 =>
pickD t12 (K (.bool false) r0.2) (dR (fieldAddrV Try.prog 59 (.ptr r0.1 0 0 0) 1) fun t13 =>
dR (loadV Try.prog 3 t13 r0.2) fun t14 =>
dR (binV Try.prog .gtr 3 t14 (.int .i64 127)) fun t15 =>
pickD t15 (K (.bool false) r0.2) (dR (fieldAddrV Try.prog 59 (.ptr r0.1 0 0 0) 2) fun t16 =>
dR (loadV Try.prog 9 t16 r0.2) fun t17 =>
dR (lenV Try.prog 9 t17 r0.2) fun t18 =>
dR (binV Try.prog .leq 3 t18 (.int .i64 1100)) fun t19 =>
pickD t19 (dR (fieldAddrV Try.prog 59 (.ptr r0.1 0 0 0) 1) fun t20 =>
dR (loadV Try.prog 3 t20 r0.2) fun t21 =>
dIf (guardP Try.prog 3 t21 (.int .i64 0)) (dR (binV Try.prog .eql 3 t21 (.int .i64 0)) fun t22 =>
pickD t22 (K (.bool true) r0.2) (dR (fieldAddrV Try.prog 59 (.ptr r0.1 0 0 0) 2) fun t23 =>
dR (loadV Try.prog 9 t23 r0.2) fun t24 =>
dIf (guardP Try.prog 9 t24 (.str [])) (dR (binV Try.prog .eql 9 t24 (.str [])) fun t25 =>
K t25 r0.2)))) (K (.bool false) r0.2)))))))
theorem m95_eq : (fun (k : Nat) (a0 a1 a2 : V) (S : St) (K : KS) => callD Try.prog dPl dLv (k + 1) 95 [a0, a1, a2] S K) = fun k a0 a1 a2 S K => m95 (callD Try.prog dPl dLv k) k a0 a1 a2 S K := by kernel_rfl
noncomputable def m101_l0 (C : CallD) (k : Nat) (K : KS) (p0 : V) (vs : List V) (S : St) (again0 : List V → St → An) : An :=
unD vs fun x3 vs =>
unD vs fun x5 vs =>
dR (binV Try.prog .lss 3 x5 (.int .i64 7)) fun t0 =>
pickD t0 (C 50 [p0, x5] S fun t1 S2 =>
pickD t1 (dR (buildSliceV Try.prog 68 1 [(0, x5)] none S2) fun r3 =>
dR (appendV Try.prog 68 x3 r3.1 none r3.2) fun r4 =>
dR (binV Try.prog .add 3 x5 (.int .i64 1)) fun t5 =>
again0 [r4.1, t5] r4.2) (dR (binV Try.prog .add 3 x5 (.int .i64 1)) fun t6 =>
again0 [x3, t6] S2)) (K x3 S)
noncomputable def m101 (C : CallD) (k : Nat) (a0 : V) (S : St) (K : KS) : An :=
loopD k [(.nils), (.int .i64 0)] S (m101_l0 C k K a0)
theorem m101_eq : (fun (k : Nat) (a0 : V) (S : St) (K : KS) => callD Try.prog dPl dLv (k + 1) 101 [a0] S K) = fun k a0 S K => m101 (callD Try.prog dPl dLv k) k a0 S K := by kernel_rfl
noncomputable def m102 (C : CallD) (k : Nat) (a0 : V) (S : St) (K : KS) : An :=
dIf (allOne (a0 : V).cells) (dR (newBlk none S (.row 0 (a0 : V).cells.length [(a0 : V).cells])) fun r0 =>
dR (fieldAddrV Try.prog 37 (.ptr r0.1 0 0 0) 0) fun t1 =>
dR (loadV Try.prog 3 t1 r0.2) fun t2 =>
dIf (guardP Try.prog 3 t2 (.int .i64 1)) (dR (binV Try.prog .eql 3 t2 (.int .i64 1)) fun t3 =>
pickD t3 (dR (loadV Try.prog 37 (.ptr r0.1 0 0 0) r0.2) fun t4 =>
dR (fieldAddrV Try.prog 37 (.ptr r0.1 0 0 0) 4) fun t5 =>
dR (loadV Try.prog 3 t5 r0.2) fun t6 =>
dR (fieldAddrV Try.prog 37 (.ptr r0.1 0 0 0) 5) fun t7 =>
dR (loadV Try.prog 3 t7 r0.2) fun t8 =>
dR (buildV Try.prog 37 [(4, t6), (5, t8)]) fun t9 =>
C 107 [t4, t9] r0.2 fun t10 S11 =>
K t10 S11) (dIf (guardP Try.prog 3 t2 (.int .i64 2)) (dR (binV Try.prog .eql 3 t2 (.int .i64 2)) fun t12 =>
pickD t12 (dR (loadV Try.prog 37 (.ptr r0.1 0 0 0) r0.2) fun t13 =>
dR (fieldAddrV Try.prog 37 (.ptr r0.1 0 0 0) 10) fun t14 =>
dR (loadV Try.prog 4 t14 r0.2) fun t15 =>
dR (buildV Try.prog 37 [(10, t15)]) fun t16 =>
C 107 [t13, t16] r0.2 fun t17 S18 =>
K t17 S18) (dIf (guardP Try.prog 3 t2 (.int .i64 3)) (dR (binV Try.prog .eql 3 t2 (.int .i64 3)) fun t19 =>
pickD t19 (dR (loadV Try.prog 37 (.ptr r0.1 0 0 0) r0.2) fun t20 =>
dR (fieldAddrV Try.prog 37 (.ptr r0.1 0 0 0) 4) fun t21 =>
dR (loadV Try.prog 3 t21 r0.2) fun t22 =>
dR (fieldAddrV Try.prog 37 (.ptr r0.1 0 0 0) 5) fun t23 =>
dR (loadV Try.prog 3 t23 r0.2) fun t24 =>
dR (fieldAddrV Try.prog 37 (.ptr r0.1 0 0 0) 12) fun t25 =>
dR (loadV Try.prog 22 t25 r0.2) fun t26 =>
dR (fieldAddrV Try.prog 37 (.ptr r0.1 0 0 0) 6) fun t27 =>
dR (loadV Try.prog 3 t27 r0.2) fun t28 =>
dR (buildV Try.prog 37 [(4, t22), (5, t24), (12, t26), (6, t28)]) fun t29 =>
C 107 [t20, t29] r0.2 fun t30 S31 =>
K t30 S31) (dIf (guardP Try.prog 3 t2 (.int .i64 4)) (dR (binV Try.prog .eql 3 t2 (.int .i64 4)) fun t32 =>
pickD t32 (dR (loadV Try.prog 37 (.ptr r0.1 0 0 0) r0.2) fun t33 =>
dR (fieldAddrV Try.prog 37 (.ptr r0.1 0 0 0) 10) fun t34 =>
dR (loadV Try.prog 4 t34 r0.2) fun t35 =>
dR (fieldAddrV Try.prog 37 (.ptr r0.1 0 0 0) 4) fun t36 =>
dR (loadV Try.prog 3 t36 r0.2) fun t37 =>
dR (buildV Try.prog 37 [(10, t35), (4, t37)]) fun t38 =>
C 107 [t33, t38] r0.2 fun t39 S40 =>
K t39 S40) (dIf (guardP Try.prog 3 t2 (.int .i64 5)) (dR (binV Try.prog .eql 3 t2 (.int .i64 5)) fun t41 =>
pickD t41 (dR (loadV Try.prog 37 (.ptr r0.1 0 0 0) r0.2) fun t42 =>
dR (fieldAddrV Try.prog 37 (.ptr r0.1 0 0 0) 4) fun t43 =>
dR (loadV Try.prog 3 t43 r0.2) fun t44 =>
dR (fieldAddrV Try.prog 37 (.ptr r0.1 0 0 0) 5) fun t45 =>
dR (loadV Try.prog 3 t45 r0.2) fun t46 =>
dR (fieldAddrV Try.prog 37 (.ptr r0.1 0 0 0) 7) fun t47 =>
dR (loadV Try.prog 3 t47 r0.2) fun t48 =>
dR (fieldAddrV Try.prog 37 (.ptr r0.1 0 0 0) 8) fun t49 =>
dR (loadV Try.prog 3 t49 r0.2) fun t50 =>
dR (fieldAddrV Try.prog 37 (.ptr r0.1 0 0 0) 9) fun t51 =>
dR (loadV Try.prog 3 t51 r0.2) fun t52 =>
dR (fieldAddrV Try.prog 37 (.ptr r0.1 0 0 0) 11) fun t53 =>
dR (loadV Try.prog 9 t53 r0.2) fun t54 =>
dR (buildV Try.prog 37 [(4, t44), (5, t46), (7, t48), (8, t50), (9, t52), (11, t54)]) fun t55 =>
C 107 [t42, t55] r0.2 fun t56 S57 =>
K t56 S57) (dIf (guardP Try.prog 3 t2 (.int .i64 6)) (dR (binV Try.prog .eql 3 t2 (.int .i64 6)) fun t58 =>
pickD t58 (dR (loadV Try.prog 37 (.ptr r0.1 0 0 0) r0.2) fun t59 =>
dR (fieldAddrV Try.prog 37 (.ptr r0.1 0 0 0) 4) fun t60 =>
dR (loadV Try.prog 3 t60 r0.2) fun t61 =>
dR (fieldAddrV Try.prog 37 (.ptr r0.1 0 0 0) 8) fun t62 =>
dR (loadV Try.prog 3 t62 r0.2) fun t63 =>
dR (buildV Try.prog 37 [(4, t61), (8, t63)]) fun t64 =>
C 107 [t59, t64] r0.2 fun t65 S66 =>
K t65 S66) (K (.bool false) r0.2)))))))))))))
theorem m102_eq : (fun (k : Nat) (a0 : V) (S : St) (K : KS) => callD Try.prog dPl dLv (k + 1) 102 [a0] S K) = fun k a0 S K => m102 (callD Try.prog dPl dLv k) k a0 S K := by kernel_rfl
noncomputable def m103 (C : CallD) (k : Nat) (a0 a1 a2 : V) (S : St) (K : KS) : An :=
dR (binV Try.prog .geq 3 a0 a1) fun t0 =>
pickD t0 (dR (binV Try.prog .leq 3 a0 a2) fun t1 =>
K t1 S) (K (.bool false) S)
theorem m103_eq : (fun (k : Nat) (a0 a1 a2 : V) (S : St) (K : KS) => callD Try.prog dPl dLv (k + 1) 103 [a0, a1, a2] S K) = fun k a0 a1 a2 S K => m103 (callD Try.prog dPl dLv k) k a0 a1 a2 S K := by kernel_rfl
noncomputable def m104 (C : CallD) (k : Nat) (a0 : V) (S : St) (K : KS) : An :=
dIf (allOne (a0 : V).cells) (dR (newBlk none S (.row 0 (a0 : V).cells.length [(a0 : V).cells])) fun r0 =>
dR (fieldAddrV Try.prog 37 (.ptr r0.1 0 0 0) 12) fun t1 =>
dR (loadV Try.prog 22 t1 r0.2) fun t2 =>
dR (lenV Try.prog 22 t2 r0.2) fun t3 =>
dR (binV Try.prog .gtr 3 t3 (.int .i64 8)) fun t4 =>
pickD t4 (K (.bool false) r0.2) (dR (fieldAddrV Try.prog 37 (.ptr r0.1 0 0 0) 12) fun t5 =>
dR (loadV Try.prog 22 t5 r0.2) fun t6 =>
dR (lenV Try.prog 22 t6 r0.2) fun t7 =>
dR (fieldAddrV Try.prog 37 (.ptr r0.1 0 0 0) 4) fun t8 =>
dR (loadV Try.prog 3 t8 r0.2) fun t9 =>
dR (binV Try.prog .sub 3 (.int .i64 1099511627776) t9) fun t10 =>
dR (binV Try.prog .gtr 3 t7 t10) fun t11 =>
pickD t11 (K (.bool false) r0.2) (dR (fieldAddrV Try.prog 37 (.ptr r0.1 0 0 0) 3) fun t12 =>
dR (loadV Try.prog 3 t12 r0.2) fun t13 =>
dR (fieldAddrV Try.prog 37 (.ptr r0.1 0 0 0) 4) fun t14 =>
dR (loadV Try.prog 3 t14 r0.2) fun t15 =>
dR (fieldAddrV Try.prog 37 (.ptr r0.1 0 0 0) 5) fun t16 =>
dR (loadV Try.prog 3 t16 r0.2) fun t17 =>
dR (fieldAddrV Try.prog 37 (.ptr r0.1 0 0 0) 12) fun t18 =>
dR (loadV Try.prog 22 t18 r0.2) fun t19 =>
dR (buildV Try.prog 24 [(0, t13), (1, (.int .i64 (-1))), (2, t15), (3, t17), (4, (.int .i64 1)), (6, t19)]) fun t20 =>
dR (newBlk none r0.2 (.row 0 7 [[.int .i64 0,.int .i64 0,.int .i64 0,.int .i64 0,.int .i64 0,.str [],.nils]])) fun r21 =>
dR (storeV Try.prog 24 (.ptr r21.1 0 0 0) t20 r21.2) fun S22 =>
dR (fieldAddrV Try.prog 37 (.ptr r0.1 0 0 0) 4) fun t23 =>
dR (loadV Try.prog 3 t23 S22) fun t24 =>
dR (binV Try.prog .gtr 3 t24 (.int .i64 0)) fun t25 =>
pickD t25 (dR (fieldAddrV Try.prog 24 (.ptr r21.1 0 0 0) 5) fun t26 =>
dR (storeV Try.prog 9 t26 (.str [115]) S22) fun S27 =>
dR (loadV Try.prog 24 (.ptr r21.1 0 0 0) S27) fun t28 =>
C 33 [t28] S27 fun t29 S30 =>
K t29 S30) (dR (loadV Try.prog 24 (.ptr r21.1 0 0 0) S22) fun t31 =>
C 33 [t31] S22 fun t32 S33 =>
K t32 S33))))
theorem m104_eq : (fun (k : Nat) (a0 : V) (S : St) (K : KS) => callD Try.prog dPl dLv (k + 1) 104 [a0] S K) = fun k a0 S K => m104 (callD Try.prog dPl dLv k) k a0 S K := by kernel_rfl
noncomputable def m105 (C : CallD) (k : Nat) (a0 : V) (S : St) (K : KS) : An :=
dIf (allOne (a0 : V).cells) (dR (newBlk none S (.row 0 (a0 : V).cells.length [(a0 : V).cells])) fun r0 =>
dR (fieldAddrV Try.prog 37 (.ptr r0.1 0 0 0) 4) fun t1 =>
dR (loadV Try.prog 3 t1 r0.2) fun t2 =>
dIf (guardP Try.prog 3 t2 (.int .i64 0)) (dR (binV Try.prog .eql 3 t2 (.int .i64 0)) fun t3 =>
pickD t3 (K (.bool false) r0.2) (dR (fieldAddrV Try.prog 37 (.ptr r0.1 0 0 0) 5) fun t4 =>
dR (loadV Try.prog 3 t4 r0.2) fun t5 =>
dIf (guardP Try.prog 3 t5 (.int .i64 0)) (dR (binV Try.prog .eql 3 t5 (.int .i64 0)) fun t6 =>
pickD t6 (K (.bool false) r0.2) (dR (fieldAddrV Try.prog 37 (.ptr r0.1 0 0 0) 7) fun t7 =>
dR (loadV Try.prog 3 t7 r0.2) fun t8 =>
C 103 [t8, (.int .i64 1), (.int .i64 127)] r0.2 fun t9 S10 =>
dR (unV .not t9) fun t11 =>
pickD t11 (K (.bool false) S10) (dR (fieldAddrV Try.prog 37 (.ptr r0.1 0 0 0) 9) fun t12 =>
dR (loadV Try.prog 3 t12 S10) fun t13 =>
C 103 [t13, (.int .i64 1), (.int .i64 65536)] S10 fun t14 S15 =>
dR (unV .not t14) fun t16 =>
pickD t16 (K (.bool false) S15) (dR (fieldAddrV Try.prog 37 (.ptr r0.1 0 0 0) 8) fun t17 =>
dR (loadV Try.prog 3 t17 S15) fun t18 =>
dR (fieldAddrV Try.prog 37 (.ptr r0.1 0 0 0) 9) fun t19 =>
dR (loadV Try.prog 3 t19 S15) fun t20 =>
dR (binV Try.prog .sub 3 t20 (.int .i64 1)) fun t21 =>
C 103 [t18, (.int .i64 0), t21] S15 fun t22 S23 =>
dR (unV .not t22) fun t24 =>
pickD t24 (K (.bool false) S23) (dR (fieldAddrV Try.prog 37 (.ptr r0.1 0 0 0) 11) fun t25 =>
dR (loadV Try.prog 9 t25 S23) fun t26 =>
dR (lenV Try.prog 9 t26 S23) fun t27 =>
dR (binV Try.prog .geq 3 t27 (.int .i64 1)) fun t28 =>
pickD t28 (dR (fieldAddrV Try.prog 37 (.ptr r0.1 0 0 0) 11) fun t29 =>
dR (loadV Try.prog 9 t29 S23) fun t30 =>
dR (lenV Try.prog 9 t30 S23) fun t31 =>
dR (binV Try.prog .leq 3 t31 (.int .i64 600)) fun t32 =>
pickD t32 (dR (fieldAddrV Try.prog 37 (.ptr r0.1 0 0 0) 11) fun t33 =>
dR (loadV Try.prog 9 t33 S23) fun t34 =>
dR (lenV Try.prog 9 t34 S23) fun t35 =>
dR (fieldAddrV Try.prog 37 (.ptr r0.1 0 0 0) 9) fun t36 =>
dR (loadV Try.prog 3 t36 S23) fun t37 =>
dR (fieldAddrV Try.prog 37 (.ptr r0.1 0 0 0) 8) fun t38 =>
dR (loadV Try.prog 3 t38 S23) fun t39 =>
dR (binV Try.prog .sub 3 t37 t39) fun t40 =>
dR (binV Try.prog .leq 3 t35 t40) fun t41 =>
K t41 S23) (K (.bool false) S23)) (K (.bool false) S23)))))))))
theorem m105_eq : (fun (k : Nat) (a0 : V) (S : St) (K : KS) => callD Try.prog dPl dLv (k + 1) 105 [a0] S K) = fun k a0 S K => m105 (callD Try.prog dPl dLv k) k a0 S K := by kernel_rfl
noncomputable def m106 (C : CallD) (k : Nat) (a0 : V) (S : St) (K : KS) : An :=
nilD a0 (dR (fieldAddrV Try.prog 88 a0 5) fun t0 =>
dR (loadV Try.prog 3 t0 S) fun t1 =>
nilD a0 (dR (fieldAddrV Try.prog 88 a0 2) fun t2 =>
dR (storeV Try.prog 3 t2 (.int .i64 1) S) fun S3 =>
nilD a0 (dR (fieldAddrV Try.prog 88 a0 3) fun t4 =>
dR (storeV Try.prog 3 t4 (.int .i64 (-1)) S3) fun S5 =>
nilD a0 (dR (fieldAddrV Try.prog 88 a0 6) fun t6 =>
dR (storeV Try.prog 3 t6 t1 S5) fun S7 =>
K (.tup []) S7))))
theorem m106_eq : (fun (k : Nat) (a0 : V) (S : St) (K : KS) => callD Try.prog dPl dLv (k + 1) 106 [a0] S K) = fun k a0 S K => m106 (callD Try.prog dPl dLv k) k a0 S K := by kernel_rfl
noncomputable def m107 (C : CallD) (k : Nat) (a0 a1 : V) (S : St) (K : KS) : An :=
dIf (allOne (a0 : V).cells) (dR (newBlk none S (.row 0 (a0 : V).cells.length [(a0 : V).cells])) fun r0 =>
dIf (allOne (a1 : V).cells) (dR (newBlk none r0.2 (.row 0 (a1 : V).cells.length [(a1 : V).cells])) fun r1 =>
dR (fieldAddrV Try.prog 37 (.ptr r0.1 0 0 0) 12) fun t2 =>
dR (loadV Try.prog 22 t2 r1.2) fun t3 =>
dR (lenV Try.prog 22 t3 r1.2) fun t4 =>
dR (fieldAddrV Try.prog 37 (.ptr r1.1 0 0 0) 12) fun t5 =>
dR (loadV Try.prog 22 t5 r1.2) fun t6 =>
dR (lenV Try.prog 22 t6 r1.2) fun t7 =>
dIf (guardP Try.prog 3 t4 t7) (dR (binV Try.prog .neq 3 t4 t7) fun t8 =>
pickD t8 (K (.bool false) r1.2) (dR (fieldAddrV Try.prog 37 (.ptr r0.1 0 0 0) 4) fun t9 =>
dR (loadV Try.prog 3 t9 r1.2) fun t10 =>
dR (fieldAddrV Try.prog 37 (.ptr r1.1 0 0 0) 4) fun t11 =>
dR (loadV Try.prog 3 t11 r1.2) fun t12 =>
dIf (guardP Try.prog 3 t10 t12) (dR (binV Try.prog .eql 3 t10 t12) fun t13 =>
pickD t13 (dR (fieldAddrV Try.prog 37 (.ptr r0.1 0 0 0) 5) fun t14 =>
dR (loadV Try.prog 3 t14 r1.2) fun t15 =>
dR (fieldAddrV Try.prog 37 (.ptr r1.1 0 0 0) 5) fun t16 =>
dR (loadV Try.prog 3 t16 r1.2) fun t17 =>
dIf (guardP Try.prog 3 t15 t17) (dR (binV Try.prog .eql 3 t15 t17) fun t18 =>
pickD t18 (dR (fieldAddrV Try.prog 37 (.ptr r0.1 0 0 0) 6) fun t19 =>
dR (loadV Try.prog 3 t19 r1.2) fun t20 =>
dR (fieldAddrV Try.prog 37 (.ptr r1.1 0 0 0) 6) fun t21 =>
dR (loadV Try.prog 3 t21 r1.2) fun t22 =>
dIf (guardP Try.prog 3 t20 t22) (dR (binV Try.prog .eql 3 t20 t22) fun t23 =>
pickD t23 (dR (fieldAddrV Try.prog 37 (.ptr r0.1 0 0 0) 7) fun t24 =>
dR (loadV Try.prog 3 t24 r1.2) fun t25 =>
dR (fieldAddrV Try.prog 37 (.ptr r1.1 0 0 0) 7) fun t26 =>
dR (loadV Try.prog 3 t26 r1.2) fun t27 =>
dIf (guardP Try.prog 3 t25 t27) (dR (binV Try.prog .eql 3 t25 t27) fun t28 =>
pickD t28 (dR (fieldAddrV Try.prog 37 (.ptr r0.1 0 0 0) 8) fun t29 =>
dR (loadV Try.prog 3 t29 r1.2) fun t30 =>
dR (fieldAddrV Try.prog 37 (.ptr r1.1 0 0 0) 8) fun t31 =>
dR (loadV Try.prog 3 t31 r1.2) fun t32 =>
dIf (guardP Try.prog 3 t30 t32) (dR (binV Try.prog .eql 3 t30 t32) fun t33 =>
pickD t33 (dR (fieldAddrV Try.prog 37 (.ptr r0.1 0 0 0) 9) fun t34 =>
dR (loadV Try.prog 3 t34 r1.2) fun t35 =>
dR (fieldAddrV Try.prog 37 (.ptr r1.1 0 0 0) 9) fun t36 =>
dR (loadV Try.prog 3 t36 r1.2) fun t37 =>
dIf (guardP Try.prog 3 t35 t37) (dR (binV Try.prog .eql 3 t35 t37) fun t38 =>
pickD t38 (dR (fieldAddrV Try.prog 37 (.ptr r0.1 0 0 0) 10) fun t39 =>
dR (loadV Try.prog 4 t39 r1.2) fun t40 =>
dR (fieldAddrV Try.prog 37 (.ptr r1.1 0 0 0) 10) fun t41 =>
dR (loadV Try.prog 4 t41 r1.2) fun t42 =>
dIf (guardP Try.prog 4 t40 t42) (dR (binV Try.prog .eql 4 t40 t42) fun t43 =>
pickD t43 (dR (fieldAddrV Try.prog 37 (.ptr r0.1 0 0 0) 11) fun t44 =>
dR (loadV Try.prog 9 t44 r1.2) fun t45 =>
dR (fieldAddrV Try.prog 37 (.ptr r1.1 0 0 0) 11) fun t46 =>
dR (loadV Try.prog 9 t46 r1.2) fun t47 =>
dIf (guardP Try.prog 9 t45 t47) (dR (binV Try.prog .eql 9 t45 t47) fun t48 =>
K t48 r1.2)) (K (.bool false) r1.2))) (K (.bool false) r1.2))) (K (.bool false) r1.2))) (K (.bool false) r1.2))) (K (.bool false) r1.2))) (K (.bool false) r1.2))) (K (.bool false) r1.2))))))
theorem m107_eq : (fun (k : Nat) (a0 a1 : V) (S : St) (K : KS) => callD Try.prog dPl dLv (k + 1) 107 [a0, a1] S K) = fun k a0 a1 S K => m107 (callD Try.prog dPl dLv k) k a0 a1 S K := by kernel_rfl
theorem app22 (s x : V) (fr : Option Nat) (S : St) : appendV Try.prog 22 s x fr S = appW 3 32 s x fr S := appendV_of (by kernel_rfl) s x fr S
theorem app43 (s x : V) (fr : Option Nat) (S : St) : appendV Try.prog 43 s x fr S = appW 13 128 s x fr S := appendV_of (by kernel_rfl) s x fr S
theorem app68 (s x : V) (fr : Option Nat) (S : St) : appendV Try.prog 68 s x fr S = appW 1 8 s x fr S := appendV_of (by kernel_rfl) s x fr S
theorem app74 (s x : V) (fr : Option Nat) (S : St) : appendV Try.prog 74 s x fr S = appW 1 1 s x fr S := appendV_of (by kernel_rfl) s x fr S
theorem bd102 (parts : List (Nat × V)) : buildV Try.prog 102 parts = buildW [.int .i64 0,.int .i64 0,.int .i64 0,.nils] [(0, 1), (1, 1), (2, 1), (3, 1)] parts := buildV_of (by kernel_rfl) parts
theorem bd24 (parts : List (Nat × V)) : buildV Try.prog 24 parts = buildW [.int .i64 0,.int .i64 0,.int .i64 0,.int .i64 0,.int .i64 0,.str [],.nils] [(0, 1), (1, 1), (2, 1), (3, 1), (4, 1), (5, 1), (6, 1)] parts := buildV_of (by kernel_rfl) parts
theorem bd37 (parts : List (Nat × V)) : buildV Try.prog 37 parts = buildW [.int .i64 0,.int .i64 0,.int .i64 0,.int .i64 0,.int .i64 0,.int .i64 0,.int .i64 0,.int .i64 0,.int .i64 0,.int .i64 0,.bool false,.str [],.nils] [(0, 1), (1, 1), (2, 1), (3, 1), (4, 1), (5, 1), (6, 1), (7, 1), (8, 1), (9, 1), (10, 1), (11, 1), (12, 1)] parts := buildV_of (by kernel_rfl) parts
theorem bd50 (parts : List (Nat × V)) : buildV Try.prog 50 parts = buildW [.int .i64 0,.int .i64 0,.int .i64 0,.int .i64 0,.int .i64 0,.int .i64 0] [(0, 1), (1, 1), (2, 1), (3, 1), (4, 1), (5, 1)] parts := buildV_of (by kernel_rfl) parts
theorem bd59 (parts : List (Nat × V)) : buildV Try.prog 59 parts = buildW [.int .i64 0,.int .i64 0,.str []] [(0, 1), (1, 1), (2, 1)] parts := buildV_of (by kernel_rfl) parts
theorem bd84 (parts : List (Nat × V)) : buildV Try.prog 84 parts = buildW [.int .i64 0,.int .i64 0,.int .i64 0] [(0, 1), (1, 1), (2, 1)] parts := buildV_of (by kernel_rfl) parts
theorem bd88 (parts : List (Nat × V)) : buildV Try.prog 88 parts = buildW [.int .i64 0,.int .i64 0,.int .i64 0,.int .i64 0,.int .i64 0,.int .i64 0,.str [],.nils,.int .i64 0,.int .i64 0,.int .i64 0,.int .i64 0,.int .i64 0,.int .i64 0,.int .i64 0,.int .i64 0,.int .i64 0,.int .i64 0,.int .i64 0,.int .i64 0,.int .i64 0,.int .i64 0,.int .i64 0,.int .i64 0,.int .i64 0,.int .i64 0,.int .i64 0,.int .i64 0,.int .i64 0,.int .i64 0,.int .i64 0,.int .i64 0,.int .i64 0,.int .i64 0,.int .i64 0,.nilp,.nils] [(0, 1), (1, 7), (8, 1), (9, 1), (10, 1), (11, 1), (12, 1), (13, 1), (14, 21), (35, 1), (36, 1)] parts := buildV_of (by kernel_rfl) parts
theorem bs22 (len : Nat) (parts : List (Nat × V)) (fr : Option Nat) (S : St) : buildSliceV Try.prog 22 len parts fr S = buildSliceW 3 [.int .i64 0,.int .i64 0,.str []] len parts fr S := buildSliceV_of (by kernel_rfl) len parts fr S
theorem bs43 (len : Nat) (parts : List (Nat × V)) (fr : Option Nat) (S : St) : buildSliceV Try.prog 43 len parts fr S = buildSliceW 13 [.int .i64 0,.int .i64 0,.int .i64 0,.int .i64 0,.int .i64 0,.int .i64 0,.int .i64 0,.int .i64 0,.int .i64 0,.int .i64 0,.bool false,.str [],.nils] len parts fr S := buildSliceV_of (by kernel_rfl) len parts fr S
theorem bs68 (len : Nat) (parts : List (Nat × V)) (fr : Option Nat) (S : St) : buildSliceV Try.prog 68 len parts fr S = buildSliceW 1 [.int .i64 0] len parts fr S := buildSliceV_of (by kernel_rfl) len parts fr S
theorem cv3_96 (j : IntKind) (n : Int) (fr : Option Nat) (S : St) : convertV Try.prog 3 96 (.int j n) fr S = .ok (.int .u64 (wr .u64 n), S) := convertV_of (by kernel_rfl) j n fr S
theorem eqt59 : (fun (a_0 : Int) (a_1 : Int) (a_2 : List UInt8) (b_0 : Int) (b_1 : Int) (b_2 : List UInt8) => eqT Try.prog 100 59 (.agg [.int .i64 a_0, .int .i64 a_1, .str a_2]) (.agg [.int .i64 b_0, .int .i64 b_1, .str b_2])) = fun a_0 a_1 a_2 b_0 b_1 b_2 => (andR (.ok (decide (a_0 = b_0))) (andR (.ok (decide (a_1 = b_1))) (andR (.ok (beqB a_2 b_2)) (.ok true)))) := by kernel_rfl
theorem eq59 (a_0 : Int) (a_1 : Int) (a_2 : List UInt8) (b_0 : Int) (b_1 : Int) (b_2 : List UInt8) : eqT Try.prog 100 59 (.agg [.int .i64 a_0, .int .i64 a_1, .str a_2]) (.agg [.int .i64 b_0, .int .i64 b_1, .str b_2]) = .ok (decide (a_0 = b_0) && decide (a_1 = b_1) && (a_2 == b_2)) := by
 refine (congrFun (congrFun (congrFun (congrFun (congrFun (congrFun eqt59 a_0) a_1) a_2) b_0) b_1) b_2).trans ?_
 simp only [andR_ok, beqB_eq, Bool.and_true, Bool.and_assoc]
theorem gd59 : (fun a b => guardP Try.prog 59 (.agg a) (.agg b)) = fun _ _ => true := by kernel_rfl
theorem fa102_0 (p : V) : fieldAddrV Try.prog 102 p 0 = advW 0 p := fieldAddrV_of (by kernel_rfl) p
theorem fa102_1 (p : V) : fieldAddrV Try.prog 102 p 1 = advW 1 p := fieldAddrV_of (by kernel_rfl) p
theorem fa102_2 (p : V) : fieldAddrV Try.prog 102 p 2 = advW 2 p := fieldAddrV_of (by kernel_rfl) p
theorem fa102_3 (p : V) : fieldAddrV Try.prog 102 p 3 = advW 3 p := fieldAddrV_of (by kernel_rfl) p
theorem fa24_0 (p : V) : fieldAddrV Try.prog 24 p 0 = advW 0 p := fieldAddrV_of (by kernel_rfl) p
theorem fa24_1 (p : V) : fieldAddrV Try.prog 24 p 1 = advW 1 p := fieldAddrV_of (by kernel_rfl) p
theorem fa24_2 (p : V) : fieldAddrV Try.prog 24 p 2 = advW 2 p := fieldAddrV_of (by kernel_rfl) p
theorem fa24_3 (p : V) : fieldAddrV Try.prog 24 p 3 = advW 3 p := fieldAddrV_of (by kernel_rfl) p
theorem fa24_4 (p : V) : fieldAddrV Try.prog 24 p 4 = advW 4 p := fieldAddrV_of (by kernel_rfl) p
theorem fa24_5 (p : V) : fieldAddrV Try.prog 24 p 5 = advW 5 p := fieldAddrV_of (by kernel_rfl) p
theorem fa24_6 (p : V) : fieldAddrV Try.prog 24 p 6 = advW 6 p := fieldAddrV_of (by kernel_rfl) p
theorem fa37_0 (p : V) : fieldAddrV Try.prog 37 p 0 = advW 0 p := fieldAddrV_of (by kernel_rfl) p
theorem fa37_1 (p : V) : fieldAddrV Try.prog 37 p 1 = advW 1 p := fieldAddrV_of (by kernel_rfl) p
theorem fa37_10 (p : V) : fieldAddrV Try.prog 37 p 10 = advW 10 p := fieldAddrV_of (by kernel_rfl) p
theorem fa37_11 (p : V) : fieldAddrV Try.prog 37 p 11 = advW 11 p := fieldAddrV_of (by kernel_rfl) p
theorem fa37_12 (p : V) : fieldAddrV Try.prog 37 p 12 = advW 12 p := fieldAddrV_of (by kernel_rfl) p
theorem fa37_2 (p : V) : fieldAddrV Try.prog 37 p 2 = advW 2 p := fieldAddrV_of (by kernel_rfl) p
theorem fa37_3 (p : V) : fieldAddrV Try.prog 37 p 3 = advW 3 p := fieldAddrV_of (by kernel_rfl) p
theorem fa37_4 (p : V) : fieldAddrV Try.prog 37 p 4 = advW 4 p := fieldAddrV_of (by kernel_rfl) p
theorem fa37_5 (p : V) : fieldAddrV Try.prog 37 p 5 = advW 5 p := fieldAddrV_of (by kernel_rfl) p
theorem fa37_6 (p : V) : fieldAddrV Try.prog 37 p 6 = advW 6 p := fieldAddrV_of (by kernel_rfl) p
theorem fa37_7 (p : V) : fieldAddrV Try.prog 37 p 7 = advW 7 p := fieldAddrV_of (by kernel_rfl) p
theorem fa37_8 (p : V) : fieldAddrV Try.prog 37 p 8 = advW 8 p := fieldAddrV_of (by kernel_rfl) p
theorem fa37_9 (p : V) : fieldAddrV Try.prog 37 p 9 = advW 9 p := fieldAddrV_of (by kernel_rfl) p
theorem fa40_0 (p : V) : fieldAddrV Try.prog 40 p 0 = advW 0 p := fieldAddrV_of (by kernel_rfl) p
theorem fa40_1 (p : V) : fieldAddrV Try.prog 40 p 1 = advW 1 p := fieldAddrV_of (by kernel_rfl) p
theorem fa40_2 (p : V) : fieldAddrV Try.prog 40 p 2 = advW 2 p := fieldAddrV_of (by kernel_rfl) p
theorem fa40_3 (p : V) : fieldAddrV Try.prog 40 p 3 = advW 15 p := fieldAddrV_of (by kernel_rfl) p
theorem fa50_2 (p : V) : fieldAddrV Try.prog 50 p 2 = advW 2 p := fieldAddrV_of (by kernel_rfl) p
theorem fa50_3 (p : V) : fieldAddrV Try.prog 50 p 3 = advW 3 p := fieldAddrV_of (by kernel_rfl) p
theorem fa59_0 (p : V) : fieldAddrV Try.prog 59 p 0 = advW 0 p := fieldAddrV_of (by kernel_rfl) p
theorem fa59_1 (p : V) : fieldAddrV Try.prog 59 p 1 = advW 1 p := fieldAddrV_of (by kernel_rfl) p
theorem fa59_2 (p : V) : fieldAddrV Try.prog 59 p 2 = advW 2 p := fieldAddrV_of (by kernel_rfl) p
theorem fa84_0 (p : V) : fieldAddrV Try.prog 84 p 0 = advW 0 p := fieldAddrV_of (by kernel_rfl) p
theorem fa84_1 (p : V) : fieldAddrV Try.prog 84 p 1 = advW 1 p := fieldAddrV_of (by kernel_rfl) p
theorem fa84_2 (p : V) : fieldAddrV Try.prog 84 p 2 = advW 2 p := fieldAddrV_of (by kernel_rfl) p
theorem fa88_0 (p : V) : fieldAddrV Try.prog 88 p 0 = advW 0 p := fieldAddrV_of (by kernel_rfl) p
theorem fa88_1 (p : V) : fieldAddrV Try.prog 88 p 1 = advW 1 p := fieldAddrV_of (by kernel_rfl) p
theorem fa88_10 (p : V) : fieldAddrV Try.prog 88 p 10 = advW 36 p := fieldAddrV_of (by kernel_rfl) p
theorem fa88_2 (p : V) : fieldAddrV Try.prog 88 p 2 = advW 8 p := fieldAddrV_of (by kernel_rfl) p
theorem fa88_3 (p : V) : fieldAddrV Try.prog 88 p 3 = advW 9 p := fieldAddrV_of (by kernel_rfl) p
theorem fa88_4 (p : V) : fieldAddrV Try.prog 88 p 4 = advW 10 p := fieldAddrV_of (by kernel_rfl) p
theorem fa88_5 (p : V) : fieldAddrV Try.prog 88 p 5 = advW 11 p := fieldAddrV_of (by kernel_rfl) p
theorem fa88_6 (p : V) : fieldAddrV Try.prog 88 p 6 = advW 12 p := fieldAddrV_of (by kernel_rfl) p
theorem fa88_7 (p : V) : fieldAddrV Try.prog 88 p 7 = advW 13 p := fieldAddrV_of (by kernel_rfl) p
theorem fa88_8 (p : V) : fieldAddrV Try.prog 88 p 8 = advW 14 p := fieldAddrV_of (by kernel_rfl) p
theorem fa88_9 (p : V) : fieldAddrV Try.prog 88 p 9 = advW 35 p := fieldAddrV_of (by kernel_rfl) p
theorem ix22 (x i : V) : indexAddrV Try.prog 22 x i = idxW 3 x i := indexAddrV_of (by kernel_rfl) x i
theorem ix25 (x i : V) : indexAddrV Try.prog 25 x i = idxW 16 x i := indexAddrV_of (by kernel_rfl) x i
theorem ix38 (x i : V) : indexAddrV Try.prog 38 x i = idxW 1 x i := indexAddrV_of (by kernel_rfl) x i
theorem ix68 (x i : V) : indexAddrV Try.prog 68 x i = idxW 1 x i := indexAddrV_of (by kernel_rfl) x i
theorem ld22 (p : V) (S : St) : loadV Try.prog 22 p S = loadW none p S := loadV_of (by kernel_rfl) p S
theorem ld24 (p : V) (S : St) : loadV Try.prog 24 p S = loadW (some 7) p S := loadV_of (by kernel_rfl) p S
theorem ld3 (p : V) (S : St) : loadV Try.prog 3 p S = loadW none p S := loadV_of (by kernel_rfl) p S
theorem ld37 (p : V) (S : St) : loadV Try.prog 37 p S = loadW (some 13) p S := loadV_of (by kernel_rfl) p S
theorem ld38 (p : V) (S : St) : loadV Try.prog 38 p S = loadW none p S := loadV_of (by kernel_rfl) p S
theorem ld4 (p : V) (S : St) : loadV Try.prog 4 p S = loadW none p S := loadV_of (by kernel_rfl) p S
theorem ld40 (p : V) (S : St) : loadV Try.prog 40 p S = loadW (some 16) p S := loadV_of (by kernel_rfl) p S
theorem ld43 (p : V) (S : St) : loadV Try.prog 43 p S = loadW none p S := loadV_of (by kernel_rfl) p S
theorem ld50 (p : V) (S : St) : loadV Try.prog 50 p S = loadW (some 6) p S := loadV_of (by kernel_rfl) p S
theorem ld59 (p : V) (S : St) : loadV Try.prog 59 p S = loadW (some 3) p S := loadV_of (by kernel_rfl) p S
theorem ld74 (p : V) (S : St) : loadV Try.prog 74 p S = loadW none p S := loadV_of (by kernel_rfl) p S
theorem ld84 (p : V) (S : St) : loadV Try.prog 84 p S = loadW (some 3) p S := loadV_of (by kernel_rfl) p S
theorem ld85 (p : V) (S : St) : loadV Try.prog 85 p S = loadW (some 21) p S := loadV_of (by kernel_rfl) p S
theorem ld86 (p : V) (S : St) : loadV Try.prog 86 p S = loadW none p S := loadV_of (by kernel_rfl) p S
theorem ld9 (p : V) (S : St) : loadV Try.prog 9 p S = loadW none p S := loadV_of (by kernel_rfl) p S
theorem len22 (x : V) (S : St) : lenV Try.prog 22 x S = lenW x := lenV_of (by kernel_rfl) x S
theorem len25 (x : V) (S : St) : lenV Try.prog 25 x S = lenW x := lenV_of (by kernel_rfl) x S
theorem len38 (x : V) (S : St) : lenV Try.prog 38 x S = lenW x := lenV_of (by kernel_rfl) x S
theorem len68 (x : V) (S : St) : lenV Try.prog 68 x S = lenW x := lenV_of (by kernel_rfl) x S
theorem len74 (x : V) (S : St) : lenV Try.prog 74 x S = lenW x := lenV_of (by kernel_rfl) x S
theorem st22 (p x : V) (S : St) : storeV Try.prog 22 p x S = storeW 1 p x S := storeV_of (by kernel_rfl) p x S
theorem st24 (p x : V) (S : St) : storeV Try.prog 24 p x S = storeW 7 p x S := storeV_of (by kernel_rfl) p x S
theorem st3 (p x : V) (S : St) : storeV Try.prog 3 p x S = storeW 1 p x S := storeV_of (by kernel_rfl) p x S
theorem st43 (p x : V) (S : St) : storeV Try.prog 43 p x S = storeW 1 p x S := storeV_of (by kernel_rfl) p x S
theorem st50 (p x : V) (S : St) : storeV Try.prog 50 p x S = storeW 6 p x S := storeV_of (by kernel_rfl) p x S
theorem st59 (p x : V) (S : St) : storeV Try.prog 59 p x S = storeW 3 p x S := storeV_of (by kernel_rfl) p x S
theorem st74 (p x : V) (S : St) : storeV Try.prog 74 p x S = storeW 1 p x S := storeV_of (by kernel_rfl) p x S
theorem st84 (p x : V) (S : St) : storeV Try.prog 84 p x S = storeW 3 p x S := storeV_of (by kernel_rfl) p x S
theorem st86 (p x : V) (S : St) : storeV Try.prog 86 p x S = storeW 1 p x S := storeV_of (by kernel_rfl) p x S
theorem st9 (p x : V) (S : St) : storeV Try.prog 9 p x S = storeW 1 p x S := storeV_of (by kernel_rfl) p x S
theorem e4 {a0 a1 a2 a3 : V} {S : St} {Q : V → St → Prop} (h : Ok (fun k K => m4 (callD Try.prog dPl dLv k) k a0 a1 a2 a3 S K) Q) : Does Try.prog dPl dLv 4 [a0, a1, a2, a3] S Q :=
 Does.enter (m := fun C k K => m4 C k a0 a1 a2 a3 S K) (fun k K => congrFun (congrFun (congrFun (congrFun (congrFun (congrFun (congrFun m4_eq k) a0) a1) a2) a3) S) K) h
theorem e9 {a0 : V} {S : St} {Q : V → St → Prop} (h : Ok (fun k K => m9 (callD Try.prog dPl dLv k) k a0 S K) Q) : Does Try.prog dPl dLv 9 [a0] S Q :=
 Does.enter (m := fun C k K => m9 C k a0 S K) (fun k K => congrFun (congrFun (congrFun (congrFun m9_eq k) a0) S) K) h
theorem e11 {a0 a1 a2 : V} {S : St} {Q : V → St → Prop} (h : Ok (fun k K => m11 (callD Try.prog dPl dLv k) k a0 a1 a2 S K) Q) : Does Try.prog dPl dLv 11 [a0, a1, a2] S Q :=
 Does.enter (m := fun C k K => m11 C k a0 a1 a2 S K) (fun k K => congrFun (congrFun (congrFun (congrFun (congrFun (congrFun m11_eq k) a0) a1) a2) S) K) h
theorem e13 {a0 : V} {S : St} {Q : V → St → Prop} (h : Ok (fun k K => m13 (callD Try.prog dPl dLv k) k a0 S K) Q) : Does Try.prog dPl dLv 13 [a0] S Q :=
 Does.enter (m := fun C k K => m13 C k a0 S K) (fun k K => congrFun (congrFun (congrFun (congrFun m13_eq k) a0) S) K) h
theorem e14 {a0 : V} {S : St} {Q : V → St → Prop} (h : Ok (fun k K => m14 (callD Try.prog dPl dLv k) k a0 S K) Q) : Does Try.prog dPl dLv 14 [a0] S Q :=
 Does.enter (m := fun C k K => m14 C k a0 S K) (fun k K => congrFun (congrFun (congrFun (congrFun m14_eq k) a0) S) K) h
theorem e17 {a0 : V} {S : St} {Q : V → St → Prop} (h : Ok (fun k K => m17 (callD Try.prog dPl dLv k) k a0 S K) Q) : Does Try.prog dPl dLv 17 [a0] S Q :=
 Does.enter (m := fun C k K => m17 C k a0 S K) (fun k K => congrFun (congrFun (congrFun (congrFun m17_eq k) a0) S) K) h
theorem e18 {a0 a1 : V} {S : St} {Q : V → St → Prop} (h : Ok (fun k K => m18 (callD Try.prog dPl dLv k) k a0 a1 S K) Q) : Does Try.prog dPl dLv 18 [a0, a1] S Q :=
 Does.enter (m := fun C k K => m18 C k a0 a1 S K) (fun k K => congrFun (congrFun (congrFun (congrFun (congrFun m18_eq k) a0) a1) S) K) h
theorem e19 {a0 a1 : V} {S : St} {Q : V → St → Prop} (h : Ok (fun k K => m19 (callD Try.prog dPl dLv k) k a0 a1 S K) Q) : Does Try.prog dPl dLv 19 [a0, a1] S Q :=
 Does.enter (m := fun C k K => m19 C k a0 a1 S K) (fun k K => congrFun (congrFun (congrFun (congrFun (congrFun m19_eq k) a0) a1) S) K) h
theorem e20 {a0 a1 : V} {S : St} {Q : V → St → Prop} (h : Ok (fun k K => m20 (callD Try.prog dPl dLv k) k a0 a1 S K) Q) : Does Try.prog dPl dLv 20 [a0, a1] S Q :=
 Does.enter (m := fun C k K => m20 C k a0 a1 S K) (fun k K => congrFun (congrFun (congrFun (congrFun (congrFun m20_eq k) a0) a1) S) K) h
theorem e21 {a0 a1 : V} {S : St} {Q : V → St → Prop} (h : Ok (fun k K => m21 (callD Try.prog dPl dLv k) k a0 a1 S K) Q) : Does Try.prog dPl dLv 21 [a0, a1] S Q :=
 Does.enter (m := fun C k K => m21 C k a0 a1 S K) (fun k K => congrFun (congrFun (congrFun (congrFun (congrFun m21_eq k) a0) a1) S) K) h
theorem e22 {a0 a1 a2 : V} {S : St} {Q : V → St → Prop} (h : Ok (fun k K => m22 (callD Try.prog dPl dLv k) k a0 a1 a2 S K) Q) : Does Try.prog dPl dLv 22 [a0, a1, a2] S Q :=
 Does.enter (m := fun C k K => m22 C k a0 a1 a2 S K) (fun k K => congrFun (congrFun (congrFun (congrFun (congrFun (congrFun m22_eq k) a0) a1) a2) S) K) h
theorem e23 {a0 : V} {S : St} {Q : V → St → Prop} (h : Ok (fun k K => m23 (callD Try.prog dPl dLv k) k a0 S K) Q) : Does Try.prog dPl dLv 23 [a0] S Q :=
 Does.enter (m := fun C k K => m23 C k a0 S K) (fun k K => congrFun (congrFun (congrFun (congrFun m23_eq k) a0) S) K) h
theorem e33 {a0 : V} {S : St} {Q : V → St → Prop} (h : Ok (fun k K => m33 (callD Try.prog dPl dLv k) k a0 S K) Q) : Does Try.prog dPl dLv 33 [a0] S Q :=
 Does.enter (m := fun C k K => m33 C k a0 S K) (fun k K => congrFun (congrFun (congrFun (congrFun m33_eq k) a0) S) K) h
theorem e34 {a0 : V} {S : St} {Q : V → St → Prop} (h : Ok (fun k K => m34 (callD Try.prog dPl dLv k) k a0 S K) Q) : Does Try.prog dPl dLv 34 [a0] S Q :=
 Does.enter (m := fun C k K => m34 C k a0 S K) (fun k K => congrFun (congrFun (congrFun (congrFun m34_eq k) a0) S) K) h
theorem e35 {a0 : V} {S : St} {Q : V → St → Prop} (h : Ok (fun k K => m35 (callD Try.prog dPl dLv k) k a0 S K) Q) : Does Try.prog dPl dLv 35 [a0] S Q :=
 Does.enter (m := fun C k K => m35 C k a0 S K) (fun k K => congrFun (congrFun (congrFun (congrFun m35_eq k) a0) S) K) h
theorem e46 {a0 : V} {S : St} {Q : V → St → Prop} (h : Ok (fun k K => m46 (callD Try.prog dPl dLv k) k a0 S K) Q) : Does Try.prog dPl dLv 46 [a0] S Q :=
 Does.enter (m := fun C k K => m46 C k a0 S K) (fun k K => congrFun (congrFun (congrFun (congrFun m46_eq k) a0) S) K) h
theorem e47 {a0 : V} {S : St} {Q : V → St → Prop} (h : Ok (fun k K => m47 (callD Try.prog dPl dLv k) k a0 S K) Q) : Does Try.prog dPl dLv 47 [a0] S Q :=
 Does.enter (m := fun C k K => m47 C k a0 S K) (fun k K => congrFun (congrFun (congrFun (congrFun m47_eq k) a0) S) K) h
theorem e48 {a0 : V} {S : St} {Q : V → St → Prop} (h : Ok (fun k K => m48 (callD Try.prog dPl dLv k) k a0 S K) Q) : Does Try.prog dPl dLv 48 [a0] S Q :=
 Does.enter (m := fun C k K => m48 C k a0 S K) (fun k K => congrFun (congrFun (congrFun (congrFun m48_eq k) a0) S) K) h
theorem e49 {a0 : V} {S : St} {Q : V → St → Prop} (h : Ok (fun k K => m49 (callD Try.prog dPl dLv k) k a0 S K) Q) : Does Try.prog dPl dLv 49 [a0] S Q :=
 Does.enter (m := fun C k K => m49 C k a0 S K) (fun k K => congrFun (congrFun (congrFun (congrFun m49_eq k) a0) S) K) h
theorem e50 {a0 a1 : V} {S : St} {Q : V → St → Prop} (h : Ok (fun k K => m50 (callD Try.prog dPl dLv k) k a0 a1 S K) Q) : Does Try.prog dPl dLv 50 [a0, a1] S Q :=
 Does.enter (m := fun C k K => m50 C k a0 a1 S K) (fun k K => congrFun (congrFun (congrFun (congrFun (congrFun m50_eq k) a0) a1) S) K) h
theorem e51 {a0 : V} {S : St} {Q : V → St → Prop} (h : Ok (fun k K => m51 (callD Try.prog dPl dLv k) k a0 S K) Q) : Does Try.prog dPl dLv 51 [a0] S Q :=
 Does.enter (m := fun C k K => m51 C k a0 S K) (fun k K => congrFun (congrFun (congrFun (congrFun m51_eq k) a0) S) K) h
theorem e52 {a0 a1 : V} {S : St} {Q : V → St → Prop} (h : Ok (fun k K => m52 (callD Try.prog dPl dLv k) k a0 a1 S K) Q) : Does Try.prog dPl dLv 52 [a0, a1] S Q :=
 Does.enter (m := fun C k K => m52 C k a0 a1 S K) (fun k K => congrFun (congrFun (congrFun (congrFun (congrFun m52_eq k) a0) a1) S) K) h
theorem e53 {a0 a1 : V} {S : St} {Q : V → St → Prop} (h : Ok (fun k K => m53 (callD Try.prog dPl dLv k) k a0 a1 S K) Q) : Does Try.prog dPl dLv 53 [a0, a1] S Q :=
 Does.enter (m := fun C k K => m53 C k a0 a1 S K) (fun k K => congrFun (congrFun (congrFun (congrFun (congrFun m53_eq k) a0) a1) S) K) h
theorem e54 {a0 a1 : V} {S : St} {Q : V → St → Prop} (h : Ok (fun k K => m54 (callD Try.prog dPl dLv k) k a0 a1 S K) Q) : Does Try.prog dPl dLv 54 [a0, a1] S Q :=
 Does.enter (m := fun C k K => m54 C k a0 a1 S K) (fun k K => congrFun (congrFun (congrFun (congrFun (congrFun m54_eq k) a0) a1) S) K) h
theorem e55 {a0 a1 : V} {S : St} {Q : V → St → Prop} (h : Ok (fun k K => m55 (callD Try.prog dPl dLv k) k a0 a1 S K) Q) : Does Try.prog dPl dLv 55 [a0, a1] S Q :=
 Does.enter (m := fun C k K => m55 C k a0 a1 S K) (fun k K => congrFun (congrFun (congrFun (congrFun (congrFun m55_eq k) a0) a1) S) K) h
theorem e56 {a0 a1 : V} {S : St} {Q : V → St → Prop} (h : Ok (fun k K => m56 (callD Try.prog dPl dLv k) k a0 a1 S K) Q) : Does Try.prog dPl dLv 56 [a0, a1] S Q :=
 Does.enter (m := fun C k K => m56 C k a0 a1 S K) (fun k K => congrFun (congrFun (congrFun (congrFun (congrFun m56_eq k) a0) a1) S) K) h
theorem e57 {a0 a1 : V} {S : St} {Q : V → St → Prop} (h : Ok (fun k K => m57 (callD Try.prog dPl dLv k) k a0 a1 S K) Q) : Does Try.prog dPl dLv 57 [a0, a1] S Q :=
 Does.enter (m := fun C k K => m57 C k a0 a1 S K) (fun k K => congrFun (congrFun (congrFun (congrFun (congrFun m57_eq k) a0) a1) S) K) h
theorem e58 {a0 a1 : V} {S : St} {Q : V → St → Prop} (h : Ok (fun k K => m58 (callD Try.prog dPl dLv k) k a0 a1 S K) Q) : Does Try.prog dPl dLv 58 [a0, a1] S Q :=
 Does.enter (m := fun C k K => m58 C k a0 a1 S K) (fun k K => congrFun (congrFun (congrFun (congrFun (congrFun m58_eq k) a0) a1) S) K) h
theorem e59 {a0 a1 : V} {S : St} {Q : V → St → Prop} (h : Ok (fun k K => m59 (callD Try.prog dPl dLv k) k a0 a1 S K) Q) : Does Try.prog dPl dLv 59 [a0, a1] S Q :=
 Does.enter (m := fun C k K => m59 C k a0 a1 S K) (fun k K => congrFun (congrFun (congrFun (congrFun (congrFun m59_eq k) a0) a1) S) K) h
theorem e60 {a0 : V} {S : St} {Q : V → St → Prop} (h : Ok (fun k K => m60 (callD Try.prog dPl dLv k) k a0 S K) Q) : Does Try.prog dPl dLv 60 [a0] S Q :=
 Does.enter (m := fun C k K => m60 C k a0 S K) (fun k K => congrFun (congrFun (congrFun (congrFun m60_eq k) a0) S) K) h
theorem e61 {a0 a1 : V} {S : St} {Q : V → St → Prop} (h : Ok (fun k K => m61 (callD Try.prog dPl dLv k) k a0 a1 S K) Q) : Does Try.prog dPl dLv 61 [a0, a1] S Q :=
 Does.enter (m := fun C k K => m61 C k a0 a1 S K) (fun k K => congrFun (congrFun (congrFun (congrFun (congrFun m61_eq k) a0) a1) S) K) h
theorem e62 {a0 a1 : V} {S : St} {Q : V → St → Prop} (h : Ok (fun k K => m62 (callD Try.prog dPl dLv k) k a0 a1 S K) Q) : Does Try.prog dPl dLv 62 [a0, a1] S Q :=
 Does.enter (m := fun C k K => m62 C k a0 a1 S K) (fun k K => congrFun (congrFun (congrFun (congrFun (congrFun m62_eq k) a0) a1) S) K) h
theorem e63 {a0 a1 a2 : V} {S : St} {Q : V → St → Prop} (h : Ok (fun k K => m63 (callD Try.prog dPl dLv k) k a0 a1 a2 S K) Q) : Does Try.prog dPl dLv 63 [a0, a1, a2] S Q :=
 Does.enter (m := fun C k K => m63 C k a0 a1 a2 S K) (fun k K => congrFun (congrFun (congrFun (congrFun (congrFun (congrFun m63_eq k) a0) a1) a2) S) K) h
theorem e67 {a0 : V} {S : St} {Q : V → St → Prop} (h : Ok (fun k K => m67 (callD Try.prog dPl dLv k) k a0 S K) Q) : Does Try.prog dPl dLv 67 [a0] S Q :=
 Does.enter (m := fun C k K => m67 C k a0 S K) (fun k K => congrFun (congrFun (congrFun (congrFun m67_eq k) a0) S) K) h
theorem e82 {a0 : V} {S : St} {Q : V → St → Prop} (h : Ok (fun k K => m82 (callD Try.prog dPl dLv k) k a0 S K) Q) : Does Try.prog dPl dLv 82 [a0] S Q :=
 Does.enter (m := fun C k K => m82 C k a0 S K) (fun k K => congrFun (congrFun (congrFun (congrFun m82_eq k) a0) S) K) h
theorem e83 {a0 a1 : V} {S : St} {Q : V → St → Prop} (h : Ok (fun k K => m83 (callD Try.prog dPl dLv k) k a0 a1 S K) Q) : Does Try.prog dPl dLv 83 [a0, a1] S Q :=
 Does.enter (m := fun C k K => m83 C k a0 a1 S K) (fun k K => congrFun (congrFun (congrFun (congrFun (congrFun m83_eq k) a0) a1) S) K) h
theorem e84 {a0 a1 : V} {S : St} {Q : V → St → Prop} (h : Ok (fun k K => m84 (callD Try.prog dPl dLv k) k a0 a1 S K) Q) : Does Try.prog dPl dLv 84 [a0, a1] S Q :=
 Does.enter (m := fun C k K => m84 C k a0 a1 S K) (fun k K => congrFun (congrFun (congrFun (congrFun (congrFun m84_eq k) a0) a1) S) K) h
theorem e85 {a0 : V} {S : St} {Q : V → St → Prop} (h : Ok (fun k K => m85 (callD Try.prog dPl dLv k) k a0 S K) Q) : Does Try.prog dPl dLv 85 [a0] S Q :=
 Does.enter (m := fun C k K => m85 C k a0 S K) (fun k K => congrFun (congrFun (congrFun (congrFun m85_eq k) a0) S) K) h
theorem e86 {a0 a1 : V} {S : St} {Q : V → St → Prop} (h : Ok (fun k K => m86 (callD Try.prog dPl dLv k) k a0 a1 S K) Q) : Does Try.prog dPl dLv 86 [a0, a1] S Q :=
 Does.enter (m := fun C k K => m86 C k a0 a1 S K) (fun k K => congrFun (congrFun (congrFun (congrFun (congrFun m86_eq k) a0) a1) S) K) h
theorem e87 {a0 : V} {S : St} {Q : V → St → Prop} (h : Ok (fun k K => m87 (callD Try.prog dPl dLv k) k a0 S K) Q) : Does Try.prog dPl dLv 87 [a0] S Q :=
 Does.enter (m := fun C k K => m87 C k a0 S K) (fun k K => congrFun (congrFun (congrFun (congrFun m87_eq k) a0) S) K) h
theorem e88 {a0 a1 : V} {S : St} {Q : V → St → Prop} (h : Ok (fun k K => m88 (callD Try.prog dPl dLv k) k a0 a1 S K) Q) : Does Try.prog dPl dLv 88 [a0, a1] S Q :=
 Does.enter (m := fun C k K => m88 C k a0 a1 S K) (fun k K => congrFun (congrFun (congrFun (congrFun (congrFun m88_eq k) a0) a1) S) K) h
theorem e89 {a0 a1 : V} {S : St} {Q : V → St → Prop} (h : Ok (fun k K => m89 (callD Try.prog dPl dLv k) k a0 a1 S K) Q) : Does Try.prog dPl dLv 89 [a0, a1] S Q :=
 Does.enter (m := fun C k K => m89 C k a0 a1 S K) (fun k K => congrFun (congrFun (congrFun (congrFun (congrFun m89_eq k) a0) a1) S) K) h
theorem e90 {a0 : V} {S : St} {Q : V → St → Prop} (h : Ok (fun k K => m90 (callD Try.prog dPl dLv k) k a0 S K) Q) : Does Try.prog dPl dLv 90 [a0] S Q :=
 Does.enter (m := fun C k K => m90 C k a0 S K) (fun k K => congrFun (congrFun (congrFun (congrFun m90_eq k) a0) S) K) h
theorem e91 {a0 a1 a2 : V} {S : St} {Q : V → St → Prop} (h : Ok (fun k K => m91 (callD Try.prog dPl dLv k) k a0 a1 a2 S K) Q) : Does Try.prog dPl dLv 91 [a0, a1, a2] S Q :=
 Does.enter (m := fun C k K => m91 C k a0 a1 a2 S K) (fun k K => congrFun (congrFun (congrFun (congrFun (congrFun (congrFun m91_eq k) a0) a1) a2) S) K) h
theorem e92 {a0 : V} {S : St} {Q : V → St → Prop} (h : Ok (fun k K => m92 (callD Try.prog dPl dLv k) k a0 S K) Q) : Does Try.prog dPl dLv 92 [a0] S Q :=
 Does.enter (m := fun C k K => m92 C k a0 S K) (fun k K => congrFun (congrFun (congrFun (congrFun m92_eq k) a0) S) K) h
theorem e93 {a0 : V} {S : St} {Q : V → St → Prop} (h : Ok (fun k K => m93 (callD Try.prog dPl dLv k) k a0 S K) Q) : Does Try.prog dPl dLv 93 [a0] S Q :=
 Does.enter (m := fun C k K => m93 C k a0 S K) (fun k K => congrFun (congrFun (congrFun (congrFun m93_eq k) a0) S) K) h
theorem e95 {a0 a1 a2 : V} {S : St} {Q : V → St → Prop} (h : Ok (fun k K => m95 (callD Try.prog dPl dLv k) k a0 a1 a2 S K) Q) : Does Try.prog dPl dLv 95 [a0, a1, a2] S Q :=
 Does.enter (m := fun C k K => m95 C k a0 a1 a2 S K) (fun k K => congrFun (congrFun (congrFun (congrFun (congrFun (congrFun m95_eq k) a0) a1) a2) S) K) h
theorem e101 {a0 : V} {S : St} {Q : V → St → Prop} (h : Ok (fun k K => m101 (callD Try.prog dPl dLv k) k a0 S K) Q) : Does Try.prog dPl dLv 101 [a0] S Q :=
 Does.enter (m := fun C k K => m101 C k a0 S K) (fun k K => congrFun (congrFun (congrFun (congrFun m101_eq k) a0) S) K) h
theorem e102 {a0 : V} {S : St} {Q : V → St → Prop} (h : Ok (fun k K => m102 (callD Try.prog dPl dLv k) k a0 S K) Q) : Does Try.prog dPl dLv 102 [a0] S Q :=
 Does.enter (m := fun C k K => m102 C k a0 S K) (fun k K => congrFun (congrFun (congrFun (congrFun m102_eq k) a0) S) K) h
theorem e103 {a0 a1 a2 : V} {S : St} {Q : V → St → Prop} (h : Ok (fun k K => m103 (callD Try.prog dPl dLv k) k a0 a1 a2 S K) Q) : Does Try.prog dPl dLv 103 [a0, a1, a2] S Q :=
 Does.enter (m := fun C k K => m103 C k a0 a1 a2 S K) (fun k K => congrFun (congrFun (congrFun (congrFun (congrFun (congrFun m103_eq k) a0) a1) a2) S) K) h
theorem e104 {a0 : V} {S : St} {Q : V → St → Prop} (h : Ok (fun k K => m104 (callD Try.prog dPl dLv k) k a0 S K) Q) : Does Try.prog dPl dLv 104 [a0] S Q :=
 Does.enter (m := fun C k K => m104 C k a0 S K) (fun k K => congrFun (congrFun (congrFun (congrFun m104_eq k) a0) S) K) h
theorem e105 {a0 : V} {S : St} {Q : V → St → Prop} (h : Ok (fun k K => m105 (callD Try.prog dPl dLv k) k a0 S K) Q) : Does Try.prog dPl dLv 105 [a0] S Q :=
 Does.enter (m := fun C k K => m105 C k a0 S K) (fun k K => congrFun (congrFun (congrFun (congrFun m105_eq k) a0) S) K) h
theorem e106 {a0 : V} {S : St} {Q : V → St → Prop} (h : Ok (fun k K => m106 (callD Try.prog dPl dLv k) k a0 S K) Q) : Does Try.prog dPl dLv 106 [a0] S Q :=
 Does.enter (m := fun C k K => m106 C k a0 S K) (fun k K => congrFun (congrFun (congrFun (congrFun m106_eq k) a0) S) K) h
theorem e107 {a0 a1 : V} {S : St} {Q : V → St → Prop} (h : Ok (fun k K => m107 (callD Try.prog dPl dLv k) k a0 a1 S K) Q) : Does Try.prog dPl dLv 107 [a0, a1] S Q :=
 Does.enter (m := fun C k K => m107 C k a0 a1 S K) (fun k K => congrFun (congrFun (congrFun (congrFun (congrFun m107_eq k) a0) a1) S) K) h
end Go.Proofs.Ytbiidlmhadihlaa
end
section
set_option linter.unusedSimpArgs false
set_option linter.unusedVariables false
namespace Go.AM
structure D (b : Nat) (S S' : St) : Prop where
 next : S.next ≤ S'.next
 dead : ∀ a, a < b → S.heap.get a = none → S'.heap.get a = none
theorem D.refl {b : Nat} (S : St) : D b S S := ⟨Nat.le_refl _, fun _ _ h => h⟩
theorem D.trans {b : Nat} {A B C : St} (h : D b A B) (k : D b B C) : D b A C := ⟨Nat.le_trans h.next k.next, fun a ha h1 => k.dead a ha (h.dead a ha h1)⟩
theorem D.put {b : Nat} {S : St} {a : Nat} {x y : Blk} (h : S.heap.get a = some x) : D b S ⟨S.next, S.heap.put a y⟩ := by
 refine ⟨Nat.le_refl _, fun c _ hc => ?_⟩
 show (S.heap.put a y).get c = none
 rw [Tr.get_put_neB _ _ _ _ trivial (fun e => by rw [e, h] at hc; cases hc)]; exact hc
def FrB (b : Nat) (fr : Option Nat) : Prop := ∀ k, fr = some k → b ≤ k
theorem D.new {b : Nat} {S S' : St} {fr : Option Nat} {x : Blk} {a : Nat} (hb : b ≤ S.next) (hf : FrB b fr) (h : newBlk fr S x = .ok (a, S')) : D b S S' := by
 cases fr with
 | none =>
  rw [newBlk_none] at h
  cases h
  refine ⟨Nat.le_succ _, fun c hc hn => ?_⟩
  show (S.heap.put S.next x).get c = none
  rw [Tr.get_put_neB _ _ _ _ trivial (by omega)]; exact hn
 | some k =>
  rw [newBlk_at] at h
  cases h
  have := hf _ rfl
  refine ⟨Nat.le_refl _, fun c hc hn => ?_⟩
  show (S.heap.put a x).get c = none
  rw [Tr.get_put_neB _ _ _ _ trivial (by omega)]; exact hn
section
variable {P : Program} {b : Nat} {S S' : St} {fr : Option Nat}
theorem storeV_D {t : TypeId} {p x : V} (h : storeV P t p x S = .ok S') : D b S S' := by
 unfold storeV at h
 split at h
 ·split at h
  ·cases h
  ·rename_i hg
   split at h
   ·rw [cond_eq_ite] at h
    split at h
    ·cases h; exact D.put (row_has hg)
    ·cases h
   ·cases h
 ·cases h
theorem appendV_D {t : TypeId} {s x v : V} (hb : b ≤ S.next) (hf : FrB b fr) (h : appendV P t s x fr S = .ok (v, S')) : D b S S' := by
 unfold appendV at h
 split at h
 ·cases h
 ·split at h
  ·cases h
  ·rw [cond_eq_ite] at h
   split at h
   ·cases h
   ·split at h
    ·split at h
     ·cases h; exact D.refl S
     ·rw [cond_eq_ite] at h
      split at h
      ·split at h
       ·cases h
       ·rename_i hn; cases h; exact D.new hb hf hn
      ·cases h
    ·split at h
     ·cases h
     ·rename_i hg
      rw [cond_eq_ite] at h
      split at h
      ·cases h; exact D.put (row_has hg)
      ·cases h
    ·cases h
theorem insertV_D {t : TypeId} {s i x v : V} (hb : b ≤ S.next) (h : insertV P t s i x S = .ok (v, S')) : D b S S' := by
 have hf : FrB b none := fun _ h => by cases h
 unfold insertV at h
 split at h
 ·split at h
  ·cases h
  ·rw [cond_eq_ite] at h
   split at h
   ·cases h
   ·split at h
    ·rw [cond_eq_ite] at h
     split at h
     ·exact appendV_D hb hf h
     ·cases h
    ·rw [cond_eq_ite] at h
     split at h
     ·exact appendV_D hb hf h
     ·rw [cond_eq_ite] at h
      split at h
      ·cases h
      ·split at h
       ·cases h
       ·rename_i hg
        rw [cond_eq_ite] at h
        split at h
        ·cases h; exact D.put (row_has hg)
        ·cases h
    ·cases h
 ·cases h
theorem deleteV_D {t : TypeId} {s i j v : V} (h : deleteV P t s i j S = .ok (v, S')) : D b S S' := by
 unfold deleteV at h
 split at h
 ·rw [cond_eq_ite] at h
  split at h
  ·cases h
  ·rw [cond_eq_ite] at h
   split at h
   ·split at h
    ·cases h; exact D.refl S
    ·cases h
   ·split at h
    ·rename_i hg
     rw [cond_eq_ite] at h
     split at h
     ·cases h; exact D.put (row_has hg)
     ·cases h
    ·cases h
 ·cases h
theorem clearV_D {t : TypeId} {x v : V} (h : clearV P t x S = .ok (v, S')) : D b S S' := by
 unfold clearV at h
 split at h
 ·cases h; exact D.refl S
 ·rw [cond_eq_ite] at h
  split at h
  ·cases h; exact D.refl S
  ·split at h
   ·rename_i hg
    rw [cond_eq_ite] at h
    split at h
    ·cases h; exact D.put (row_has hg)
    ·cases h
   ·cases h
 ·cases h
theorem buildSliceV_D {t : TypeId} {n : Nat} {ps : List (Nat × V)} {v : V} (hb : b ≤ S.next) (hf : FrB b fr) (h : buildSliceV P t n ps fr S = .ok (v, S')) : D b S S' := by
 unfold buildSliceV at h
 split at h
 ·cases h
 ·split at h
  ·cases h
  ·rw [cond_eq_ite] at h
   split at h
   ·split at h
    ·cases h
    ·split at h
     ·cases h
     ·rename_i hn; cases h; exact D.new hb hf hn
   ·cases h
theorem makeSliceV_D {t : TypeId} {l c v : V} (hb : b ≤ S.next) (hf : FrB b fr) (h : makeSliceV P t l c fr S = .ok (v, S')) : D b S S' := by
 unfold makeSliceV at h
 split at h
 ·split at h
  ·cases h
  ·rw [cond_eq_ite] at h
   split at h
   ·split at h
    ·cases h
    ·rename_i hn; cases h; exact D.new hb hf hn
   ·cases h
 ·cases h
theorem convertV_D {s d : TypeId} {x v : V} (hb : b ≤ S.next) (hf : FrB b fr) (h : convertV P s d x fr S = .ok (v, S')) : D b S S' := by
  unfold convertV at h
  split at h
  · split at h
    · cases h; exact D.refl S
    · cases h
  · split at h
    · cases h; exact D.refl S
    · split at h
      · split at h
        · split at h
          all_goals first
            | cases h; done
            | (split at h
               · cases h
               · split at h
                 · cases h; exact D.refl S
                 · cases h)
        · cases h
      · cases h
  · split at h
    · rw [cond_eq_ite] at h
      split at h
      · split at h
        · cases h
        · rename_i hn; cases h; exact D.new hb hf hn
      · cases h
    · cases h
  · cases h
theorem mapUpdateV_D {t : TypeId} {m k v : V} (h : mapUpdateV P t m k v S = .ok S') : D b S S' := by
 unfold mapUpdateV at h
 split at h
 ·split at h
  ·rename_i hg
   split at h
   ·cases h; exact D.put hg
   ·cases h; exact D.put hg
   ·cases h
  ·cases h
 ·cases h
theorem pureR_D {r : R V} {v : V} (h : pureR S r = .ok (.val v S')) : S' = S := by
 unfold pureR at h
 split at h <;> cases h; rfl
theorem pureR_skip {r : R V} (h : pureR S r = .ok (.skip S')) : False := by
 unfold pureR at h
 split at h <;> cases h
theorem pairR_D {r : R (V × St)} {v : V} (h : pairR r = .ok (.val v S')) : r = .ok (v, S') := by
 unfold pairR at h
 split at h <;> cases h; rfl
theorem pairR_skip {r : R (V × St)} (h : pairR r = .ok (.skip S')) : False := by
 unfold pairR at h
 split at h <;> cases h
def Out.left : Out → Option St
 | .val _ S => some S
 | .skip S => some S
 | .call _ _ => none
theorem pureR_left {r : R V} {o : Out} (h : pureR S r = .ok o) (hl : o.left = some S') : D b S S' := by
 cases o with
 | val v S1 => cases hl; rw [pureR_D h]; exact D.refl S
 | skip S1 => exact (pureR_skip h).elim
 | call f a => cases hl
theorem pairR_left {r : R (V × St)} {o : Out} (h : pairR r = .ok o) (hl : o.left = some S') (hd : ∀ v S1, r = .ok (v, S1) → D b S S1) : D b S S' := by
 cases o with
 | val v S1 => cases hl; exact hd _ _ (pairR_D h)
 | skip S1 => exact (pairR_skip h).elim
 | call f a => cases hl
theorem callOr_left {g : FuncId} {args : List V} {o : Out} (h : callOr P S g args = .ok o) (hl : o.left = some S') : D b S S' := by
 unfold callOr at h
 split at h
 ·cases h
 ·split at h
  ·cases h; cases hl
  ·exact pureR_left h hl
theorem builtinV_left {B : Builtin} {ts : Array TypeId} {args : List V} {o : Out} (hb : b ≤ S.next) (hf : FrB b fr) (h : builtinV P B ts args fr S = .ok o) (hl : o.left = some S') : D b S S' := by
 unfold builtinV at h
 split at h
 ·split at h
  ·exact pureR_left h hl
  ·cases h
 ·exact pureR_left h hl
 ·exact pureR_left h hl
 ·split at h
  ·split at h
   ·exact pairR_left h hl fun v S1 e => appendV_D hb hf e
   ·exact pairR_left h hl fun v S1 e => appendV_D hb hf e
   ·cases h
  ·cases h
 ·split at h
  ·exact pairR_left h hl fun v S1 e => clearV_D e
  ·cases h
 ·cases h
theorem evalOp_left {ρ : Operand → Option V} {o : Oper} {u : Out} (hb : b ≤ S.next) (hf : FrB b fr) (h : evalOp P ρ o fr S = .ok u) (hl : u.left = some S') : D b S S' := by
 unfold evalOp at h
 split at h
 all_goals try (cases h; done)
 all_goals try (exact callOr_left h hl)
 all_goals repeat' split at h
 all_goals try (cases h; done)
 all_goals try (exact pureR_left h hl)
 all_goals try (exact callOr_left h hl)
 all_goals try (exact builtinV_left hb hf h hl)
 all_goals try (cases h; cases hl; exact D.refl S)
 all_goals try (rename_i hn; cases h; cases hl; exact D.new hb hf hn)
 all_goals try (rename_i hn; cases h; cases hl; exact storeV_D hn)
 all_goals try (rename_i hn; cases h; cases hl; exact mapUpdateV_D hn)
 all_goals try (exact pairR_left h hl fun v S1 e => buildSliceV_D hb hf e)
 all_goals try (exact pairR_left h hl fun v S1 e => convertV_D hb hf e)
 all_goals try (exact pairR_left h hl fun v S1 e => makeSliceV_D hb hf e)
 all_goals simp only [cond_eq_ite] at h
 all_goals repeat' split at h
 all_goals try (cases h; done)
 all_goals try (exact pureR_left h hl)
 all_goals try (cases h; cases hl; exact D.refl S)
 all_goals try (cases h; cases hl; exact D.new hb hf (by assumption))
 all_goals (cases h; cases hl; exact D.put (by assumption))
def CallDead (C : Call) : Prop := ∀ f args S v S', C f args S = .ok (v, S') → ∀ b, b ≤ S.next → D b S S'
theorem stepOp_D {C : Call} (hC : CallDead C) {n : Nat} {ops : Array Oper} {o : Oper} {e e' : Env} (hb : b ≤ S.next) (hf : FrB b fr) (h : stepOp P C n ops o fr e S = .ok (e', S')) : D b S S' := by
 unfold stepOp at h
 split at h
 ·cases h
 ·split at h
  ·cases h; exact D.refl S
  ·cases h
 ·split at h
  ·cases h
  ·rename_i hv
   split at h
   ·cases h; exact evalOp_left hb hf hv rfl
   ·cases h
  ·rename_i hv
   split at h
   ·cases h; exact evalOp_left hb hf hv rfl
   ·cases h
  ·split at h
   ·cases h
   ·rename_i hc
    split at h
    ·cases h; exact hC _ _ _ _ _ hc b hb
    ·cases h
theorem runOps_D {C : Call} (hC : CallDead C) {n : Nat} {ops : Array Oper} : ∀ (l : List Oper) {e e' : Env} {S S' : St}, b ≤ S.next → runOps P C n ops l e S = .ok (e', S') → D b S S'
 | [], e, e', S, S', hb, h => by cases h; exact D.refl S
 | o :: l, e, e', S, S', hb, h => by
  simp only [runOps] at h
  split at h
  ·rename_i hs
   have h1 := stepOp_D hC hb (fun _ h => by cases h) hs
   exact h1.trans (runOps_D hC l (Nat.le_trans hb h1.next) h)
  ·cases h
theorem drawGo_D {C : Call} (hC : CallDead C) {n : Nat} {ops : Array Oper} {base : Nat} (hbb : b ≤ base) : ∀ (l : List Step) {recs : List Rec} {e e' : Env} {S S' : St}, b ≤ S.next → drawGo P C n ops base l recs e S = .ok (e', S') → D b S S'
 | [], recs, e, e', S, S', hb, h => by cases h; exact D.refl S
 | (i, re) :: l, recs, e, e', S, S', hb, h => by
  simp only [drawGo] at h
  split at h
  ·cases h
  ·split at h
   ·cases h
   ·rename_i hs
    have h1 := stepOp_D hC hb (fun k hk => by cases hk; omega) hs
    rw [cond_eq_ite] at h
    split at h
    ·exact h1.trans (drawGo_D hC hbb l (Nat.le_trans hb h1.next) h)
    ·cases h
theorem draw_D {C : Call} (hC : CallDead C) {n : Nat} {ops : Array Oper} {l : List Step} {e e' : Env} (hb : b ≤ S.next) (h : draw P C n ops l e S = .ok (e', S')) : D b S S' := by
 unfold draw at h
 have := drawGo_D hC hb l (S := ⟨S.next + ops.size, S.heap⟩) (Nat.le_trans hb (Nat.le_add_right _ _)) h
 exact ⟨Nat.le_trans (Nat.le_add_right _ _) this.next, this.dead⟩
theorem exec_D {C : Call} (hC : CallDead C) {pl : Nat → Option (List Step)} {k n : Nat} : ∀ (c : Code) {e e' : Env} {x : Ex} {S S' : St}, b ≤ S.next → exec P pl C k n c e S = .ok (x, e', S') → D b S S'
 | .skip, e, e', x, S, S', hb, h => by cases h; exact D.refl S
 | .label _, e, e', x, S, S', hb, h => by cases h; exact D.refl S
 | .exit id, e, e', x, S, S', hb, h => by cases h; exact D.refl S
 | .ret, e, e', x, S, S', hb, h => by cases h; exact D.refl S
 | .region id ops d, e, e', x, S, S', hb, h => by
  simp only [exec] at h
  split at h
  ·rename_i hr
   cases h
   cases d with
   | true => exact draw_D hC hb hr
   | false => exact runOps_D hC _ hb hr
  ·cases h
 | .seq a c, e, e', x, S, S', hb, h => by
  simp only [exec] at h
  split at h
  ·rename_i h1
   have d1 := exec_D hC a hb h1
   exact d1.trans (exec_D hC c (Nat.le_trans hb d1.next) h)
  ·exact exec_D hC a hb h
 | .cond q a c, e, e', x, S, S', hb, h => by
  simp only [exec] at h
  split at h
  ·exact exec_D hC a hb h
  ·exact exec_D hC c hb h
  ·cases h
 | .block id a, e, e', x, S, S', hb, h => by
  simp only [exec] at h
  split at h
  ·rename_i h1
   have d1 := exec_D hC a hb h1
   rw [cond_eq_ite] at h
   split at h
   ·cases h; exact d1
   ·cases h; exact d1
  ·exact exec_D hC a hb h
 | .loop a, e, e', x, S, S', hb, h => by
  simp only [exec] at h
  have : ∀ (m : Nat) (e : Env) (S : St), b ≤ S.next → iter (exec P pl C k n a) m e S = .ok (x, e', S') → D b S S' := by
   intro m
   induction m with
   | zero => intro e S _ h; cases h
   | succ m ih =>
    intro e S hb h
    simp only [iter] at h
    split at h
    ·rename_i h1
     have d1 := exec_D hC a hb h1
     exact d1.trans (ih _ _ (Nat.le_trans hb d1.next) h)
    ·exact exec_D hC a hb h
  exact this k e S hb h
 | .scope _, e, e', x, S, S', hb, h => by cases h
 | .rangeFunc .., e, e', x, S, S', hb, h => by cases h
 | .goto _, e, e', x, S, S', hb, h => by cases h
 | .refuse _, e, e', x, S, S', hb, h => by cases h
def StepsDead (pl : Plans) : Prop := ∀ f g, pl f = some (.spec g) → ∀ args S v S', g args S = .ok (v, S') → ∀ b, b ≤ S.next → D b S S'
theorem callF_D {pl : Plans} (hp : StepsDead pl) : ∀ k, CallDead (callF P pl k)
 | 0 => fun _ _ _ _ _ h => by cases h
 | k + 1 => by
  intro f args S v S' h b hb
  simp only [callF] at h
  split at h
  ·cases h
  ·rename_i g hg
   exact hp f g hg args S v S' h b hb
  ·split at h
   ·cases h
   ·split at h
    ·cases h
    ·rw [cond_eq_ite] at h
     split at h
     ·split at h
      ·cases h
      ·cases h
      ·rename_i he
       split at h
       ·cases h; exact exec_D (callF_D hp k) _ hb he
       ·cases h
     ·cases h
theorem Sp_D {s : Sp} {args : List V} {v : V} (hb : b ≤ S.next) (h : s.run P args S = .ok (v, S')) : D b S S' := by
 unfold Sp.run at h
 split at h
 ·exact insertV_D hb h
 ·exact deleteV_D h
 ·rw [cond_eq_ite] at h
  split at h
  ·split at h
   ·rw [cond_eq_ite] at h
    split at h
    ·cases h; exact D.refl S
    ·cases h
   ·cases h; exact D.refl S
   ·cases h
  ·cases h
 ·split at h
  ·rw [cond_eq_ite] at h
   split at h
   ·cases h; exact D.refl S
   ·cases h
  ·rw [cond_eq_ite] at h
   split at h
   ·cases h; exact D.refl S
   ·cases h
  ·cases h
 ·cases h; exact D.refl S
 ·cases h
end
theorem plansOf_dead (P : Program) (sp : SpTab) (t : PlTab) : StepsDead (plansOf P sp t) := by
 intro f g hg args S v S' h b hb
 unfold plansOf at hg
 split at hg
 ·cases hg; exact Sp_D hb h
 ·split at hg
  ·cases hg
  ·cases hg
end Go.AM
namespace Go.AM
theorem Does.dead {P : Program} {pl : Plans} {lv : Lives} (hp : StepsDead pl) {f : FuncId} {args : List V} {S : St} {Q : V → St → Prop} (h : Does P pl lv f args S Q) : Does P pl lv f args S fun v S' => Q v S' ∧ D S.next S S' := by
 obtain ⟨v, S', N, q, h⟩ := h
 obtain ⟨v1, S1, h1, h2⟩ := callD_some N f args S (fun v S => some (v, S)) (v, S') (h N _ (Nat.le_refl _))
 cases h2
 exact ⟨v, S', N, ⟨q, callF_D hp N f args S v S' h1 S.next (Nat.le_refl _)⟩, h⟩
end Go.AM
end
section
namespace Go.AM
section
section
variable {P : Program} {pl : Plans} {lv : Lives}
def Gives (P : Program) (pl : Plans) (lv : Lives) (f : FuncId) (args : List V) (S : St) (v : V) : Prop := Does P pl lv f args S fun w S' => w = v ∧ Ext S S'
theorem Gives.call {f : FuncId} {args : List V} {S : St} {v : V} (h : Gives P pl lv f args S v) {G : Nat → KS → V → St → An} {R : V → St → Prop} (k : ∀ S', Ext S S' → Ok (fun k K => G k K v S') R) :
  Ok (fun k K => callD P pl lv k f args S (fun v S => G k K v S)) R := Does.call h fun w S' ⟨e, x⟩ => by subst e; exact k S' x
theorem Gives.get {f : FuncId} {args : List V} {S : St} {v : V} (h : Gives P pl lv f args S v) : ∃ N S', Ext S S' ∧ ∀ k K, N ≤ k → callD P pl lv k f args S K = K v S' := by
 obtain ⟨w, S', N, ⟨rfl, x⟩, h⟩ := h
 exact ⟨N, S', x, h⟩
end
theorem Sl.one {S : St} {n : Nat} {v : V} {es : List (List V)} (h : Sl S n v es) : v.one = true := by
 rcases h.is with ⟨rfl, _⟩ | rfl | ⟨a, ver, off, elems, rfl, _⟩ <;> rfl
theorem Sl.nilv (S : St) (n : Nat) : Sl S n .nils [] := ⟨.inl ⟨rfl, rfl⟩, fun _ h => by cases h⟩
theorem cell_put {S : St} {a n : Nat} {zs cs : List V} (h : S.heap.get a = some (.row 0 n [zs])) (hz : zs.length = n) (hc : cs.length = n) (ho : allOne cs = true) :
  storeW n (.ptr a 0 0 0) (.agg cs) S = .ok ⟨S.next, S.heap.put a (.row 0 n [cs])⟩ ∧ loadW (some n) (.ptr a 0 0 0) (⟨S.next, S.heap.put a (.row 0 n [cs])⟩ : St) = .ok (.agg cs) := by
 constructor
 ·have := var_set (x := .agg cs) (j := 0) (m := n) h hc ho (by omega)
  rw [this]
  simp only [agg_cells, splice_all zs cs (by rw [hc, hz])]
 ·rw [load_put, partW_all _ _ hc]
structure But (a : Nat) (S S' : St) : Prop where
 old : ∀ y b, y ≠ a → S.heap.get y = some b → S'.heap.get y = some b
 next : S.next ≤ S'.next
 wf : WF S → WF S'
theorem But.of {a : Nat} {S S' : St} (x : Ext S S') : But a S S' := ⟨fun y b _ h => x.old y b h, x.next, x.wf⟩
theorem But.trans {a : Nat} {A B C : St} (h : But a A B) (k : But a B C) : But a A C := ⟨fun y b hy q => k.old y b hy (h.old y b hy q), Nat.le_trans h.next k.next, fun w => k.wf (h.wf w)⟩
theorem But.put {a : Nat} {S : St} (ha : a < S.next) (b : Blk) : But a S ⟨S.next, S.heap.put a b⟩ := by
 refine ⟨fun y c hy h => ?_, Nat.le_refl _, fun w y c hc => ?_⟩
 ·show (S.heap.put a b).get y = some c
  rw [Tr.get_put_neB _ _ _ _ trivial hy]; exact h
 ·have hc' : (S.heap.put a b).get y = some c := hc
  rw [Tr.get_putB _ _ _ _ trivial] at hc'
  split at hc'
  ·show y < S.next; omega
  ·exact w y c hc'
theorem But.ext {a : Nat} {S0 S S' : St} (w : WF S0) (x : Ext S0 S) (ha : S0.next ≤ a) (h : But a S S') : Ext S0 S' :=
 ⟨fun y b hy => h.old y b (by have := w y b hy; omega) (x.old y b hy), Nat.le_trans x.next h.next, fun w => h.wf (x.wf w)⟩
theorem slices_cells {S : St} {n : Nat} {v : V} {es : List (List V)} (h : Sl S n v es) : v.cells = [v] := by
 rcases h.is with ⟨rfl, _⟩ | rfl | ⟨a, ver, off, elems, rfl, _⟩ <;> rfl
def blkOf : V → Option Nat
 | .sl a _ _ _ _ => some a
 | _ => none
theorem Own_lt {S0 S : St} {n : Nat} {v : V} {es : List (List V)} (h : Own S0 S n v es) {y : Nat} (hy : blkOf v = some y) : S0.next ≤ y ∧ y < S.next := by
 rcases h.is with ⟨e1, _⟩ | ⟨a, ver, tl, e1, e2, e3, _⟩
 ·rw [e1] at hy; cases hy
 ·rw [e1] at hy; cases hy; exact ⟨e2, e3⟩
theorem Own.same {S0 S S' : St} {n : Nat} {v : V} {es : List (List V)} (h : Own S0 S n v es) (hn : S.next ≤ S'.next) (hg : ∀ a, blkOf v = some a → S'.heap.get a = S.heap.get a) : Own S0 S' n v es :=
 h.other hn fun a ver m hv => hg a (by rw [hv]; rfl)
theorem Own.pushAt {S0 S : St} {n b : Nat} {v : V} {es : List (List V)} (h : Own S0 S n v es) (x : Ext S0 S) (w : WF S0) {u : V} {cs : List (List V)} (hu : elemsOf S u = .ok cs) (hc : ∀ c, c ∈ cs → c.length = n ∧ allOne c = true) (hne : cs ≠ [])
  {k : Nat} (hk : S0.next ≤ k) (hk2 : k < S.next) (hk3 : S.heap.get k = none)
  (h1 : (es.length + cs.length) * b ≤ 35184372088832) (h2 : es.length + cs.length < lim) : ∃ v' S', appW n b v u (some k) S = .ok (v', S') ∧ Ext S0 S' ∧ S'.next = S.next ∧ Own S0 S' n v' (es ++ cs) ∧ (blkOf v' = some k ∨ blkOf v' = blkOf v) ∧ ∀ y, y ≠ k → blkOf v ≠ some y → S'.heap.get y = S.heap.get y := by
 obtain ⟨a1, a2⟩ := allLen_of hc
 have hlen : ∀ c, c ∈ es ++ cs → c.length = n ∧ allOne c = true := fun c hm => (List.mem_append.1 hm).elim (h.len c) (hc c)
 rcases h.is with ⟨rfl, rfl⟩ | ⟨a, ver, tl, rfl, q1, q2, q3⟩
 ·cases cs with
  | nil => exact absurd rfl hne
  | cons c cs =>
   refine ⟨.sl k 0 n 0 (c :: cs).length, ⟨S.next, S.heap.put k (.row 0 n (c :: cs))⟩, ?_, x.trans (Ext.newAt hk3 hk2 _), rfl, ⟨.inr ⟨k, 0, [], rfl, hk, hk2, ?_⟩, hlen⟩, .inl rfl, fun y hy _ => Tr.get_put_neB _ _ _ _ trivial hy⟩
   ·simp only [List.length_nil, Nat.zero_add] at h1 h2
    simp only [appW, hu, a1, a2, and_self, if_true, h1, h2, newBlk_at]
   ·rw [List.append_nil]; exact Tr.get_put_sameB _ _ _ trivial
 ·have hb : 0 + es.length ≤ es.length + tl.length := by omega
  refine ⟨.sl a (ver + 1) n 0 (es ++ cs).length, ⟨S.next, S.heap.put a (.row (ver + 1) n (es ++ cs))⟩, ?_, x.set q1 q2 w _, rfl, ⟨.inr ⟨a, ver + 1, [], rfl, q1, q2, ?_⟩, hlen⟩, .inr rfl, fun y _ hy => Tr.get_put_neB _ _ _ _ trivial (fun e => hy (by rw [e]; rfl))⟩
  ·simp only [appW, hu, a1, a2, and_self, if_true, row_get q3, hb, h1, h2, List.drop_zero, List.take_left', List.length_append]
  ·rw [List.append_nil]; exact Tr.get_put_sameB _ _ _ trivial
theorem free_at {S : St} (w : WF S) (c k : Nat) (hk : S.next ≤ k) : (⟨S.next + c, S.heap⟩ : St).heap.get k = none := by
 cases hq : S.heap.get k with
 | none => rfl
 | some b => have := w k b hq; omega
theorem Sl.but {a ver m n : Nat} {el : List (List V)} {S S' : St} {v : V} {es : List (List V)} (h : Sl S n v es) (b : ∀ y c, y ≠ a → S.heap.get y = some c → S'.heap.get y = some c) (hr : S.heap.get a = some (.row ver m el)) (hne : m ≠ n) : Sl S' n v es := by
 refine ⟨?_, h.len⟩
 rcases h.is with h1 | h1 | ⟨a', ver', off, elems, h1, h2, h3⟩
 ·exact .inl h1
 ·exact .inr (.inl h1)
 ·have h4 := row_has h2
  refine .inr (.inr ⟨a', ver', off, elems, h1, row_get (b a' _ (fun e => ?_) h4), h3⟩)
  rw [e, hr] at h4
  exact hne (by cases h4; rfl)
theorem Own.but {a ver m n : Nat} {el : List (List V)} {S0 S S' : St} {v : V} {es : List (List V)} (h : Own S0 S n v es) (b : ∀ y c, y ≠ a → S.heap.get y = some c → S'.heap.get y = some c) (hn : S.next ≤ S'.next) (hr : S.heap.get a = some (.row ver m el)) (hne : m ≠ n) : Own S0 S' n v es := by
 refine ⟨?_, h.len⟩
 rcases h.is with h1 | ⟨a', ver', tl, h1, h2, h3, h4⟩
 ·exact .inl h1
 ·refine .inr ⟨a', ver', tl, h1, h2, Nat.lt_of_lt_of_le h3 hn, b a' _ (fun e => ?_) h4⟩
  rw [e, hr] at h4
  exact hne (by cases h4; rfl)
theorem Own.beq {S0 S : St} {n : Nat} {v : V} {es : List (List V)} (h : Own S0 S n v es) : beqV v v = true := by
 rcases h.is with ⟨rfl, _⟩ | ⟨a', ver', tl, rfl, _⟩
 ·rfl
 ·simp [beqV]
theorem nb {S : St} (w : WF S) (n : Nat) (cs : List V) : ∃ S1, newBlk none S (.row 0 n [cs]) = .ok (S.next, S1) ∧ Ext S S1 ∧ S1.heap.get S.next = some (.row 0 n [cs]) ∧ S1.next = S.next + 1 :=
 ⟨_, newBlk_none .., Ext.new w _, Tr.get_put_sameB _ _ _ trivial, rfl⟩
theorem vb {S : St} (w : WF S) (n : Nat) (zs : List V) (x : V) (hz : zs.length = n) (hx : x.cells.length = n) (ho : allOne x.cells = true) :
  ∃ S1 S2, newBlk none S (.row 0 n [zs]) = .ok (S.next, S1) ∧ storeW n (.ptr S.next 0 0 0) x S1 = .ok S2 ∧ Ext S S2 ∧ S2.heap.get S.next = some (.row 0 n [x.cells]) ∧ S2.next = S.next + 1 :=
 ⟨_, _, newBlk_none .., store_var S n zs x hz hx ho, Ext.var w n zs x.cells, row_has (row_var S n zs x.cells), rfl⟩
abbrev Ag := List V → St → An
inductive Turn (X : Type) where
 | stop (x : X) (S : St)
 | next (vs : List V) (S : St)
def Turn.run {X : Type} (out : Nat → KS → X → St → An) (k : Nat) (K : KS) (again : Ag) : Turn X → An
 | .stop x S => out k K x S
 | .next vs S => again vs S
def OkL {X : Type} (out : Nat → KS → X → St → An) (g : Nat → KS → Ag → An) (Q : Turn X → Prop) : Prop := ∃ o N, Q o ∧ ∀ k K again, N ≤ k → g k K again = o.run out k K again
theorem OkL.stop {X : Type} {out : Nat → KS → X → St → An} {Q : Turn X → Prop} {g : Nat → KS → Ag → An} (x : X) {S : St} (h : Q (.stop x S)) (he : ∀ k K again, g k K again = out k K x S := by intros; rfl) : OkL out g Q := ⟨_, 0, h, fun k K again _ => he k K again⟩
theorem OkL.next {X : Type} {out : Nat → KS → X → St → An} {Q : Turn X → Prop} {vs : List V} {S : St} (h : Q (.next vs S)) : OkL out (fun _ _ again => again vs S) Q := ⟨_, 0, h, fun _ _ _ _ => rfl⟩
theorem OkL.pick {X : Type} {out : Nat → KS → X → St → An} {Q : Turn X → Prop} {b : Bool} {g g' : Nat → KS → Ag → An} (h : b = true → OkL out g Q) (h' : b = false → OkL out g' Q) : OkL out (fun k K again => pickD (.bool b) (g k K again) (g' k K again)) Q := by
 cases b with
 | true => exact h rfl
 | false => exact h' rfl
theorem OkL.pickP {X : Type} {out : Nat → KS → X → St → An} {Q : Turn X → Prop} {p : Prop} [Decidable p] {g g' : Nat → KS → Ag → An} (h : p → OkL out g Q) (h' : ¬ p → OkL out g' Q) : OkL out (fun k K again => pickD (.bool (decide p)) (g k K again) (g' k K again)) Q :=
 OkL.pick (fun e => h (of_decide_eq_true e)) (fun e => h' (of_decide_eq_false e))
theorem OkL.pickN {X : Type} {out : Nat → KS → X → St → An} {Q : Turn X → Prop} {p : Prop} [Decidable p] {g g' : Nat → KS → Ag → An} (h : ¬ p → OkL out g Q) (h' : p → OkL out g' Q) : OkL out (fun k K again => pickD (.bool (!decide p)) (g k K again) (g' k K again)) Q :=
 OkL.pick (fun e => h (by simpa using e)) (fun e => h' (by simpa using e))
theorem OkL.call {P : Program} {pl : Plans} {lv : Lives} {X : Type} {out : Nat → KS → X → St → An} {Q : Turn X → Prop} {f : FuncId} {args : List V} {S : St} {R : V → St → Prop} (h : Does P pl lv f args S R) {G : Nat → KS → Ag → V → St → An} (k : ∀ v S, R v S → OkL out (fun k K again => G k K again v S) Q) :
  OkL out (fun k K again => callD P pl lv k f args S (fun v S => G k K again v S)) Q := by
 obtain ⟨v, S', N, q, h⟩ := h
 obtain ⟨o, M, q2, h2⟩ := k v S' q
 exact ⟨o, max N M, q2, fun k K again hk => (h k (fun v S => G k K again v S) (by omega)).trans (h2 k K again (by omega))⟩
theorem Gives.callL {P : Program} {pl : Plans} {lv : Lives} {X : Type} {out : Nat → KS → X → St → An} {Q : Turn X → Prop} {f : FuncId} {args : List V} {S : St} {v : V} (h : Gives P pl lv f args S v) {G : Nat → KS → Ag → V → St → An} (k : ∀ S', Ext S S' → OkL out (fun k K again => G k K again v S') Q) :
  OkL out (fun k K again => callD P pl lv k f args S (fun v S => G k K again v S)) Q := OkL.call h fun w S' ⟨e, x⟩ => by subst e; exact k S' x
def Round {σ ρ α X : Type} (step : σ → α → ρ ⊕ σ) (Inv : Nat → σ → List V → St → Prop) (Post : ρ → X → St → Prop) (i : Nat) (s : σ) (a : α) : Turn X → Prop
 | .stop x S => ∃ r, step s a = .inl r ∧ Post r x S
 | .next vs S => ∃ s', step s a = .inr s' ∧ Inv (i + 1) s' vs S
theorem Ok.loopL {σ ρ α X : Type} {F : Nat → KS → List V → St → (List V → St → An) → An} {out : Nat → KS → X → St → An} (all : List α) {step : σ → α → ρ ⊕ σ} {fin : σ → ρ} (Inv : Nat → σ → List V → St → Prop) (Post : ρ → X → St → Prop)
  (hstep : ∀ i a s vs S, Inv i s vs S → all[i]? = some a → OkL out (fun k K again => F k K vs S again) (Round step Inv Post i s a))
  (hend : ∀ s vs S, Inv all.length s vs S → ∃ x, Post (fin s) x S ∧ ∀ k K again, F k K vs S again = out k K x S)
  {s : σ} {vs : List V} {S : St} (hI : Inv 0 s vs S) {Q : V → St → Prop} (hout : ∀ x S', Post (runL step fin all s) x S' → Ok (fun k K => out k K x S') Q) : Ok (fun k K => loopD k vs S (F k K)) Q := by
 refine Ok.loop all Inv Post (fun i a s vs S hI hi => ?_) (fun s vs S hI => ?_) hI hout
 ·obtain ⟨o, N, hq, h⟩ := hstep i a s vs S hI hi
  cases o with
  | stop x S' =>
   obtain ⟨r, h1, h2⟩ := hq
   exact ⟨N, .inl ⟨r, x, S', h1, h2, h⟩⟩
  | next vs' S' =>
   obtain ⟨s', h1, h2⟩ := hq
   exact ⟨N, .inr ⟨s', vs', S', h1, h2, h⟩⟩
 ·obtain ⟨x, h1, h2⟩ := hend s vs S hI
  exact ⟨0, x, S, h1, fun k K again _ => h2 k K again⟩
theorem OkL.loop {X : Type} {out : Nat → KS → X → St → An} {Q : Turn X → Prop} {σ ρ α Y : Type} {F : Nat → KS → Ag → List V → St → Ag → An} {out2 : Nat → KS → Ag → Y → St → An} (all : List α) {step : σ → α → ρ ⊕ σ} {fin : σ → ρ} (Inv : Nat → σ → List V → St → Prop) (Post : ρ → Y → St → Prop)
  (hstep : ∀ i a s vs S, Inv i s vs S → all[i]? = some a → ∃ N, (∃ r y S', step s a = .inl r ∧ Post r y S' ∧ ∀ k K ag again, N ≤ k → F k K ag vs S again = out2 k K ag y S') ∨ (∃ s' vs' S', step s a = .inr s' ∧ Inv (i + 1) s' vs' S' ∧ ∀ k K ag again, N ≤ k → F k K ag vs S again = again vs' S'))
  (hend : ∀ s vs S, Inv all.length s vs S → ∃ N y S', Post (fin s) y S' ∧ ∀ k K ag again, N ≤ k → F k K ag vs S again = out2 k K ag y S')
  {s : σ} {vs : List V} {S : St} (hI : Inv 0 s vs S) (hout : ∀ y S', Post (runL step fin all s) y S' → OkL out (fun k K ag => out2 k K ag y S') Q) : OkL out (fun k K ag => loopD k vs S (F k K ag)) Q := by
 obtain ⟨N, y, S', hp, h⟩ := loop_rule (κ := KS × Ag) (F := fun k κ => F k κ.1 κ.2) (out := fun k κ => out2 k κ.1 κ.2) all Inv Post
  (fun i a s vs S h1 h2 => by
   obtain ⟨N, h⟩ := hstep i a s vs S h1 h2
   rcases h with ⟨r, y, S', a1, a2, a3⟩ | ⟨s', vs', S', a1, a2, a3⟩
   ·exact ⟨N, .inl ⟨r, y, S', a1, a2, fun k κ again hk => a3 k κ.1 κ.2 again hk⟩⟩
   ·exact ⟨N, .inr ⟨s', vs', S', a1, a2, fun k κ again hk => a3 k κ.1 κ.2 again hk⟩⟩)
  (fun s vs S h1 => by
   obtain ⟨N, y, S', a1, a2⟩ := hend s vs S h1
   exact ⟨N, y, S', a1, fun k κ again hk => a2 k κ.1 κ.2 again hk⟩) all 0 s vs S rfl (Nat.zero_le _) hI
 obtain ⟨o, M, hq, h2⟩ := hout y S' hp
 refine ⟨o, max N (max M (all.length + 1)), hq, fun k K ag hk => ?_⟩
 exact (h k k (K, ag) (by omega) (by omega)).trans (h2 k K ag (by omega))
def Grown (n B : Nat) (T T' : St) : Prop := Ext T T' ∨ ∃ a ver el, B ≤ a ∧ T.heap.get a = some (.row ver n el) ∧ But a T T'
theorem Sl_lt {S : St} (w : WF S) {n : Nat} {v : V} {es : List (List V)} (h : Sl S n v es) : ∀ y, blkOf v = some y → y < S.next := by
 intro y hy
 rcases h.is with ⟨rfl, _⟩ | rfl | ⟨a, ver, off, elems, rfl, h1, _⟩
 ·cases hy
 ·cases hy
 ·cases hy; exact w _ _ (row_has h1)
theorem Sl.keep {S S' : St} {n : Nat} {v : V} {es : List (List V)} (h : Sl S n v es) (hg : ∀ y c, blkOf v = some y → S.heap.get y = some c → S'.heap.get y = some c) : Sl S' n v es := by
 refine ⟨?_, h.len⟩
 rcases h.is with h1 | h1 | ⟨a, ver, off, elems, h1, h2, h3⟩
 ·exact .inl h1
 ·exact .inr (.inl h1)
 ·exact .inr (.inr ⟨a, ver, off, elems, h1, row_get (hg a _ (by rw [h1]; rfl) (row_has h2)), h3⟩)
theorem Grown.old {n B : Nat} {T T' : St} (g : Grown n B T T') {y : Nat} {c : Blk} (h : T.heap.get y = some c) (hc : y < B ∨ ∀ ver el, c ≠ .row ver n el) : T'.heap.get y = some c := by
 rcases g with x | ⟨a, ver, el, ha, hr, b⟩
 ·exact x.old _ _ h
 ·refine b.old _ _ (fun e => ?_) h
  subst e
  rcases hc with hc | hc
  ·omega
  ·rw [h] at hr; cases hr; exact hc _ _ rfl
theorem Grown.sl {n B m : Nat} {T T' : St} (g : Grown n B T T') {v : V} {es : List (List V)} (h : Sl T m v es) (hm : m ≠ n) : Sl T' m v es := by
 rcases g with x | ⟨a, ver, el, ha, hr, b⟩
 ·exact h.ext x
 ·exact h.but b.old hr (Ne.symm hm)
theorem Grown.sl2 {n B m : Nat} {T T' : St} (g : Grown n B T T') {v : V} {es : List (List V)} (h : Sl T m v es) (hv : ∀ y, blkOf v = some y → y < B) : Sl T' m v es :=
 Sl.keep h fun y c hy hc => g.old hc (.inl (hv y hy))
theorem Own.pushG {S0 S : St} {n b : Nat} {v : V} {es : List (List V)} (h : Own S0 S n v es) (x : Ext S0 S) (w : WF S0) {u : V} {cs : List (List V)} (hu : elemsOf S u = .ok cs) (hc : ∀ c, c ∈ cs → c.length = n ∧ allOne c = true) (hne : cs ≠ [])
  (h1 : (es.length + cs.length) * b ≤ 35184372088832) (h2 : es.length + cs.length < lim) : ∃ v' S', appW n b v u none S = .ok (v', S') ∧ Ext S0 S' ∧ Own S0 S' n v' (es ++ cs) ∧ (blkOf v' = some S.next ∨ blkOf v' = blkOf v) ∧ (∀ y, y < S.next → blkOf v ≠ some y → S'.heap.get y = S.heap.get y) ∧ S.next ≤ S'.next := by
 obtain ⟨a1, a2⟩ := allLen_of hc
 have hlen : ∀ c, c ∈ es ++ cs → c.length = n ∧ allOne c = true := fun c hm => (List.mem_append.1 hm).elim (h.len c) (hc c)
 rcases h.is with ⟨rfl, rfl⟩ | ⟨a, ver, tl, rfl, q1, q2, q3⟩
 ·cases cs with
  | nil => exact absurd rfl hne
  | cons c cs =>
   refine ⟨.sl S.next 0 n 0 (c :: cs).length, ⟨S.next + 1, S.heap.put S.next (.row 0 n (c :: cs))⟩, ?_, x.trans (Ext.new (x.wf w) _), ⟨.inr ⟨S.next, 0, [], rfl, x.next, Nat.lt_succ_self _, ?_⟩, hlen⟩, .inl rfl, fun y hy _ => Tr.get_put_neB _ _ _ _ trivial (by omega), Nat.le_succ _⟩
   ·simp only [List.length_nil, Nat.zero_add] at h1 h2
    simp only [appW, hu, a1, a2, and_self, if_true, h1, h2, newBlk_none]
   ·rw [List.append_nil]; exact Tr.get_put_sameB _ _ _ trivial
 ·have hb : 0 + es.length ≤ es.length + tl.length := by omega
  refine ⟨.sl a (ver + 1) n 0 (es ++ cs).length, ⟨S.next, S.heap.put a (.row (ver + 1) n (es ++ cs))⟩, ?_, x.set q1 q2 w _, ⟨.inr ⟨a, ver + 1, [], rfl, q1, q2, ?_⟩, hlen⟩, .inr rfl, fun y _ hy => Tr.get_put_neB _ _ _ _ trivial (fun e => hy (by rw [e]; rfl)), Nat.le_refl _⟩
  ·simp only [appW, hu, a1, a2, and_self, if_true, row_get q3, hb, h1, h2, List.drop_zero, List.take_left', List.length_append]
  ·rw [List.append_nil]; exact Tr.get_put_sameB _ _ _ trivial

theorem told_free {S S1 : St} (w : WF S) {n k : Nat} (d : D (S.next + n) (⟨S.next + n, S.heap⟩ : St) S1) (h1 : S.next ≤ k) (h2 : k < S.next + n) : S1.heap.get k = none ∧ k < S1.next :=
 ⟨d.dead k h2 (free_at w n k h1), Nat.lt_of_lt_of_le h2 d.next⟩
end
end Go.AM
end
section
namespace Go.Raft
open Go.AM
structure Entry where
 term : Int
 members : Int
 data : List UInt8
deriving DecidableEq
structure Hard where
 term : Int
 vote : Int
 base : Int
 baseTerm : Int
 members : Int
 snap : List UInt8
 log : List Entry
deriving DecidableEq
structure Letter where
 kind : Int
 from' : Int
 to : Int
 term : Int
 index : Int
 at' : Int
 commit : Int
 members : Int
 off : Int
 size : Int
 yes : Bool
 data : List UInt8
 entries : List Entry
deriving DecidableEq
def Letter.zero : Letter := ⟨0, 0, 0, 0, 0, 0, 0, 0, 0, 0, false, [], []⟩
structure Peer where
 next : Int
 mtch : Int
 off : Int
deriving DecidableEq
structure Inst where
 index : Int
 at' : Int
 size : Int
 data : List UInt8
deriving DecidableEq
structure Core where
 id : Int
 h : Hard
 role : Int
 leads : Int
 sure : Int
 drawn : Int
 left : Int
 votes : Int
 peers : List Peer
 way : Option Inst
 out : List Letter
deriving DecidableEq
def bitM (m : Int) (k : Nat) : Bool := decide ((m / 2 ^ k) % 2 = 1)
def hasM (m id : Int) : Bool := decide (0 ≤ id) && (decide (id < 7) && bitM m id.toNat)
def ids : List Int := [0, 1, 2, 3, 4, 5, 6]
def listM (m : Int) : List Int := ids.filter (hasM m)
def countM (m : Int) : Int := (listM m).length
def setOK (m : Int) : Bool := decide (1 ≤ m) && decide (m ≤ 127)
def andM (m n : Int) : Int := (ids.map fun i => if hasM m i = true ∧ hasM n i = true then (2 : Int) ^ i.toNat else 0).sum
def xorM (m n : Int) : Int := (ids.map fun i => if hasM m i = true ∧ hasM n i = false ∨ hasM m i = false ∧ hasM n i = true then (2 : Int) ^ i.toNat else 0).sum
def mostM (m yes : Int) : Bool := setOK m && decide (countM m < 2 * countM (andM m yes))
def mayM (m n : Int) : Bool := setOK m && (setOK n && decide (countM (xorM m n) = 1))
def ofL (base : Int) : List Entry → Int × Int → Int × Int
 | [], r => r
 | x :: l, r => ofL (base + 1) l (if x.members = 0 then r else (x.members, base + 1))
def ofM (h : Hard) : Int × Int := ofL h.base h.log (h.members, h.base)
def fitsM (x : Entry) (behind term : Int) : Bool :=
 decide (1 ≤ x.term) && (decide (behind ≤ x.term) && (decide (x.term ≤ term) && (decide (0 ≤ x.members) && (decide (x.members ≤ 127) && (decide (x.data.length ≤ 1100) && (decide (x.members = 0) || decide (x.data = [])))))))
def fitsL (term : Int) : List Entry → Int → Bool
 | [], _ => true
 | x :: l, behind => fitsM x behind term && fitsL term l x.term
def bareM (h : Hard) : Bool :=
 decide (0 ≤ h.term) && (decide (h.term ≤ 1099511627776) && (decide (-1 ≤ h.vote) && (decide (h.vote < 7) && (decide (1 ≤ h.members) && (decide (h.members ≤ 127) && (decide (0 ≤ h.base) && (decide (h.base ≤ 1099511627776) && (decide (0 ≤ h.baseTerm) && (decide (h.baseTerm ≤ h.term) && (decide (h.baseTerm = 0 ↔ h.base = 0) &&
  (decide (h.log.length ≤ 200) && (decide ((h.log.length : Int) ≤ 1099511627776 - h.base) && fitsL h.term h.log h.baseTerm))))))))))))
def rightH (h : Hard) : Bool := bareM h && (decide (h.snap = [] ↔ h.base = 0) && decide (h.snap.length ≤ 65536))
def inM (n lo hi : Int) : Bool := decide (lo ≤ n) && decide (n ≤ hi)
def bareL (m n : Letter) : Bool :=
 decide (m.entries.length = n.entries.length) && (decide (m.index = n.index) && (decide (m.at' = n.at') && (decide (m.commit = n.commit) && (decide (m.members = n.members) && (decide (m.off = n.off) && (decide (m.size = n.size) && (decide (m.yes = n.yes) && decide (m.data = n.data))))))))
def namedL (m : Letter) : Bool :=
 if m.kind = 1 then bareL m { Letter.zero with index := m.index, at' := m.at' } else
 if m.kind = 2 then bareL m { Letter.zero with yes := m.yes } else
 if m.kind = 3 then bareL m { Letter.zero with index := m.index, at' := m.at', entries := m.entries, commit := m.commit } else
 if m.kind = 4 then bareL m { Letter.zero with yes := m.yes, index := m.index } else
 if m.kind = 5 then bareL m { Letter.zero with index := m.index, at' := m.at', members := m.members, off := m.off, size := m.size, data := m.data } else
 if m.kind = 6 then bareL m { Letter.zero with index := m.index, off := m.off } else false
def entriesL (m : Letter) : Bool :=
 decide (m.entries.length ≤ 8) && (decide ((m.entries.length : Int) ≤ 1099511627776 - m.index) && rightH ⟨m.term, -1, m.index, m.at', 1, if 0 < m.index then [115] else [], m.entries⟩)
def pieceL (m : Letter) : Bool :=
 decide (m.index ≠ 0) && (decide (m.at' ≠ 0) && (inM m.members 1 127 && (inM m.size 1 65536 && (inM m.off 0 (m.size - 1) && (decide (1 ≤ m.data.length) && (decide (m.data.length ≤ 600) && decide ((m.data.length : Int) ≤ m.size - m.off)))))))
def rightL (m : Letter) : Bool :=
 namedL m && (inM m.from' 0 6 && (inM m.to 0 6 && (decide (m.from' ≠ m.to) && (inM m.term 1 1099511627776 && (inM m.index 0 1099511627776 && (inM m.at' 0 m.term && (inM m.commit 0 1099511627776 &&
  (if m.kind = 1 then decide (m.at' = 0 ↔ m.index = 0) else if m.kind = 3 then decide (m.at' = 0 ↔ m.index = 0) && entriesL m else if m.kind = 5 then pieceL m else if m.kind = 6 then decide (m.index ≠ 0) && inM m.off 0 65536 else true))))))))
def waitM (draw : Int) : Int := 10 + (if draw.tmod 11 < 0 then draw.tmod 11 + 11 else draw.tmod 11)
def newM (id : Int) (h : Hard) (draw : Int) : Option Core :=
 if id < 0 ∨ 7 ≤ id ∨ rightH h = false then none else
  some ⟨id, h, 1, -1, h.base, waitM draw, waitM draw, 0, List.replicate 7 ⟨0, 0, 0⟩, none, []⟩
def lastH (h : Hard) : Int := h.base + h.log.length
def termH (h : Hard) (n : Int) : Int := if n = h.base then h.baseTerm else match h.log[(n - h.base - 1).toNat]? with
 | some x => x.term
 | none => 0
def Core.last (c : Core) : Int := lastH c.h
def Core.term (c : Core) (n : Int) : Int := termH c.h n
def Core.members (c : Core) : Int := (ofM c.h).1
def Core.post (c : Core) (m : Letter) : Core := { c with out := c.out ++ [{ m with from' := c.id, term := c.h.term }] }
def Core.others (c : Core) : List Int := (listM c.members).filter fun f => !decide (f = c.id)
def Core.peer (c : Core) (f : Int) : Peer := c.peers.getD f.toNat ⟨0, 0, 0⟩
def Core.setPeer (c : Core) (f : Int) (p : Peer) : Core := { c with peers := c.peers.set f.toNat p }
def Core.send (c : Core) (f : Int) : Core :=
 let p := c.peer f
 if p.next ≤ c.h.base then
  c.post { Letter.zero with kind := 5, to := f, index := c.h.base, at' := c.h.baseTerm, members := c.h.members, off := p.off, size := c.h.snap.length, data := (c.h.snap.drop p.off.toNat).take 600 }
 else
  c.post { Letter.zero with kind := 3, to := f, index := p.next - 1, at' := c.term (p.next - 1), entries := (c.h.log.drop (p.next - c.h.base - 1).toNat).take 8, commit := c.sure }
def Core.spread (c : Core) : Core := if c.role = 3 then c.others.foldl Core.send c else c
def Core.rest (c : Core) : Core := { c with role := 1, leads := -1, left := c.drawn }
def yesM : List Peer → Nat → Int → Int
 | [], _, _ => 0
 | p :: l, k, n => (if n ≤ p.mtch then (2 : Int) ^ k else 0) + yesM l (k + 1) n
def sureL (c : Core) (m : Int) : Nat → Int → Int → Int
 | 0, _, sure => sure
 | k + 1, n, sure => if n ≤ sure then sure else sureL c m k (n - 1) (if c.term n = c.h.term ∧ mostM m (yesM c.peers 0 n) = true then n else sure)
def Core.look (c : Core) : Core :=
 let r := ofM c.h
 let c1 := { c with sure := sureL c r.1 (c.last - c.sure).toNat c.last c.sure }
 if hasM r.1 c1.id = false ∧ r.2 ≤ c1.sure then c1.rest else c1
def Core.own (c : Core) : Core := (c.setPeer c.id { c.peer c.id with mtch := c.last }).look.spread
def Core.lead (c : Core) : Core :=
 let c1 := { c with role := 3, leads := c.id, left := 3, peers := List.replicate 7 ⟨c.last + 1, 0, 0⟩ }
 let c2 := if c.last < 1099511627776 ∧ c.h.log.length < 200 then { c1 with h := { c1.h with log := c1.h.log ++ [⟨c1.h.term, 0, []⟩] } } else c1
 c2.own
def Core.stand (c : Core) : Core :=
 let c1 := { c with h := { c.h with term := c.h.term + 1, vote := c.id }, role := 2, leads := -1, votes := (2 : Int) ^ c.id.toNat }
 if mostM c1.members c1.votes = true then c1.lead else
  c1.others.foldl (fun d f => d.post { Letter.zero with kind := 1, to := f, index := d.last, at' := d.term d.last }) c1
def Core.tick (c : Core) (draw : Int) : Core :=
 let c1 := { c with left := c.left - 1 }
 if 0 < c1.left then c1 else if c1.role = 3 then { c1 with left := 3 }.spread else
  let c2 := { c1 with drawn := waitM draw, left := waitM draw }
  let r := ofM c2.h
  if c2.h.term < 1099511627776 ∧ (hasM r.1 c2.id = true ∨ c2.sure < r.2) then c2.stand else c2
def Core.passed (c : Core) (m : Letter) : Bool :=
 if rightL m = false ∨ m.to ≠ c.id then true else decide (m.kind = 1) && (decide (c.role = 3) || (decide (c.leads ≠ -1) && decide (c.drawn - c.left < 10)))
def Core.late (c : Core) (m : Letter) : Core :=
 if m.kind = 1 then c.post { Letter.zero with kind := 2, to := m.from' } else if m.kind = 3 ∨ m.kind = 5 then c.post { Letter.zero with kind := 4, to := m.from', index := c.last } else c
def Core.asked (c : Core) (m : Letter) : Core :=
 let t := c.term c.last
 let yes := (decide (c.h.vote = -1) || decide (c.h.vote = m.from')) && (decide (t < m.at') || (decide (m.at' = t) && decide (c.last ≤ m.index)))
 let c1 := if yes = true then { c with h := { c.h with vote := m.from' }, left := c.drawn } else c
 c1.post { Letter.zero with kind := 2, to := m.from', yes := yes }
def addM (m k : Int) : Int := if hasM m k = true then m else m + (2 : Int) ^ k.toNat
def Core.voted (c : Core) (m : Letter) : Core :=
 if c.role ≠ 2 ∨ m.yes = false then c else
  let c1 := { c with votes := addM c.votes m.from' }
  if mostM c1.members c1.votes = true then c1.lead else c1
def Core.hear (c : Core) (f : Int) : Core := { c with role := 1, leads := f, left := c.drawn }
def againstL (c : Core) : List Entry → Int → Bool
 | [], _ => false
 | x :: l, n => if c.h.base ≤ n ∧ n ≤ c.sure ∧ c.term n ≠ x.term then true else againstL c l (n + 1)
def enterL : List Entry → Int → Hard → Int → Hard × Int
 | [], _, h, to => (h, to)
 | x :: l, n, h, to =>
  if h.base < n ∧ (lastH h < n ∨ termH h n ≠ x.term) then
   (if 200 < n - h.base then (h, to) else enterL l (n + 1) { h with log := h.log.take (n - h.base - 1).toNat ++ [x] } n)
  else enterL l (n + 1) h n
def Core.appended (c : Core) (m : Letter) : Core :=
 if c.role = 3 then c else if againstL c m.entries (m.index + 1) = true then c else
  let c1 := c.hear m.from'
  if c1.last < m.index then c1.post { Letter.zero with kind := 4, to := m.from', index := c1.last } else
  if c1.h.base ≤ m.index ∧ c1.term m.index ≠ m.at' then c1.post { Letter.zero with kind := 4, to := m.from', index := m.index - 1 } else
   let r := enterL m.entries (m.index + 1) c1.h m.index
   let c2 := { c1 with h := r.1, sure := max c1.sure (min m.commit r.2) }
   c2.post { Letter.zero with kind := 4, to := m.from', yes := true, index := r.2 }
def Core.acked (c : Core) (m : Letter) : Core :=
 if c.role ≠ 3 ∨ c.last < m.index then c else
  let p := c.peer m.from'
  if m.yes = false then (c.setPeer m.from' { p with next := max (min (p.next - 1) (m.index + 1)) (p.mtch + 1) }).send m.from' else
  if m.index ≤ p.mtch then c else
   let c1 := (c.setPeer m.from' ⟨m.index + 1, m.index, 0⟩).look
   if c1.role = 3 ∧ (c1.peer m.from').next ≤ c1.last then c1.send m.from' else c1
def Core.taken (c : Core) (m : Letter) (snap : List UInt8) : Core :=
 let rest := if m.index ≤ c.last ∧ c.term m.index = m.at' then c.h.log.drop (m.index - c.h.base).toNat else []
 { c with h := { c.h with base := m.index, baseTerm := m.at', members := m.members, snap := snap, log := rest }, sure := m.index, way := none }
def Core.installed (c : Core) (m : Letter) : Core :=
 if c.role = 3 then c else
  let c1 := c.hear m.from'
  if m.index ≤ c1.sure then c1.post { Letter.zero with kind := 4, to := m.from', yes := true, index := m.index } else
   let c2 := if m.off = 0 then { c1 with way := some ⟨m.index, m.at', m.size, []⟩ } else c1
   match c2.way with
   | none => c2.post { Letter.zero with kind := 6, to := m.from', index := m.index }
   | some w => if w.index ≠ m.index ∨ w.at' ≠ m.at' ∨ w.size ≠ m.size then c2.post { Letter.zero with kind := 6, to := m.from', index := m.index } else
    let w1 := if m.off = w.data.length then { w with data := w.data ++ m.data } else w
    let c3 := { c2 with way := some w1 }
    if (w1.data.length : Int) < w1.size then c3.post { Letter.zero with kind := 6, to := m.from', index := m.index, off := w1.data.length } else
     (c3.taken m w1.data).post { Letter.zero with kind := 4, to := m.from', yes := true, index := m.index }
def Core.more (c : Core) (m : Letter) : Core :=
 let p := c.peer m.from'
 if c.role ≠ 3 ∨ m.index ≠ c.h.base ∨ c.h.base < p.next ∨ (c.h.snap.length : Int) ≤ m.off ∨ m.off = p.off then c else
  (c.setPeer m.from' { p with off := m.off }).send m.from'
def Core.take (c : Core) (m : Letter) : Core :=
 if c.passed m = true then c else
  let c1 := if c.h.term < m.term then { c with h := { c.h with term := m.term, vote := -1 }, role := 1, leads := -1 } else c
  if m.term < c1.h.term then c1.late m else
   if m.kind = 1 then c1.asked m else if m.kind = 2 then c1.voted m else if m.kind = 3 then c1.appended m else if m.kind = 4 then c1.acked m else if m.kind = 5 then c1.installed m else if m.kind = 6 then c1.more m else c1
def Core.propose (c : Core) (data : List (List UInt8)) : Core × Int × Bool :=
 if c.role ≠ 3 ∨ data.length = 0 ∨ (120 : Int) - c.h.log.length < data.length ∨ (1099511627776 : Int) - c.last < data.length then (c, 0, false) else
 if data.any (fun d => decide (1100 < d.length)) = true then (c, 0, false) else
  (({ c with h := { c.h with log := c.h.log ++ data.map fun d => ⟨c.h.term, 0, d⟩ } } : Core).own, c.last + 1, true)
def Core.change (c : Core) (members : Int) : Core × Int × Bool :=
 let r := ofM c.h
 if c.role ≠ 3 ∨ mayM r.1 members = false ∨ c.sure < r.2 ∨ c.term c.sure ≠ c.h.term ∨ 120 ≤ c.h.log.length ∨ 1099511627776 ≤ c.last then (c, 0, false) else
  let c1 : Core := { c with h := { c.h with log := c.h.log ++ [⟨c.h.term, members, []⟩] } }
  let n := c1.last
  let c2 : Core := { c1 with peers := (List.range 7).zipWith (fun (k : Nat) p => if (k : Int) ≠ c.id ∧ hasM members (k : Int) = true ∧ hasM r.1 (k : Int) = false then ⟨n, 0, 0⟩ else p) c1.peers }
  (c2.own, n, true)
def Core.compact (c : Core) (index : Int) (snap : List UInt8) : Core × Int :=
 if index ≤ c.h.base ∨ c.sure < index ∨ snap = [] ∨ 65536 < snap.length then (c, 1) else
  let k := (index - c.h.base).toNat
  ({ c with h := { c.h with base := index, baseTerm := c.term index, members := (ofM { c.h with log := c.h.log.take k }).1, snap := snap, log := c.h.log.drop k }, peers := c.peers.map fun p => { p with off := 0 } }, 0)
structure View where
 role : Int
 leads : Int
 commit : Int
 last : Int
 left : Int
 members : Int
deriving DecidableEq
def Core.view (c : Core) : View := ⟨c.role, c.leads, c.sure, c.last, c.left, c.members⟩
structure Hok (h : Hard) : Prop where
 t0 : 0 ≤ h.term
 t1 : h.term ≤ 1099511627776
 v0 : -1 ≤ h.vote
 v1 : h.vote < 7
 m0 : 1 ≤ h.members
 m1 : h.members ≤ 127
 b0 : 0 ≤ h.base
 b1 : h.base ≤ 1099511627776
 bt0 : 0 ≤ h.baseTerm
 bt1 : h.baseTerm ≤ h.term
 btz : h.baseTerm = 0 ↔ h.base = 0
 ll : h.log.length ≤ 200
 li : (h.log.length : Int) ≤ 1099511627776 - h.base
 fl : fitsL h.term h.log h.baseTerm = true
 sz : h.snap = [] ↔ h.base = 0
 sl : h.snap.length ≤ 65536
theorem rightH_iff (h : Hard) : rightH h = true ↔ Hok h := by
 simp only [rightH, bareM, Bool.and_eq_true, decide_eq_true_eq]
 constructor
 ·rintro ⟨⟨a1, a2, a3, a4, a5, a6, a7, a8, a9, a10, a11, a12, a13, a14⟩, a15, a16⟩
  exact ⟨a1, a2, a3, a4, a5, a6, a7, a8, a9, a10, a11, a12, a13, a14, a15, a16⟩
 ·rintro ⟨a1, a2, a3, a4, a5, a6, a7, a8, a9, a10, a11, a12, a13, a14, a15, a16⟩
  exact ⟨⟨a1, a2, a3, a4, a5, a6, a7, a8, a9, a10, a11, a12, a13, a14⟩, a15, a16⟩
structure Eok (x : Entry) (term : Int) : Prop where
 t0 : 1 ≤ x.term
 t1 : x.term ≤ term
 m0 : 0 ≤ x.members
 m1 : x.members ≤ 127
 dl : x.data.length ≤ 1100
 md : x.members = 0 ∨ x.data = []
theorem fitsM_iff (x : Entry) (b t : Int) : fitsM x b t = true ↔ b ≤ x.term ∧ Eok x t := by
 simp only [fitsM, Bool.and_eq_true, Bool.or_eq_true, decide_eq_true_eq]
 constructor
 ·rintro ⟨a1, a2, a3, a4, a5, a6, a7⟩; exact ⟨a2, a1, a3, a4, a5, a6, a7⟩
 ·rintro ⟨a2, a1, a3, a4, a5, a6, a7⟩; exact ⟨a1, a2, a3, a4, a5, a6, a7⟩
theorem fitsL_iff (t : Int) : ∀ (l : List Entry) (b : Int), fitsL t l b = true ↔ (∀ x ∈ l, Eok x t) ∧ (∀ x ∈ l, b ≤ x.term) ∧ l.Pairwise (fun x y => x.term ≤ y.term)
 | [], b => by simp [fitsL]
 | x :: l, b => by
  simp only [fitsL, Bool.and_eq_true, fitsM_iff, fitsL_iff t l, List.mem_cons, forall_eq_or_imp, List.pairwise_cons]
  constructor
  ·rintro ⟨⟨a1, a2⟩, a3, a4, a5⟩
   exact ⟨⟨a2, a3⟩, ⟨a1, fun y hy => Int.le_trans a1 (a4 y hy)⟩, a4, a5⟩
  ·rintro ⟨⟨a2, a3⟩, ⟨a1, a6⟩, a4, a5⟩
   exact ⟨⟨a1, a2⟩, a3, a4, a5⟩
theorem fitsL_take {t : Int} {l : List Entry} {b : Int} (h : fitsL t l b = true) (k : Nat) : fitsL t (l.take k) b = true := by
 rw [fitsL_iff] at h ⊢
 exact ⟨fun x hx => h.1 x (List.mem_of_mem_take hx), fun x hx => h.2.1 x (List.mem_of_mem_take hx), h.2.2.sublist (List.take_sublist k l)⟩
theorem fitsL_mono {t t' : Int} (ht : t ≤ t') {l : List Entry} {b : Int} (h : fitsL t l b = true) : fitsL t' l b = true := by
 rw [fitsL_iff] at h ⊢
 exact ⟨fun x hx => let e := h.1 x hx; ⟨e.t0, Int.le_trans e.t1 ht, e.m0, e.m1, e.dl, e.md⟩, h.2⟩
theorem fitsL_push {t : Int} {l : List Entry} {b : Int} (h : fitsL t l b = true) {x : Entry} (hx : Eok x t) (hb : b ≤ x.term) (hl : ∀ y ∈ l, y.term ≤ x.term) : fitsL t (l ++ [x]) b = true := by
 rw [fitsL_iff] at h ⊢
 refine ⟨fun y hy => ?_, fun y hy => ?_, List.pairwise_append.2 ⟨h.2.2, by simp, fun y hy z hz => by rw [List.mem_singleton.1 hz]; exact hl y hy⟩⟩
 ·rcases List.mem_append.1 hy with hy | hy
  ·exact h.1 y hy
  ·rw [List.mem_singleton.1 hy]; exact hx
 ·rcases List.mem_append.1 hy with hy | hy
  ·exact h.2.1 y hy
  ·rw [List.mem_singleton.1 hy]; exact hb
theorem fitsL_drop {t : Int} {l : List Entry} {b : Int} (h : fitsL t l b = true) (k : Nat) {b' : Int} (hb : ∀ y ∈ l.drop k, b' ≤ y.term) : fitsL t (l.drop k) b' = true := by
 rw [fitsL_iff] at h ⊢
 exact ⟨fun x hx => h.1 x (List.mem_of_mem_drop hx), hb, h.2.2.sublist (List.drop_sublist k l)⟩
theorem termH_base (h : Hard) : termH h h.base = h.baseTerm := by unfold termH; rw [if_pos rfl]
theorem termH_get {h : Hard} {n : Int} {x : Entry} (hn : h.base < n) (hx : h.log[(n - h.base - 1).toNat]? = some x) : termH h n = x.term := by
 unfold termH; rw [if_neg (by omega), hx]
theorem log_get {h : Hard} {n : Int} (h1 : h.base < n) (h2 : n ≤ lastH h) : ∃ x, h.log[(n - h.base - 1).toNat]? = some x := by
 unfold lastH at h2
 exact ⟨h.log[(n - h.base - 1).toNat]'(by omega), List.getElem?_eq_getElem (by omega)⟩
theorem log_le {h : Hard} (ok : Hok h) : ∀ y ∈ h.log, y.term ≤ h.term := fun y hy => (((fitsL_iff _ _ _).1 ok.fl).1 y hy).t1
structure Pok (c : Core) (p : Peer) : Prop where
 a0 : 0 ≤ p.mtch
 a1 : p.mtch ≤ c.last
 n0 : 1 ≤ p.next
 n1 : p.next ≤ c.last + 1
 o0 : 0 ≤ p.off
 o1 : p.off < c.h.snap.length ∨ p.off = 0
structure Inv (c : Core) : Prop where
 i0 : 0 ≤ c.id
 i1 : c.id < 7
 h : Hok c.h
 role : c.role = 1 ∨ c.role = 2 ∨ c.role = 3
 l0 : -1 ≤ c.leads
 l1 : c.leads ≤ 6
 s0 : c.h.base ≤ c.sure
 s1 : c.sure ≤ c.last
 d0 : 10 ≤ c.drawn
 d1 : c.drawn ≤ 20
 f0 : 1 ≤ c.left
 f1 : c.left ≤ 20
 v0 : 0 ≤ c.votes
 v1 : c.votes ≤ 127
 pl : c.peers.length = 7
 pr : c.role = 3 → ∀ p ∈ c.peers, Pok c p
 tm : c.role ≠ 1 → 1 ≤ c.h.term
 w : ∀ w, c.way = some w → 1 ≤ w.size ∧ w.size ≤ 65536 ∧ (w.data.length : Int) ≤ w.size
def Core.at (c : Core) (n : Int) : Option Entry := c.h.log[(n - c.h.base - 1).toNat]?
structure Keeps (c d : Core) : Prop where
 term : c.h.term ≤ d.h.term
 vote : d.h.term = c.h.term → c.h.vote ≠ -1 → d.h.vote = c.h.vote
 sure : c.sure ≤ d.sure
 base : c.h.base ≤ d.h.base
 logs : ∀ n, d.h.base < n → n ≤ c.sure → c.at n = d.at n
theorem Keeps.refl (c : Core) : Keeps c c := ⟨Int.le_refl _, fun _ _ => rfl, Int.le_refl _, Int.le_refl _, fun _ _ _ => rfl⟩
theorem Keeps.trans {a b c : Core} (h : Keeps a b) (k : Keeps b c) : Keeps a c :=
 ⟨Int.le_trans h.term k.term, fun e v => by
  have h1 := h.term
  have h2 := k.term
  have e1 : b.h.term = a.h.term := by omega
  rw [k.vote (by omega) (by rw [h.vote e1 v]; exact v), h.vote e1 v], Int.le_trans h.sure k.sure, Int.le_trans h.base k.base, fun n h1 h2 => by
  rw [h.logs n (by have := k.base; omega) h2, k.logs n h1 (by have := h.sure; omega)]⟩
theorem Keeps.of_same {c d : Core} (h1 : d.h = c.h) (h2 : c.sure ≤ d.sure) : Keeps c d := by
 refine ⟨by rw [h1]; exact Int.le_refl _, fun _ _ => by rw [h1], h2, by rw [h1]; exact Int.le_refl _, fun n _ _ => ?_⟩
 unfold Core.at; rw [h1]
end Go.Raft
end
