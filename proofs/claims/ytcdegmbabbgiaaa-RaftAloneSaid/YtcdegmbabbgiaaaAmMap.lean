/-
  Maps whose keys are texts.
-/
import Derived.Test.YtcdegmbabbgiaaaAmMore
set_option linter.unusedSimpArgs false
set_option linter.unusedVariables false
namespace Go.AM

theorem RelH.allocMap {F : Nat → Option Obj} {G : Gh} {S : St} {H : Array Obj} (R : Rel F G S H) {k nx : Nat} (hk : G.loc k = none) (hm : G.ml k = none) (hlim : k < lim)
    (hn : S.next ≤ nx) (hkn : k < nx) :
    G.le { G with ml := fun x => if x = k then some H.size else G.ml x } ∧
    Rel F { G with ml := fun x => if x = k then some H.size else G.ml x } ⟨nx, S.heap.put k (.mp [])⟩ (H.push (.map #[] 0)) := by
  have hle : G.le { G with ml := fun x => if x = k then some H.size else G.ml x } := by
    refine ⟨fun x K hK => ⟨K, hK, .inl rfl⟩, fun x b hb => ?_, fun _ _ h => h, rfl⟩
    have hx : x ≠ k := fun e => by rw [e, hm] at hb; cases hb
    simp [hx, hb]
  have holds : ∀ x i, x ≠ k → Holds { G with ml := fun x => if x = k then some H.size else G.ml x } x i → Holds G x i := by
    intro x i hx h
    rcases h with h | h
    · exact .inl h
    · simp [hx] at h; exact .inr h
  have holdk : ∀ i, Holds { G with ml := fun x => if x = k then some H.size else G.ml x } k i → i = H.size := by
    intro i h
    rcases h with ⟨K, hK, e⟩ | h
    · change G.loc k = some K at hK
      rw [hk] at hK; cases hK
    · simp at h; exact h.symm
  have old : ∀ i, i < H.size → (H.push (.map #[] 0))[i]? = H[i]? := by
    intro i hi
    rw [Array.getElem?_push, if_neg (by omega)]
  refine ⟨hle, ?_⟩
  constructor
  · intro x hx
    have hx' : nx ≤ x := hx
    have : x ≠ k := by omega
    simp only [this, if_false]
    exact R.fresh x (by omega)
  · intro x K hK
    by_cases hx : x = k
    · subst hx; change G.loc x = some K at hK; rw [hk] at hK; cases hK
    · simp [hx]; exact R.sep x K hK
  · intro x b hb
    simp only at hb
    rw [Tr.get_put _ _ _ _ hlim] at hb
    by_cases hx : x = k
    · subst hx
      simp at hb; subst hb
      exact ⟨H.size, #[], 0, by simp, by simp, .nil, by simp, by simp⟩
    · rw [if_neg hx] at hb
      have hold := R.blk x b hb
      cases b with
      | row ver' es' elems' =>
        obtain ⟨K, hK, r1, r2, r3, c', ty', fr', hc, r4, r5, r6⟩ := hold
        exact ⟨K, hK, r1, r2, r3, c', ty', fr', by rw [old _ (R.lt x _ (.inl ⟨K, hK, rfl⟩))]; exact hc, r4, r5, r6.mono hle⟩
      | mp kvs =>
        obtain ⟨i, es', clock, hi, hH, r1, r2⟩ := hold
        exact ⟨i, es', clock, by simp [hx, hi], by rw [old _ (R.lt x _ (.inr hi))]; exact hH, r1.mono hle, r2⟩
      | iter s pos =>
        obtain ⟨K, hK, r1, r2, hH⟩ := hold
        exact ⟨K, hK, r1, r2, by rw [old _ (R.lt x _ (.inl ⟨K, hK, rfl⟩))]; exact hH⟩
  · intro x y b b' i hb hb' h1 h2
    simp only at hb hb'
    rw [Tr.get_put _ _ _ _ hlim] at hb hb'
    by_cases hx : x = k
    · by_cases hy : y = k
      · rw [hx, hy]
      · subst hx
        have e := holdk i h1
        subst e
        have := R.lt y _ (holds y _ hy h2); omega
    · rw [if_neg hx] at hb
      by_cases hy : y = k
      · subst hy
        have e := holdk i h2
        subst e
        have := R.lt x _ (holds x _ hx h1); omega
      · rw [if_neg hy] at hb'
        exact R.inj x y b b' i hb hb' (holds x i hx h1) (holds y i hy h2)
  · intro i o h
    have hlt' : i < H.size := (Array.getElem?_eq_some_iff.1 (R.fr i o h)).1
    rw [old i hlt']; exact R.fr i o h
  · intro i o h
    have hlt' : i < H.size := (Array.getElem?_eq_some_iff.1 (R.pr i o h)).1
    rw [old i hlt']; exact R.pr i o h
  · intro x b i hb h
    simp only at hb
    rw [Tr.get_put _ _ _ _ hlim] at hb
    by_cases hx : x = k
    · subst hx
      have e := holdk i h
      subst e
      constructor
      · cases hF : F H.size with
        | none => rfl
        | some o => have := (Array.getElem?_eq_some_iff.1 (R.fr _ o hF)).1; omega
      · cases hF : G.pr H.size with
        | none => rfl
        | some o => have := (Array.getElem?_eq_some_iff.1 (R.pr _ o hF)).1; omega
    · rw [if_neg hx] at hb
      exact R.own x b i hb (holds x i hx h)
  · intro x i h
    by_cases hx : x = k
    · subst hx
      rw [holdk i h]; simp
    · have := R.lt x i (holds x i hx h); simp; omega
  · intro x b hb
    simp only at hb
    rw [Tr.get_put _ _ _ _ hlim] at hb
    by_cases hx : x = k
    · subst hx; exact hlim
    · rw [if_neg hx] at hb; exact R.small x b hb

theorem makeMap_sound {P : Program} {t : TypeId} {fr : Option Nat} {S S' : St} {a : Nat} (h : newBlk fr S (.mp []) = .ok (a, S'))
    {F : Nat → Option Obj} {G : Gh} {W : World} (R : Rel F G S W.heap) (hf : FrOK fr G S) :
    ∃ W' G' w, (Instr.makeMap t none).run P W = .ok w W' ∧ Sim F fr G S W G' S' W' ∧ VR G' (.mp a) w := by
  unfold newBlk at h
  split at h
  · rw [cond_eq_ite] at h
    split at h
    · rename_i hl
      cases h
      have hl' : S.next < lim := by simpa using hl
      obtain ⟨f1, f2⟩ := R.fresh S.next (Nat.le_refl _)
      obtain ⟨g1, g2⟩ := R.allocMap (k := S.next) (nx := S.next + 1) f1 f2 hl' (by omega) (by omega)
      refine ⟨W.alloc (.map #[] 0), _, .map (some W.heap.size), rfl, ⟨g1, g2, Same.alloc _ _, by simp, fun x hx hlt _ => ⟨rfl, ?_⟩, fun x hx hlt _ => ?_, fun _ => rfl⟩, .mp _ _ (by simp)⟩
      · have : x ≠ S.next := by omega
        simp [this]
      · show (S.heap.put S.next _).get x = none
        rw [Tr.get_put_ne _ _ _ _ hl' (by omega)]; exact hx
    · cases h
  · rename_i k
    rw [cond_eq_ite] at h
    split at h
    · rename_i hl
      cases h
      have hl' : a < lim := by simpa using hl
      obtain ⟨f0, f1, f2⟩ := hf a rfl
      obtain ⟨g1, g2⟩ := R.allocMap (k := a) (nx := S.next) f1 f2 hl' (Nat.le_refl _) f0
      refine ⟨W.alloc (.map #[] 0), _, .map (some W.heap.size), rfl, ⟨g1, g2, Same.alloc _ _, by simp, fun x hx hlt hne => ⟨rfl, ?_⟩, fun x hx hlt hne => ?_, fun _ => rfl⟩, .mp _ _ (by simp)⟩
      · have : x ≠ a := fun e => hne (by rw [e])
        simp [this]
      · show (S.heap.put a _).get x = none
        rw [Tr.get_put_ne _ _ _ _ hl' (fun e => hne (by rw [e]))]; exact hx
    · cases h

theorem mapT_some {P : Program} {t e : TypeId} (h : mapT P t = some e) : ∃ k, P.underlying t = some (.map k e) ∧ P.underlying k = some .string := by
  unfold mapT at h
  split at h
  · rename_i k e' hd
    split at h
    · rename_i hk
      cases h
      exact ⟨k, hd, hk⟩
    · cases h
  · cases h

theorem bytes_beq (s t : List UInt8) : ((⟨⟨s⟩⟩ : ByteArray) == ⟨⟨t⟩⟩) = beqB s t := by
  rw [beqB_eq]
  have : ((⟨⟨s⟩⟩ : ByteArray) == ⟨⟨t⟩⟩) = ((⟨s⟩ : Array UInt8) == ⟨t⟩) := rfl
  rw [this]; simp

theorem findS_sound {G : Gh} {s : List UInt8} : ∀ {es : List MapEntry} {kvs : List (V × V)} {i : Nat} {r : Option (Nat × V)}, MapR G es kvs → findS s kvs i = some r →
    ∃ r', Instr.findNow .string (.string ⟨⟨s⟩⟩) es i = some r' ∧ (match r, r' with
      | none, none => True
      | some (j, v), some (j', w) => j = j' ∧ VR G v w ∧ i ≤ j ∧ ∃ e, es[j - i]? = some e ∧ e.key = .string ⟨⟨s⟩⟩
      | _, _ => False)
  | _, _, i, r, .nil, h => by cases h; exact ⟨none, rfl, trivial⟩
  | _, _, i, r, .cons e k v es l hk hv t, h => by
    obtain ⟨ek, ev, eb⟩ := e
    simp only at hk hv
    cases hk with
    | str u =>
      simp only [findS] at h
      rw [cond_eq_ite] at h
      split at h
      · rename_i hb
        cases h
        have he : s = u := by rw [beqB_eq] at hb; simpa using hb
        subst he
        refine ⟨some (i, ev), ?_, rfl, hv, Nat.le_refl _, ⟨_, ev, eb⟩, by simp, rfl⟩
        have : ((⟨⟨s⟩⟩ : ByteArray) == ⟨⟨s⟩⟩) = true := by rw [bytes_beq]; exact hb
        simp only [Instr.findNow, Instr.sameNow, this]
      · rename_i hb
        obtain ⟨r', h1, h2⟩ := findS_sound t h
        refine ⟨r', ?_, ?_⟩
        · have : ((⟨⟨s⟩⟩ : ByteArray) == ⟨⟨u⟩⟩) = false := by rw [bytes_beq]; simpa using hb
          simp only [Instr.findNow, Instr.sameNow, this]; exact h1
        · cases r with
          | none =>
            cases r' with
            | none => exact h2
            | some q => exact h2
          | some p =>
            cases r' with
            | none => exact h2
            | some q =>
              obtain ⟨j, v'⟩ := p
              obtain ⟨j', w'⟩ := q
              obtain ⟨a1, a2, a3, e, a4, a5⟩ := h2
              refine ⟨a1, a2, by omega, e, ?_, a5⟩
              rw [show j - i = (j - (i + 1)) + 1 by omega, List.getElem?_cons_succ]; exact a4
    | _ => simp [findS] at h

theorem run_findKey_now {P : Program} {w : World} {kt : TypeId} {d : TypeDesc} {k : Value} {l : List MapEntry} {a : Option (Nat × Value)} (hd : P.underlying kt = some d) (h : Instr.findNow d k l 0 = some a) : (Instr.findKey kt k l).run P w = .ok a w := by
  simp [Instr.findKey, run_underlying hd, h]
theorem run_checkKey_string {P : Program} {w : World} {kt : TypeId} (hd : P.underlying kt = some .string) (b : Bool) (v : Value) : (Instr.checkKey b 10000 kt v).run P w = .ok () w := by
  show (Instr.checkKey b (9999 + 1) kt v).run P w = _
  unfold Instr.checkKey
  rw [Sem.run_bind, run_underlying hd]
  rfl

theorem MapR.set {G : Gh} : ∀ {es : List MapEntry} {kvs : List (V × V)}, MapR G es kvs → ∀ (i : Nat) (f : MapEntry → MapEntry) (k v : V), (∀ e, es[i]? = some e → VR G k (f e).key ∧ VR G v (f e).val) → MapR G (es.modify i f) (kvs.set i (k, v))
  | _, _, .nil, i, f, k, v, h => by simp; exact .nil
  | _, _, .cons e k0 v0 es l hk hv t, 0, f, k, v, h => by
    have := h e (by simp)
    exact .cons _ _ _ _ _ this.1 this.2 t
  | _, _, .cons e k0 v0 es l hk hv t, i + 1, f, k, v, h => by
    exact .cons _ _ _ _ _ hk hv (t.set i f k v fun e he => h e (by simpa using he))
theorem MapR.push {G : Gh} : ∀ {es : List MapEntry} {kvs : List (V × V)}, MapR G es kvs → ∀ (e : MapEntry) (k v : V), VR G k e.key → VR G v e.val → MapR G (es ++ [e]) (kvs ++ [(k, v)])
  | _, _, .nil, e, k, v, h1, h2 => .cons _ _ _ _ _ h1 h2 .nil
  | _, _, .cons e0 k0 v0 es l hk hv t, e, k, v, h1, h2 => .cons _ _ _ _ _ hk hv (t.push e k v h1 h2)

theorem lookup_sound {P : Program} {t : TypeId} {m k v : V} {ok : Bool} {S : St} (h : lookupV P t m k ok S = .ok v)
    {F : Nat → Option Obj} {G : Gh} {W : World} (R : Rel F G S W.heap) {mc kc : Value} (hm : VR G m mc) (hk : VR G k kc) :
    ∃ w, (Instr.lookup t mc kc ok).run P W = .ok w W ∧ VR G v w := by
  unfold lookupV at h
  split at h
  · rename_i e s he
    obtain ⟨kt, hd, hkt⟩ := mapT_some he
    cases hk
    split at h
    · cases h
    · rename_i kvs hkv
      -- the entries
      have hes : ∃ es : Array MapEntry, MapR G es.toList kvs ∧ ((mc = .map none ∧ es = #[]) ∨ ∃ cb clock, mc = .map (some cb) ∧ (getObj cb).run P W = .ok (.map es clock) W) := by
        unfold entriesOf at hkv
        split at hkv
        · cases hkv; cases hm
          exact ⟨#[], .nil, .inl ⟨rfl, rfl⟩⟩
        · rename_i a
          split at hkv
          · rename_i kvs' hg
            cases hkv
            cases hm with
            | mp _ cb hml =>
              obtain ⟨b, es, clock, hb, hH, r1, r2⟩ := R.blk a _ hg
              rw [hml] at hb; cases hb
              exact ⟨es, r1, .inr ⟨cb, clock, rfl, by simp [getObj, Sem.run, hH]⟩⟩
          · cases hkv
        · cases hkv
      obtain ⟨es, hr, hes⟩ := hes
      have okR : ∀ {b : Bool} {v : V} {w : Value}, VR G v w → VR G (okV ok b v) (if ok then .tuple #[w, .bool b] else w) := by
        intro b v w hv
        cases ok
        · exact hv
        · exact .tup _ _ (.cons _ _ _ _ hv (.cons _ _ _ _ (.bool _) .nil))
      have run : ∀ {r : Option (Nat × Value)}, Instr.findNow .string (.string ⟨⟨s⟩⟩) es.toList 0 = some r → (Instr.lookup t mc (.string ⟨⟨s⟩⟩) ok).run P W =
          ((match r with
            | some (_, v) => pure (v, true)
            | none => do pure (← zeroValue e, false) : Sem (Value × Bool)) >>= fun x => pure (if ok then .tuple #[x.1, .bool x.2] else x.1)).run P W := by
        intro r hr
        unfold Instr.lookup
        rw [Sem.run_bind, run_underlying hd]
        simp only [Result.andThen_ok]
        rcases hes with ⟨rfl, rfl⟩ | ⟨cb, clock, rfl, hg⟩
        · simp only [Sem.run_bind, Sem.run_pure, Result.andThen_ok, run_checkKey_string hkt, run_findKey_now hkt hr]
          cases r <;> simp [Sem.run_bind] <;> (cases Sem.run P (zeroValue e) W <;> rfl)
        · simp only [Sem.run_bind, hg, Sem.run_pure, Result.andThen_ok, run_checkKey_string hkt, run_findKey_now hkt hr]
          cases r <;> simp [Sem.run_bind] <;> (cases Sem.run P (zeroValue e) W <;> rfl)
      split at h
      · rename_i j v' hfnd
        cases h
        obtain ⟨r', h1, h2⟩ := findS_sound hr hfnd
        cases r' with
        | none => exact h2.elim
        | some q =>
          obtain ⟨j', w⟩ := q
          refine ⟨_, ?_, okR h2.2.1⟩
          rw [run h1]; rfl
      · rename_i hfnd
        split at h
        · rename_i z hz
          cases h
          obtain ⟨r', h1, h2⟩ := findS_sound hr hfnd
          cases r' with
          | some q => exact h2.elim
          | none =>
            obtain ⟨w, w1, w2⟩ := zeroValue_sound hz G
            refine ⟨_, ?_, okR w2⟩
            rw [run h1]
            simp [w1]
        · cases h
      · cases h
  · cases h

/-- A map is set where it lies. -/
theorem RelH.keepMap {F : Nat → Option Obj} {G : Gh} {S : St} {H H' : Array Obj} (R : Rel F G S H) {a b : Nat} {b0 : Blk} (hget : S.heap.get a = some b0)
    (hL : G.ml a = some b) (hoth : ∀ i, i ≠ b → H'[i]? = H[i]?) (hsz : H'.size = H.size) {nb : Blk} (row : BlkAt G H' a nb) : Rel F G ⟨S.next, S.heap.put a nb⟩ H' := by
  have hlim := R.small a b0 hget
  have hH : Holds G a b := .inr hL
  have old : ∀ x c, x ≠ a → S.heap.get x = some c → ∀ i, Holds G x i → H'[i]? = H[i]? := by
    intro x c hx hc i hi
    refine hoth i fun e => hx ?_
    subst e
    exact R.inj x a c b0 i hc hget hi hH
  have get : ∀ x c, (S.heap.put a nb).get x = some c → (x = a ∧ c = nb) ∨ (x ≠ a ∧ S.heap.get x = some c) := by
    intro x c h
    rw [Tr.get_put _ _ _ _ hlim] at h
    by_cases hx : x = a
    · rw [if_pos hx] at h; cases h; exact .inl ⟨hx, rfl⟩
    · rw [if_neg hx] at h; exact .inr ⟨hx, h⟩
  have getOld : ∀ x c, (S.heap.put a nb).get x = some c → ∃ c', S.heap.get x = some c' := by
    intro x c h
    rcases get x c h with ⟨rfl, _⟩ | ⟨_, h⟩
    · exact ⟨b0, hget⟩
    · exact ⟨c, h⟩
  constructor
  · exact R.fresh
  · exact R.sep
  · intro x c hc
    rcases get x c hc with ⟨rfl, rfl⟩ | ⟨hx, hc⟩
    · exact row
    · have hold := R.blk x c hc
      cases c with
      | row ver' es' elems' =>
        obtain ⟨K, hK, r1, r2, r3, c', ty', fr', hc', r⟩ := hold
        exact ⟨K, hK, r1, r2, r3, c', ty', fr', by rw [old x _ hx hc _ (.inl ⟨K, hK, rfl⟩)]; exact hc', r⟩
      | mp kvs =>
        obtain ⟨i, es', clock, hi, hH', r⟩ := hold
        exact ⟨i, es', clock, hi, by rw [old x _ hx hc _ (.inr hi)]; exact hH', r⟩
      | iter s pos =>
        obtain ⟨K, hK, r1, r2, hH'⟩ := hold
        exact ⟨K, hK, r1, r2, by rw [old x _ hx hc _ (.inl ⟨K, hK, rfl⟩)]; exact hH'⟩
  · intro x y c c' i hc hc' h1 h2
    obtain ⟨d, hd⟩ := getOld x c hc
    obtain ⟨d', hd'⟩ := getOld y c' hc'
    exact R.inj x y d d' i hd hd' h1 h2
  · intro i o h
    have hne : i ≠ b := fun e => by
      have := (R.own a b0 b hget hH).1
      rw [← e, h] at this; cases this
    rw [hoth i hne]; exact R.fr i o h
  · intro i o h
    have hne : i ≠ b := fun e => by
      have := (R.own a b0 b hget hH).2
      rw [← e, h] at this; cases this
    rw [hoth i hne]; exact R.pr i o h
  · intro x c i hc h
    obtain ⟨d, hd⟩ := getOld x c hc
    exact R.own x d i hd h
  · intro x i h
    rw [hsz]; exact R.lt x i h
  · intro x c hc
    obtain ⟨d, hd⟩ := getOld x c hc
    exact R.small x d hd

theorem born_modify (es : List MapEntry) (i : Nat) (f : MapEntry → MapEntry) (hf : ∀ e, (f e).born = e.born) : (es.modify i f).map (·.born) = es.map (·.born) := by
  induction es generalizing i with
  | nil => simp
  | cons e es ih =>
    cases i with
    | zero => simp [hf]
    | succ i => simp [ih]

theorem mapUpdate_sound {P : Program} {t : TypeId} {m k v : V} {S S' : St} (h : mapUpdateV P t m k v S = .ok S')
    {F : Nat → Option Obj} {G : Gh} {W : World} (R : Rel F G S W.heap) {mc kc vc : Value} (hm : VR G m mc) (hk : VR G k kc) (hv : VR G v vc) {fr : Option Nat} :
    ∃ W', (Instr.mapUpdate t mc kc vc).run P W = .ok () W' ∧ Sim F fr G S W G S' W' := by
  unfold mapUpdateV at h
  split at h
  · rename_i e s a he
    obtain ⟨kt, hd, hkt⟩ := mapT_some he
    have hk0 := hk
    cases hk
    cases hm with
    | mp _ b hml =>
      split at h
      · rename_i kvs hg
        obtain ⟨b', es, clock, hb, hH, r1, r2, r3⟩ := R.blk a _ hg
        rw [hml] at hb; cases hb
        have hlt := R.lt a b (.inr hml)
        have hget : (getObj b).run P W = .ok (.map es clock) W := by simp [getObj, Sem.run, hH]
        have hset : ∀ o, (setObj b o).run P W = .ok () { W with heap := W.heap.setIfInBounds b o } := by
          intro o; simp [setObj, Sem.run, hH]
        have fin : ∀ {es' : Array MapEntry} {clock' : Nat} {kvs' : List (V × V)}, MapR G es'.toList kvs' → ((∀ e ∈ es'.toList, e.born < clock') ∧ (es'.toList.map (·.born)).Nodup) →
            Sim F fr G S W G ⟨S.next, S.heap.put a (.mp kvs')⟩ { W with heap := W.heap.setIfInBounds b (.map es' clock') } := by
          intro es' clock' kvs' q1 q2
          refine ⟨G.le_refl, ?_, ⟨rfl, rfl, rfl, by simp⟩, Nat.le_refl _, fun _ _ _ _ => ⟨rfl, rfl⟩, fun x hx _ _ => ?_, fun _ => rfl⟩
          · refine R.keepMap hg hml (fun i hi => ?_) (by simp) ⟨b, es', clock', hml, ?_, q1, q2⟩
            · show (W.heap.setIfInBounds b _)[i]? = W.heap[i]?
              rw [Array.getElem?_setIfInBounds_ne (Ne.symm hi)]
            · show (W.heap.setIfInBounds b _)[b]? = _
              simp [hlt]
          · show (S.heap.put a _).get x = none
            rw [Tr.get_put_ne _ _ _ _ (R.small a _ hg) (fun e => by rw [e, hg] at hx; cases hx)]; exact hx
        have run : ∀ {r : Option (Nat × Value)}, Instr.findNow .string (.string ⟨⟨s⟩⟩) es.toList 0 = some r → (Instr.mapUpdate t (.map (some b)) (.string ⟨⟨s⟩⟩) vc).run P W =
            (match r with
            | some (i, _) => do
              let key ← Instr.keyThatStays (((es[i]?).map (·.key)).getD (.string ⟨⟨s⟩⟩)) (.string ⟨⟨s⟩⟩)
              setObj b (.map (es.modify i fun e => { e with key, val := vc }) clock)
            | none => setObj b (.map (es.push { key := .string ⟨⟨s⟩⟩, val := vc, born := clock }) (clock + 1)) : Sem Unit).run P W := by
          intro r hr
          unfold Instr.mapUpdate
          rw [Sem.run_bind, run_underlying hd]
          simp only [Result.andThen_ok]
          rw [Sem.run_bind, hget]
          simp only [Result.andThen_ok]
          rw [Sem.run_bind, run_checkKey_string hkt]
          simp only [Result.andThen_ok]
          rw [Sem.run_bind, run_findKey_now hkt hr]
          simp only [Result.andThen_ok]
          cases r <;> rfl
        split at h
        · rename_i j v' hfnd
          cases h
          obtain ⟨r', h1, h2⟩ := findS_sound r1 hfnd
          cases r' with
          | none => exact h2.elim
          | some q =>
            obtain ⟨j', w⟩ := q
            obtain ⟨rfl, _, _, e0, e1, e2⟩ := h2
            simp only [Nat.sub_zero] at e1
            have e1' : es[j]? = some e0 := by simpa using e1
            refine ⟨{ W with heap := W.heap.setIfInBounds b (.map (es.modify j fun e => { e with key := .string ⟨⟨s⟩⟩, val := vc }) clock) }, ?_, fin ?_ ?_⟩
            · rw [run h1]
              have : (Instr.keyThatStays (((es[j]?).map (·.key)).getD (.string ⟨⟨s⟩⟩)) (.string ⟨⟨s⟩⟩)).run P W = .ok (.string ⟨⟨s⟩⟩) W := by
                have hself : ((⟨⟨s⟩⟩ : ByteArray) == ⟨⟨s⟩⟩) = true := by rw [bytes_beq, beqB_eq]; simp
                rw [e1']
                simp [e2, Instr.keyThatStays, Instr.sameBits, hself]
              simp only [Sem.run_bind, this, Result.andThen_ok, hset]
            · rw [Array.toList_modify]
              exact r1.set j _ _ _ fun e _ => ⟨hk0, hv⟩
            · rw [Array.toList_modify]
              have hbm := born_modify es.toList j (fun e => { e with key := .string ⟨⟨s⟩⟩, val := vc }) (fun _ => rfl)
              refine ⟨fun e he => ?_, by rw [hbm]; exact r3⟩
              have hm := List.mem_map_of_mem (f := (·.born)) he
              rw [hbm] at hm
              obtain ⟨e', m1, m2⟩ := List.mem_map.1 hm
              rw [← m2]; exact r2 e' m1
        · rename_i hfnd
          cases h
          obtain ⟨r', h1, h2⟩ := findS_sound r1 hfnd
          cases r' with
          | some q => exact h2.elim
          | none =>
            refine ⟨{ W with heap := W.heap.setIfInBounds b (.map (es.push { key := .string ⟨⟨s⟩⟩, val := vc, born := clock }) (clock + 1)) }, ?_, fin ?_ ?_⟩
            · rw [run h1]; exact hset _
            · rw [Array.toList_push]
              exact r1.push _ _ _ hk0 hv
            · rw [Array.toList_push]
              refine ⟨fun e he => ?_, ?_⟩
              · rcases List.mem_append.1 he with he | he
                · have := r2 e he; omega
                · simp at he; subst he; simp
              · rw [List.map_append, List.nodup_append]
                refine ⟨r3, by simp, fun x hx y hy => ?_⟩
                simp at hy; subst hy
                obtain ⟨e', m1, m2⟩ := List.mem_map.1 hx
                have := r2 e' m1; omega
        · cases h
      · cases h
  · cases h
end Go.AM
