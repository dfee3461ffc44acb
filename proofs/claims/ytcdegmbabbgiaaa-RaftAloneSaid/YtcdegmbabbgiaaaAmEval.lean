/-
  One operation: what the machine says of it is what the model's run does.
-/
import Derived.Test.YtcdegmbabbgiaaaAmMap
import Derived.Test.YtcdegmbabbgiaaaAmClear
set_option linter.unusedSimpArgs false
namespace Go.AM

def OutOK (P : Program) (F : Nat → Option Obj) (fr : Option Nat) (G : Gh) (S : St) (W : World) (run : Result Next) : Out → Prop
  | .val v S' => ∃ W' G' w, run = .ok (.value w) W' ∧ Sim F fr G S W G' S' W' ∧ VR G' v w
  | .skip S' => ∃ W' G', run = .ok .skip W' ∧ Sim F fr G S W G' S' W'
  | .call f args => ∃ cs : List Value, VRs G args cs ∧ run = (callFunc f cs.toArray).run P W

theorem evs_sound {ρ : Operand → Option V} {ρc : Operand → Value} {G : Gh} (hρ : ∀ x v, ρ x = some v → VR G v (ρc x)) : ∀ {l : List Operand} {vs : List V}, evs ρ l = some vs → VRs G vs (l.map ρc)
  | [], vs, h => by simp [evs] at h; subst h; exact .nil
  | x :: l, vs, h => by
    simp only [evs] at h
    split at h
    · rename_i v hv
      split at h
      · rename_i us hus
        cases h
        exact .cons _ _ _ _ (hρ x v hv) (evs_sound hρ hus)
      · cases h
    · cases h
theorem evPs_sound {ρ : Operand → Option V} {ρc : Operand → Value} {G : Gh} (hρ : ∀ x v, ρ x = some v → VR G v (ρc x)) : ∀ {l : List (Nat × Operand)} {vs : List (Nat × V)}, evPs ρ l = some vs → PsR G vs (l.map fun p => (p.1, ρc p.2))
  | [], vs, h => by simp [evPs] at h; subst h; exact .nil
  | (i, x) :: l, vs, h => by
    simp only [evPs] at h
    split at h
    · rename_i v hv
      split at h
      · rename_i us hus
        cases h
        exact .cons _ _ _ _ _ (hρ x v hv) (evPs_sound hρ hus)
      · cases h
    · cases h
theorem evO_sound {ρ : Operand → Option V} {ρc : Operand → Value} {G : Gh} (hρ : ∀ x v, ρ x = some v → VR G v (ρc x)) {o : Option Operand} {r : Option V} (h : evO ρ o = some r) :
    (∀ v, r = some v → ∃ w, o.map ρc = some w ∧ VR G v w) ∧ (r = none → o.map ρc = none) := by
  cases o with
  | none => simp [evO] at h; subst h; exact ⟨fun v hv => (by cases hv), fun _ => rfl⟩
  | some x =>
    simp only [evO] at h
    split at h
    · rename_i v hv
      cases h
      exact ⟨fun u hu => (by cases hu; exact ⟨_, rfl, hρ x v hv⟩), fun hu => (by cases hu)⟩
    · cases h

theorem len_sound {P : Program} {t : TypeId} {x v : V} {S : St} (h : lenV P t x S = .ok v) {F : Nat → Option Obj} {G : Gh} {W : World} (R : Rel F G S W.heap) {y : Value} (hy : VR G x y)
    {ts : Array TypeId} (ht : ts[0]? = some t) (ty : TypeId) : ∃ w, (Builtin.len_ ts ty #[y]).run P W = .ok w W ∧ VR G v w := by
  unfold lenV at h
  split at h
  · rename_i hd
    split at h
    · rename_i s
      cases h; cases hy
      have hb : (⟨⟨s⟩⟩ : ByteArray).size = s.length := rfl
      exact ⟨.int .i64 s.length, by simp [Builtin.len_, ht, run_underlying hd, goInt, hb], .int _ _⟩
    · cases h
  · rename_i n e hd
    cases h
    exact ⟨.int .i64 n, by simp [Builtin.len_, ht, run_underlying hd, goInt], .int _ _⟩
  · rename_i e hd
    split at h
    · cases h; cases hy
      exact ⟨.int .i64 0, by simp [Builtin.len_, ht, run_underlying hd, goInt], .int _ _⟩
    · rename_i len
      cases h
      cases hy with
      | sl _ _ _ _ _ p n c hs =>
        obtain ⟨rfl, _⟩ := hs
        exact ⟨.int .i64 n, by simp [Builtin.len_, ht, run_underlying hd, goInt], .int _ _⟩
    · rename_i es
      cases h
      cases hy with
      | imm _ p n c e' hn hc vs hv he hp =>
        subst hn
        exact ⟨.int .i64 es.length, by simp [Builtin.len_, ht, run_underlying hd, goInt], .int _ _⟩
    · cases h
  · rename_i k e hd
    split at h
    · cases h; cases hy
      exact ⟨.int .i64 0, by simp [Builtin.len_, ht, run_underlying hd, goInt], .int _ _⟩
    · rename_i a
      split at h
      · rename_i kvs hg
        cases h
        cases hy with
        | mp _ cb hm =>
          obtain ⟨b, es, clock, h1, h2, h3, h4, h5⟩ := R.blk a _ hg
          rw [hm] at h1; cases h1
          have hl : ∀ {es : List MapEntry} {l : List (V × V)}, MapR G es l → es.length = l.length := by
            intro es l h
            induction h with
            | nil => rfl
            | cons e k v es l hk hv t ih => simp [ih]
          have := hl h3
          refine ⟨.int .i64 es.size, ?_, by rw [← this]; exact .int _ _⟩
          simp [Builtin.len_, ht, run_underlying hd, goInt, getObj, Sem.run, h2]
      · cases h
    · cases h
  · cases h
theorem min_sound {P : Program} {l : List V} {v : V} (h : minV l = .ok v) {G : Gh} {cs : List Value} (hl : VRs G l cs) (ts : Array TypeId) (ty : TypeId) (W : World) :
    ∃ w, (Builtin.min_ ts ty cs.toArray).run P W = .ok w W ∧ VR G v w := by
  unfold minV at h
  split at h
  · rw [cond_eq_ite] at h
    split at h
    · cases h
      cases hl with
      | cons _ _ _ _ ha t => cases t with
        | cons _ _ _ _ hb t => cases t; cases ha; cases hb; exact ⟨_, run_min_int2 W ts ty _ _ _ _, .int _ _⟩
    · cases h
  · cases h
theorem max_sound {P : Program} {l : List V} {v : V} (h : maxV l = .ok v) {G : Gh} {cs : List Value} (hl : VRs G l cs) (ts : Array TypeId) (ty : TypeId) (W : World) :
    ∃ w, (Builtin.max_ ts ty cs.toArray).run P W = .ok w W ∧ VR G v w := by
  unfold maxV at h
  split at h
  · rw [cond_eq_ite] at h
    split at h
    · cases h
      cases hl with
      | cons _ _ _ _ ha t => cases t with
        | cons _ _ _ _ hb t => cases t; cases ha; cases hb; exact ⟨_, run_max_int2 W ts ty _ _ _ _, .int _ _⟩
    · cases h
  · cases h
theorem un_sound {P : Program} {op : UnOp} {x v : V} (h : unV op x = .ok v) {G : Gh} {y : Value} (hy : VR G x y) (W : World) : ∃ w, (Op.unary op y).run P W = .ok w W ∧ VR G v w := by
  unfold unV at h
  split at h
  · cases h; cases hy; exact ⟨_, rfl, .bool _⟩
  · cases h; cases hy; exact ⟨_, rfl, by rw [wr_eq]; exact .int _ _⟩
  · cases h; cases hy; exact ⟨_, rfl, by rw [wr_eq]; exact .int _ _⟩
  · cases h

theorem builtin_sound {P : Program} {b : Builtin} {ts : Array TypeId} {args : List V} {fr : Option Nat} {S : St} {r : Out} (h : builtinV P b ts args fr S = .ok r)
    {F : Nat → Option Obj} {G : Gh} {W : World} (R : Rel F G S W.heap) (hf : FrOK fr G S) {cs : List Value} (ha : VRs G args cs) (ty : TypeId) (consts : Array Bool) :
    OutOK P F fr G S W ((builtin b ts ty consts cs.toArray).run P W) r := by
  unfold builtinV at h
  split at h
  · cases ha with
    | cons _ y _ _ hy t =>
      cases t
      split at h
      · rename_i t ht
        unfold pureR at h
        split at h
        · rename_i v hv
          cases h
          obtain ⟨w, w1, w2⟩ := len_sound hv R hy ht ty
          exact ⟨W, G, w, by simp [builtin, w1], Sim.refl R, w2⟩
        · cases h
      · cases h
  · unfold pureR at h
    split at h
    · rename_i v hv
      cases h
      obtain ⟨w, w1, w2⟩ := min_sound (P := P) hv ha ts ty W
      exact ⟨W, G, w, by simp [builtin, w1], Sim.refl R, w2⟩
    · cases h
  · unfold pureR at h
    split at h
    · rename_i v hv
      cases h
      obtain ⟨w, w1, w2⟩ := max_sound (P := P) hv ha ts ty W
      exact ⟨W, G, w, by simp [builtin, w1], Sim.refl R, w2⟩
    · cases h
  · cases ha with
    | cons _ y _ _ hy t =>
      cases t with
      | cons _ z _ _ hz t =>
        cases t
        split at h
        · rename_i t u ht hu
          split at h
          · rename_i e hd
            unfold pairR at h
            split at h
            · rename_i v S' hv
              cases h
              obtain ⟨W', G', w, w1, w2, w3⟩ := append_sound (ty := ty) ht hu (.inl ⟨e, hd⟩) hv R hf hy hz
              exact ⟨W', G', w, by simp [builtin, w1], w2, w3⟩
            · cases h
          · rename_i hd
            unfold pairR at h
            split at h
            · rename_i v S' hv
              cases h
              obtain ⟨W', G', w, w1, w2, w3⟩ := append_sound (ty := ty) ht hu (.inr hd) hv R hf hy hz
              exact ⟨W', G', w, by simp [builtin, w1], w2, w3⟩
            · cases h
          · cases h
        · cases h
  · cases ha with
    | cons _ y _ _ hy t =>
      cases t
      split at h
      · rename_i t ht
        unfold pairR at h
        split at h
        · rename_i v S' hv
          cases h
          obtain ⟨W', G', w, w1, w2, w3⟩ := clear_sound (ty := ty) (fr := fr) ht hv R hy
          exact ⟨W', G', w, by simp [builtin, w1], w2, w3⟩
        · cases h
      · cases h
  · cases h

/-- A call: entered, or reckoned. -/
theorem callOr_sound {P : Program} {S : St} {g : FuncId} {args : List V} {r : Out} (h : callOr P S g args = .ok r) {F : Nat → Option Obj} {fr : Option Nat} {G : Gh} {W : World} (R : Rel F G S W.heap)
    {cs : List Value} (ha : VRs G args cs) : OutOK P F fr G S W ((callFunc g cs.toArray).run P W) r := by
  unfold callOr at h
  split at h
  · cases h
  · rename_i fn hf
    split at h
    · cases h
      exact ⟨cs, ha, rfl⟩
    · rename_i hb
      unfold pureR at h
      split at h
      · rename_i v hv
        cases h
        obtain ⟨w, w1, w2⟩ := extern_sound hf hb hv ha W
        exact ⟨W, G, w, w1, Sim.refl R, w2⟩
      · cases h
theorem head_app (v : Value) (xs : Array Value) : (#[v] ++ xs)[0]? = some v := by
  rw [Array.getElem?_append_left (by simp)]; rfl
theorem tail_app (v : Value) (xs : Array Value) : (#[v] ++ xs).extract 1 (#[v] ++ xs).size = xs := by
  apply Array.ext_getElem?
  intro i
  rw [Array.getElem?_extract]
  have e : (#[v] ++ xs).size = xs.size + 1 := by simp [Nat.add_comm]
  rw [e]
  split
  · rw [Array.getElem?_append_right (by simp)]; simp
  · rename_i h
    have : xs.size ≤ i := by omega
    rw [Array.getElem?_eq_none this]
theorem cons_app (v : Value) (xs : Array Value) : #[v] ++ xs = (v :: xs.toList).toArray := by
  apply Array.ext'
  simp
/-- A method of an interface's value. -/
theorem method_sound {P : Program} {t : TypeId} {name : String} {g : FuncId} (h : methodV P t name = some g) (w : Value) (args : Array Value) (W : World) :
    (callMethod (.iface t w) name args).run P W = (callFunc g (#[w] ++ args)).run P W := by
  unfold methodV at h
  split at h
  · cases h
  · rename_i i hi
    split at h
    · cases h
    · rename_i m hm
      split at h
      · rename_i g' fs hf hp hu
        cases h
        have hpath : m.path = #[] := by
          cases hq : m.path with
          | mk l => rw [hq] at hp; simp at hp; rw [hp]
        unfold callMethod
        rw [Sem.run_bind, show Sem.run P program W = .ok P W from rfl]
        simp only [Result.andThen_ok]
        rw [Sem.run_bind]
        have hmeth : (method (P.types.size + Made.depth) t w name).run P W = .ok (g, w) W := by
          rw [show P.types.size + Made.depth = (P.types.size + Made.depth - 1) + 1 from by unfold Made.depth; omega]
          unfold method
          simp only [Sem.run_bind, typeInfo, Sem.run_pure, Result.andThen_ok]
          rw [show Sem.run P program W = .ok P W from rfl]
          simp only [Result.andThen_ok, hi, Sem.run_pure, hm, hp, follow, hf]
          simp only [receiverAt, Sem.run_bind, Sem.run_pure, run_underlying hu, Result.andThen_ok]
          rfl
        rw [hmeth]
        rfl
      · cases h

set_option maxHeartbeats 4000000 in
theorem eval_sound {P : Program} {ρ : Operand → Option V} {o : Oper} {fr : Option Nat} {S : St} {r : Out} (h : evalOp P ρ o fr S = .ok r)
    {F : Nat → Option Obj} {G : Gh} {W : World} (R : Rel F G S W.heap) (hf : FrOK fr G S) {ρc : Operand → Value} (hρ : ∀ x v, ρ x = some v → VR G v (ρc x)) :
    OutOK P F fr G S W ((execOp ρc o).run P W) r := by
  obtain ⟨dst, op, ty, pos, after, gd⟩ := o
  -- a value that is computed without a change
  have pure' : ∀ {x : AM.R V} {s : Sem Value}, pureR S x = .ok r → (∀ v, x = .ok v → ∃ w, s.run P W = .ok w W ∧ VR G v w) → (execOp ρc ⟨dst, op, ty, pos, after, gd⟩ = do pure (.value (← s))) →
      OutOK P F fr G S W ((execOp ρc ⟨dst, op, ty, pos, after, gd⟩).run P W) r := by
    intro x s hx hs he
    unfold pureR at hx
    split at hx
    · rename_i v
      cases hx
      obtain ⟨w, w1, w2⟩ := hs v rfl
      exact ⟨W, G, w, by rw [he]; simp [w1], Sim.refl R, w2⟩
    · cases hx
  have pair' : ∀ {x : AM.R (V × St)} {s : Sem Value}, pairR x = .ok r → (∀ v S', x = .ok (v, S') → ∃ W' G' w, s.run P W = .ok w W' ∧ Sim F fr G S W G' S' W' ∧ VR G' v w) →
      (execOp ρc ⟨dst, op, ty, pos, after, gd⟩ = do pure (.value (← s))) → OutOK P F fr G S W ((execOp ρc ⟨dst, op, ty, pos, after, gd⟩).run P W) r := by
    intro x s hx hs he
    unfold pairR at hx
    split at hx
    · rename_i v S'
      cases hx
      obtain ⟨W', G', w, w1, w2, w3⟩ := hs v S' rfl
      exact ⟨W', G', w, by rw [he]; simp [w1], w2, w3⟩
    · cases hx
  cases op <;> simp only [evalOp] at h <;> try (cases h; done)
  case move x =>
    split at h
    · rename_i v hv; cases h
      exact ⟨W, G, _, rfl, Sim.refl R, hρ _ _ hv⟩
    · cases h
  case assign x =>
    split at h
    · rename_i v hv; cases h
      exact ⟨W, G, _, rfl, Sim.refl R, hρ _ _ hv⟩
    · cases h
  case pick c a b =>
    split at h
    · rename_i hc
      split at h
      · rename_i v hv; cases h
        have := hρ _ _ hc
        refine ⟨W, G, ρc a, ?_, Sim.refl R, hρ _ _ hv⟩
        simp only [execOp]
        generalize ρc c = cv at this
        cases this
        simp [asBool]
      · cases h
    · rename_i hc
      split at h
      · rename_i v hv; cases h
        have := hρ _ _ hc
        refine ⟨W, G, ρc b, ?_, Sim.refl R, hρ _ _ hv⟩
        simp only [execOp]
        generalize ρc c = cv at this
        cases this
        simp [asBool]
      · cases h
    · cases h
  case alloc t =>
    split at h
    · cases h
    · rename_i z hz
      split at h
      · rename_i a S' hn
        cases h
        obtain ⟨W', G', w, w1, w2, w3⟩ := alloc_sound hz hn R hf
        exact ⟨W', G', w, by simp [execOp, w1], w2, w3⟩
      · cases h
  case box t x =>
    split at h
    · rename_i v hv
      rw [cond_eq_ite] at h
      split at h
      · split at h
        · rename_i a S' hn
          cases h
          obtain ⟨W', G', w, w1, w2, w3⟩ := box_sound (P := P) (t := t) (hρ _ _ hv) hn R hf
          exact ⟨W', G', w, by simp [execOp, w1], w2, w3⟩
        · cases h
      · cases h
    · cases h
  case build t ps =>
    split at h
    · rename_i vs hvs
      refine pure' h (s := Instr.build t (ps.map fun (i, x) => (i, ρc x))) (fun v hv => ?_) rfl
      exact build_sound hv (by have := evPs_sound hρ hvs; simpa using this) W
    · cases h
  case buildSlice t n ps =>
    split at h
    · rename_i vs hvs
      refine pair' h (s := Instr.buildSlice t n (ps.map fun (i, x) => (i, ρc x))) (fun v S' hv => ?_) rfl
      exact buildSlice_sound hv R hf (by have := evPs_sound hρ hvs; simpa using this)
    · cases h
  case load t a =>
    split at h
    · rename_i p hp
      exact pure' h (s := Instr.loadAt t (ρc a)) (fun v hv => load_sound hv R (hρ _ _ hp)) rfl
    · cases h
  case store t a x =>
    split at h
    · rename_i p v hp hv
      split at h
      · rename_i S' hs
        cases h
        obtain ⟨W', w1, w2, w3, w4, w5⟩ := store_sound hs R (hρ _ _ hp) (hρ _ _ hv)
        exact ⟨W', G, by simp [execOp, w1], G.le_refl, w2, w3, by omega, fun _ _ _ _ => ⟨rfl, rfl⟩, fun a h _ _ => w5 a h, fun _ => rfl⟩
      · cases h
    · cases h
  case nilCheck x =>
    split at h
    · rename_i a ver i j hp
      cases h
      have := hρ _ _ hp
      refine ⟨W, G, ρc x, ?_, Sim.refl R, this⟩
      simp only [execOp]
      generalize ρc x = cv at this
      cases this
      rfl
    · rename_i cs j hp
      cases h
      have := hρ _ _ hp
      refine ⟨W, G, ρc x, ?_, Sim.refl R, this⟩
      simp only [execOp]
      generalize ρc x = cv at this
      cases this
      rfl
    · cases h
  case binOp op t x y yt =>
    split at h
    · rename_i a b hx hy
      rw [cond_eq_ite] at h
      split at h
      · rename_i hg
        refine pure' h (s := (do eqGuard op t x y (ρc x) (ρc y); binOp op t (ρc x) (ρc y))) (fun v hv => ?_) rfl
        obtain ⟨w, w1, w2⟩ := bin_sound hv (hρ _ _ hx) (hρ _ _ hy) W
        exact ⟨w, by simp [guard_sound hg (hρ _ _ hx) (hρ _ _ hy), w1], w2⟩
      · cases h
    · cases h
  case unOp op t x =>
    split at h
    · rename_i v hv
      exact pure' h (s := Op.unary op (ρc x)) (fun v' hv' => un_sound hv' (hρ _ _ hv) W) rfl
    · cases h
  case convert s d x =>
    split at h
    · rename_i v hv
      exact pair' h (s := convert s d (ρc x)) (fun v' S' hv' => convert_sound hv' R hf (hρ _ _ hv)) rfl
    · cases h
  case makeSlice t l c =>
    split at h
    · rename_i lv cv hl hc
      exact pair' h (s := Instr.makeSlice t (ρc l) (ρc c)) (fun v' S' hv' => makeSlice_sound hv' R hf (hρ _ _ hl) (hρ _ _ hc)) rfl
    · cases h
  case slice t x lo hi mx =>
    split at h
    · rename_i v l hh hv hl hhi
      obtain ⟨a1, a2⟩ := evO_sound hρ hl
      obtain ⟨b1, b2⟩ := evO_sound hρ hhi
      exact pure' h (s := Instr.sliceAt t (ρc x) (lo.map ρc) (hi.map ρc) none) (fun v' hv' => slice_sound hv' (hρ _ _ hv) a1 a2 b1 b2 W) rfl
    · cases h
  case fieldAddr s x f =>
    split at h
    · rename_i p hp
      exact pure' h (s := Instr.fieldAt s (ρc x) f) (fun v hv => fieldAddr_sound hv (hρ _ _ hp) W) rfl
    · cases h
  case field t x f =>
    split at h
    · rename_i p hp
      exact pure' h (s := Instr.field t (ρc x) f) (fun v hv => field_sound hv (hρ _ _ hp) W) rfl
    · cases h
  case indexAddr t x i =>
    split at h
    · rename_i v k hv hk
      exact pure' h (s := Instr.indexAt t (ρc x) (ρc i)) (fun v' hv' => indexAddr_sound hv' (hρ _ _ hv) (hρ _ _ hk) W) rfl
    · cases h
  case index t x i =>
    split at h
    · rename_i v k hv hk
      exact pure' h (s := Instr.index t (ρc x) (ρc i)) (fun v' hv' => index_sound hv' (hρ _ _ hv) (hρ _ _ hk) W) rfl
    · cases h
  case extract t i =>
    split at h
    · rename_i vs hvs
      split at h
      · rename_i v hv
        cases h
        have := hρ _ _ hvs
        simp only [execOp]
        generalize ρc t = cv at this
        cases this with
        | tup _ cvs hc =>
          obtain ⟨w, w1, w2⟩ := hc.get hv
          have w1' : cvs[i]? = some w := by simpa using w1
          exact ⟨W, G, w, by simp [Instr.extract, w1'], Sim.refl R, w2⟩
      · cases h
    · cases h
  case call c =>
    obtain ⟨callee, args, ats⟩ := c
    cases callee with
    | value f =>
      simp only at h
      split at h
      · rename_i g first captured as hg has
        have hf' := hρ _ _ hg
        have ha := evs_sound hρ has
        simp only [execOp, resolve]
        generalize ρc f = fv at hf'
        cases hf' with
        | func _ _ _ x y hx hy =>
          have := callOr_sound (fr := fr) h R ((hx.append ha).append hy)
          simp only [Deferred.ofValue, Sem.run_bind, Sem.run_pure, Result.andThen_ok, invoke]
          have e : x ++ args.map ρc ++ y = (x.toList ++ args.toList.map ρc ++ y.toList).toArray := by
            apply Array.ext'
            simp
          rw [e]; exact this
      · cases h
    | builtin b =>
      simp only at h
      split at h
      · rename_i as has
        have ha := evs_sound hρ has
        have := builtin_sound h R hf ha ty (args.map fun | .const _ => true | _ => false)
        simp only [execOp, resolve, Sem.run_bind, Sem.run_pure, Result.andThen_ok, invoke]
        have e : (args.map ρc) = (args.toList.map ρc).toArray := by apply Array.ext'; simp
        rw [e]; exact this
      · cases h
    | invoke r m =>
      simp only at h
      split at h
      · rename_i t v as hr has
        split at h
        · rename_i g hg
          have hr' := hρ _ _ hr
          have ha := evs_sound hρ has
          simp only [execOp, resolve]
          generalize ρc r = rv at hr'
          cases hr' with
          | iface _ _ w hw =>
            have := callOr_sound (fr := fr) h R (.cons _ _ _ _ hw ha)
            have e4 : (w :: args.toList.map ρc).toArray = #[w] ++ args.map ρc := by rw [cons_app]; simp
            rw [e4] at this
            simp only [Sem.run_bind, Sem.run_pure, Result.andThen_ok, invoke, head_app, tail_app, method_sound hg]
            exact this
        · cases h
      · cases h
  case range t x =>
    split at h
    · rename_i s hx hd
      split at h
      · rename_i a S' hn
        cases h
        obtain ⟨W', G', w, w1, w2, w3⟩ := range_sound hd hn R hf (hρ _ _ hx)
        exact ⟨W', G', w, by simp [execOp, w1], w2, w3⟩
      · cases h
    · cases h
  case next it isS =>
    split at h
    · rename_i a hx
      rw [cond_eq_ite] at h
      split at h
      · rename_i hs
        subst hs
        split at h
        · rename_i s pos hg
          obtain ⟨n1, n2⟩ := next_sound (ty := ty) (fr := fr) hg R (hρ _ _ hx)
          rw [cond_eq_ite] at h
          split at h
          · split at h
            · rename_i b hb
              rw [cond_eq_ite] at h
              split at h
              · rename_i hlt
                cases h
                obtain ⟨W', w, w1, w2, w3⟩ := n2 b hb (by simpa using hlt)
                exact ⟨W', G, w, by show (do pure (Next.value (← Instr.next (ρc it) true ty)) : Sem Next).run P W = _; rw [Sem.run_bind, w1]; rfl, w2, w3⟩
              · cases h
            · cases h
          · rename_i hge
            cases h
            obtain ⟨w, w1, w2⟩ := n1 (by simp at hge; omega)
            exact ⟨W, G, w, by show (do pure (Next.value (← Instr.next (ρc it) true ty)) : Sem Next).run P W = _; rw [Sem.run_bind, w1]; rfl, Sim.refl R, w2⟩
        · cases h
      · cases h
    · cases h
  case makeMap t r =>
    cases r with
    | some r => cases h
    | none =>
      simp only at h
      split at h
      · rename_i a S' hn
        cases h
        obtain ⟨W', G', w, w1, w2, w3⟩ := makeMap_sound (t := t) hn R hf
        exact ⟨W', G', w, by show (do pure (Next.value (← Instr.makeMap t none)) : Sem Next).run P W = _; rw [Sem.run_bind, w1]; rfl, w2, w3⟩
      · cases h
  case lookup t m k ok =>
    split at h
    · rename_i mv kv hm hk
      unfold pureR at h
      split at h
      · rename_i v hv
        cases h
        obtain ⟨w, w1, w2⟩ := lookup_sound hv R (hρ _ _ hm) (hρ _ _ hk)
        exact ⟨W, G, w, by simp [execOp, w1], Sim.refl R, w2⟩
      · cases h
    · cases h
  case mapUpdate t m k x =>
    split at h
    · rename_i mv kv xv hm hk hx
      split at h
      · rename_i S' hs
        cases h
        obtain ⟨W', w1, w2⟩ := mapUpdate_sound (fr := fr) hs R (hρ _ _ hm) (hρ _ _ hk) (hρ _ _ hx)
        exact ⟨W', G, by simp [execOp, w1], w2⟩
      · cases h
    · cases h
  case makeFunc fn first captured =>
    split at h
    · rename_i f a b h1 h2
      cases h
      exact ⟨W, G, .func (.func f) (first.map ρc) (captured.map ρc), rfl, Sim.refl R, .func _ _ _ _ _ (by simpa using evs_sound hρ h1) (by simpa using evs_sound hρ h2)⟩
    · cases h
  case makeInterface t x =>
    split at h
    · cases h
    · rename_i v d hni hv hd
      cases h
      refine ⟨W, G, .iface t (ρc x), ?_, Sim.refl R, .iface _ _ _ (hρ _ _ hv)⟩
      cases d <;> first | exact (hni _ rfl).elim | (simp [execOp, Instr.makeInterface, run_underlying hd]; done)
    · cases h
  case typeAssert x xt t ok =>
    split at h
    · rename_i v hv
      exact pure' h (s := Instr.typeAssert (ρc x) xt t ok) (fun v' hv' => assert_sound hv' (hρ _ _ hv) W) rfl
    · cases h
end Go.AM
