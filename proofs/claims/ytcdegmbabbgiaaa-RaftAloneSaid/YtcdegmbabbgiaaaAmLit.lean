/-
  Calls that are reckoned ahead: a function as one step, by a table of its calls.
-/
import Derived.Test.YtcdegmbabbgiaaaAmQ6
set_option linter.unusedSimpArgs false
set_option linter.unusedVariables false
namespace Go.AM

/-- A call, reckoned ahead: what is there, what comes of it. -/
structure Lit where
  args : List V
  n : Nat
  blocks : List (Nat × Blk)
  v : V
  n' : Nat
  blocks' : List (Nat × Blk)
def beqBlk : Blk → Blk → Bool
  | .row a b c, .row a' b' c' => Nat.beq a a' && Nat.beq b b' && beqVss c c'
  | _, _ => false
def inclB (h : Tr Blk) : List (Nat × Blk) → Bool
  | [] => true
  | (a, b) :: l => (match h.get a with
    | some b' => beqBlk b b'
    | none => false) && inclB h l
def mkHeap : List (Nat × Blk) → Tr Blk
  | [] => .nil
  | (a, b) :: l => (mkHeap l).put a b
def findLit (n : Nat) : List Lit → Option Lit
  | [] => none
  | L :: l => bif Nat.beq L.n n then some L else findLit n l
def litRun (tab : List Lit) (args : List V) (S : St) : R (V × St) :=
  match findLit S.next tab with
  | some L => bif beqVs L.args args && inclB S.heap L.blocks then .ok (L.v, ⟨L.n', mkHeap L.blocks'⟩) else .error "lit"
  | none => .error "no such lit"
/-- The quick machine's word on such a call. -/
noncomputable def litQ (P : Program) (pl : Plans) (k : Nat) (f : FuncId) (L : Lit) : Bool :=
  (callQ P pl k f L.args L.n (mkHeap L.blocks) (fun v n h => ifQ (beqV L.v v && Nat.beq L.n' n && inclB h L.blocks') (some (v, ⟨n, h⟩)))).isSome

theorem findLit_mem {n : Nat} : ∀ {l : List Lit} {L : Lit}, findLit n l = some L → L ∈ l ∧ L.n = n
  | [], L, h => by cases h
  | M :: l, L, h => by
    simp only [findLit, cond_eq_ite] at h
    split at h
    · rename_i hb
      cases h
      exact ⟨List.mem_cons_self .., Nat.eq_of_beq_eq_true hb⟩
    · obtain ⟨a, b⟩ := findLit_mem h
      exact ⟨List.mem_cons_of_mem _ a, b⟩
theorem inclB_get {h : Tr Blk} : ∀ {l : List (Nat × Blk)}, inclB h l = true → ∀ {a : Nat} {b : Blk}, (a, b) ∈ l → h.get a = some b
  | [], _, a, b, hm => by cases hm
  | (c, d) :: l, hi, a, b, hm => by
    simp only [inclB, Bool.and_eq_true] at hi
    rcases List.mem_cons.1 hm with e | hm
    · cases e
      have h1 := hi.1
      split at h1
      · rename_i b' hb'
        rw [hb']
        congr 1
        cases d with
        | row x y z =>
          cases b' with
          | row x' y' z' =>
            simp only [beqBlk, Bool.and_eq_true, Nat.beq_eq] at h1
            obtain ⟨⟨rfl, rfl⟩, h3⟩ := h1
            rw [beqVss_eq h3]
          | _ => cases h1
        | _ => cases h1
      · cases h1
    · exact inclB_get hi.2 hm
theorem mkHeap_get : ∀ {l : List (Nat × Blk)}, (∀ a b, (a, b) ∈ l → a < lim) → ∀ {a : Nat} {b : Blk}, (mkHeap l).get a = some b → (a, b) ∈ l
  | [], _, a, b, h => by cases h
  | (c, d) :: l, hl, a, b, h => by
    simp only [mkHeap] at h
    rw [Tr.get_put _ _ _ _ (hl c d (List.mem_cons_self ..))] at h
    split at h
    · rename_i e
      cases h; subst e
      exact List.mem_cons_self ..
    · exact List.mem_cons_of_mem _ (mkHeap_get (fun a b hm => hl a b (List.mem_cons_of_mem _ hm)) h)
/-- A part of a memory is a memory. -/
theorem RelH.part {F : Nat → Option Obj} {G : Gh} {S S1 : St} {H : Array Obj} (R : Rel F G S H) (hn : S1.next = S.next) (hs : ∀ a b, S1.heap.get a = some b → S.heap.get a = some b) : Rel F G S1 H := by
  constructor
  · intro a ha; rw [hn] at ha; exact R.fresh a ha
  · exact R.sep
  · exact fun a b h => R.blk a b (hs a b h)
  · exact fun a a' b b' i h h' => R.inj a a' b b' i (hs a b h) (hs a' b' h')
  · exact R.fr
  · exact R.pr
  · exact fun a b i h => R.own a b i (hs a b h)
  · exact R.lt
  · exact fun a b h => R.small a b (hs a b h)

theorem spec_lit {P : Program} {pl : Plans} (hp : PlansOK P pl) {k : Nat} {f : FuncId} {fn : Func} {c : Code} (hf : P.funcs[f]? = some fn) (hn : (fn.name == "runtime.NumGoroutine") = false) (hb : fn.body = some c) {tab : List Lit}
    (ht : ∀ L ∈ tab, litQ P pl k f L = true) : SpecOK P f (litRun tab) := by
  refine ⟨⟨fn, c, hf, hn, hb⟩, fun {args S S' v} h => ?_⟩
  intro F G W cs R hvs
  unfold litRun at h
  split at h
  · rename_i L hL
    obtain ⟨hmem, hnn⟩ := findLit_mem hL
    rw [cond_eq_ite] at h
    split at h
    · rename_i hck
      simp only [Bool.and_eq_true] at hck
      obtain ⟨hargs, hincl⟩ := hck
      have hargs := beqVs_eq hargs
      cases h
      have hq := ht L hmem
      unfold litQ at hq
      cases hr : callQ P pl k f L.args L.n (mkHeap L.blocks) (fun v n h => ifQ (beqV L.v v && Nat.beq L.n' n && inclB h L.blocks') (some (v, ⟨n, h⟩))) with
      | none => rw [hr] at hq; cases hq
      | some z =>
        obtain ⟨v', S1', h1, h2⟩ := callQ_some k _ _ _ _ _ _ hr
        obtain ⟨h3, h4⟩ := ifQ_some h2
        simp only [Bool.and_eq_true, Nat.beq_eq] at h3
        obtain ⟨⟨hv, hn'⟩, hincl'⟩ := h3
        have hv := beqV_eq hv
        subst hv
        have hsub : ∀ a b, (mkHeap L.blocks).get a = some b → S.heap.get a = some b := fun a b hab =>
          inclB_get hincl (mkHeap_get (fun a b hm => R.small a b (inclB_get hincl hm)) hab)
        have R1 : Rel F G ⟨L.n, mkHeap L.blocks⟩ W.heap := R.part hnn hsub
        rw [← hargs] at hvs
        refine ((callF_sound hp k).calls h1 R1 hvs).mono ?_
        rintro e W' ⟨G', w, rfl, q1, q2⟩
        have hsub' : ∀ a b, (mkHeap L.blocks').get a = some b → S1'.heap.get a = some b := fun a b hab =>
          inclB_get hincl' (mkHeap_get (fun a b hm => q1.rel.small a b (inclB_get hincl' hm)) hab)
        have none1 : ∀ a, S.heap.get a = none → (mkHeap L.blocks).get a = none := fun a ha => by
          cases hc : (mkHeap L.blocks).get a with
          | none => rfl
          | some b => rw [hsub a b hc] at ha; cases ha
        refine ⟨G', w, rfl, ⟨q1.le, q1.rel.part hn' hsub', q1.same, ?_, fun a ha hlt hfr => ?_, fun a ha hlt hfr => ?_, q1.prs⟩, q2⟩
        · have := q1.next
          simp only at this
          show S.next ≤ L.n'
          rw [hn', ← hnn]; exact this
        · exact q1.keep a (none1 a ha) (by show a < L.n; rw [hnn]; exact hlt) hfr
        · have := q1.dead a (none1 a ha) (by show a < L.n; rw [hnn]; exact hlt) hfr
          cases hc : (mkHeap L.blocks').get a with
          | none => rfl
          | some b => rw [hsub' a b hc] at this; cases this
    · cases h
  · cases h

/-- The plans, one function being taken by a table. -/
def plansLit (f : FuncId) (tab : List Lit) (pl : Plans) : Plans := fun g => bif Nat.beq g f then some (.spec (litRun tab)) else pl g
theorem plansLit_ok {P : Program} {pl : Plans} (hp : PlansOK P pl) {f : FuncId} {tab : List Lit} (hs : SpecOK P f (litRun tab)) : PlansOK P (plansLit f tab pl) := by
  refine ⟨hp.mixed, fun g p h => ?_, fun g s h => ?_⟩ <;> unfold plansLit at h <;> rw [cond_eq_ite] at h
  · split at h
    · cases h
    · exact hp.ok g p h
  · split at h
    · rename_i hb
      have := Nat.eq_of_beq_eq_true hb
      subst this
      cases h
      exact hs
    · exact hp.sp g s h
end Go.AM
namespace Go.AM
theorem litAll_nil {P : Program} {pl : Plans} {k : Nat} {f : FuncId} : ∀ L ∈ ([] : List Lit), litQ P pl k f L = true := fun _ h => by cases h
theorem litAll_cons {P : Program} {pl : Plans} {k : Nat} {f : FuncId} {L : Lit} {l : List Lit} (h : litQ P pl k f L = true) (t : ∀ M ∈ l, litQ P pl k f M = true) : ∀ M ∈ L :: l, litQ P pl k f M = true := fun M hm => by
  rcases List.mem_cons.1 hm with rfl | hm
  · exact h
  · exact t M hm
theorem body_get {fn : Func} (h : fn.body.isSome = true) : fn.body = some (fn.body.get h) := (Option.some_get h).symm
end Go.AM
