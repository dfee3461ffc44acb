/-
  impostbook's Within, and laws that say true, as one step.
-/
import Derived.Test.YtcdegmbabbgiaaaAmLit
import Derived.WalkKit
import Derived.Lib.Walk
set_option linter.unusedSimpArgs false
set_option linter.unusedVariables false
namespace Go.AM
open Go.RowKit

/-- A memory that has grown. -/
theorem RelH.grow {F : Nat → Option Obj} {G : Gh} {S : St} {H H' : Array Obj} (R : Rel F G S H) (hs : H.size ≤ H'.size) (old : ∀ i, i < H.size → H'[i]? = H[i]?) : Rel F G S H' := by
  have lt : ∀ {i : Nat} {o : Obj}, H[i]? = some o → i < H.size := fun h => (Array.getElem?_eq_some_iff.1 h).1
  constructor
  · exact R.fresh
  · exact R.sep
  · intro a b hb
    have hold := R.blk a b hb
    cases b with
    | row ver' es' elems' =>
      obtain ⟨K, hK, r1, r2, r3, c', ty', fr', hc', r⟩ := hold
      exact ⟨K, hK, r1, r2, r3, c', ty', fr', by rw [old _ (lt hc')]; exact hc', r⟩
    | mp kvs =>
      obtain ⟨i, es', clock, hi, hH', r⟩ := hold
      exact ⟨i, es', clock, hi, by rw [old _ (lt hH')]; exact hH', r⟩
    | iter s pos =>
      obtain ⟨K, hK, r1, r2, hH'⟩ := hold
      exact ⟨K, hK, r1, r2, by rw [old _ (lt hH')]; exact hH'⟩
  · exact R.inj
  · intro i o h
    have := R.fr i o h
    rw [old i (lt this)]; exact this
  · intro i o h
    have := R.pr i o h
    rw [old i (lt this)]; exact this
  · exact R.own
  · intro a i h
    have := R.lt a i h
    omega
  · exact R.small
/-- A law that says true, whatever the world, and turns nothing. -/
theorem spec_told {P : Program} {f : FuncId} {fn : Func} (hf : P.funcs[f]? = some fn) (hn : (fn.name == "runtime.NumGoroutine") = false) (hb : fn.body.isSome = true)
    (h : ∀ W, Calls P f #[] W fun e W' => e = .returned (.bool true) ∧ Below W.heap.size W W') : SpecOK P f (Sp.told.run P) := by
  refine ⟨⟨fn, _, hf, hn, body_get hb⟩, fun {args S S' v} hr => ?_⟩
  intro F G W cs R hvs
  match args, hr with
  | [], hr =>
    cases hr
    cases hvs
    refine (h W).mono ?_
    rintro e W' ⟨rfl, hw⟩
    have hw' := hw
    obtain ⟨w1, w2, w3, w4, w5⟩ := hw
    have old : ∀ i, i < W.heap.size → W'.heap[i]? = W.heap[i]? := w5
    exact ⟨G, .bool true, rfl, ⟨G.le_refl, R.grow w4 old, ⟨w1, w2, w3, w4⟩, Nat.le_refl _, fun _ _ _ _ => ⟨rfl, rfl⟩, fun _ h _ _ => h, fun _ => rfl⟩, .bool true⟩
/-- What is asked of 'c and what is left behind a division by m'. -/
def EmodAt (P : Program) (f : FuncId) (m c : Nat) : Prop := ∀ (W : World) (n : Int), Calls P f #[.int .i64 n] W fun e W' => e = .returned (.int .i64 (c + n % (m : Int))) ∧ Below W.heap.size W W'
theorem spec_emod {P : Program} {f : FuncId} {fn : Func} {m c : Nat} (hf : P.funcs[f]? = some fn) (hn : (fn.name == "runtime.NumGoroutine") = false) (hb : fn.body.isSome = true) (h : EmodAt P f m c) : SpecOK P f ((Sp.emod m c).run P) := by
  refine ⟨⟨fn, _, hf, hn, body_get hb⟩, fun {args S S' v} hr => ?_⟩
  intro F G W cs R hvs
  have fin : ∀ {n : Int} {d : Value}, d = .int .i64 n → v = .int .i64 (c + n % (m : Int)) → S' = S →
      Calls P f #[d] W fun e W' => ∃ G' w, e = .returned w ∧ Sim F none G S W G' S' W' ∧ VR G' v w := by
    intro n d hd hv hS
    subst hd hv hS
    refine (h W n).mono ?_
    rintro e W' ⟨rfl, hw⟩
    obtain ⟨w1, w2, w3, w4, w5⟩ := hw
    exact ⟨G, _, rfl, ⟨G.le_refl, R.grow w4 w5, ⟨w1, w2, w3, w4⟩, Nat.le_refl _, fun _ _ _ _ => ⟨rfl, rfl⟩, fun _ h _ _ => h, fun _ => rfl⟩, .int _ _⟩
  match args, hvs, hr with
  | [x], .cons _ a _ _ hx .nil, hr =>
    unfold Sp.run at hr
    simp only at hr
    split at hr
    · rename_i m' r
      rw [cond_eq_ite] at hr
      split at hr
      · rename_i hck
        simp only [Bool.and_eq_true, Nat.beq_eq, Nat.blt_eq] at hck
        obtain ⟨⟨⟨rfl, h0⟩, h1⟩, h2⟩ := hck
        cases hr
        cases hx with
        | res _ _ kk n hn =>
          rcases hn with ⟨_, rfl, hn⟩ | ⟨hb, _⟩
          · exact fin rfl (by rw [hn]; simp) rfl
          · unfold tokBase at hb; omega
      · cases hr
    · rename_i n
      rw [cond_eq_ite] at hr
      split at hr
      · cases hr
        cases hx
        exact fin rfl rfl rfl
      · cases hr
    · cases hr
  | [], .nil, hr => cases hr
  | _ :: _ :: _, _, hr => cases hr
/-- What is asked of Within. -/
def WithinAt (P : Program) (f : FuncId) : Prop := ∀ (W : World) (n lo hi : Int), lo ≤ hi → hi ≤ 1000000 → -1000000 ≤ lo →
  Calls P f #[.int .i64 n, .int .i64 lo, .int .i64 hi] W fun e W' => e = .returned (.int .i64 (lo + n % (hi - lo + 1))) ∧ Below W.heap.size W W'
theorem spec_within {P : Program} {f : FuncId} {fn : Func} (hf : P.funcs[f]? = some fn) (hn : (fn.name == "runtime.NumGoroutine") = false) (hb : fn.body.isSome = true) (h : WithinAt P f) : SpecOK P f (Sp.within.run P) := by
  refine ⟨⟨fn, _, hf, hn, body_get hb⟩, fun {args S S' v} hr => ?_⟩
  intro F G W cs R hvs
  have hd : ∃ x lo hi, args = [x, .int .i64 lo, .int .i64 hi] := by
    match args, hr with
    | [x, .int .i64 lo, .int .i64 hi], hr => exact ⟨x, lo, hi, rfl⟩
  obtain ⟨x, lo, hi, rfl⟩ := hd
  have fin : ∀ {n : Int} {c : Value}, VR G x (.int .i64 n) → c = .int .i64 n → v = .int .i64 (lo + n % (hi - lo + 1)) → S' = S → lo ≤ hi → hi ≤ 1000000 → -1000000 ≤ lo →
      Calls P f #[c, .int .i64 lo, .int .i64 hi] W fun e W' => ∃ G' w, e = .returned w ∧ Sim F none G S W G' S' W' ∧ VR G' v w := by
    intro n c _ hc hv hS h1 h2 h3
    subst hc hv hS
    refine (h W n lo hi h1 h2 h3).mono ?_
    rintro e W' ⟨rfl, hw⟩
    obtain ⟨w1, w2, w3, w4, w5⟩ := hw
    exact ⟨G, _, rfl, ⟨G.le_refl, R.grow w4 w5, ⟨w1, w2, w3, w4⟩, Nat.le_refl _, fun _ _ _ _ => ⟨rfl, rfl⟩, fun _ h _ _ => h, fun _ => rfl⟩, .int _ _⟩
  unfold Sp.run at hr
  simp only at hr
  rw [cond_eq_ite] at hr
  split at hr
  · rename_i hck
    simp only [Bool.and_eq_true, decide_eq_true_eq] at hck
    obtain ⟨⟨h1, h2⟩, h3⟩ := hck
    cases hvs with
    | cons _ a1 _ _ hx t => cases t with
      | cons _ a2 _ _ hlo t => cases t with
        | cons _ a3 _ _ hhi t => cases t with
          | nil =>
            cases hlo
            cases hhi
            split at hr
            · rename_i m r
              rw [cond_eq_ite] at hr
              split at hr
              · rename_i hm
                have hm : hi - lo + 1 = (m : Int) := by simpa using hm
                cases hr
                have hx' := hx
                cases hx with
                | res _ _ kk n hn =>
                  rcases hn with ⟨_, rfl, hn⟩ | ⟨hb, _⟩
                  · exact fin hx' rfl (by rw [hm, hn]) rfl h1 h2 h3
                  · have : (tokBase : Int) ≤ (m : Int) := by exact_mod_cast hb
                    unfold tokBase at this
                    omega
              · cases hr
            · rename_i n
              cases hr
              have hx' := hx
              cases hx
              exact fin hx' rfl rfl rfl h1 h2 h3
            · cases hr
  · cases hr
end Go.AM
namespace Go.AM
open Go.RowKit
/-- The quick machine's word on a call with arguments. -/
noncomputable def saysA (P : Program) (pl : Plans) (k : Nat) (f : FuncId) (args : List V) : Bool :=
  @Option.rec (V × St) (fun _ => Bool) false (fun r => saysTrue (.ok r)) (callQ P pl k f args 0 .nil (fun v n h => some (v, ⟨n, h⟩)))
theorem callsA_true {P : Program} {pl : Plans} (hp : PlansOK P pl) {k : Nat} {f : FuncId} {args : List V} (h : saysA P pl k f args = true) (W : World) {cs : List Value} (hc : VRs Gh.none args cs) :
    Calls P f cs.toArray W fun e W' => e = .returned (.bool true) ∧ Below W.heap.size W W' := by
  unfold saysA at h
  cases hr : callQ P pl k f args 0 .nil (fun v n h => some (v, ⟨n, h⟩)) with
  | none => rw [hr] at h; cases h
  | some r =>
    rw [hr] at h
    obtain ⟨v, S', h1, h2⟩ := callQ_some k _ _ _ _ _ _ hr
    cases h2
    unfold saysTrue at h
    simp only at h
    split at h
    · rename_i b S'' hx
      cases hx
      subst h
      refine ((callF_sound hp k).calls h1 (rel_empty W) hc).mono ?_
      rintro e W' ⟨G', w, rfl, q1, q2⟩
      cases q2
      refine ⟨rfl, q1.same.os, q1.same.tape, q1.same.output, q1.same.size, fun i hi => ?_⟩
      have := Array.getElem?_eq_getElem hi
      rw [this]
      exact q1.rel.fr i _ this
    · cases h
/-- Each int leaves something behind a division. -/
theorem res_cases (n : Int) (m : Nat) (hm : 0 < m) (hm2 : m < 1000000) : ∃ r : Nat, r < m ∧ VRs Gh.none [.res m r] [.int .i64 n] := by
  have h0 := Int.emod_nonneg n (b := (m : Int)) (by omega)
  have h1 := Int.emod_lt_of_pos n (b := (m : Int)) (by omega)
  refine ⟨(n % (m : Int)).toNat, by omega, .cons _ _ _ _ (.res _ _ _ _ (.inl ⟨by unfold tokBase; omega, rfl, ?_⟩)) .nil⟩
  rw [Int.toNat_of_nonneg h0]
end Go.AM
