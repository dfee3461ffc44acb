/-
  slices.Insert: the walk through its text, at any element type.
-/
import Derived.Test.YtcdegmbabbgiaaaAmInsDef
import Derived.Shelf.RegionOpenPlain
import Derived.WalkKit
import Derived.Lib.Walk
import Derived.Lib.SliceRun
import Derived.Lib.JoinLaws
import Derived.Laws.Externs
import Derived.Laws.IdiomCopy
import Derived.Shelf.Spec.SlicesInsert
set_option linter.unusedVariables false
set_option linter.unusedSimpArgs false
namespace Go.AM
open Go.RowKit Go.Lib Go.Proofs Go.Shelf
variable {P : Program}

/-- What is asked of the program around it. -/
structure InsAt (P : Program) (f : FuncId) (T e I B : TypeId) (ov rr : FuncId) (fn : Func) : Prop where
  mixed : P.follows .mixedOrders = true
  hf : P.funcs[f]? = some fn
  hb : fn.body = some (insCode T I B ov rr)
  hn : fn.ntmps = 95
  hr : fn.results = #[.tmp 6]
  tT : P.underlying T = some (.slice e)
  tI : P.underlying I = some (.int .i64)
  tB : P.underlying B = some .bool
  hov : ∀ args w, (callFunc ov args).run P w = ((Extern.SlicesOverlaps.overlaps #[T, T] #[B] args).run P w).andThen fun v w' => .ok (.value v) w'
  zE : ∀ w, (Go.sizeOf e).run P w = .ok (sz P e) w
  zT : ∀ w, (Go.sizeOf T).run P w = .ok 1 w
  zI : ∀ w, (Go.sizeOf I).run P w = .ok 1 w
  zB : ∀ w, (Go.sizeOf B).run P w = .ok 1 w

set_option maxHeartbeats 4000000 in
set_option maxRecDepth 100000 in
/-- There is room, and i is not at the end: in place. -/
theorem ins_shift {f : FuncId} {T e I B : TypeId} {ov rr : FuncId} {fn : Func} (L : InsAt P f T e I B ov rr fn) (b off sz n c i vb voff m vc : Nat) (w W1 W2 : World) (hi : i < n) (hm : 0 < m) (hroom : n + m ≤ c)
    (hc63 : n + m ≤ 9223372036854775807) (hsz : ∀ w, (Go.sizeOf e).run P w = .ok sz w)
    (hov : ∀ lb cb, (callFunc ov #[.slice (some ⟨vb, voff, none⟩) m vc, .slice (some ⟨b, off + (i + m) * sz, none⟩) lb cb]).run P w = .ok (.value (.bool false)) w)
    (hcp1 : ∀ ty dc sc, (Builtin.copy_ #[T, T] ty #[.slice (some ⟨b, off + (i + m) * sz, none⟩) (n + m - (i + m)) dc, .slice (some ⟨b, off + i * sz, none⟩) (n + m - i) sc]).run P w.drew = .ok (.int .i64 (n - i : Nat)) W1)
    (hcp2 : ∀ ty dc, (Builtin.copy_ #[T, T] ty #[.slice (some ⟨b, off + i * sz, none⟩) (n + m - i) dc, .slice (some ⟨vb, voff, none⟩) m vc]).run P W1 = .ok (.int .i64 m) W2) :
    Calls P f #[.slice (some ⟨b, off, none⟩) n c, .int .i64 i, .slice (some ⟨vb, voff, none⟩) m vc] w fun e w' => e = .returned (.slice (some ⟨b, off, none⟩) (n + m) c) ∧ w' = W2 := by
  have tT := L.tT; have tI := L.tI; have tB := L.tB
  have uT := run_underlying L.tT; have uI := run_underlying L.tI; have uB := run_underlying L.tB
  have zT := L.zT; have zI := L.zI; have zB := L.zB
  have mixed := L.mixed
  have hz1 : ¬ ((m : Int) = 0) := by omega
  have hz2 : ¬ ((i : Int) = (n : Int)) := by omega
  have hw1 : IntKind.i64.wrap ((i : Int) + (m : Int)) = (i : Int) + (m : Int) := by rw [IntKind.wrap_i64]; omega
  have hw2 : IntKind.i64.wrap ((n : Int) + (m : Int)) = (n : Int) + (m : Int) := by rw [IntKind.wrap_i64]; omega
  have hb1 : (0 : Int) ≤ (i : Int) + (m : Int) := by omega
  have hin : i ≤ n := by omega
  have htn : ((i : Int) + (m : Int)).toNat = i + m := by omega
  have hb2 : ¬ (c = i + m) := by omega
  have hb3 : (i : Int) ≤ (n : Int) + (m : Int) := by omega
  have hb4 : ¬ (c = i) := by omega
  refine calls_of_wp L.hf L.hb ?_
  have hr := L.hr
  simp only [L.hn, List.size_toArray, List.length_cons, List.length_nil, Nat.reduceAdd, Nat.reduceSub, Array.replicate_succ,
     Array.replicate_zero, List.push_toArray, List.append_toArray, List.nil_append, List.cons_append]
  unfold insCode
  go_wp2_with (simp only [hov])
  go_region_law_o (refine step_copy_runI rfl _ _ T T rfl _ _ (by simp [Act.eval, Act.put]) (by simp [Act.eval, Act.put]) (hcp1 _ _ _) ?_)
  go_wp2_with (at_builtin; refine wpList_copy_runI _ rfl _ _ T T rfl _ _ rfl rfl (hcp2 _ _) ?_)
  refine ⟨rfl, .slice (some ⟨b, off, none⟩) (n + m) c, results_one hr rfl, rfl, rfl⟩

set_option maxHeartbeats 4000000 in
set_option maxRecDepth 100000 in
/-- No room, and i is not at the end: a new row. -/
theorem ins_grow {f : FuncId} {T e I B : TypeId} {ov rr : FuncId} {fn : Func} (L : InsAt P f T e I B ov rr fn) (b off nb sz n c i vb voff m vc g : Nat) (w W1 W2 W3 : World) (hi : i < n) (hm : 0 < m) (hnc : n ≤ c) (hroom : c < n + m)
    (hg : n + m ≤ g) (hbig : n + m ≤ 9223372036854775807) (hsz : ∀ w, (Go.sizeOf e).run P w = .ok sz w)
    (hrz : ∀ ty, (Builtin.append_ #[T, I] ty #[.slice (some ⟨b, off, none⟩) i c, .int .i64 ((n : Int) + (m : Int) - (i : Int))]).run P w = .ok (.slice (some ⟨nb, 0, none⟩) (n + m) g) W1)
    (hcp1 : ∀ ty dc, (Builtin.copy_ #[T, T] ty #[.slice (some ⟨nb, i * sz, none⟩) (n + m - i) dc, .slice (some ⟨vb, voff, none⟩) m vc]).run P W1 = .ok (.int .i64 m) W2)
    (hcp2 : ∀ ty dc sc, (Builtin.copy_ #[T, T] ty #[.slice (some ⟨nb, (i + m) * sz, none⟩) (n + m - (i + m)) dc, .slice (some ⟨b, off + i * sz, none⟩) (n - i) sc]).run P W2.drew = .ok (.int .i64 (n - i : Nat)) W3) :
    Calls P f #[.slice (some ⟨b, off, none⟩) n c, .int .i64 i, .slice (some ⟨vb, voff, none⟩) m vc] w fun e w' => e = .returned (.slice (some ⟨nb, 0, none⟩) (n + m) g) ∧ w' = W3 := by
  have tT := L.tT; have tI := L.tI; have tB := L.tB
  have uT := run_underlying L.tT; have uI := run_underlying L.tI; have uB := run_underlying L.tB
  have zT := L.zT; have zI := L.zI; have zB := L.zB
  have mixed := L.mixed
  have hz1 : ¬ ((m : Int) = 0) := by omega
  have hz2 : ¬ ((i : Int) = (n : Int)) := by omega
  have hz3 : (c : Int) < (n : Int) + (m : Int) := by omega
  have hw1 : IntKind.i64.wrap ((i : Int) + (m : Int)) = (i : Int) + (m : Int) := by rw [IntKind.wrap_i64]; omega
  have hw2 : IntKind.i64.wrap ((n : Int) + (m : Int)) = (n : Int) + (m : Int) := by rw [IntKind.wrap_i64]; omega
  have hw3 : IntKind.i64.wrap ((n : Int) + (m : Int) - (i : Int)) = (n : Int) + (m : Int) - (i : Int) := by rw [IntKind.wrap_i64]; omega
  have hb1 : (0 : Int) ≤ (i : Int) + (m : Int) := by omega
  have hin : i ≤ n := by omega
  have htn : ((i : Int) + (m : Int)).toNat = i + m := by omega
  have hb3 : (i : Int) ≤ (n : Int) + (m : Int) := by omega
  have hGi : ¬ (g = i) := by omega
  have hGim : ¬ (g = i + m) := by omega
  have hci : ¬ (c = i) := by omega
  refine calls_of_wp L.hf L.hb ?_
  have hr := L.hr
  simp only [L.hn, List.size_toArray, List.length_cons, List.length_nil, Nat.reduceAdd, Nat.reduceSub, Array.replicate_succ,
     Array.replicate_zero, List.push_toArray, List.append_toArray, List.nil_append, List.cons_append]
  unfold insCode
  go_wp2_with (at_builtin; first | refine Lib.wpList_append_run _ rfl _ _ _ _ rfl _ _ rfl rfl _ _ (hrz _) ?_ | refine wpList_copy_runI _ rfl _ _ T T rfl _ _ rfl rfl (hcp1 _ _) ?_)
  go_region_law_o (refine step_copy_runI rfl _ _ T T rfl _ _ (by simp [Act.eval, Act.put]) (by simp [Act.eval, Act.put]) (hcp2 _ _ _) ?_)
  go_wp2_with (at_builtin; skip)
  refine ⟨rfl, .slice (some ⟨nb, 0, none⟩) (n + m) g, results_one hr rfl, rfl, rfl⟩

set_option maxHeartbeats 4000000 in
set_option maxRecDepth 100000 in
/-- At the end: what append gives. -/
theorem ins_end {f : FuncId} {T e I B : TypeId} {ov rr : FuncId} {fn : Func} (L : InsAt P f T e I B ov rr fn) (base : Option Addr) (n c m : Nat) (v : Value) (hv : ∃ p vc, v = .slice p m vc) (w W1 : World) (hm : 0 < m) (r : Value)
    (hnil : base = none → c = 0) (hnc : n ≤ c) (sz : Nat) (hsz : ∀ w, (Go.sizeOf e).run P w = .ok sz w)
    (hrun : ∀ ty, (Builtin.append_ #[T, T] ty #[.slice base n c, v]).run P w = .ok r W1) :
    Calls P f #[.slice base n c, .int .i64 n, v] w fun e w' => e = .returned r ∧ w' = W1 := by
  obtain ⟨p, vc, rfl⟩ := hv
  have tT := L.tT; have tI := L.tI; have tB := L.tB
  have uT := run_underlying L.tT; have uI := run_underlying L.tI; have uB := run_underlying L.tB
  have zT := L.zT; have zI := L.zI; have zB := L.zB
  have mixed := L.mixed
  have hz1 : ¬ ((m : Int) = 0) := by omega
  refine calls_of_wp L.hf L.hb ?_
  have hr := L.hr
  simp only [L.hn, List.size_toArray, List.length_cons, List.length_nil, Nat.reduceAdd, Nat.reduceSub, Array.replicate_succ,
     Array.replicate_zero, List.push_toArray, List.append_toArray, List.nil_append, List.cons_append]
  unfold insCode
  cases base with
  | none =>
    have h0 := hnil rfl
    subst h0
    have hn0 : n = 0 := by omega
    subst hn0
    go_wp2_with (at_builtin; refine Lib.wpList_append_run _ rfl _ _ _ _ rfl _ _ rfl rfl _ _ (hrun _) ?_)
    exact ⟨rfl, r, results_one hr rfl, rfl, rfl⟩
  | some a =>
    obtain ⟨ab, ao, asp⟩ := a
    go_wp2_with (at_builtin; refine Lib.wpList_append_run _ rfl _ _ _ _ rfl _ _ rfl rfl _ _ (hrun _) ?_)
    all_goals exact ⟨rfl, r, results_one hr rfl, rfl, rfl⟩
end Go.AM
