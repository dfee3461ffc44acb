/-
  slices.Delete: the walk through its text, at any element type.
-/
import Derived.Test.YtcdegmbabbgiaaaAmDelDef
import Derived.Test.YtcdegmbabbgiaaaAmInsert
set_option linter.unusedVariables false
set_option linter.unusedSimpArgs false
namespace Go.AM
open Go.RowKit Go.Lib Go.Proofs Go.Shelf
variable {P : Program}

/-- What is asked of the program around it. -/
structure DelAt (P : Program) (f : FuncId) (T e I B : TypeId) (fn : Func) : Prop where
  mixed : P.follows .mixedOrders = true
  hf : P.funcs[f]? = some fn
  hb : fn.body = some (delCode T I B)
  hn : fn.ntmps = 33
  hr : fn.results = #[.tmp 6]
  tT : P.underlying T = some (.slice e)
  tI : P.underlying I = some (.int .i64)
  tB : P.underlying B = some .bool
  zE : ∀ w, (Go.sizeOf e).run P w = .ok (sz P e) w
  zT : ∀ w, (Go.sizeOf T).run P w = .ok 1 w
  zI : ∀ w, (Go.sizeOf I).run P w = .ok 1 w
  zB : ∀ w, (Go.sizeOf B).run P w = .ok 1 w

theorem step_append_runI {ops : Array Oper} {o : Oper} {a : Act} {w : World} {K : Act → World → Prop} {Q : Exit → Act → World → Prop} {E : Prop}
    (hg : o.guard = none) (d x : Operand) (dT sT : TypeId) (hop : o.op = Op.call { callee := Callee.builtin Builtin.append, args := #[d, x], argTypes := #[dT, sT] })
    (v u : Value) (hd : a.eval d = v) (hx : a.eval x = u) {v' : Value} {w' : World} (hr : (Builtin.append_ #[dT, sT] o.type #[v, u]).run P w = .ok v' w') (hK : K (a.put o.dst v') w') :
    if Region.wanted o (yielded ops a.tmps) = true then Oper.wp P o a w K Q else E := by
  have hw : Region.wanted o (yielded ops a.tmps) = true := by simp [Region.wanted, hg]
  rw [if_pos hw]
  unfold Oper.wp
  simp [execOp, hop, resolve, invoke, builtin, hd, hx, hr, Result.andThen]
  exact hK
theorem wp_clear_runI (w : World) {o : Oper} {a : Act} {Q : Exit → Act → World → Prop} {K : Act → World → Prop} (x : Operand) (t : TypeId) (ho : o.op = .call { callee := .builtin .clear, args := #[x], argTypes := #[t] }) (u : Value) (hx : a.eval x = u)
    {v' : Value} {w' : World} (hr : (Builtin.clear_ #[t] o.type #[u]).run P w = .ok v' w') (hK : K (a.put o.dst v') w') : Oper.wp P o a w K Q := by
  unfold Oper.wp
  simp [execOp, ho, resolve, invoke, builtin, hx, hr, Result.andThen]
  exact hK
theorem wpList_clear_runI (w : World) {ops : Array Oper} {rest : List Oper} {o : Oper} {a : Act} {Q : Exit → Act → World → Prop} (hgd : o.guard = none) (x : Operand) (t : TypeId)
    (ho : o.op = .call { callee := .builtin .clear, args := #[x], argTypes := #[t] }) (u : Value) (hx : a.eval x = u) {v' : Value} {w' : World}
    (hr : (Builtin.clear_ #[t] o.type #[u]).run P w = .ok v' w') (h : wpList P ops Q rest (a.put o.dst v') w') : wpList P ops Q (o :: rest) a w :=
  wpList_plain hgd fun _ hK => wp_clear_runI w x t ho u hx hr (hK _ _ h)

set_option maxHeartbeats 4000000 in
set_option maxRecDepth 100000 in
/-- Nothing is taken out. -/
theorem del_none {f : FuncId} {T e I B : TypeId} {fn : Func} (L : DelAt P f T e I B fn) (b off n c i : Nat) (w : World) (hin : i ≤ n) (hnc : n ≤ c) (sz : Nat) (hsz : ∀ w, (Go.sizeOf e).run P w = .ok sz w) (p : Addr) (hp : p.spot = none) :
    Calls P f #[.slice (some p) n c, .int .i64 i, .int .i64 i] w fun e w' => e = .returned (.slice (some p) n c) ∧ w' = w := by
  obtain ⟨pb, po, ps⟩ := p
  simp only at hp
  subst hp
  have tT := L.tT; have tI := L.tI; have tB := L.tB
  have uT := run_underlying L.tT; have uI := run_underlying L.tI; have uB := run_underlying L.tB
  have zT := L.zT; have zI := L.zI; have zB := L.zB
  have mixed := L.mixed
  have hic : i ≤ c := by omega
  refine calls_of_wp L.hf L.hb ?_
  have hr := L.hr
  simp only [L.hn, List.size_toArray, List.length_cons, List.length_nil, Nat.reduceAdd, Nat.reduceSub, Array.replicate_succ,
     Array.replicate_zero, List.push_toArray, List.append_toArray, List.nil_append, List.cons_append]
  unfold delCode
  go_wp2
  all_goals first | exact ⟨rfl, .slice (some ⟨pb, po, none⟩) n c, results_one hr rfl, rfl, rfl⟩ | exact ⟨rfl, .slice (some ⟨pb, po, none⟩) i c, results_one hr rfl, rfl, rfl⟩

set_option maxHeartbeats 4000000 in
set_option maxRecDepth 100000 in
/-- Some are taken out. -/
theorem del_some {f : FuncId} {T e I B : TypeId} {fn : Func} (L : DelAt P f T e I B fn) (b off sz n c i j : Nat) (w W1 W2 : World) (hij : i < j) (hjn : j ≤ n) (hnc : n ≤ c) (hsz : ∀ w, (Go.sizeOf e).run P w = .ok sz w) (A : Addr)
    (hA : (if c = j then some (⟨b, off, none⟩ : Addr) else some ⟨b, off + j * sz, none⟩) = some A) (hc63 : n ≤ 9223372036854775807)
    (hfit : i + (n - j) ≤ c) (cells : Array Value) (hld : (loadCellsFrom A 0 ((n - j) * sz) #[]).run P w.drew = .ok cells w.drew) (hst : (storeCells ⟨b, off + i * sz, none⟩ cells.toList).run P w.drew = .ok () W1)
    (hcl : ∀ ty cx, (Builtin.clear_ #[T] ty #[.slice (some ⟨b, off + (i + (n - j)) * sz, none⟩) (n - (i + (n - j))) cx]).run P W1 = .ok (.tuple #[]) W2) :
    Calls P f #[.slice (some ⟨b, off, none⟩) n c, .int .i64 i, .int .i64 j] w fun e w' => e = .returned (.slice (some ⟨b, off, none⟩) (i + (n - j)) c) ∧ w' = W2 := by
  have tT := L.tT; have tI := L.tI; have tB := L.tB
  have uT := run_underlying L.tT; have uI := run_underlying L.tI; have uB := run_underlying L.tB
  have zT := L.zT; have zI := L.zI; have zB := L.zB
  have mixed := L.mixed
  have hne : ¬ ((i : Int) = (j : Int)) := by omega
  have hic : i ≤ c := by omega
  have hjc : j ≤ c := by omega
  have hcn : ¬ (c = i + (n - j)) := by omega
  refine calls_of_wp L.hf L.hb ?_
  have hr := L.hr
  simp only [L.hn, List.size_toArray, List.length_cons, List.length_nil, Nat.reduceAdd, Nat.reduceSub, Array.replicate_succ,
     Array.replicate_zero, List.push_toArray, List.append_toArray, List.nil_append, List.cons_append]
  unfold delCode
  go_wp2_with fail
  go_region_law_o fail
  go_wp2_with (at_builtin; refine wpList_clear_runI _ rfl _ _ rfl _ rfl (hcl _ _) ?_)
  refine ⟨rfl, .slice (some ⟨b, off, none⟩) (i + (n - j)) c, results_one hr rfl, rfl, rfl⟩
end Go.AM
