/-
  slices.Insert: what is asked of the program, from facts that are reckoned.
-/
import Derived.Test.YtcdegmbabbgiaaaAmCall
set_option linter.unusedSimpArgs false
namespace Go.AM
open Go.RowKit Go.Lib Go.Proofs Go.Shelf

theorem sizeOf_run {P : Program} {t : TypeId} (h : (P.info? t).isSome = true) (w : World) : (Go.sizeOf t).run P w = .ok (sz P t) w := by
  obtain ⟨i, hi⟩ := Option.isSome_iff_exists.1 h
  simp [sizeOf, typeInfo, hi, sz_of_info hi]
theorem sizeOf_one {P : Program} {t : TypeId} (h : (P.info? t).map (·.size) = some 1) (w : World) : (Go.sizeOf t).run P w = .ok 1 w := by
  cases hi : P.info? t with
  | none => rw [hi] at h; cases h
  | some i => rw [hi] at h; simp [sizeOf, typeInfo, hi] at h ⊢; exact h
theorem insAt_of {P : Program} {f : FuncId} {T e I B : TypeId} {ov rr : FuncId} {fn fo : Func} (mixed : P.follows .mixedOrders = true) (hf : P.funcs[f]? = some fn) (hb : fn.body = some (insCode T I B ov rr)) (hn : fn.ntmps = 95) (hr : fn.results = #[.tmp 6])
    (tT : P.underlying T = some (.slice e)) (tI : P.underlying I = some (.int .i64)) (tB : P.underlying B = some .bool)
    (ho : P.funcs[ov]? = some fo) (o1 : (fo.name == "runtime.NumGoroutine") = false) (o2 : fo.body.isNone = true) (o3 : Extern.findNext fo = none) (o4 : Extern.find fo = some (Extern.SlicesOverlaps.overlaps #[T, T] #[B]))
    (zE : (P.info? e).isSome = true) (zT : (P.info? T).map (·.size) = some 1) (zI : (P.info? I).map (·.size) = some 1) (zB : (P.info? B).map (·.size) = some 1) : InsAt P f T e I B ov rr fn :=
  ⟨mixed, hf, hb, hn, hr, tT, tI, tB, run_callFunc_extern ho o1 o2 o3 o4, sizeOf_run zE, sizeOf_one zT, sizeOf_one zI, sizeOf_one zB⟩
theorem delAt_of {P : Program} {f : FuncId} {T e I B : TypeId} {fn : Func} (mixed : P.follows .mixedOrders = true) (hf : P.funcs[f]? = some fn) (hb : fn.body = some (delCode T I B)) (hn : fn.ntmps = 33) (hr : fn.results = #[.tmp 6])
    (tT : P.underlying T = some (.slice e)) (tI : P.underlying I = some (.int .i64)) (tB : P.underlying B = some .bool)
    (zE : (P.info? e).isSome = true) (zT : (P.info? T).map (·.size) = some 1) (zI : (P.info? I).map (·.size) = some 1) (zB : (P.info? B).map (·.size) = some 1) : DelAt P f T e I B fn :=
  ⟨mixed, hf, hb, hn, hr, tT, tI, tB, sizeOf_run zE, sizeOf_one zT, sizeOf_one zI, sizeOf_one zB⟩
end Go.AM
