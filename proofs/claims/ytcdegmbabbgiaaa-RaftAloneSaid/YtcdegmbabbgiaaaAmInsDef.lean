/-
  The library's slices.Insert, at any element type: its code, as the translation has it.
-/
import Derived.Test.YtcdegmbabbgiaaaAmStep
set_option linter.unusedSimpArgs false
namespace Go.AM
/-- slices.Insert's code: T: the slice's type, I: int, B: bool; ov, rr: the functions that it calls. -/
def insCode (T I B : TypeId) (ov rr : FuncId) : Code :=
  ((Code.region 0 #[
    { dst := some 6, op := Op.assign (Operand.const (Value.slice none 0 0)), type := T, pos := "slices.go:136", after := #[], guard := none }] false).seq ((Code.region 1 #[
    { dst := some 10, op := Op.move (Operand.tmp 0), type := T, pos := "slices.go:137", after := #[], guard := none }, 
    { dst := some 11, op := Op.move (Operand.tmp 1), type := I, pos := "slices.go:137", after := #[], guard := none }, 
    { dst := some 12, op := Op.slice T (Operand.tmp 10) (some (Operand.tmp 11)) none none, type := T, pos := "slices.go:137", after := #[{ on := 0, ground := Ground.data }, { on := 1, ground := Ground.data }], guard := none }] false).seq ((Code.region 2 #[
    { dst := some 13, op := Op.move (Operand.tmp 2), type := T, pos := "slices.go:139", after := #[], guard := none }, 
    { dst := some 14, op := Op.call { callee := Callee.builtin Builtin.len, args := #[Operand.tmp 13], argTypes := #[T] }, type := I, pos := "slices.go:139", after := #[{ on := 0, ground := Ground.data }], guard := none }, 
    { dst := some 7, op := Op.assign (Operand.tmp 14), type := I, pos := "slices.go:139", after := #[{ on := 1, ground := Ground.data }, { on := 0, ground := Ground.phase }, { on := 1, ground := Ground.phase }], guard := none }] false).seq (((Code.region 3 #[
    { dst := some 15, op := Op.move (Operand.tmp 7), type := I, pos := "slices.go:140", after := #[], guard := none }, 
    { dst := some 16, op := Op.binOp BinOp.eql I (Operand.tmp 15) (Operand.const (Value.int IntKind.i64 0)) I, type := B, pos := "slices.go:140", after := #[{ on := 0, ground := Ground.data }], guard := none }] false).seq (Code.cond (Operand.tmp 16) ((Code.region 4 #[
    { dst := some 17, op := Op.move (Operand.tmp 0), type := T, pos := "slices.go:141", after := #[], guard := none }, 
    { dst := some 6, op := Op.assign (Operand.tmp 17), type := T, pos := "slices.go:141", after := #[{ on := 0, ground := Ground.data }, { on := 0, ground := Ground.phase }], guard := none }] false).seq Code.ret) Code.skip)).seq ((Code.region 5 #[
    { dst := some 18, op := Op.move (Operand.tmp 0), type := T, pos := "slices.go:143", after := #[], guard := none }, 
    { dst := some 19, op := Op.call { callee := Callee.builtin Builtin.len, args := #[Operand.tmp 18], argTypes := #[T] }, type := I, pos := "slices.go:143", after := #[{ on := 0, ground := Ground.data }], guard := none }, 
    { dst := some 8, op := Op.assign (Operand.tmp 19), type := I, pos := "slices.go:143", after := #[{ on := 1, ground := Ground.data }, { on := 0, ground := Ground.phase }, { on := 1, ground := Ground.phase }], guard := none }] false).seq (((Code.region 6 #[
    { dst := some 20, op := Op.move (Operand.tmp 1), type := I, pos := "slices.go:144", after := #[], guard := none }, 
    { dst := some 21, op := Op.move (Operand.tmp 8), type := I, pos := "slices.go:144", after := #[], guard := none }, 
    { dst := some 22, op := Op.binOp BinOp.eql I (Operand.tmp 20) (Operand.tmp 21) I, type := B, pos := "slices.go:144", after := #[{ on := 0, ground := Ground.data }, { on := 1, ground := Ground.data }], guard := none }] false).seq (Code.cond (Operand.tmp 22) ((Code.region 7 #[
    { dst := some 23, op := Op.move (Operand.tmp 0), type := T, pos := "slices.go:145", after := #[], guard := none }, 
    { dst := some 24, op := Op.move (Operand.tmp 2), type := T, pos := "slices.go:145", after := #[], guard := none }, 
    { dst := some 25, op := Op.call { callee := Callee.builtin Builtin.append, args := #[Operand.tmp 23, Operand.tmp 24], argTypes := #[T, T] }, type := T, pos := "slices.go:145", after := #[{ on := 0, ground := Ground.data }, { on := 1, ground := Ground.data }], guard := none }, 
    { dst := some 6, op := Op.assign (Operand.tmp 25), type := T, pos := "slices.go:145", after := #[{ on := 2, ground := Ground.data }, { on := 2, ground := Ground.chain }, { on := 0, ground := Ground.phase }, { on := 1, ground := Ground.phase }, { on := 2, ground := Ground.phase }], guard := none }] false).seq Code.ret) Code.skip)).seq (((Code.region 8 #[
    { dst := some 26, op := Op.move (Operand.tmp 8), type := I, pos := "slices.go:147", after := #[], guard := none }, 
    { dst := some 27, op := Op.move (Operand.tmp 7), type := I, pos := "slices.go:147", after := #[], guard := none }, 
    { dst := some 28, op := Op.binOp BinOp.add I (Operand.tmp 26) (Operand.tmp 27) I, type := I, pos := "slices.go:147", after := #[{ on := 0, ground := Ground.data }, { on := 1, ground := Ground.data }], guard := none }, 
    { dst := some 29, op := Op.move (Operand.tmp 0), type := T, pos := "slices.go:147", after := #[], guard := none }, 
    { dst := some 30, op := Op.call { callee := Callee.builtin Builtin.cap, args := #[Operand.tmp 29], argTypes := #[T] }, type := I, pos := "slices.go:147", after := #[{ on := 3, ground := Ground.data }], guard := none }, 
    { dst := some 31, op := Op.binOp BinOp.gtr I (Operand.tmp 28) (Operand.tmp 30) I, type := B, pos := "slices.go:147", after := #[{ on := 2, ground := Ground.data }, { on := 4, ground := Ground.data }], guard := none }] false).seq (Code.cond (Operand.tmp 31) ((Code.region 9 #[
    { dst := some 32, op := Op.move (Operand.tmp 0), type := T, pos := "slices.go:152", after := #[], guard := none }, 
    { dst := some 33, op := Op.move (Operand.tmp 1), type := I, pos := "slices.go:152", after := #[], guard := none }, 
    { dst := some 34, op := Op.slice T (Operand.tmp 32) none (some (Operand.tmp 33)) none, type := T, pos := "slices.go:152", after := #[{ on := 0, ground := Ground.data }, { on := 1, ground := Ground.data }], guard := none }, 
    { dst := some 35, op := Op.move (Operand.tmp 8), type := I, pos := "slices.go:152", after := #[], guard := none }, 
    { dst := some 36, op := Op.move (Operand.tmp 7), type := I, pos := "slices.go:152", after := #[], guard := none }, 
    { dst := some 37, op := Op.binOp BinOp.add I (Operand.tmp 35) (Operand.tmp 36) I, type := I, pos := "slices.go:152", after := #[{ on := 3, ground := Ground.data }, { on := 4, ground := Ground.data }], guard := none }, 
    { dst := some 38, op := Op.move (Operand.tmp 1), type := I, pos := "slices.go:152", after := #[], guard := none }, 
    { dst := some 39, op := Op.binOp BinOp.sub I (Operand.tmp 37) (Operand.tmp 38) I, type := I, pos := "slices.go:152", after := #[{ on := 5, ground := Ground.data }, { on := 6, ground := Ground.data }], guard := none }, 
    { dst := some 40, op := Op.call { callee := Callee.builtin Builtin.append, args := #[Operand.tmp 34, Operand.tmp 39], argTypes := #[T, I] }, type := T, pos := "slices.go:152", after := #[{ on := 2, ground := Ground.data }, { on := 7, ground := Ground.data }], guard := none }, 
    { dst := some 9, op := Op.assign (Operand.tmp 40), type := T, pos := "slices.go:152", after := #[{ on := 8, ground := Ground.data }, { on := 8, ground := Ground.chain }, { on := 0, ground := Ground.phase }, { on := 1, ground := Ground.phase }, { on := 2, ground := Ground.phase }, { on := 3, ground := Ground.phase }, { on := 4, ground := Ground.phase }, { on := 5, ground := Ground.phase }, { on := 6, ground := Ground.phase }, { on := 7, ground := Ground.phase }, { on := 8, ground := Ground.phase }], guard := none }] false).seq ((Code.region 10 #[
    { dst := some 41, op := Op.move (Operand.tmp 9), type := T, pos := "slices.go:153", after := #[], guard := none }, 
    { dst := some 42, op := Op.move (Operand.tmp 1), type := I, pos := "slices.go:153", after := #[], guard := none }, 
    { dst := some 43, op := Op.slice T (Operand.tmp 41) (some (Operand.tmp 42)) none none, type := T, pos := "slices.go:153", after := #[{ on := 0, ground := Ground.data }, { on := 1, ground := Ground.data }], guard := none }, 
    { dst := some 44, op := Op.move (Operand.tmp 2), type := T, pos := "slices.go:153", after := #[], guard := none }, 
    { dst := some 45, op := Op.call { callee := Callee.builtin Builtin.copy, args := #[Operand.tmp 43, Operand.tmp 44], argTypes := #[T, T] }, type := I, pos := "slices.go:153", after := #[{ on := 2, ground := Ground.data }, { on := 3, ground := Ground.data }], guard := none }] false).seq ((Code.region 11 #[
    { dst := some 46, op := Op.move (Operand.tmp 9), type := T, pos := "slices.go:154", after := #[], guard := none }, 
    { dst := some 47, op := Op.move (Operand.tmp 1), type := I, pos := "slices.go:154", after := #[], guard := none }, 
    { dst := some 48, op := Op.move (Operand.tmp 7), type := I, pos := "slices.go:154", after := #[], guard := none }, 
    { dst := some 49, op := Op.binOp BinOp.add I (Operand.tmp 47) (Operand.tmp 48) I, type := I, pos := "slices.go:154", after := #[{ on := 1, ground := Ground.data }, { on := 2, ground := Ground.data }], guard := none }, 
    { dst := some 50, op := Op.slice T (Operand.tmp 46) (some (Operand.tmp 49)) none none, type := T, pos := "slices.go:154", after := #[{ on := 0, ground := Ground.data }, { on := 3, ground := Ground.data }], guard := none }, 
    { dst := some 51, op := Op.move (Operand.tmp 0), type := T, pos := "slices.go:154", after := #[], guard := none }, 
    { dst := some 52, op := Op.move (Operand.tmp 1), type := I, pos := "slices.go:154", after := #[], guard := none }, 
    { dst := some 53, op := Op.slice T (Operand.tmp 51) (some (Operand.tmp 52)) none none, type := T, pos := "slices.go:154", after := #[{ on := 5, ground := Ground.data }, { on := 6, ground := Ground.data }], guard := none }, 
    { dst := some 54, op := Op.call { callee := Callee.builtin Builtin.copy, args := #[Operand.tmp 50, Operand.tmp 53], argTypes := #[T, T] }, type := I, pos := "slices.go:154", after := #[{ on := 4, ground := Ground.data }, { on := 7, ground := Ground.data }], guard := none }] true).seq ((Code.region 12 #[
    { dst := some 55, op := Op.move (Operand.tmp 9), type := T, pos := "slices.go:155", after := #[], guard := none }, 
    { dst := some 6, op := Op.assign (Operand.tmp 55), type := T, pos := "slices.go:155", after := #[{ on := 0, ground := Ground.data }, { on := 0, ground := Ground.phase }], guard := none }] false).seq Code.ret)))) Code.skip)).seq ((Code.region 13 #[
    { dst := some 56, op := Op.move (Operand.tmp 0), type := T, pos := "slices.go:157", after := #[], guard := none }, 
    { dst := some 57, op := Op.move (Operand.tmp 8), type := I, pos := "slices.go:157", after := #[], guard := none }, 
    { dst := some 58, op := Op.move (Operand.tmp 7), type := I, pos := "slices.go:157", after := #[], guard := none }, 
    { dst := some 59, op := Op.binOp BinOp.add I (Operand.tmp 57) (Operand.tmp 58) I, type := I, pos := "slices.go:157", after := #[{ on := 1, ground := Ground.data }, { on := 2, ground := Ground.data }], guard := none }, 
    { dst := some 60, op := Op.slice T (Operand.tmp 56) none (some (Operand.tmp 59)) none, type := T, pos := "slices.go:157", after := #[{ on := 0, ground := Ground.data }, { on := 3, ground := Ground.data }], guard := none }, 
    { dst := some 0, op := Op.assign (Operand.tmp 60), type := T, pos := "slices.go:157", after := #[{ on := 4, ground := Ground.data }, { on := 0, ground := Ground.phase }, { on := 1, ground := Ground.phase }, { on := 2, ground := Ground.phase }, { on := 3, ground := Ground.phase }, { on := 4, ground := Ground.phase }], guard := none }] false).seq (((Code.region 14 #[
    { dst := some 61, op := Op.move (Operand.tmp 2), type := T, pos := "slices.go:173", after := #[], guard := none }, 
    { dst := some 62, op := Op.move (Operand.tmp 0), type := T, pos := "slices.go:173", after := #[], guard := none }, 
    { dst := some 63, op := Op.move (Operand.tmp 1), type := I, pos := "slices.go:173", after := #[], guard := none }, 
    { dst := some 64, op := Op.move (Operand.tmp 7), type := I, pos := "slices.go:173", after := #[], guard := none }, 
    { dst := some 65, op := Op.binOp BinOp.add I (Operand.tmp 63) (Operand.tmp 64) I, type := I, pos := "slices.go:173", after := #[{ on := 2, ground := Ground.data }, { on := 3, ground := Ground.data }], guard := none }, 
    { dst := some 66, op := Op.slice T (Operand.tmp 62) (some (Operand.tmp 65)) none none, type := T, pos := "slices.go:173", after := #[{ on := 1, ground := Ground.data }, { on := 4, ground := Ground.data }], guard := none }, 
    { dst := some 67, op := Op.call { callee := Callee.value (Operand.func ov), args := #[Operand.tmp 61, Operand.tmp 66], argTypes := #[T, T] }, type := B, pos := "slices.go:173", after := #[{ on := 0, ground := Ground.data }, { on := 5, ground := Ground.data }], guard := none }, 
    { dst := some 68, op := Op.unOp UnOp.not B (Operand.tmp 67), type := B, pos := "slices.go:173", after := #[{ on := 6, ground := Ground.data }], guard := none }] false).seq (Code.cond (Operand.tmp 68) ((Code.region 15 #[
    { dst := some 69, op := Op.move (Operand.tmp 0), type := T, pos := "slices.go:178", after := #[], guard := none }, 
    { dst := some 70, op := Op.move (Operand.tmp 1), type := I, pos := "slices.go:178", after := #[], guard := none }, 
    { dst := some 71, op := Op.move (Operand.tmp 7), type := I, pos := "slices.go:178", after := #[], guard := none }, 
    { dst := some 72, op := Op.binOp BinOp.add I (Operand.tmp 70) (Operand.tmp 71) I, type := I, pos := "slices.go:178", after := #[{ on := 1, ground := Ground.data }, { on := 2, ground := Ground.data }], guard := none }, 
    { dst := some 73, op := Op.slice T (Operand.tmp 69) (some (Operand.tmp 72)) none none, type := T, pos := "slices.go:178", after := #[{ on := 0, ground := Ground.data }, { on := 3, ground := Ground.data }], guard := none }, 
    { dst := some 74, op := Op.move (Operand.tmp 0), type := T, pos := "slices.go:178", after := #[], guard := none }, 
    { dst := some 75, op := Op.move (Operand.tmp 1), type := I, pos := "slices.go:178", after := #[], guard := none }, 
    { dst := some 76, op := Op.slice T (Operand.tmp 74) (some (Operand.tmp 75)) none none, type := T, pos := "slices.go:178", after := #[{ on := 5, ground := Ground.data }, { on := 6, ground := Ground.data }], guard := none }, 
    { dst := some 77, op := Op.call { callee := Callee.builtin Builtin.copy, args := #[Operand.tmp 73, Operand.tmp 76], argTypes := #[T, T] }, type := I, pos := "slices.go:178", after := #[{ on := 4, ground := Ground.data }, { on := 7, ground := Ground.data }], guard := none }] true).seq ((Code.region 16 #[
    { dst := some 78, op := Op.move (Operand.tmp 0), type := T, pos := "slices.go:186", after := #[], guard := none }, 
    { dst := some 79, op := Op.move (Operand.tmp 1), type := I, pos := "slices.go:186", after := #[], guard := none }, 
    { dst := some 80, op := Op.slice T (Operand.tmp 78) (some (Operand.tmp 79)) none none, type := T, pos := "slices.go:186", after := #[{ on := 0, ground := Ground.data }, { on := 1, ground := Ground.data }], guard := none }, 
    { dst := some 81, op := Op.move (Operand.tmp 2), type := T, pos := "slices.go:186", after := #[], guard := none }, 
    { dst := some 82, op := Op.call { callee := Callee.builtin Builtin.copy, args := #[Operand.tmp 80, Operand.tmp 81], argTypes := #[T, T] }, type := I, pos := "slices.go:186", after := #[{ on := 2, ground := Ground.data }, { on := 3, ground := Ground.data }], guard := none }] false).seq ((Code.region 17 #[
    { dst := some 83, op := Op.move (Operand.tmp 0), type := T, pos := "slices.go:193", after := #[], guard := none }, 
    { dst := some 6, op := Op.assign (Operand.tmp 83), type := T, pos := "slices.go:193", after := #[{ on := 0, ground := Ground.data }, { on := 0, ground := Ground.phase }], guard := none }] false).seq Code.ret))) Code.skip)).seq ((Code.region 18 #[
    { dst := some 84, op := Op.move (Operand.tmp 0), type := T, pos := "slices.go:200", after := #[], guard := none }, 
    { dst := some 85, op := Op.move (Operand.tmp 8), type := I, pos := "slices.go:200", after := #[], guard := none }, 
    { dst := some 86, op := Op.slice T (Operand.tmp 84) (some (Operand.tmp 85)) none none, type := T, pos := "slices.go:200", after := #[{ on := 0, ground := Ground.data }, { on := 1, ground := Ground.data }], guard := none }, 
    { dst := some 87, op := Op.move (Operand.tmp 2), type := T, pos := "slices.go:200", after := #[], guard := none }, 
    { dst := some 88, op := Op.call { callee := Callee.builtin Builtin.copy, args := #[Operand.tmp 86, Operand.tmp 87], argTypes := #[T, T] }, type := I, pos := "slices.go:200", after := #[{ on := 2, ground := Ground.data }, { on := 3, ground := Ground.data }], guard := none }] false).seq ((Code.region 19 #[
    { dst := some 89, op := Op.move (Operand.tmp 0), type := T, pos := "slices.go:207", after := #[], guard := none }, 
    { dst := some 90, op := Op.move (Operand.tmp 1), type := I, pos := "slices.go:207", after := #[], guard := none }, 
    { dst := some 91, op := Op.slice T (Operand.tmp 89) (some (Operand.tmp 90)) none none, type := T, pos := "slices.go:207", after := #[{ on := 0, ground := Ground.data }, { on := 1, ground := Ground.data }], guard := none }, 
    { dst := some 92, op := Op.move (Operand.tmp 7), type := I, pos := "slices.go:207", after := #[], guard := none }, 
    { dst := some 93, op := Op.call { callee := Callee.value (Operand.func rr), args := #[Operand.tmp 91, Operand.tmp 92], argTypes := #[T, I] }, type := 0, pos := "slices.go:207", after := #[{ on := 2, ground := Ground.data }, { on := 3, ground := Ground.data }], guard := none }] false).seq ((Code.region 20 #[
    { dst := some 94, op := Op.move (Operand.tmp 0), type := T, pos := "slices.go:214", after := #[], guard := none }, 
    { dst := some 6, op := Op.assign (Operand.tmp 94), type := T, pos := "slices.go:214", after := #[{ on := 0, ground := Ground.data }, { on := 0, ground := Ground.phase }], guard := none }] false).seq Code.ret))))))))))))
def resSem (tmps : Array Value) : ResultVar → Sem Value
  | .tmp t => pure (tmps.getD t undef)
  | .cell a t => do loadVar t (← asAddr (tmps.getD a undef))
def resOut (ws : List Value) : Value := if h : ws.toArray.size = 1 then ws.toArray[0] else .tuple ws.toArray
theorem results_sound {P : Program} {fn : Func} {tmps : Array Value} {W : World} {ws : List Value} (h : (fn.results.toList.mapM (resSem tmps)).run P W = Result.ok ws W) :
    (results fn tmps).run P W = .ok (resOut ws) W := by
  have : results fn tmps = fn.results.mapM (resSem tmps) >>= fun vs => pure (if h : vs.size = 1 then vs[0] else .tuple vs) := by
    unfold results
    rfl
  rw [this, Array.mapM_eq_mapM_toList, Sem.run_bind]
  have h2 : (List.toArray <$> fn.results.toList.mapM (resSem tmps)).run P W = Result.ok ws.toArray W := by
    rw [map_eq_pure_bind, Sem.run_bind, h]; rfl
  rw [h2]; rfl
theorem results_one {P : Program} {fn : Func} {t : Tmp} (hr : fn.results = #[.tmp t]) {tmps : Array Value} {W : World} {v : Value} (h : tmps.getD t undef = v) : (results fn tmps).run P W = .ok v W := by
  have := results_sound (P := P) (fn := fn) (tmps := tmps) (W := W) (ws := [v]) (by rw [hr]; simp [List.mapM_cons, resSem, h])
  exact this
end Go.AM
