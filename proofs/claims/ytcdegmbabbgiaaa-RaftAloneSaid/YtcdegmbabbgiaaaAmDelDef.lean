/-
  The library's slices.Delete, at any element type: its code, as the translation has it.
-/
import Derived.Test.YtcdegmbabbgiaaaAmInsDef
set_option linter.unusedSimpArgs false
namespace Go.AM
/-- slices.Delete's code: T: the slice's type, I: int, B: bool. -/
def delCode (T I B : TypeId) : Code :=
  ((Code.region 0 #[
    { dst := some 6, op := Op.assign (Operand.const (Value.slice none 0 0)), type := T, pos := "slices.go:224", after := #[], guard := none }] false).seq ((Code.region 1 #[
    { dst := some 8, op := Op.move (Operand.tmp 0), type := T, pos := "slices.go:225", after := #[], guard := none }, 
    { dst := some 9, op := Op.move (Operand.tmp 1), type := I, pos := "slices.go:225", after := #[], guard := none }, 
    { dst := some 10, op := Op.move (Operand.tmp 2), type := I, pos := "slices.go:225", after := #[], guard := none }, 
    { dst := some 11, op := Op.move (Operand.tmp 0), type := T, pos := "slices.go:225", after := #[], guard := none }, 
    { dst := some 12, op := Op.call { callee := Callee.builtin Builtin.len, args := #[Operand.tmp 11], argTypes := #[T] }, type := I, pos := "slices.go:225", after := #[{ on := 3, ground := Ground.data }], guard := none }, 
    { dst := some 13, op := Op.slice T (Operand.tmp 8) (some (Operand.tmp 9)) (some (Operand.tmp 10)) (some (Operand.tmp 12)), type := T, pos := "slices.go:225", after := #[{ on := 0, ground := Ground.data }, { on := 1, ground := Ground.data }, { on := 2, ground := Ground.data }, { on := 4, ground := Ground.data }], guard := none }] false).seq (((Code.region 2 #[
    { dst := some 14, op := Op.move (Operand.tmp 1), type := I, pos := "slices.go:227", after := #[], guard := none }, 
    { dst := some 15, op := Op.move (Operand.tmp 2), type := I, pos := "slices.go:227", after := #[], guard := none }, 
    { dst := some 16, op := Op.binOp BinOp.eql I (Operand.tmp 14) (Operand.tmp 15) I, type := B, pos := "slices.go:227", after := #[{ on := 0, ground := Ground.data }, { on := 1, ground := Ground.data }], guard := none }] false).seq (Code.cond (Operand.tmp 16) ((Code.region 3 #[
    { dst := some 17, op := Op.move (Operand.tmp 0), type := T, pos := "slices.go:228", after := #[], guard := none }, 
    { dst := some 6, op := Op.assign (Operand.tmp 17), type := T, pos := "slices.go:228", after := #[{ on := 0, ground := Ground.data }, { on := 0, ground := Ground.phase }], guard := none }] false).seq Code.ret) Code.skip)).seq ((Code.region 4 #[
    { dst := some 18, op := Op.move (Operand.tmp 0), type := T, pos := "slices.go:231", after := #[], guard := none }, 
    { dst := some 19, op := Op.call { callee := Callee.builtin Builtin.len, args := #[Operand.tmp 18], argTypes := #[T] }, type := I, pos := "slices.go:231", after := #[{ on := 0, ground := Ground.data }], guard := none }, 
    { dst := some 7, op := Op.assign (Operand.tmp 19), type := I, pos := "slices.go:231", after := #[{ on := 1, ground := Ground.data }, { on := 0, ground := Ground.phase }, { on := 1, ground := Ground.phase }], guard := none }] false).seq ((Code.region 5 #[
    { dst := some 20, op := Op.move (Operand.tmp 0), type := T, pos := "slices.go:232", after := #[], guard := none }, 
    { dst := some 21, op := Op.move (Operand.tmp 1), type := I, pos := "slices.go:232", after := #[], guard := none }, 
    { dst := some 22, op := Op.slice T (Operand.tmp 20) none (some (Operand.tmp 21)) none, type := T, pos := "slices.go:232", after := #[{ on := 0, ground := Ground.data }, { on := 1, ground := Ground.data }], guard := none }, 
    { dst := some 23, op := Op.move (Operand.tmp 0), type := T, pos := "slices.go:232", after := #[], guard := none }, 
    { dst := some 24, op := Op.move (Operand.tmp 2), type := I, pos := "slices.go:232", after := #[], guard := none }, 
    { dst := some 25, op := Op.slice T (Operand.tmp 23) (some (Operand.tmp 24)) none none, type := T, pos := "slices.go:232", after := #[{ on := 3, ground := Ground.data }, { on := 4, ground := Ground.data }], guard := none }, 
    { dst := some 26, op := Op.call { callee := Callee.builtin Builtin.append, args := #[Operand.tmp 22, Operand.tmp 25], argTypes := #[T, T] }, type := T, pos := "slices.go:232", after := #[{ on := 2, ground := Ground.data }, { on := 5, ground := Ground.data }], guard := none }, 
    { dst := some 0, op := Op.assign (Operand.tmp 26), type := T, pos := "slices.go:232", after := #[{ on := 6, ground := Ground.data }, { on := 6, ground := Ground.chain }, { on := 0, ground := Ground.phase }, { on := 1, ground := Ground.phase }, { on := 2, ground := Ground.phase }, { on := 3, ground := Ground.phase }, { on := 4, ground := Ground.phase }, { on := 5, ground := Ground.phase }, { on := 6, ground := Ground.phase }], guard := none }] true).seq ((Code.region 6 #[
    { dst := some 27, op := Op.move (Operand.tmp 0), type := T, pos := "slices.go:233", after := #[], guard := none }, 
    { dst := some 28, op := Op.move (Operand.tmp 0), type := T, pos := "slices.go:233", after := #[], guard := none }, 
    { dst := some 29, op := Op.call { callee := Callee.builtin Builtin.len, args := #[Operand.tmp 28], argTypes := #[T] }, type := I, pos := "slices.go:233", after := #[{ on := 1, ground := Ground.data }], guard := none }, 
    { dst := some 30, op := Op.move (Operand.tmp 7), type := I, pos := "slices.go:233", after := #[], guard := none }, 
    { dst := some 31, op := Op.slice T (Operand.tmp 27) (some (Operand.tmp 29)) (some (Operand.tmp 30)) none, type := T, pos := "slices.go:233", after := #[{ on := 0, ground := Ground.data }, { on := 2, ground := Ground.data }, { on := 3, ground := Ground.data }], guard := none }, 
    { dst := none, op := Op.call { callee := Callee.builtin Builtin.clear, args := #[Operand.tmp 31], argTypes := #[T] }, type := 0, pos := "slices.go:233", after := #[{ on := 4, ground := Ground.data }], guard := none }] false).seq ((Code.region 7 #[
    { dst := some 32, op := Op.move (Operand.tmp 0), type := T, pos := "slices.go:234", after := #[], guard := none }, 
    { dst := some 6, op := Op.assign (Operand.tmp 32), type := T, pos := "slices.go:234", after := #[{ on := 0, ground := Ground.data }, { on := 0, ground := Ground.phase }], guard := none }] false).seq Code.ret)))))))
end Go.AM
