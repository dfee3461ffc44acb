/-
  RaftAlone: the pieces of its run, put together, for each residue of id and of the draw.
-/
import Derived.Test.YtcdegmbabbgiaaaAlone0
import Derived.Test.YtcdegmbabbgiaaaAlone1
import Derived.Test.YtcdegmbabbgiaaaAlone2
import Derived.Test.YtcdegmbabbgiaaaAlone3
import Derived.Test.YtcdegmbabbgiaaaAlone4
import Derived.Test.YtcdegmbabbgiaaaAlone5
import Derived.Test.YtcdegmbabbgiaaaAlone6
namespace Go.Proofs.Ytcdegmbabbgiaaa
open Go.RowKit Go.AM

set_option maxRecDepth 100000
theorem aG0_75 (F : Nat → Option Obj) (W0 : World) : LG Try.prog Try.f3 F W0 aloneB aloneR 2 11 4294967296 99 (EndQ Try.prog Try.f3 F W0) 75 (mkEnv cE0_75) ⟨2, mkHeap cH0_75⟩ :=
  lg_chain_last (m := 24) (i := 75) (hi := 99) alonePl_ok alone_slots alone_okB alone_okR (Nat.le_of_ble_eq_true (by kernel_rfl)) (Nat.le_of_ble_eq_true (by kernel_rfl)) (Nat.le_of_ble_eq_true (by kernel_rfl)) rfl (by kernel_rfl) aL0_75
theorem aG0_50 (F : Nat → Option Obj) (W0 : World) : LG Try.prog Try.f3 F W0 aloneB aloneR 2 11 4294967296 99 (EndQ Try.prog Try.f3 F W0) 50 (mkEnv cE0_50) ⟨2, mkHeap cH0_50⟩ :=
  lg_chain (m := 25) (i := 50) (hi := 99) alonePl_ok alone_slots alone_okB alone_okR (Nat.le_of_ble_eq_true (by kernel_rfl)) (Nat.le_of_ble_eq_true (by kernel_rfl)) (Nat.le_of_ble_eq_true (by kernel_rfl)) (j := 75) rfl (Nat.le_of_ble_eq_true (by kernel_rfl)) (by kernel_rfl) (by kernel_rfl) (by kernel_rfl) (by kernel_rfl) aL0_50 (aG0_75 F W0)
theorem aG0_25 (F : Nat → Option Obj) (W0 : World) : LG Try.prog Try.f3 F W0 aloneB aloneR 2 11 4294967296 99 (EndQ Try.prog Try.f3 F W0) 25 (mkEnv cE0_25) ⟨2, mkHeap cH0_25⟩ :=
  lg_chain (m := 25) (i := 25) (hi := 99) alonePl_ok alone_slots alone_okB alone_okR (Nat.le_of_ble_eq_true (by kernel_rfl)) (Nat.le_of_ble_eq_true (by kernel_rfl)) (Nat.le_of_ble_eq_true (by kernel_rfl)) (j := 50) rfl (Nat.le_of_ble_eq_true (by kernel_rfl)) (by kernel_rfl) (by kernel_rfl) (by kernel_rfl) (by kernel_rfl) aL0_25 (aG0_50 F W0)
theorem aG0_0 (F : Nat → Option Obj) (W0 : World) : LG Try.prog Try.f3 F W0 aloneB aloneR 2 11 4294967296 99 (EndQ Try.prog Try.f3 F W0) 0 (mkEnv cE0_0) ⟨2, mkHeap cH0_0⟩ :=
  lg_chain (m := 25) (i := 0) (hi := 99) alonePl_ok alone_slots alone_okB alone_okR (Nat.le_of_ble_eq_true (by kernel_rfl)) (Nat.le_of_ble_eq_true (by kernel_rfl)) (Nat.le_of_ble_eq_true (by kernel_rfl)) (j := 25) rfl (Nat.le_of_ble_eq_true (by kernel_rfl)) (by kernel_rfl) (by kernel_rfl) (by kernel_rfl) (by kernel_rfl) aL0_0 (aG0_25 F W0)
theorem aQ0 (F : Nat → Option Obj) (W0 : World) : Go.AM.Good Try.prog Try.f3 F W0 (EndQ Try.prog Try.f3 F W0) (tailOf 7 aloneC) (mkEnv bE0) ⟨2, mkHeap bH0⟩ := by
  rw [alone_tail7]
  exact good_loop2 alonePl_ok alone_slots alone_okI (by kernel_rfl) (by kernel_rfl) aI0 (Nat.le_of_ble_eq_true (by kernel_rfl)) (by kernel_rfl) (aG0_0 F W0)
theorem aZ0 (F : Nat → Option Obj) (W0 : World) : Go.AM.Good Try.prog Try.f3 F W0 (EndQ Try.prog Try.f3 F W0) (tailOf 6 aloneC) (mkEnv aE0) ⟨2, mkHeap aH0⟩ :=
  good_cases (a := 0) (b := 255) (s := 2) (tm := 4294967301) (Nat.le_of_ble_eq_true (by kernel_rfl)) (Nat.le_of_ble_eq_true (by kernel_rfl)) (Nat.le_of_ble_eq_true (by kernel_rfl)) (by kernel_rfl) fun z _ hz => by
    rw [alone_tail6]
    exact good_seg alonePl_ok alone_slots alone_okH (by kernel_rfl) (by kernel_rfl) (allUpto_at aB0 z (by omega)) (aQ0 F W0)
theorem aX0_0 (F : Nat → Option Obj) (W0 : World) : Go.AM.Good Try.prog Try.f3 F W0 (EndQ Try.prog Try.f3 F W0) aloneC (argsEnv 0 [.res 7 0, .res 11 0, .res 4294967301 255] .nil) ⟨0, .nil⟩ :=
  good_pre alonePl_ok alone_slots 6 alone_ok6 (by kernel_rfl) (by kernel_rfl) aA0_0 (aZ0 F W0)
theorem aX0_1 (F : Nat → Option Obj) (W0 : World) : Go.AM.Good Try.prog Try.f3 F W0 (EndQ Try.prog Try.f3 F W0) aloneC (argsEnv 0 [.res 7 0, .res 11 1, .res 4294967301 255] .nil) ⟨0, .nil⟩ :=
  good_pre alonePl_ok alone_slots 6 alone_ok6 (by kernel_rfl) (by kernel_rfl) aA0_1 (aZ0 F W0)
theorem aX0_2 (F : Nat → Option Obj) (W0 : World) : Go.AM.Good Try.prog Try.f3 F W0 (EndQ Try.prog Try.f3 F W0) aloneC (argsEnv 0 [.res 7 0, .res 11 2, .res 4294967301 255] .nil) ⟨0, .nil⟩ :=
  good_pre alonePl_ok alone_slots 6 alone_ok6 (by kernel_rfl) (by kernel_rfl) aA0_2 (aZ0 F W0)
theorem aX0_3 (F : Nat → Option Obj) (W0 : World) : Go.AM.Good Try.prog Try.f3 F W0 (EndQ Try.prog Try.f3 F W0) aloneC (argsEnv 0 [.res 7 0, .res 11 3, .res 4294967301 255] .nil) ⟨0, .nil⟩ :=
  good_pre alonePl_ok alone_slots 6 alone_ok6 (by kernel_rfl) (by kernel_rfl) aA0_3 (aZ0 F W0)
theorem aX0_4 (F : Nat → Option Obj) (W0 : World) : Go.AM.Good Try.prog Try.f3 F W0 (EndQ Try.prog Try.f3 F W0) aloneC (argsEnv 0 [.res 7 0, .res 11 4, .res 4294967301 255] .nil) ⟨0, .nil⟩ :=
  good_pre alonePl_ok alone_slots 6 alone_ok6 (by kernel_rfl) (by kernel_rfl) aA0_4 (aZ0 F W0)
theorem aX0_5 (F : Nat → Option Obj) (W0 : World) : Go.AM.Good Try.prog Try.f3 F W0 (EndQ Try.prog Try.f3 F W0) aloneC (argsEnv 0 [.res 7 0, .res 11 5, .res 4294967301 255] .nil) ⟨0, .nil⟩ :=
  good_pre alonePl_ok alone_slots 6 alone_ok6 (by kernel_rfl) (by kernel_rfl) aA0_5 (aZ0 F W0)
theorem aX0_6 (F : Nat → Option Obj) (W0 : World) : Go.AM.Good Try.prog Try.f3 F W0 (EndQ Try.prog Try.f3 F W0) aloneC (argsEnv 0 [.res 7 0, .res 11 6, .res 4294967301 255] .nil) ⟨0, .nil⟩ :=
  good_pre alonePl_ok alone_slots 6 alone_ok6 (by kernel_rfl) (by kernel_rfl) aA0_6 (aZ0 F W0)
theorem aX0_7 (F : Nat → Option Obj) (W0 : World) : Go.AM.Good Try.prog Try.f3 F W0 (EndQ Try.prog Try.f3 F W0) aloneC (argsEnv 0 [.res 7 0, .res 11 7, .res 4294967301 255] .nil) ⟨0, .nil⟩ :=
  good_pre alonePl_ok alone_slots 6 alone_ok6 (by kernel_rfl) (by kernel_rfl) aA0_7 (aZ0 F W0)
theorem aX0_8 (F : Nat → Option Obj) (W0 : World) : Go.AM.Good Try.prog Try.f3 F W0 (EndQ Try.prog Try.f3 F W0) aloneC (argsEnv 0 [.res 7 0, .res 11 8, .res 4294967301 255] .nil) ⟨0, .nil⟩ :=
  good_pre alonePl_ok alone_slots 6 alone_ok6 (by kernel_rfl) (by kernel_rfl) aA0_8 (aZ0 F W0)
theorem aX0_9 (F : Nat → Option Obj) (W0 : World) : Go.AM.Good Try.prog Try.f3 F W0 (EndQ Try.prog Try.f3 F W0) aloneC (argsEnv 0 [.res 7 0, .res 11 9, .res 4294967301 255] .nil) ⟨0, .nil⟩ :=
  good_pre alonePl_ok alone_slots 6 alone_ok6 (by kernel_rfl) (by kernel_rfl) aA0_9 (aZ0 F W0)
theorem aX0_10 (F : Nat → Option Obj) (W0 : World) : Go.AM.Good Try.prog Try.f3 F W0 (EndQ Try.prog Try.f3 F W0) aloneC (argsEnv 0 [.res 7 0, .res 11 10, .res 4294967301 255] .nil) ⟨0, .nil⟩ :=
  good_pre alonePl_ok alone_slots 6 alone_ok6 (by kernel_rfl) (by kernel_rfl) aA0_10 (aZ0 F W0)
theorem aG1_75 (F : Nat → Option Obj) (W0 : World) : LG Try.prog Try.f3 F W0 aloneB aloneR 2 11 4294967296 99 (EndQ Try.prog Try.f3 F W0) 75 (mkEnv cE1_75) ⟨2, mkHeap cH1_75⟩ :=
  lg_chain_last (m := 24) (i := 75) (hi := 99) alonePl_ok alone_slots alone_okB alone_okR (Nat.le_of_ble_eq_true (by kernel_rfl)) (Nat.le_of_ble_eq_true (by kernel_rfl)) (Nat.le_of_ble_eq_true (by kernel_rfl)) rfl (by kernel_rfl) aL1_75
theorem aG1_50 (F : Nat → Option Obj) (W0 : World) : LG Try.prog Try.f3 F W0 aloneB aloneR 2 11 4294967296 99 (EndQ Try.prog Try.f3 F W0) 50 (mkEnv cE1_50) ⟨2, mkHeap cH1_50⟩ :=
  lg_chain (m := 25) (i := 50) (hi := 99) alonePl_ok alone_slots alone_okB alone_okR (Nat.le_of_ble_eq_true (by kernel_rfl)) (Nat.le_of_ble_eq_true (by kernel_rfl)) (Nat.le_of_ble_eq_true (by kernel_rfl)) (j := 75) rfl (Nat.le_of_ble_eq_true (by kernel_rfl)) (by kernel_rfl) (by kernel_rfl) (by kernel_rfl) (by kernel_rfl) aL1_50 (aG1_75 F W0)
theorem aG1_25 (F : Nat → Option Obj) (W0 : World) : LG Try.prog Try.f3 F W0 aloneB aloneR 2 11 4294967296 99 (EndQ Try.prog Try.f3 F W0) 25 (mkEnv cE1_25) ⟨2, mkHeap cH1_25⟩ :=
  lg_chain (m := 25) (i := 25) (hi := 99) alonePl_ok alone_slots alone_okB alone_okR (Nat.le_of_ble_eq_true (by kernel_rfl)) (Nat.le_of_ble_eq_true (by kernel_rfl)) (Nat.le_of_ble_eq_true (by kernel_rfl)) (j := 50) rfl (Nat.le_of_ble_eq_true (by kernel_rfl)) (by kernel_rfl) (by kernel_rfl) (by kernel_rfl) (by kernel_rfl) aL1_25 (aG1_50 F W0)
theorem aG1_0 (F : Nat → Option Obj) (W0 : World) : LG Try.prog Try.f3 F W0 aloneB aloneR 2 11 4294967296 99 (EndQ Try.prog Try.f3 F W0) 0 (mkEnv cE1_0) ⟨2, mkHeap cH1_0⟩ :=
  lg_chain (m := 25) (i := 0) (hi := 99) alonePl_ok alone_slots alone_okB alone_okR (Nat.le_of_ble_eq_true (by kernel_rfl)) (Nat.le_of_ble_eq_true (by kernel_rfl)) (Nat.le_of_ble_eq_true (by kernel_rfl)) (j := 25) rfl (Nat.le_of_ble_eq_true (by kernel_rfl)) (by kernel_rfl) (by kernel_rfl) (by kernel_rfl) (by kernel_rfl) aL1_0 (aG1_25 F W0)
theorem aQ1 (F : Nat → Option Obj) (W0 : World) : Go.AM.Good Try.prog Try.f3 F W0 (EndQ Try.prog Try.f3 F W0) (tailOf 7 aloneC) (mkEnv bE1) ⟨2, mkHeap bH1⟩ := by
  rw [alone_tail7]
  exact good_loop2 alonePl_ok alone_slots alone_okI (by kernel_rfl) (by kernel_rfl) aI1 (Nat.le_of_ble_eq_true (by kernel_rfl)) (by kernel_rfl) (aG1_0 F W0)
theorem aZ1 (F : Nat → Option Obj) (W0 : World) : Go.AM.Good Try.prog Try.f3 F W0 (EndQ Try.prog Try.f3 F W0) (tailOf 6 aloneC) (mkEnv aE1) ⟨2, mkHeap aH1⟩ :=
  good_cases (a := 0) (b := 255) (s := 2) (tm := 4294967301) (Nat.le_of_ble_eq_true (by kernel_rfl)) (Nat.le_of_ble_eq_true (by kernel_rfl)) (Nat.le_of_ble_eq_true (by kernel_rfl)) (by kernel_rfl) fun z _ hz => by
    rw [alone_tail6]
    exact good_seg alonePl_ok alone_slots alone_okH (by kernel_rfl) (by kernel_rfl) (allUpto_at aB1 z (by omega)) (aQ1 F W0)
theorem aX1_0 (F : Nat → Option Obj) (W0 : World) : Go.AM.Good Try.prog Try.f3 F W0 (EndQ Try.prog Try.f3 F W0) aloneC (argsEnv 0 [.res 7 1, .res 11 0, .res 4294967301 255] .nil) ⟨0, .nil⟩ :=
  good_pre alonePl_ok alone_slots 6 alone_ok6 (by kernel_rfl) (by kernel_rfl) aA1_0 (aZ1 F W0)
theorem aX1_1 (F : Nat → Option Obj) (W0 : World) : Go.AM.Good Try.prog Try.f3 F W0 (EndQ Try.prog Try.f3 F W0) aloneC (argsEnv 0 [.res 7 1, .res 11 1, .res 4294967301 255] .nil) ⟨0, .nil⟩ :=
  good_pre alonePl_ok alone_slots 6 alone_ok6 (by kernel_rfl) (by kernel_rfl) aA1_1 (aZ1 F W0)
theorem aX1_2 (F : Nat → Option Obj) (W0 : World) : Go.AM.Good Try.prog Try.f3 F W0 (EndQ Try.prog Try.f3 F W0) aloneC (argsEnv 0 [.res 7 1, .res 11 2, .res 4294967301 255] .nil) ⟨0, .nil⟩ :=
  good_pre alonePl_ok alone_slots 6 alone_ok6 (by kernel_rfl) (by kernel_rfl) aA1_2 (aZ1 F W0)
theorem aX1_3 (F : Nat → Option Obj) (W0 : World) : Go.AM.Good Try.prog Try.f3 F W0 (EndQ Try.prog Try.f3 F W0) aloneC (argsEnv 0 [.res 7 1, .res 11 3, .res 4294967301 255] .nil) ⟨0, .nil⟩ :=
  good_pre alonePl_ok alone_slots 6 alone_ok6 (by kernel_rfl) (by kernel_rfl) aA1_3 (aZ1 F W0)
theorem aX1_4 (F : Nat → Option Obj) (W0 : World) : Go.AM.Good Try.prog Try.f3 F W0 (EndQ Try.prog Try.f3 F W0) aloneC (argsEnv 0 [.res 7 1, .res 11 4, .res 4294967301 255] .nil) ⟨0, .nil⟩ :=
  good_pre alonePl_ok alone_slots 6 alone_ok6 (by kernel_rfl) (by kernel_rfl) aA1_4 (aZ1 F W0)
theorem aX1_5 (F : Nat → Option Obj) (W0 : World) : Go.AM.Good Try.prog Try.f3 F W0 (EndQ Try.prog Try.f3 F W0) aloneC (argsEnv 0 [.res 7 1, .res 11 5, .res 4294967301 255] .nil) ⟨0, .nil⟩ :=
  good_pre alonePl_ok alone_slots 6 alone_ok6 (by kernel_rfl) (by kernel_rfl) aA1_5 (aZ1 F W0)
theorem aX1_6 (F : Nat → Option Obj) (W0 : World) : Go.AM.Good Try.prog Try.f3 F W0 (EndQ Try.prog Try.f3 F W0) aloneC (argsEnv 0 [.res 7 1, .res 11 6, .res 4294967301 255] .nil) ⟨0, .nil⟩ :=
  good_pre alonePl_ok alone_slots 6 alone_ok6 (by kernel_rfl) (by kernel_rfl) aA1_6 (aZ1 F W0)
theorem aX1_7 (F : Nat → Option Obj) (W0 : World) : Go.AM.Good Try.prog Try.f3 F W0 (EndQ Try.prog Try.f3 F W0) aloneC (argsEnv 0 [.res 7 1, .res 11 7, .res 4294967301 255] .nil) ⟨0, .nil⟩ :=
  good_pre alonePl_ok alone_slots 6 alone_ok6 (by kernel_rfl) (by kernel_rfl) aA1_7 (aZ1 F W0)
theorem aX1_8 (F : Nat → Option Obj) (W0 : World) : Go.AM.Good Try.prog Try.f3 F W0 (EndQ Try.prog Try.f3 F W0) aloneC (argsEnv 0 [.res 7 1, .res 11 8, .res 4294967301 255] .nil) ⟨0, .nil⟩ :=
  good_pre alonePl_ok alone_slots 6 alone_ok6 (by kernel_rfl) (by kernel_rfl) aA1_8 (aZ1 F W0)
theorem aX1_9 (F : Nat → Option Obj) (W0 : World) : Go.AM.Good Try.prog Try.f3 F W0 (EndQ Try.prog Try.f3 F W0) aloneC (argsEnv 0 [.res 7 1, .res 11 9, .res 4294967301 255] .nil) ⟨0, .nil⟩ :=
  good_pre alonePl_ok alone_slots 6 alone_ok6 (by kernel_rfl) (by kernel_rfl) aA1_9 (aZ1 F W0)
theorem aX1_10 (F : Nat → Option Obj) (W0 : World) : Go.AM.Good Try.prog Try.f3 F W0 (EndQ Try.prog Try.f3 F W0) aloneC (argsEnv 0 [.res 7 1, .res 11 10, .res 4294967301 255] .nil) ⟨0, .nil⟩ :=
  good_pre alonePl_ok alone_slots 6 alone_ok6 (by kernel_rfl) (by kernel_rfl) aA1_10 (aZ1 F W0)
theorem aG2_75 (F : Nat → Option Obj) (W0 : World) : LG Try.prog Try.f3 F W0 aloneB aloneR 2 11 4294967296 99 (EndQ Try.prog Try.f3 F W0) 75 (mkEnv cE2_75) ⟨2, mkHeap cH2_75⟩ :=
  lg_chain_last (m := 24) (i := 75) (hi := 99) alonePl_ok alone_slots alone_okB alone_okR (Nat.le_of_ble_eq_true (by kernel_rfl)) (Nat.le_of_ble_eq_true (by kernel_rfl)) (Nat.le_of_ble_eq_true (by kernel_rfl)) rfl (by kernel_rfl) aL2_75
theorem aG2_50 (F : Nat → Option Obj) (W0 : World) : LG Try.prog Try.f3 F W0 aloneB aloneR 2 11 4294967296 99 (EndQ Try.prog Try.f3 F W0) 50 (mkEnv cE2_50) ⟨2, mkHeap cH2_50⟩ :=
  lg_chain (m := 25) (i := 50) (hi := 99) alonePl_ok alone_slots alone_okB alone_okR (Nat.le_of_ble_eq_true (by kernel_rfl)) (Nat.le_of_ble_eq_true (by kernel_rfl)) (Nat.le_of_ble_eq_true (by kernel_rfl)) (j := 75) rfl (Nat.le_of_ble_eq_true (by kernel_rfl)) (by kernel_rfl) (by kernel_rfl) (by kernel_rfl) (by kernel_rfl) aL2_50 (aG2_75 F W0)
theorem aG2_25 (F : Nat → Option Obj) (W0 : World) : LG Try.prog Try.f3 F W0 aloneB aloneR 2 11 4294967296 99 (EndQ Try.prog Try.f3 F W0) 25 (mkEnv cE2_25) ⟨2, mkHeap cH2_25⟩ :=
  lg_chain (m := 25) (i := 25) (hi := 99) alonePl_ok alone_slots alone_okB alone_okR (Nat.le_of_ble_eq_true (by kernel_rfl)) (Nat.le_of_ble_eq_true (by kernel_rfl)) (Nat.le_of_ble_eq_true (by kernel_rfl)) (j := 50) rfl (Nat.le_of_ble_eq_true (by kernel_rfl)) (by kernel_rfl) (by kernel_rfl) (by kernel_rfl) (by kernel_rfl) aL2_25 (aG2_50 F W0)
theorem aG2_0 (F : Nat → Option Obj) (W0 : World) : LG Try.prog Try.f3 F W0 aloneB aloneR 2 11 4294967296 99 (EndQ Try.prog Try.f3 F W0) 0 (mkEnv cE2_0) ⟨2, mkHeap cH2_0⟩ :=
  lg_chain (m := 25) (i := 0) (hi := 99) alonePl_ok alone_slots alone_okB alone_okR (Nat.le_of_ble_eq_true (by kernel_rfl)) (Nat.le_of_ble_eq_true (by kernel_rfl)) (Nat.le_of_ble_eq_true (by kernel_rfl)) (j := 25) rfl (Nat.le_of_ble_eq_true (by kernel_rfl)) (by kernel_rfl) (by kernel_rfl) (by kernel_rfl) (by kernel_rfl) aL2_0 (aG2_25 F W0)
theorem aQ2 (F : Nat → Option Obj) (W0 : World) : Go.AM.Good Try.prog Try.f3 F W0 (EndQ Try.prog Try.f3 F W0) (tailOf 7 aloneC) (mkEnv bE2) ⟨2, mkHeap bH2⟩ := by
  rw [alone_tail7]
  exact good_loop2 alonePl_ok alone_slots alone_okI (by kernel_rfl) (by kernel_rfl) aI2 (Nat.le_of_ble_eq_true (by kernel_rfl)) (by kernel_rfl) (aG2_0 F W0)
theorem aZ2 (F : Nat → Option Obj) (W0 : World) : Go.AM.Good Try.prog Try.f3 F W0 (EndQ Try.prog Try.f3 F W0) (tailOf 6 aloneC) (mkEnv aE2) ⟨2, mkHeap aH2⟩ :=
  good_cases (a := 0) (b := 255) (s := 2) (tm := 4294967301) (Nat.le_of_ble_eq_true (by kernel_rfl)) (Nat.le_of_ble_eq_true (by kernel_rfl)) (Nat.le_of_ble_eq_true (by kernel_rfl)) (by kernel_rfl) fun z _ hz => by
    rw [alone_tail6]
    exact good_seg alonePl_ok alone_slots alone_okH (by kernel_rfl) (by kernel_rfl) (allUpto_at aB2 z (by omega)) (aQ2 F W0)
theorem aX2_0 (F : Nat → Option Obj) (W0 : World) : Go.AM.Good Try.prog Try.f3 F W0 (EndQ Try.prog Try.f3 F W0) aloneC (argsEnv 0 [.res 7 2, .res 11 0, .res 4294967301 255] .nil) ⟨0, .nil⟩ :=
  good_pre alonePl_ok alone_slots 6 alone_ok6 (by kernel_rfl) (by kernel_rfl) aA2_0 (aZ2 F W0)
theorem aX2_1 (F : Nat → Option Obj) (W0 : World) : Go.AM.Good Try.prog Try.f3 F W0 (EndQ Try.prog Try.f3 F W0) aloneC (argsEnv 0 [.res 7 2, .res 11 1, .res 4294967301 255] .nil) ⟨0, .nil⟩ :=
  good_pre alonePl_ok alone_slots 6 alone_ok6 (by kernel_rfl) (by kernel_rfl) aA2_1 (aZ2 F W0)
theorem aX2_2 (F : Nat → Option Obj) (W0 : World) : Go.AM.Good Try.prog Try.f3 F W0 (EndQ Try.prog Try.f3 F W0) aloneC (argsEnv 0 [.res 7 2, .res 11 2, .res 4294967301 255] .nil) ⟨0, .nil⟩ :=
  good_pre alonePl_ok alone_slots 6 alone_ok6 (by kernel_rfl) (by kernel_rfl) aA2_2 (aZ2 F W0)
theorem aX2_3 (F : Nat → Option Obj) (W0 : World) : Go.AM.Good Try.prog Try.f3 F W0 (EndQ Try.prog Try.f3 F W0) aloneC (argsEnv 0 [.res 7 2, .res 11 3, .res 4294967301 255] .nil) ⟨0, .nil⟩ :=
  good_pre alonePl_ok alone_slots 6 alone_ok6 (by kernel_rfl) (by kernel_rfl) aA2_3 (aZ2 F W0)
theorem aX2_4 (F : Nat → Option Obj) (W0 : World) : Go.AM.Good Try.prog Try.f3 F W0 (EndQ Try.prog Try.f3 F W0) aloneC (argsEnv 0 [.res 7 2, .res 11 4, .res 4294967301 255] .nil) ⟨0, .nil⟩ :=
  good_pre alonePl_ok alone_slots 6 alone_ok6 (by kernel_rfl) (by kernel_rfl) aA2_4 (aZ2 F W0)
theorem aX2_5 (F : Nat → Option Obj) (W0 : World) : Go.AM.Good Try.prog Try.f3 F W0 (EndQ Try.prog Try.f3 F W0) aloneC (argsEnv 0 [.res 7 2, .res 11 5, .res 4294967301 255] .nil) ⟨0, .nil⟩ :=
  good_pre alonePl_ok alone_slots 6 alone_ok6 (by kernel_rfl) (by kernel_rfl) aA2_5 (aZ2 F W0)
theorem aX2_6 (F : Nat → Option Obj) (W0 : World) : Go.AM.Good Try.prog Try.f3 F W0 (EndQ Try.prog Try.f3 F W0) aloneC (argsEnv 0 [.res 7 2, .res 11 6, .res 4294967301 255] .nil) ⟨0, .nil⟩ :=
  good_pre alonePl_ok alone_slots 6 alone_ok6 (by kernel_rfl) (by kernel_rfl) aA2_6 (aZ2 F W0)
theorem aX2_7 (F : Nat → Option Obj) (W0 : World) : Go.AM.Good Try.prog Try.f3 F W0 (EndQ Try.prog Try.f3 F W0) aloneC (argsEnv 0 [.res 7 2, .res 11 7, .res 4294967301 255] .nil) ⟨0, .nil⟩ :=
  good_pre alonePl_ok alone_slots 6 alone_ok6 (by kernel_rfl) (by kernel_rfl) aA2_7 (aZ2 F W0)
theorem aX2_8 (F : Nat → Option Obj) (W0 : World) : Go.AM.Good Try.prog Try.f3 F W0 (EndQ Try.prog Try.f3 F W0) aloneC (argsEnv 0 [.res 7 2, .res 11 8, .res 4294967301 255] .nil) ⟨0, .nil⟩ :=
  good_pre alonePl_ok alone_slots 6 alone_ok6 (by kernel_rfl) (by kernel_rfl) aA2_8 (aZ2 F W0)
theorem aX2_9 (F : Nat → Option Obj) (W0 : World) : Go.AM.Good Try.prog Try.f3 F W0 (EndQ Try.prog Try.f3 F W0) aloneC (argsEnv 0 [.res 7 2, .res 11 9, .res 4294967301 255] .nil) ⟨0, .nil⟩ :=
  good_pre alonePl_ok alone_slots 6 alone_ok6 (by kernel_rfl) (by kernel_rfl) aA2_9 (aZ2 F W0)
theorem aX2_10 (F : Nat → Option Obj) (W0 : World) : Go.AM.Good Try.prog Try.f3 F W0 (EndQ Try.prog Try.f3 F W0) aloneC (argsEnv 0 [.res 7 2, .res 11 10, .res 4294967301 255] .nil) ⟨0, .nil⟩ :=
  good_pre alonePl_ok alone_slots 6 alone_ok6 (by kernel_rfl) (by kernel_rfl) aA2_10 (aZ2 F W0)
theorem aG3_75 (F : Nat → Option Obj) (W0 : World) : LG Try.prog Try.f3 F W0 aloneB aloneR 2 11 4294967296 99 (EndQ Try.prog Try.f3 F W0) 75 (mkEnv cE3_75) ⟨2, mkHeap cH3_75⟩ :=
  lg_chain_last (m := 24) (i := 75) (hi := 99) alonePl_ok alone_slots alone_okB alone_okR (Nat.le_of_ble_eq_true (by kernel_rfl)) (Nat.le_of_ble_eq_true (by kernel_rfl)) (Nat.le_of_ble_eq_true (by kernel_rfl)) rfl (by kernel_rfl) aL3_75
theorem aG3_50 (F : Nat → Option Obj) (W0 : World) : LG Try.prog Try.f3 F W0 aloneB aloneR 2 11 4294967296 99 (EndQ Try.prog Try.f3 F W0) 50 (mkEnv cE3_50) ⟨2, mkHeap cH3_50⟩ :=
  lg_chain (m := 25) (i := 50) (hi := 99) alonePl_ok alone_slots alone_okB alone_okR (Nat.le_of_ble_eq_true (by kernel_rfl)) (Nat.le_of_ble_eq_true (by kernel_rfl)) (Nat.le_of_ble_eq_true (by kernel_rfl)) (j := 75) rfl (Nat.le_of_ble_eq_true (by kernel_rfl)) (by kernel_rfl) (by kernel_rfl) (by kernel_rfl) (by kernel_rfl) aL3_50 (aG3_75 F W0)
theorem aG3_25 (F : Nat → Option Obj) (W0 : World) : LG Try.prog Try.f3 F W0 aloneB aloneR 2 11 4294967296 99 (EndQ Try.prog Try.f3 F W0) 25 (mkEnv cE3_25) ⟨2, mkHeap cH3_25⟩ :=
  lg_chain (m := 25) (i := 25) (hi := 99) alonePl_ok alone_slots alone_okB alone_okR (Nat.le_of_ble_eq_true (by kernel_rfl)) (Nat.le_of_ble_eq_true (by kernel_rfl)) (Nat.le_of_ble_eq_true (by kernel_rfl)) (j := 50) rfl (Nat.le_of_ble_eq_true (by kernel_rfl)) (by kernel_rfl) (by kernel_rfl) (by kernel_rfl) (by kernel_rfl) aL3_25 (aG3_50 F W0)
theorem aG3_0 (F : Nat → Option Obj) (W0 : World) : LG Try.prog Try.f3 F W0 aloneB aloneR 2 11 4294967296 99 (EndQ Try.prog Try.f3 F W0) 0 (mkEnv cE3_0) ⟨2, mkHeap cH3_0⟩ :=
  lg_chain (m := 25) (i := 0) (hi := 99) alonePl_ok alone_slots alone_okB alone_okR (Nat.le_of_ble_eq_true (by kernel_rfl)) (Nat.le_of_ble_eq_true (by kernel_rfl)) (Nat.le_of_ble_eq_true (by kernel_rfl)) (j := 25) rfl (Nat.le_of_ble_eq_true (by kernel_rfl)) (by kernel_rfl) (by kernel_rfl) (by kernel_rfl) (by kernel_rfl) aL3_0 (aG3_25 F W0)
theorem aQ3 (F : Nat → Option Obj) (W0 : World) : Go.AM.Good Try.prog Try.f3 F W0 (EndQ Try.prog Try.f3 F W0) (tailOf 7 aloneC) (mkEnv bE3) ⟨2, mkHeap bH3⟩ := by
  rw [alone_tail7]
  exact good_loop2 alonePl_ok alone_slots alone_okI (by kernel_rfl) (by kernel_rfl) aI3 (Nat.le_of_ble_eq_true (by kernel_rfl)) (by kernel_rfl) (aG3_0 F W0)
theorem aZ3 (F : Nat → Option Obj) (W0 : World) : Go.AM.Good Try.prog Try.f3 F W0 (EndQ Try.prog Try.f3 F W0) (tailOf 6 aloneC) (mkEnv aE3) ⟨2, mkHeap aH3⟩ :=
  good_cases (a := 0) (b := 255) (s := 2) (tm := 4294967301) (Nat.le_of_ble_eq_true (by kernel_rfl)) (Nat.le_of_ble_eq_true (by kernel_rfl)) (Nat.le_of_ble_eq_true (by kernel_rfl)) (by kernel_rfl) fun z _ hz => by
    rw [alone_tail6]
    exact good_seg alonePl_ok alone_slots alone_okH (by kernel_rfl) (by kernel_rfl) (allUpto_at aB3 z (by omega)) (aQ3 F W0)
theorem aX3_0 (F : Nat → Option Obj) (W0 : World) : Go.AM.Good Try.prog Try.f3 F W0 (EndQ Try.prog Try.f3 F W0) aloneC (argsEnv 0 [.res 7 3, .res 11 0, .res 4294967301 255] .nil) ⟨0, .nil⟩ :=
  good_pre alonePl_ok alone_slots 6 alone_ok6 (by kernel_rfl) (by kernel_rfl) aA3_0 (aZ3 F W0)
theorem aX3_1 (F : Nat → Option Obj) (W0 : World) : Go.AM.Good Try.prog Try.f3 F W0 (EndQ Try.prog Try.f3 F W0) aloneC (argsEnv 0 [.res 7 3, .res 11 1, .res 4294967301 255] .nil) ⟨0, .nil⟩ :=
  good_pre alonePl_ok alone_slots 6 alone_ok6 (by kernel_rfl) (by kernel_rfl) aA3_1 (aZ3 F W0)
theorem aX3_2 (F : Nat → Option Obj) (W0 : World) : Go.AM.Good Try.prog Try.f3 F W0 (EndQ Try.prog Try.f3 F W0) aloneC (argsEnv 0 [.res 7 3, .res 11 2, .res 4294967301 255] .nil) ⟨0, .nil⟩ :=
  good_pre alonePl_ok alone_slots 6 alone_ok6 (by kernel_rfl) (by kernel_rfl) aA3_2 (aZ3 F W0)
theorem aX3_3 (F : Nat → Option Obj) (W0 : World) : Go.AM.Good Try.prog Try.f3 F W0 (EndQ Try.prog Try.f3 F W0) aloneC (argsEnv 0 [.res 7 3, .res 11 3, .res 4294967301 255] .nil) ⟨0, .nil⟩ :=
  good_pre alonePl_ok alone_slots 6 alone_ok6 (by kernel_rfl) (by kernel_rfl) aA3_3 (aZ3 F W0)
theorem aX3_4 (F : Nat → Option Obj) (W0 : World) : Go.AM.Good Try.prog Try.f3 F W0 (EndQ Try.prog Try.f3 F W0) aloneC (argsEnv 0 [.res 7 3, .res 11 4, .res 4294967301 255] .nil) ⟨0, .nil⟩ :=
  good_pre alonePl_ok alone_slots 6 alone_ok6 (by kernel_rfl) (by kernel_rfl) aA3_4 (aZ3 F W0)
theorem aX3_5 (F : Nat → Option Obj) (W0 : World) : Go.AM.Good Try.prog Try.f3 F W0 (EndQ Try.prog Try.f3 F W0) aloneC (argsEnv 0 [.res 7 3, .res 11 5, .res 4294967301 255] .nil) ⟨0, .nil⟩ :=
  good_pre alonePl_ok alone_slots 6 alone_ok6 (by kernel_rfl) (by kernel_rfl) aA3_5 (aZ3 F W0)
theorem aX3_6 (F : Nat → Option Obj) (W0 : World) : Go.AM.Good Try.prog Try.f3 F W0 (EndQ Try.prog Try.f3 F W0) aloneC (argsEnv 0 [.res 7 3, .res 11 6, .res 4294967301 255] .nil) ⟨0, .nil⟩ :=
  good_pre alonePl_ok alone_slots 6 alone_ok6 (by kernel_rfl) (by kernel_rfl) aA3_6 (aZ3 F W0)
theorem aX3_7 (F : Nat → Option Obj) (W0 : World) : Go.AM.Good Try.prog Try.f3 F W0 (EndQ Try.prog Try.f3 F W0) aloneC (argsEnv 0 [.res 7 3, .res 11 7, .res 4294967301 255] .nil) ⟨0, .nil⟩ :=
  good_pre alonePl_ok alone_slots 6 alone_ok6 (by kernel_rfl) (by kernel_rfl) aA3_7 (aZ3 F W0)
theorem aX3_8 (F : Nat → Option Obj) (W0 : World) : Go.AM.Good Try.prog Try.f3 F W0 (EndQ Try.prog Try.f3 F W0) aloneC (argsEnv 0 [.res 7 3, .res 11 8, .res 4294967301 255] .nil) ⟨0, .nil⟩ :=
  good_pre alonePl_ok alone_slots 6 alone_ok6 (by kernel_rfl) (by kernel_rfl) aA3_8 (aZ3 F W0)
theorem aX3_9 (F : Nat → Option Obj) (W0 : World) : Go.AM.Good Try.prog Try.f3 F W0 (EndQ Try.prog Try.f3 F W0) aloneC (argsEnv 0 [.res 7 3, .res 11 9, .res 4294967301 255] .nil) ⟨0, .nil⟩ :=
  good_pre alonePl_ok alone_slots 6 alone_ok6 (by kernel_rfl) (by kernel_rfl) aA3_9 (aZ3 F W0)
theorem aX3_10 (F : Nat → Option Obj) (W0 : World) : Go.AM.Good Try.prog Try.f3 F W0 (EndQ Try.prog Try.f3 F W0) aloneC (argsEnv 0 [.res 7 3, .res 11 10, .res 4294967301 255] .nil) ⟨0, .nil⟩ :=
  good_pre alonePl_ok alone_slots 6 alone_ok6 (by kernel_rfl) (by kernel_rfl) aA3_10 (aZ3 F W0)
theorem aG4_75 (F : Nat → Option Obj) (W0 : World) : LG Try.prog Try.f3 F W0 aloneB aloneR 2 11 4294967296 99 (EndQ Try.prog Try.f3 F W0) 75 (mkEnv cE4_75) ⟨2, mkHeap cH4_75⟩ :=
  lg_chain_last (m := 24) (i := 75) (hi := 99) alonePl_ok alone_slots alone_okB alone_okR (Nat.le_of_ble_eq_true (by kernel_rfl)) (Nat.le_of_ble_eq_true (by kernel_rfl)) (Nat.le_of_ble_eq_true (by kernel_rfl)) rfl (by kernel_rfl) aL4_75
theorem aG4_50 (F : Nat → Option Obj) (W0 : World) : LG Try.prog Try.f3 F W0 aloneB aloneR 2 11 4294967296 99 (EndQ Try.prog Try.f3 F W0) 50 (mkEnv cE4_50) ⟨2, mkHeap cH4_50⟩ :=
  lg_chain (m := 25) (i := 50) (hi := 99) alonePl_ok alone_slots alone_okB alone_okR (Nat.le_of_ble_eq_true (by kernel_rfl)) (Nat.le_of_ble_eq_true (by kernel_rfl)) (Nat.le_of_ble_eq_true (by kernel_rfl)) (j := 75) rfl (Nat.le_of_ble_eq_true (by kernel_rfl)) (by kernel_rfl) (by kernel_rfl) (by kernel_rfl) (by kernel_rfl) aL4_50 (aG4_75 F W0)
theorem aG4_25 (F : Nat → Option Obj) (W0 : World) : LG Try.prog Try.f3 F W0 aloneB aloneR 2 11 4294967296 99 (EndQ Try.prog Try.f3 F W0) 25 (mkEnv cE4_25) ⟨2, mkHeap cH4_25⟩ :=
  lg_chain (m := 25) (i := 25) (hi := 99) alonePl_ok alone_slots alone_okB alone_okR (Nat.le_of_ble_eq_true (by kernel_rfl)) (Nat.le_of_ble_eq_true (by kernel_rfl)) (Nat.le_of_ble_eq_true (by kernel_rfl)) (j := 50) rfl (Nat.le_of_ble_eq_true (by kernel_rfl)) (by kernel_rfl) (by kernel_rfl) (by kernel_rfl) (by kernel_rfl) aL4_25 (aG4_50 F W0)
theorem aG4_0 (F : Nat → Option Obj) (W0 : World) : LG Try.prog Try.f3 F W0 aloneB aloneR 2 11 4294967296 99 (EndQ Try.prog Try.f3 F W0) 0 (mkEnv cE4_0) ⟨2, mkHeap cH4_0⟩ :=
  lg_chain (m := 25) (i := 0) (hi := 99) alonePl_ok alone_slots alone_okB alone_okR (Nat.le_of_ble_eq_true (by kernel_rfl)) (Nat.le_of_ble_eq_true (by kernel_rfl)) (Nat.le_of_ble_eq_true (by kernel_rfl)) (j := 25) rfl (Nat.le_of_ble_eq_true (by kernel_rfl)) (by kernel_rfl) (by kernel_rfl) (by kernel_rfl) (by kernel_rfl) aL4_0 (aG4_25 F W0)
theorem aQ4 (F : Nat → Option Obj) (W0 : World) : Go.AM.Good Try.prog Try.f3 F W0 (EndQ Try.prog Try.f3 F W0) (tailOf 7 aloneC) (mkEnv bE4) ⟨2, mkHeap bH4⟩ := by
  rw [alone_tail7]
  exact good_loop2 alonePl_ok alone_slots alone_okI (by kernel_rfl) (by kernel_rfl) aI4 (Nat.le_of_ble_eq_true (by kernel_rfl)) (by kernel_rfl) (aG4_0 F W0)
theorem aZ4 (F : Nat → Option Obj) (W0 : World) : Go.AM.Good Try.prog Try.f3 F W0 (EndQ Try.prog Try.f3 F W0) (tailOf 6 aloneC) (mkEnv aE4) ⟨2, mkHeap aH4⟩ :=
  good_cases (a := 0) (b := 255) (s := 2) (tm := 4294967301) (Nat.le_of_ble_eq_true (by kernel_rfl)) (Nat.le_of_ble_eq_true (by kernel_rfl)) (Nat.le_of_ble_eq_true (by kernel_rfl)) (by kernel_rfl) fun z _ hz => by
    rw [alone_tail6]
    exact good_seg alonePl_ok alone_slots alone_okH (by kernel_rfl) (by kernel_rfl) (allUpto_at aB4 z (by omega)) (aQ4 F W0)
theorem aX4_0 (F : Nat → Option Obj) (W0 : World) : Go.AM.Good Try.prog Try.f3 F W0 (EndQ Try.prog Try.f3 F W0) aloneC (argsEnv 0 [.res 7 4, .res 11 0, .res 4294967301 255] .nil) ⟨0, .nil⟩ :=
  good_pre alonePl_ok alone_slots 6 alone_ok6 (by kernel_rfl) (by kernel_rfl) aA4_0 (aZ4 F W0)
theorem aX4_1 (F : Nat → Option Obj) (W0 : World) : Go.AM.Good Try.prog Try.f3 F W0 (EndQ Try.prog Try.f3 F W0) aloneC (argsEnv 0 [.res 7 4, .res 11 1, .res 4294967301 255] .nil) ⟨0, .nil⟩ :=
  good_pre alonePl_ok alone_slots 6 alone_ok6 (by kernel_rfl) (by kernel_rfl) aA4_1 (aZ4 F W0)
theorem aX4_2 (F : Nat → Option Obj) (W0 : World) : Go.AM.Good Try.prog Try.f3 F W0 (EndQ Try.prog Try.f3 F W0) aloneC (argsEnv 0 [.res 7 4, .res 11 2, .res 4294967301 255] .nil) ⟨0, .nil⟩ :=
  good_pre alonePl_ok alone_slots 6 alone_ok6 (by kernel_rfl) (by kernel_rfl) aA4_2 (aZ4 F W0)
theorem aX4_3 (F : Nat → Option Obj) (W0 : World) : Go.AM.Good Try.prog Try.f3 F W0 (EndQ Try.prog Try.f3 F W0) aloneC (argsEnv 0 [.res 7 4, .res 11 3, .res 4294967301 255] .nil) ⟨0, .nil⟩ :=
  good_pre alonePl_ok alone_slots 6 alone_ok6 (by kernel_rfl) (by kernel_rfl) aA4_3 (aZ4 F W0)
theorem aX4_4 (F : Nat → Option Obj) (W0 : World) : Go.AM.Good Try.prog Try.f3 F W0 (EndQ Try.prog Try.f3 F W0) aloneC (argsEnv 0 [.res 7 4, .res 11 4, .res 4294967301 255] .nil) ⟨0, .nil⟩ :=
  good_pre alonePl_ok alone_slots 6 alone_ok6 (by kernel_rfl) (by kernel_rfl) aA4_4 (aZ4 F W0)
theorem aX4_5 (F : Nat → Option Obj) (W0 : World) : Go.AM.Good Try.prog Try.f3 F W0 (EndQ Try.prog Try.f3 F W0) aloneC (argsEnv 0 [.res 7 4, .res 11 5, .res 4294967301 255] .nil) ⟨0, .nil⟩ :=
  good_pre alonePl_ok alone_slots 6 alone_ok6 (by kernel_rfl) (by kernel_rfl) aA4_5 (aZ4 F W0)
theorem aX4_6 (F : Nat → Option Obj) (W0 : World) : Go.AM.Good Try.prog Try.f3 F W0 (EndQ Try.prog Try.f3 F W0) aloneC (argsEnv 0 [.res 7 4, .res 11 6, .res 4294967301 255] .nil) ⟨0, .nil⟩ :=
  good_pre alonePl_ok alone_slots 6 alone_ok6 (by kernel_rfl) (by kernel_rfl) aA4_6 (aZ4 F W0)
theorem aX4_7 (F : Nat → Option Obj) (W0 : World) : Go.AM.Good Try.prog Try.f3 F W0 (EndQ Try.prog Try.f3 F W0) aloneC (argsEnv 0 [.res 7 4, .res 11 7, .res 4294967301 255] .nil) ⟨0, .nil⟩ :=
  good_pre alonePl_ok alone_slots 6 alone_ok6 (by kernel_rfl) (by kernel_rfl) aA4_7 (aZ4 F W0)
theorem aX4_8 (F : Nat → Option Obj) (W0 : World) : Go.AM.Good Try.prog Try.f3 F W0 (EndQ Try.prog Try.f3 F W0) aloneC (argsEnv 0 [.res 7 4, .res 11 8, .res 4294967301 255] .nil) ⟨0, .nil⟩ :=
  good_pre alonePl_ok alone_slots 6 alone_ok6 (by kernel_rfl) (by kernel_rfl) aA4_8 (aZ4 F W0)
theorem aX4_9 (F : Nat → Option Obj) (W0 : World) : Go.AM.Good Try.prog Try.f3 F W0 (EndQ Try.prog Try.f3 F W0) aloneC (argsEnv 0 [.res 7 4, .res 11 9, .res 4294967301 255] .nil) ⟨0, .nil⟩ :=
  good_pre alonePl_ok alone_slots 6 alone_ok6 (by kernel_rfl) (by kernel_rfl) aA4_9 (aZ4 F W0)
theorem aX4_10 (F : Nat → Option Obj) (W0 : World) : Go.AM.Good Try.prog Try.f3 F W0 (EndQ Try.prog Try.f3 F W0) aloneC (argsEnv 0 [.res 7 4, .res 11 10, .res 4294967301 255] .nil) ⟨0, .nil⟩ :=
  good_pre alonePl_ok alone_slots 6 alone_ok6 (by kernel_rfl) (by kernel_rfl) aA4_10 (aZ4 F W0)
theorem aG5_75 (F : Nat → Option Obj) (W0 : World) : LG Try.prog Try.f3 F W0 aloneB aloneR 2 11 4294967296 99 (EndQ Try.prog Try.f3 F W0) 75 (mkEnv cE5_75) ⟨2, mkHeap cH5_75⟩ :=
  lg_chain_last (m := 24) (i := 75) (hi := 99) alonePl_ok alone_slots alone_okB alone_okR (Nat.le_of_ble_eq_true (by kernel_rfl)) (Nat.le_of_ble_eq_true (by kernel_rfl)) (Nat.le_of_ble_eq_true (by kernel_rfl)) rfl (by kernel_rfl) aL5_75
theorem aG5_50 (F : Nat → Option Obj) (W0 : World) : LG Try.prog Try.f3 F W0 aloneB aloneR 2 11 4294967296 99 (EndQ Try.prog Try.f3 F W0) 50 (mkEnv cE5_50) ⟨2, mkHeap cH5_50⟩ :=
  lg_chain (m := 25) (i := 50) (hi := 99) alonePl_ok alone_slots alone_okB alone_okR (Nat.le_of_ble_eq_true (by kernel_rfl)) (Nat.le_of_ble_eq_true (by kernel_rfl)) (Nat.le_of_ble_eq_true (by kernel_rfl)) (j := 75) rfl (Nat.le_of_ble_eq_true (by kernel_rfl)) (by kernel_rfl) (by kernel_rfl) (by kernel_rfl) (by kernel_rfl) aL5_50 (aG5_75 F W0)
theorem aG5_25 (F : Nat → Option Obj) (W0 : World) : LG Try.prog Try.f3 F W0 aloneB aloneR 2 11 4294967296 99 (EndQ Try.prog Try.f3 F W0) 25 (mkEnv cE5_25) ⟨2, mkHeap cH5_25⟩ :=
  lg_chain (m := 25) (i := 25) (hi := 99) alonePl_ok alone_slots alone_okB alone_okR (Nat.le_of_ble_eq_true (by kernel_rfl)) (Nat.le_of_ble_eq_true (by kernel_rfl)) (Nat.le_of_ble_eq_true (by kernel_rfl)) (j := 50) rfl (Nat.le_of_ble_eq_true (by kernel_rfl)) (by kernel_rfl) (by kernel_rfl) (by kernel_rfl) (by kernel_rfl) aL5_25 (aG5_50 F W0)
theorem aG5_0 (F : Nat → Option Obj) (W0 : World) : LG Try.prog Try.f3 F W0 aloneB aloneR 2 11 4294967296 99 (EndQ Try.prog Try.f3 F W0) 0 (mkEnv cE5_0) ⟨2, mkHeap cH5_0⟩ :=
  lg_chain (m := 25) (i := 0) (hi := 99) alonePl_ok alone_slots alone_okB alone_okR (Nat.le_of_ble_eq_true (by kernel_rfl)) (Nat.le_of_ble_eq_true (by kernel_rfl)) (Nat.le_of_ble_eq_true (by kernel_rfl)) (j := 25) rfl (Nat.le_of_ble_eq_true (by kernel_rfl)) (by kernel_rfl) (by kernel_rfl) (by kernel_rfl) (by kernel_rfl) aL5_0 (aG5_25 F W0)
theorem aQ5 (F : Nat → Option Obj) (W0 : World) : Go.AM.Good Try.prog Try.f3 F W0 (EndQ Try.prog Try.f3 F W0) (tailOf 7 aloneC) (mkEnv bE5) ⟨2, mkHeap bH5⟩ := by
  rw [alone_tail7]
  exact good_loop2 alonePl_ok alone_slots alone_okI (by kernel_rfl) (by kernel_rfl) aI5 (Nat.le_of_ble_eq_true (by kernel_rfl)) (by kernel_rfl) (aG5_0 F W0)
theorem aZ5 (F : Nat → Option Obj) (W0 : World) : Go.AM.Good Try.prog Try.f3 F W0 (EndQ Try.prog Try.f3 F W0) (tailOf 6 aloneC) (mkEnv aE5) ⟨2, mkHeap aH5⟩ :=
  good_cases (a := 0) (b := 255) (s := 2) (tm := 4294967301) (Nat.le_of_ble_eq_true (by kernel_rfl)) (Nat.le_of_ble_eq_true (by kernel_rfl)) (Nat.le_of_ble_eq_true (by kernel_rfl)) (by kernel_rfl) fun z _ hz => by
    rw [alone_tail6]
    exact good_seg alonePl_ok alone_slots alone_okH (by kernel_rfl) (by kernel_rfl) (allUpto_at aB5 z (by omega)) (aQ5 F W0)
theorem aX5_0 (F : Nat → Option Obj) (W0 : World) : Go.AM.Good Try.prog Try.f3 F W0 (EndQ Try.prog Try.f3 F W0) aloneC (argsEnv 0 [.res 7 5, .res 11 0, .res 4294967301 255] .nil) ⟨0, .nil⟩ :=
  good_pre alonePl_ok alone_slots 6 alone_ok6 (by kernel_rfl) (by kernel_rfl) aA5_0 (aZ5 F W0)
theorem aX5_1 (F : Nat → Option Obj) (W0 : World) : Go.AM.Good Try.prog Try.f3 F W0 (EndQ Try.prog Try.f3 F W0) aloneC (argsEnv 0 [.res 7 5, .res 11 1, .res 4294967301 255] .nil) ⟨0, .nil⟩ :=
  good_pre alonePl_ok alone_slots 6 alone_ok6 (by kernel_rfl) (by kernel_rfl) aA5_1 (aZ5 F W0)
theorem aX5_2 (F : Nat → Option Obj) (W0 : World) : Go.AM.Good Try.prog Try.f3 F W0 (EndQ Try.prog Try.f3 F W0) aloneC (argsEnv 0 [.res 7 5, .res 11 2, .res 4294967301 255] .nil) ⟨0, .nil⟩ :=
  good_pre alonePl_ok alone_slots 6 alone_ok6 (by kernel_rfl) (by kernel_rfl) aA5_2 (aZ5 F W0)
theorem aX5_3 (F : Nat → Option Obj) (W0 : World) : Go.AM.Good Try.prog Try.f3 F W0 (EndQ Try.prog Try.f3 F W0) aloneC (argsEnv 0 [.res 7 5, .res 11 3, .res 4294967301 255] .nil) ⟨0, .nil⟩ :=
  good_pre alonePl_ok alone_slots 6 alone_ok6 (by kernel_rfl) (by kernel_rfl) aA5_3 (aZ5 F W0)
theorem aX5_4 (F : Nat → Option Obj) (W0 : World) : Go.AM.Good Try.prog Try.f3 F W0 (EndQ Try.prog Try.f3 F W0) aloneC (argsEnv 0 [.res 7 5, .res 11 4, .res 4294967301 255] .nil) ⟨0, .nil⟩ :=
  good_pre alonePl_ok alone_slots 6 alone_ok6 (by kernel_rfl) (by kernel_rfl) aA5_4 (aZ5 F W0)
theorem aX5_5 (F : Nat → Option Obj) (W0 : World) : Go.AM.Good Try.prog Try.f3 F W0 (EndQ Try.prog Try.f3 F W0) aloneC (argsEnv 0 [.res 7 5, .res 11 5, .res 4294967301 255] .nil) ⟨0, .nil⟩ :=
  good_pre alonePl_ok alone_slots 6 alone_ok6 (by kernel_rfl) (by kernel_rfl) aA5_5 (aZ5 F W0)
theorem aX5_6 (F : Nat → Option Obj) (W0 : World) : Go.AM.Good Try.prog Try.f3 F W0 (EndQ Try.prog Try.f3 F W0) aloneC (argsEnv 0 [.res 7 5, .res 11 6, .res 4294967301 255] .nil) ⟨0, .nil⟩ :=
  good_pre alonePl_ok alone_slots 6 alone_ok6 (by kernel_rfl) (by kernel_rfl) aA5_6 (aZ5 F W0)
theorem aX5_7 (F : Nat → Option Obj) (W0 : World) : Go.AM.Good Try.prog Try.f3 F W0 (EndQ Try.prog Try.f3 F W0) aloneC (argsEnv 0 [.res 7 5, .res 11 7, .res 4294967301 255] .nil) ⟨0, .nil⟩ :=
  good_pre alonePl_ok alone_slots 6 alone_ok6 (by kernel_rfl) (by kernel_rfl) aA5_7 (aZ5 F W0)
theorem aX5_8 (F : Nat → Option Obj) (W0 : World) : Go.AM.Good Try.prog Try.f3 F W0 (EndQ Try.prog Try.f3 F W0) aloneC (argsEnv 0 [.res 7 5, .res 11 8, .res 4294967301 255] .nil) ⟨0, .nil⟩ :=
  good_pre alonePl_ok alone_slots 6 alone_ok6 (by kernel_rfl) (by kernel_rfl) aA5_8 (aZ5 F W0)
theorem aX5_9 (F : Nat → Option Obj) (W0 : World) : Go.AM.Good Try.prog Try.f3 F W0 (EndQ Try.prog Try.f3 F W0) aloneC (argsEnv 0 [.res 7 5, .res 11 9, .res 4294967301 255] .nil) ⟨0, .nil⟩ :=
  good_pre alonePl_ok alone_slots 6 alone_ok6 (by kernel_rfl) (by kernel_rfl) aA5_9 (aZ5 F W0)
theorem aX5_10 (F : Nat → Option Obj) (W0 : World) : Go.AM.Good Try.prog Try.f3 F W0 (EndQ Try.prog Try.f3 F W0) aloneC (argsEnv 0 [.res 7 5, .res 11 10, .res 4294967301 255] .nil) ⟨0, .nil⟩ :=
  good_pre alonePl_ok alone_slots 6 alone_ok6 (by kernel_rfl) (by kernel_rfl) aA5_10 (aZ5 F W0)
theorem aG6_75 (F : Nat → Option Obj) (W0 : World) : LG Try.prog Try.f3 F W0 aloneB aloneR 2 11 4294967296 99 (EndQ Try.prog Try.f3 F W0) 75 (mkEnv cE6_75) ⟨2, mkHeap cH6_75⟩ :=
  lg_chain_last (m := 24) (i := 75) (hi := 99) alonePl_ok alone_slots alone_okB alone_okR (Nat.le_of_ble_eq_true (by kernel_rfl)) (Nat.le_of_ble_eq_true (by kernel_rfl)) (Nat.le_of_ble_eq_true (by kernel_rfl)) rfl (by kernel_rfl) aL6_75
theorem aG6_50 (F : Nat → Option Obj) (W0 : World) : LG Try.prog Try.f3 F W0 aloneB aloneR 2 11 4294967296 99 (EndQ Try.prog Try.f3 F W0) 50 (mkEnv cE6_50) ⟨2, mkHeap cH6_50⟩ :=
  lg_chain (m := 25) (i := 50) (hi := 99) alonePl_ok alone_slots alone_okB alone_okR (Nat.le_of_ble_eq_true (by kernel_rfl)) (Nat.le_of_ble_eq_true (by kernel_rfl)) (Nat.le_of_ble_eq_true (by kernel_rfl)) (j := 75) rfl (Nat.le_of_ble_eq_true (by kernel_rfl)) (by kernel_rfl) (by kernel_rfl) (by kernel_rfl) (by kernel_rfl) aL6_50 (aG6_75 F W0)
theorem aG6_25 (F : Nat → Option Obj) (W0 : World) : LG Try.prog Try.f3 F W0 aloneB aloneR 2 11 4294967296 99 (EndQ Try.prog Try.f3 F W0) 25 (mkEnv cE6_25) ⟨2, mkHeap cH6_25⟩ :=
  lg_chain (m := 25) (i := 25) (hi := 99) alonePl_ok alone_slots alone_okB alone_okR (Nat.le_of_ble_eq_true (by kernel_rfl)) (Nat.le_of_ble_eq_true (by kernel_rfl)) (Nat.le_of_ble_eq_true (by kernel_rfl)) (j := 50) rfl (Nat.le_of_ble_eq_true (by kernel_rfl)) (by kernel_rfl) (by kernel_rfl) (by kernel_rfl) (by kernel_rfl) aL6_25 (aG6_50 F W0)
theorem aG6_0 (F : Nat → Option Obj) (W0 : World) : LG Try.prog Try.f3 F W0 aloneB aloneR 2 11 4294967296 99 (EndQ Try.prog Try.f3 F W0) 0 (mkEnv cE6_0) ⟨2, mkHeap cH6_0⟩ :=
  lg_chain (m := 25) (i := 0) (hi := 99) alonePl_ok alone_slots alone_okB alone_okR (Nat.le_of_ble_eq_true (by kernel_rfl)) (Nat.le_of_ble_eq_true (by kernel_rfl)) (Nat.le_of_ble_eq_true (by kernel_rfl)) (j := 25) rfl (Nat.le_of_ble_eq_true (by kernel_rfl)) (by kernel_rfl) (by kernel_rfl) (by kernel_rfl) (by kernel_rfl) aL6_0 (aG6_25 F W0)
theorem aQ6 (F : Nat → Option Obj) (W0 : World) : Go.AM.Good Try.prog Try.f3 F W0 (EndQ Try.prog Try.f3 F W0) (tailOf 7 aloneC) (mkEnv bE6) ⟨2, mkHeap bH6⟩ := by
  rw [alone_tail7]
  exact good_loop2 alonePl_ok alone_slots alone_okI (by kernel_rfl) (by kernel_rfl) aI6 (Nat.le_of_ble_eq_true (by kernel_rfl)) (by kernel_rfl) (aG6_0 F W0)
theorem aZ6 (F : Nat → Option Obj) (W0 : World) : Go.AM.Good Try.prog Try.f3 F W0 (EndQ Try.prog Try.f3 F W0) (tailOf 6 aloneC) (mkEnv aE6) ⟨2, mkHeap aH6⟩ :=
  good_cases (a := 0) (b := 255) (s := 2) (tm := 4294967301) (Nat.le_of_ble_eq_true (by kernel_rfl)) (Nat.le_of_ble_eq_true (by kernel_rfl)) (Nat.le_of_ble_eq_true (by kernel_rfl)) (by kernel_rfl) fun z _ hz => by
    rw [alone_tail6]
    exact good_seg alonePl_ok alone_slots alone_okH (by kernel_rfl) (by kernel_rfl) (allUpto_at aB6 z (by omega)) (aQ6 F W0)
theorem aX6_0 (F : Nat → Option Obj) (W0 : World) : Go.AM.Good Try.prog Try.f3 F W0 (EndQ Try.prog Try.f3 F W0) aloneC (argsEnv 0 [.res 7 6, .res 11 0, .res 4294967301 255] .nil) ⟨0, .nil⟩ :=
  good_pre alonePl_ok alone_slots 6 alone_ok6 (by kernel_rfl) (by kernel_rfl) aA6_0 (aZ6 F W0)
theorem aX6_1 (F : Nat → Option Obj) (W0 : World) : Go.AM.Good Try.prog Try.f3 F W0 (EndQ Try.prog Try.f3 F W0) aloneC (argsEnv 0 [.res 7 6, .res 11 1, .res 4294967301 255] .nil) ⟨0, .nil⟩ :=
  good_pre alonePl_ok alone_slots 6 alone_ok6 (by kernel_rfl) (by kernel_rfl) aA6_1 (aZ6 F W0)
theorem aX6_2 (F : Nat → Option Obj) (W0 : World) : Go.AM.Good Try.prog Try.f3 F W0 (EndQ Try.prog Try.f3 F W0) aloneC (argsEnv 0 [.res 7 6, .res 11 2, .res 4294967301 255] .nil) ⟨0, .nil⟩ :=
  good_pre alonePl_ok alone_slots 6 alone_ok6 (by kernel_rfl) (by kernel_rfl) aA6_2 (aZ6 F W0)
theorem aX6_3 (F : Nat → Option Obj) (W0 : World) : Go.AM.Good Try.prog Try.f3 F W0 (EndQ Try.prog Try.f3 F W0) aloneC (argsEnv 0 [.res 7 6, .res 11 3, .res 4294967301 255] .nil) ⟨0, .nil⟩ :=
  good_pre alonePl_ok alone_slots 6 alone_ok6 (by kernel_rfl) (by kernel_rfl) aA6_3 (aZ6 F W0)
theorem aX6_4 (F : Nat → Option Obj) (W0 : World) : Go.AM.Good Try.prog Try.f3 F W0 (EndQ Try.prog Try.f3 F W0) aloneC (argsEnv 0 [.res 7 6, .res 11 4, .res 4294967301 255] .nil) ⟨0, .nil⟩ :=
  good_pre alonePl_ok alone_slots 6 alone_ok6 (by kernel_rfl) (by kernel_rfl) aA6_4 (aZ6 F W0)
theorem aX6_5 (F : Nat → Option Obj) (W0 : World) : Go.AM.Good Try.prog Try.f3 F W0 (EndQ Try.prog Try.f3 F W0) aloneC (argsEnv 0 [.res 7 6, .res 11 5, .res 4294967301 255] .nil) ⟨0, .nil⟩ :=
  good_pre alonePl_ok alone_slots 6 alone_ok6 (by kernel_rfl) (by kernel_rfl) aA6_5 (aZ6 F W0)
theorem aX6_6 (F : Nat → Option Obj) (W0 : World) : Go.AM.Good Try.prog Try.f3 F W0 (EndQ Try.prog Try.f3 F W0) aloneC (argsEnv 0 [.res 7 6, .res 11 6, .res 4294967301 255] .nil) ⟨0, .nil⟩ :=
  good_pre alonePl_ok alone_slots 6 alone_ok6 (by kernel_rfl) (by kernel_rfl) aA6_6 (aZ6 F W0)
theorem aX6_7 (F : Nat → Option Obj) (W0 : World) : Go.AM.Good Try.prog Try.f3 F W0 (EndQ Try.prog Try.f3 F W0) aloneC (argsEnv 0 [.res 7 6, .res 11 7, .res 4294967301 255] .nil) ⟨0, .nil⟩ :=
  good_pre alonePl_ok alone_slots 6 alone_ok6 (by kernel_rfl) (by kernel_rfl) aA6_7 (aZ6 F W0)
theorem aX6_8 (F : Nat → Option Obj) (W0 : World) : Go.AM.Good Try.prog Try.f3 F W0 (EndQ Try.prog Try.f3 F W0) aloneC (argsEnv 0 [.res 7 6, .res 11 8, .res 4294967301 255] .nil) ⟨0, .nil⟩ :=
  good_pre alonePl_ok alone_slots 6 alone_ok6 (by kernel_rfl) (by kernel_rfl) aA6_8 (aZ6 F W0)
theorem aX6_9 (F : Nat → Option Obj) (W0 : World) : Go.AM.Good Try.prog Try.f3 F W0 (EndQ Try.prog Try.f3 F W0) aloneC (argsEnv 0 [.res 7 6, .res 11 9, .res 4294967301 255] .nil) ⟨0, .nil⟩ :=
  good_pre alonePl_ok alone_slots 6 alone_ok6 (by kernel_rfl) (by kernel_rfl) aA6_9 (aZ6 F W0)
theorem aX6_10 (F : Nat → Option Obj) (W0 : World) : Go.AM.Good Try.prog Try.f3 F W0 (EndQ Try.prog Try.f3 F W0) aloneC (argsEnv 0 [.res 7 6, .res 11 10, .res 4294967301 255] .nil) ⟨0, .nil⟩ :=
  good_pre alonePl_ok alone_slots 6 alone_ok6 (by kernel_rfl) (by kernel_rfl) aA6_10 (aZ6 F W0)
end Go.Proofs.Ytcdegmbabbgiaaa
