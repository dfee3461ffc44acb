/-
  HistoryCalls: whatever the arguments and whatever the order, the call returns true and turns nothing. The code that is reached is walked once over the abstract machine of the Am texts; what it comes to is a plain function of plain data, of which the law is shown; no condition.
-/
import Derived.Carry
import Derived.ChangeMaps5
import Derived.JoinedCond
import Derived.Test.YtoaibmbldmckaaaGreatRows
import Derived.Test.YtoaibmbldmckaaaGreatX3
namespace Go.AM
theorem aNs {P : Program} {pl : eE} (hp : PlansOK P pl) {f : FuncId} {args : List V} (h : ∀ K : KW, W P pl f args St.empty K = K (.bool true) St.empty) (W' : World) {cs : List Value} (hc : VRs (Gh.all W') args cs) :
    Calls P f cs.toArray W' fun e W'' => e = .returned (.bool true) ∧ RowKit.Below W'.heap.size W' W'' := by
  obtain ⟨k, v, S', hv, hk⟩ := aNv (K := fun v _ => v = .bool true) (by rw [h])
  subst hv
  exact yZ hp hk W' hc
end Go.AM
namespace Go.Proofs.YtoaibmbldmckaaaGreat
open Go.ChangeMaps Go.ChangeShapes Go.WideShapes Go.ChangeAt Go.RowKit Go.AM
set_option maxRecDepth 100000
theorem Tryz.own : ownKnob Tryz.prog.godebug = none := by kernel_rfl
theorem Tryz.laidOut : laidOutB Tryz.prog = true := by kernel_rfl
theorem aEj {H : Type} : ∀ d : DataW H, 1 ≤ Rows.uptoBulk d := by
  intro d
  unfold Rows.uptoBulk
  split <;> omega
theorem xB {H : Type} : ∀ l : List (DataW H), l.length ≤ Rows.uptoBulkAll l
  | [] => Nat.zero_le _
  | d :: l => by
    have h1 := aEj d
    have h2 := xB l
    simp only [Rows.uptoBulkAll, List.length_cons]
    omega
theorem rI {H : Type} : ∀ {l : List (DataW H)} {d : DataW H}, d ∈ l → Rows.uptoBulk d ≤ Rows.uptoBulkAll l
  | e :: l, d, h => by
    rcases List.mem_cons.1 h with rfl | h
    · simp only [Rows.uptoBulkAll]; omega
    · have := rI h
      simp only [Rows.uptoBulkAll]; omega
theorem zK {H : Type} (l r : List (DataW H)) (h : Rows.uptoBulk (.slice l r) ≤ 1048576) : l.length ≤ 1048576 ∧ ∀ d ∈ l, Rows.uptoBulk d ≤ 1048576 := by
  simp only [Rows.uptoBulk] at h
  exact ⟨by have := xB l; omega, fun d hd => by have := rI hd; omega⟩
theorem aEk {H : Type} (l : List (DataW H)) (h : Rows.uptoBulk (.agg l) ≤ 1048576) : ∀ d ∈ l, Rows.uptoBulk d ≤ 1048576 := by
  simp only [Rows.uptoBulk] at h
  exact fun d hd => by have := rI hd; omega
theorem aEl {H : Type} (l : List UInt8) (h : Rows.uptoBulk (.lit (.string l) : DataW H) ≤ 1048576) : l.length ≤ 1048576 := by
  simp only [Rows.uptoBulk] at h
  omega
theorem historyCalls_lifted (os : Os) (started : os.Started) (H : Type) (enc : TypeId × Value → H) (F : Stop.Interp) :
    ReturnsInHanded {} Tryz.checked os 18 .any ((Rows.OpenSpec.upto Rows.historyCallsSpec).pre6 enc Tryz.prog Tryz.f18 Rows.historyCallsUptoRow.domain false) (((Rows.OpenSpec.upto Rows.historyCallsSpec).at F).post enc Tryz.prog Tryz.f18 false true false false) := by
  refine returnsInHanded_of_cond (C := Tryz.checked) (s := (Rows.OpenSpec.upto Rows.historyCallsSpec)) (k := Rows.uptoSmall) rfl Tryz.own started (by kernel_rfl) Tryz.func18
    (OpenSpec.witness (enc := enc) (C := Tryz.checked) (s := (Rows.OpenSpec.upto Rows.historyCallsSpec)) (x := ([.lit (.int .i64 0), .nil], [], [])) (k := Rows.uptoSmall) rfl false ⟨#[], #[.int .i64 0, .slice none 0 0], []⟩ 8 (by kernel_rfl) (by kernel_rfl) (by kernel_rfl) (by kernel_rfl) (by kernel_rfl) (by kernel_rfl)) ?_
  intro W base args ds gs before hval0 hW _ hk _
  have hval : ∀ (j : Nat) t v, Tryz.f18.params[j]? = some t → args[j]? = some v → Value.okWide Tryz.prog W .any base t v := hval0
  have hW' := hW
  obtain ⟨p, q, hA0, hV, rfl, _, _⟩ := hW
  have hA : DataW.TrodAll enc Tryz.prog W 0 (fun _ => true) true Tryz.f18.params.toList args.toList ds p := hA0
  rw [Tryz.params18] at hA hval
  obtain ⟨v0, v1, d0, d1, p0, p1, rfl, rfl, rfl, h0, h1⟩ := trodAll_two hA
  obtain ⟨rfl, rfl⟩ := trodVars_none hV
  have hlt := hW'.lt
  obtain ⟨y0, rfl, rfl, rfl, hwb0⟩ := open_int Tryz.underlying3 (hval 0 3 v0 rfl rfl) h0
  have hb1 : Rows.uptoBulk d1 ≤ 1048576 := by
    have h := hk
    simp only [Rows.uptoSmall, List.append_nil, Rows.uptoBulkAll, decide_eq_true_eq] at h
    omega
  obtain ⟨x1, n1, hx1, hs1, hl1⟩ := qR (B := 1048576) (Q := fun d => Rows.uptoBulk d ≤ 1048576) aEl zK aEk Tryz.underlying114 (d := 20) (by kernel_rfl) (hval 1 114 v1 rfl rfl) h1 hb1
  obtain ⟨y1, hy1⟩ := aK0 hs1
  cases hy1
  refine (aNs aEc (fun K => g18 g49 y0 y1 (fun e he => by have := aOf hl1 e he; omega) St.empty K) W (.cons _ _ _ _ (.int _ _) (.cons _ _ _ _ hx1 .nil))).mono fun e W' ⟨he, hw⟩ => ?_
  subst he
  exact ⟨_, rfl, tQ (pv := []) hW' (fun b sp hd => aEf Tryz.underlying4 b sp hd) (fun sp hsp => trodAll_mk2 (shut_int Tryz.underlying3 hwb0) (aEg Tryz.laidOut (by kernel_rfl) (Nat.le_of_ble_eq_true (by kernel_rfl)) h1 hw (fun x hx => hlt x (by simp [hx])) (fun x hx => hsp x (by simp [hx])))) (fun _ _ => rfl) (by simp) (tR hw _)⟩
theorem mA : Tryz.pinned.checked.prog.funcNamed Rows.historyCallsUptoRow.func = some 18 := by kernel_rfl
set_option maxHeartbeats 20000000 in
theorem mB : joinedFacts Tryz.pinned.checked.prog 18 Tryz.f18 (Rows.OpenSpec.upto Rows.historyCallsSpec).bare Rows.historyCallsUptoRow = true := by
  unfold joinedFacts
  simp only [Bool.and_eq_true]
  and_intros <;> decide +kernel
theorem mU : Tryz.f18.isInstance Tryz.pinned.checked.prog Rows.historyCallsUptoRow.origin Rows.historyCallsUptoRow.targs := of_decide_eq_true (by kernel_rfl)
theorem mV : Tryz.f18.isWrapper Tryz.pinned.checked.prog Rows.historyCallsUptoRow.wrapper Rows.historyCallsUptoRow.mainSum := by unfold Func.isWrapper; first | (rw [if_pos (by decide +kernel)]; kernel_rfl) | (rw [if_neg (by decide +kernel)]; exact ⟨rfl, rfl⟩)
theorem historyCalls_holds : Rows.HistoryCallsUptoSaid :=
  OpenClaim.holds_of_cond 18 Tryz.f18 rfl rfl rfl rfl rfl rfl rfl ⟨rfl, rfl, rfl, rfl, rfl⟩ rfl rfl rfl rfl rfl mA Tryz.func18 mB mU mV
    (fun os started H enc _ F => by rw [OpenClaim.pre_of_none' rfl]; exact historyCalls_lifted os started H enc F)
end Go.Proofs.YtoaibmbldmckaaaGreat
