/-
  The quick machine says what the machine says: one operation.
-/
import Derived.Test.YtcdegmbabbgiaaaAmQ3
set_option linter.unusedSimpArgs false
set_option linter.unusedVariables false
namespace Go.AM

theorem evs_mono {ρ ρ' : Operand → Option V} (hm : ∀ x v, ρ x = some v → ρ' x = some v) : ∀ {l : List Operand} {vs : List V}, evs ρ l = some vs → evs ρ' l = some vs
  | [], vs, h => h
  | x :: l, vs, h => by
    simp only [evs] at h ⊢
    split at h
    · rename_i v hv
      split at h
      · rename_i ws hw
        rw [hm _ _ hv, evs_mono hm hw]; exact h
      · cases h
    · cases h
theorem evPs_mono {ρ ρ' : Operand → Option V} (hm : ∀ x v, ρ x = some v → ρ' x = some v) : ∀ {l : List (Nat × Operand)} {vs : List (Nat × V)}, evPs ρ l = some vs → evPs ρ' l = some vs
  | [], vs, h => h
  | (i, x) :: l, vs, h => by
    simp only [evPs] at h ⊢
    split at h
    · rename_i v hv
      split at h
      · rename_i ws hw
        rw [hm _ _ hv, evPs_mono hm hw]; exact h
      · cases h
    · cases h
theorem evO_mono {ρ ρ' : Operand → Option V} (hm : ∀ x v, ρ x = some v → ρ' x = some v) {x : Option Operand} {v : Option V} (h : evO ρ x = some v) : evO ρ' x = some v := by
  cases x with
  | none => exact h
  | some x =>
    simp only [evO] at h ⊢
    split at h
    · rename_i w hw; rw [hm _ _ hw]; exact h
    · cases h

theorem evalOp_mono {P : Program} {ρ ρ' : Operand → Option V} (hm : ∀ x v, ρ x = some v → ρ' x = some v) {o : Oper} {fr : Option Nat} {S : St} {r : Out} (h : evalOp P ρ o fr S = .ok r) : evalOp P ρ' o fr S = .ok r := by
  obtain ⟨dst, op, ty, pos, after, gd⟩ := o
  cases op <;> simp only [evalOp] at h ⊢ <;> try exact h
  case move x => (cases hx : ρ x with | none => (simp only [hx] at h; cases h) | some v => (rw [hm _ _ hx]; simp only [hx] at h; exact h))
  case assign x => (cases hx : ρ x with | none => (simp only [hx] at h; cases h) | some v => (rw [hm _ _ hx]; simp only [hx] at h; exact h))
  case pick c a b =>
    cases hc : ρ c with
    | none => simp only [hc] at h; cases h
    | some w =>
      rw [hm _ _ hc]
      simp only [hc] at h
      cases w with
      | bool t =>
        cases t with
        | true => (cases hx : ρ a with | none => (simp only [hx] at h; cases h) | some v => (rw [hm _ _ hx]; simp only [hx] at h; exact h))
        | false => (cases hx : ρ b with | none => (simp only [hx] at h; cases h) | some v => (rw [hm _ _ hx]; simp only [hx] at h; exact h))
      | _ => cases h
  case box t x => (cases hx : ρ x with | none => (simp only [hx] at h; cases h) | some v => (rw [hm _ _ hx]; simp only [hx] at h; exact h))
  case build t ps => (cases hx : evPs ρ ps.toList with | none => (simp only [hx] at h; cases h) | some v => (rw [evPs_mono hm hx]; simp only [hx] at h; exact h))
  case buildSlice t n ps => (cases hx : evPs ρ ps.toList with | none => (simp only [hx] at h; cases h) | some v => (rw [evPs_mono hm hx]; simp only [hx] at h; exact h))
  case load t x => (cases hx : ρ x with | none => (simp only [hx] at h; cases h) | some v => (rw [hm _ _ hx]; simp only [hx] at h; exact h))
  case store t a x => (cases ha : ρ a with | none => (simp only [ha] at h; cases h) | some w => (cases hx : ρ x with | none => (simp only [ha, hx] at h; cases h) | some v => (rw [hm _ _ ha, hm _ _ hx]; simp only [ha, hx] at h; exact h)))
  case nilCheck x => (cases hx : ρ x with | none => (simp only [hx] at h; cases h) | some v => (rw [hm _ _ hx]; simp only [hx] at h; exact h))
  case binOp op t a x _ => (cases ha : ρ a with | none => (simp only [ha] at h; cases h) | some w => (cases hx : ρ x with | none => (simp only [ha, hx] at h; cases h) | some v => (rw [hm _ _ ha, hm _ _ hx]; simp only [ha, hx] at h; exact h)))
  case unOp op t x => (cases hx : ρ x with | none => (simp only [hx] at h; cases h) | some v => (rw [hm _ _ hx]; simp only [hx] at h; exact h))
  case convert s d x => (cases hx : ρ x with | none => (simp only [hx] at h; cases h) | some v => (rw [hm _ _ hx]; simp only [hx] at h; exact h))
  case makeSlice t a x => (cases ha : ρ a with | none => (simp only [ha] at h; cases h) | some w => (cases hx : ρ x with | none => (simp only [ha, hx] at h; cases h) | some v => (rw [hm _ _ ha, hm _ _ hx]; simp only [ha, hx] at h; exact h)))
  case slice t x lo hi mx =>
    cases mx with
    | some m => simp only at h; cases h
    | none =>
      cases hx : ρ x with
      | none => simp only [hx] at h; cases h
      | some v =>
        cases hl : evO ρ lo with
        | none => simp only [hx, hl] at h; cases h
        | some l =>
          cases hh : evO ρ hi with
          | none => simp only [hx, hl, hh] at h; cases h
          | some u => rw [hm _ _ hx, evO_mono hm hl, evO_mono hm hh]; simp only [hx, hl, hh] at h; exact h
  case fieldAddr s x f => (cases hx : ρ x with | none => (simp only [hx] at h; cases h) | some v => (rw [hm _ _ hx]; simp only [hx] at h; exact h))
  case field s x f => (cases hx : ρ x with | none => (simp only [hx] at h; cases h) | some v => (rw [hm _ _ hx]; simp only [hx] at h; exact h))
  case indexAddr t a x => (cases ha : ρ a with | none => (simp only [ha] at h; cases h) | some w => (cases hx : ρ x with | none => (simp only [ha, hx] at h; cases h) | some v => (rw [hm _ _ ha, hm _ _ hx]; simp only [ha, hx] at h; exact h)))
  case index t a x => (cases ha : ρ a with | none => (simp only [ha] at h; cases h) | some w => (cases hx : ρ x with | none => (simp only [ha, hx] at h; cases h) | some v => (rw [hm _ _ ha, hm _ _ hx]; simp only [ha, hx] at h; exact h)))
  case range t x => (cases hx : ρ x with | none => (simp only [hx] at h; cases h) | some v => (rw [hm _ _ hx]; simp only [hx] at h; exact h))
  case next it s => (cases hx : ρ it with | none => (simp only [hx] at h; cases h) | some v => (rw [hm _ _ hx]; simp only [hx] at h; exact h))
  case makeMap t m => (cases m <;> exact h)
  case lookup t a x ok => (cases ha : ρ a with | none => (simp only [ha] at h; cases h) | some w => (cases hx : ρ x with | none => (simp only [ha, hx] at h; cases h) | some v => (rw [hm _ _ ha, hm _ _ hx]; simp only [ha, hx] at h; exact h)))
  case mapUpdate t m a x =>
    cases hb : ρ m with
    | none => simp only [hb] at h; cases h
    | some u => (cases ha : ρ a with | none => (simp only [hb, ha] at h; cases h) | some w => (cases hx : ρ x with | none => (simp only [hb, ha, hx] at h; cases h) | some v => (rw [hm _ _ hb, hm _ _ ha, hm _ _ hx]; simp only [hb, ha, hx] at h; exact h)))
  case makeFunc fn a b =>
    cases fn with
    | func f =>
      cases ha : evs ρ a.toList with
      | none => simp only [ha] at h; cases h
      | some w => (cases hx : evs ρ b.toList with | none => (simp only [ha, hx] at h; cases h) | some v => (rw [evs_mono hm ha, evs_mono hm hx]; simp only [ha, hx] at h; exact h))
    | _ => cases h
  case makeInterface t x => (cases hx : ρ x with | none => (simp only [hx] at h; cases h) | some v => (rw [hm _ _ hx]; simp only [hx] at h; exact h))
  case typeAssert x _ t ok => (cases hx : ρ x with | none => (simp only [hx] at h; cases h) | some v => (rw [hm _ _ hx]; simp only [hx] at h; exact h))
  case extract x i => (cases hx : ρ x with | none => (simp only [hx] at h; cases h) | some v => (rw [hm _ _ hx]; simp only [hx] at h; exact h))
  case call c =>
    obtain ⟨callee, args, ats⟩ := c
    cases callee with
    | value f =>
      simp only at h ⊢
      cases hf : ρ f with
      | none => simp only [hf] at h; cases h
      | some w => (cases hx : evs ρ args.toList with | none => (simp only [hf, hx] at h; cases w <;> cases h) | some v => (rw [hm _ _ hf, evs_mono hm hx]; simp only [hf, hx] at h; exact h))
    | builtin b =>
      simp only at h ⊢
      (cases hx : evs ρ args.toList with | none => (simp only [hx] at h; cases h) | some v => (rw [evs_mono hm hx]; simp only [hx] at h; exact h))
    | invoke r m =>
      simp only at h ⊢
      cases hf : ρ r with
      | none => simp only [hf] at h; cases h
      | some w => (cases hx : evs ρ args.toList with | none => (simp only [hf, hx] at h; cases w <;> cases h) | some v => (rw [hm _ _ hf, evs_mono hm hx]; simp only [hf, hx] at h; exact h))

theorem nthQF_eq : ∀ (i : Nat) (l : List Func), nthQF l i = l[i]?
  | 0, [] => rfl
  | 0, _ :: _ => rfl
  | i + 1, [] => rfl
  | i + 1, _ :: l => by rw [List.getElem?_cons_succ]; exact nthQF_eq i l
/-- What is left to do behind an operation. -/
def After (C : CallQ) (n : Nat) (h : Tr Blk) (K : KM) (z : V × St) : Out → Prop
  | .val v S' => K v S'.next S'.heap = some z
  | .skip S' => K (.tup []) S'.next S'.heap = some z
  | .call f args => C f args n h K = some z

theorem slowQ_some {P : Program} {C : CallQ} {X : Cx} {o : Oper} {fr : Option Nat} {E : FE} {n : Nat} {h : Tr Blk} {K : KM} {z : V × St} (H : slowQ P C X o fr E n h K = some z) :
    ∃ out, evalOp P (evF X.g E) o fr ⟨n, h⟩ = .ok out ∧ After C n h K z out := by
  obtain ⟨out, h1, H⟩ := bindR_some H
  refine ⟨out, h1, ?_⟩
  cases out with
  | val v S =>
    have H : normV v (fun v => forceN S.next (fun n => K v n S.heap)) = some z := H
    rw [normV_eq, forceN_eq] at H
    exact H
  | skip S =>
    have H : forceN S.next (fun n => K (.tup []) n S.heap) = some z := H
    rw [forceN_eq] at H
    exact H
  | call f args => exact H
theorem pairK_some {K : KM} {r : V × St} {z : V × St} (H : pairK K r = some z) : K r.1 r.2.next r.2.heap = some z := by
  unfold pairK at H
  rwa [forceN_eq] at H
theorem joinK_eq (a b c : List V) (K : List V → Ans) : joinK a b c K = K (a ++ b ++ c) := by
  cases a <;> cases c <;> first | rfl | (show K b = _; simp)
theorem opQ_some {P : Program} {C : CallQ} {X : Cx} {o : Oper} {fr : Option Nat} {E : FE} {n : Nat} {h : Tr Blk} {K : KM} {z : V × St} (H : opQ o.op P C X o fr E n h K = some z) :
    ∃ out, evalOp P (evF X.g E) o fr ⟨n, h⟩ = .ok out ∧ After C n h K z out := by
  obtain ⟨dst, op, ty, pos, after, gd⟩ := o
  cases op <;> first | exact slowQ_some H | skip
  case move x =>
    obtain ⟨v, h1, H⟩ := evK_some H
    exact ⟨.val v ⟨n, h⟩, by simp only [evalOp, h1], H⟩
  case assign x =>
    obtain ⟨v, h1, H⟩ := evK_some H
    exact ⟨.val v ⟨n, h⟩, by simp only [evalOp, h1], H⟩
  case pick c a b =>
    obtain ⟨v, h1, H⟩ := evK_some H
    have HZ := H
    clear H
    rcases asBool_some HZ with ⟨t, rfl, H⟩ | ⟨_, H⟩
    · obtain ⟨v, h2, H⟩ := evK_some H
      refine ⟨.val v ⟨n, h⟩, ?_, H⟩
      cases t <;> simp only [evalOp, h1, h2]
    · cases H
  case alloc t =>
    obtain ⟨z0, h1, H⟩ := bindO_some H
    rw [cellsK_eq, forceN_eq] at H
    obtain ⟨a, n', h', h2, H⟩ := newK_some H
    rw [lenQV_eq] at h2
    exact ⟨.val (.ptr a 0 0 0) ⟨n', h'⟩, by simp only [evalOp, h1, h2], H⟩
  case box t x =>
    obtain ⟨v, h1, H⟩ := evK_some H
    rw [cellsK_eq] at H
    obtain ⟨h3, H⟩ := ifQ_some H
    rw [forceN_eq] at H
    obtain ⟨a, n', h', h2, H⟩ := newK_some H
    rw [lenQV_eq] at h2
    rw [allOneQ_eq] at h3
    exact ⟨.val (.ptr a 0 0 0) ⟨n', h'⟩, by simp only [evalOp, h1, h2, h3, cond_true], H⟩
  case build t ps =>
    have H : @Option.rec V (fun _ => Ans) (slowQ P C X ⟨dst, .build t ps, ty, pos, after, gd⟩ fr E n h K) (fun z => evPsK X.g E ps.toList (fun l => cellsK z (fun cs => fillK P t l cs (fun v => K v n h)))) (bdT P t) = some z := H
    cases hb : bdT P t with
    | none => rw [hb] at H; exact slowQ_some H
    | some z0 =>
      rw [hb] at H
      obtain ⟨vs, h1, H⟩ := evPsK_some H
      rw [cellsK_eq] at H
      unfold bdT at hb
      split at hb
      · rename_i z1 fs hz hd
        rw [cond_eq_ite] at hb
        split at hb
        · rename_i hall
          cases hb
          obtain ⟨cs', h2, H⟩ := fillK_some hd H
          refine ⟨.val (.agg cs') ⟨n, h⟩, ?_, H⟩
          have : buildV P t vs = .ok (.agg cs') := by
            unfold buildV
            simp only [hz, hd, hall, Bool.not_true, cond_false, h2]
          simp only [evalOp, h1, this, pureR]
        · cases hb
      · cases hb
  case buildSlice t len ps =>
    obtain ⟨vs, h1, H⟩ := evPsK_some H
    obtain ⟨r, h2, H⟩ := bindR_some H
    exact ⟨.val r.1 r.2, by simp only [evalOp, h1, h2, pairR], pairK_some H⟩
  case load t a =>
    obtain ⟨p, h1, H⟩ := evK_some H
    obtain ⟨v, h2, H⟩ := ldK_some H
    exact ⟨.val v ⟨n, h⟩, by simp only [evalOp, h1, h2 n, pureR], H⟩
  case store t a x =>
    obtain ⟨p, h1, H⟩ := evK_some H
    obtain ⟨v, h2, H⟩ := evK_some H
    rw [cellsK_eq] at H
    obtain ⟨h', h3, H⟩ := stK_some H
    exact ⟨.skip ⟨n, h'⟩, by simp only [evalOp, h1, h2, h3 n], H⟩
  case nilCheck x =>
    obtain ⟨p, h1, H⟩ := evK_some H
    have HZ := H
    clear H
    rcases asPtr_some HZ with ⟨a, ver, i, j, rfl, H⟩ | ⟨cs, j, rfl, H⟩ | H
    · exact ⟨.val _ ⟨n, h⟩, by simp only [evalOp, h1], H⟩
    · exact ⟨.val _ ⟨n, h⟩, by simp only [evalOp, h1], H⟩
    · cases H
  case binOp op t x y yt =>
    obtain ⟨a, h1, H⟩ := evK_some H
    obtain ⟨b, h2, H⟩ := evK_some H
    obtain ⟨h3, v, h4, H⟩ := binK_some H
    exact ⟨.val v ⟨n, h⟩, by simp only [evalOp, h1, h2, h3, h4, cond_true, pureR], H⟩
  case unOp op t x =>
    obtain ⟨a, h1, H⟩ := evK_some H
    obtain ⟨v, h2, H⟩ := bindR_some H
    rw [normV_eq] at H
    exact ⟨.val v ⟨n, h⟩, by simp only [evalOp, h1, h2, pureR], H⟩
  case convert s d x =>
    have H : @Option.rec IntKind (fun _ => Ans) (evK X.g E x (fun v => bindR (convertV P s d v fr ⟨n, h⟩) (pairK K))) (fun k => evK X.g E x (fun v => asInt v (fun _ z => cvK k z (fun v => K v n h)) none)) (toIntT P s d) = some z := H
    cases hb : toIntT P s d with
    | none =>
      rw [hb] at H
      obtain ⟨v, h1, H⟩ := evK_some H
      obtain ⟨r, h2, H⟩ := bindR_some H
      exact ⟨.val r.1 r.2, by simp only [evalOp, h1, h2, pairR], pairK_some H⟩
    | some k =>
      rw [hb] at H
      obtain ⟨v, h1, H⟩ := evK_some H
      have HZ := H
      clear H
      rcases asInt_some HZ with ⟨j, a, rfl, H⟩ | H
      · have H := cvK_some H
        unfold toIntT at hb
        split at hb
        · rename_i us k' hs hd
          cases hb
          refine ⟨.val (.int k (wr k a)) ⟨n, h⟩, ?_, H⟩
          have : convertV P s d (.int j a) fr ⟨n, h⟩ = .ok (.int k (wr k a), ⟨n, h⟩) := by
            unfold convertV
            simp only [hs, hd]
          simp only [evalOp, h1, this, pairR]
        · cases hb
      · cases H
  case makeSlice t l c =>
    obtain ⟨a, h1, H⟩ := evK_some H
    obtain ⟨b, h2, H⟩ := evK_some H
    obtain ⟨r, h3, H⟩ := bindR_some H
    exact ⟨.val r.1 r.2, by simp only [evalOp, h1, h2, h3, pairR], pairK_some H⟩
  case slice t x lo hi mx =>
    cases mx with
    | some m => cases H
    | none =>
      obtain ⟨a, h1, H⟩ := evK_some H
      obtain ⟨l, h2, H⟩ := evOK_some H
      obtain ⟨u, h3, H⟩ := evOK_some H
      obtain ⟨v, h4, H⟩ := bindR_some H
      exact ⟨.val v ⟨n, h⟩, by simp only [evalOp, h1, h2, h3, h4, pureR], H⟩
  case fieldAddr s x f =>
    obtain ⟨off, h1, H⟩ := bindO_some H
    obtain ⟨p, h2, H⟩ := evK_some H
    unfold fo at h1
    split at h1
    · cases h1
    · rename_i fd hfd
      rw [cond_eq_ite] at h1
      split at h1
      · cases h1
      · rename_i hs
        cases h1
        have hs' : Nat.beq (sz P fd.type) 0 = false := by
          cases hb : Nat.beq (sz P fd.type) 0 with
          | false => rfl
          | true => exact absurd hb hs
        have HZ := H
        clear H
        rcases asPtr_some HZ with ⟨a, ver, i, j, rfl, H⟩ | ⟨cs, j, rfl, H⟩ | H
        · rw [forceN_eq] at H
          exact ⟨.val _ ⟨n, h⟩, by simp only [evalOp, h2, fieldAddrV, hfd, hs', cond_false, pureR]; rfl, H⟩
        · rw [forceN_eq] at H
          exact ⟨.val _ ⟨n, h⟩, by simp only [evalOp, h2, fieldAddrV, hfd, hs', cond_false, pureR]; rfl, H⟩
        · cases H
  case field t x f =>
    obtain ⟨of, h1, HA⟩ := bindO_some H
    obtain ⟨v, h2, HB⟩ := evK_some HA
    clear H HA
    obtain ⟨cs, rfl, HC⟩ := asAgg_some HB
    obtain ⟨v, h3, HD⟩ := partK_some HC
    unfold fp at h1
    split at h1
    · cases h1
    · rename_i fd hfd
      cases h1
      exact ⟨.val v ⟨n, h⟩, by simp only [evalOp, h2, fieldV, hfd, h3, pureR], HD⟩
  case indexAddr t x i =>
    have H : @Option.rec Nat (fun _ => Ans) (slowQ P C X ⟨dst, .indexAddr t x i, ty, pos, after, gd⟩ fr E n h K) (fun s => evK X.g E x (fun v => asSl v (fun a ver es off len => evK X.g E i (fun ix => idxK ix len (fun k => ifQ (Nat.beq es s) (forceN (Nat.add off k) (fun k => K (.ptr a ver k 0) n h))))) none (slowQ P C X ⟨dst, .indexAddr t x i, ty, pos, after, gd⟩ fr E n h K))) (esT P t) = some z := H
    cases hb : esT P t with
    | none => rw [hb] at H; exact slowQ_some H
    | some s =>
      rw [hb] at H
      obtain ⟨v, h1, H⟩ := evK_some H
      have HZ := H
      clear H
      rcases asSl_some HZ with ⟨a, ver, es, off, len, rfl, H⟩ | ⟨rfl, H⟩ | H
      · obtain ⟨ix, h2, H⟩ := evK_some H
        obtain ⟨k, h3, H⟩ := idxK_some H
        obtain ⟨h4, HY⟩ := ifQ_some H
        rw [forceN_eq] at HY
        unfold esT at hb
        split at hb
        · rename_i e hd
          rw [cond_eq_ite] at hb
          split at hb
          · rename_i hu
            cases hb
            refine ⟨.val (.ptr a ver (off + k) 0) ⟨n, h⟩, ?_, HY⟩
            have : indexAddrV P t (.sl a ver es off len) ix = .ok (.ptr a ver (off + k) 0) := by
              unfold indexAddrV
              simp only [hd, hu, Bool.not_true, cond_false, h3, h4, cond_true]
            simp only [evalOp, h1, h2, this, pureR]
          · cases hb
        · cases hb
      · cases H
      · exact slowQ_some H
  case index t x i =>
    obtain ⟨a, h1, H⟩ := evK_some H
    obtain ⟨b, h2, H⟩ := evK_some H
    obtain ⟨v, h3, H⟩ := bindR_some H
    exact ⟨.val v ⟨n, h⟩, by simp only [evalOp, h1, h2, h3, pureR], H⟩
  case lookup t m k ok =>
    obtain ⟨a, h1, H⟩ := evK_some H
    obtain ⟨b, h2, H⟩ := evK_some H
    obtain ⟨v, h3, H⟩ := bindR_some H
    rw [normV_eq] at H
    exact ⟨.val v ⟨n, h⟩, by simp only [evalOp, h1, h2, h3, pureR], H⟩
  case mapUpdate t m k x =>
    obtain ⟨a, h1, H⟩ := evK_some H
    obtain ⟨b, h2, H⟩ := evK_some H
    obtain ⟨c, h3, H⟩ := evK_some H
    obtain ⟨S, h4, H⟩ := bindR_some H
    have hn : S.next = n := by
      unfold mapUpdateV at h4
      repeat' split at h4
      all_goals first | (cases h4; rfl) | cases h4
    refine ⟨.skip S, by simp only [evalOp, h1, h2, h3, h4], ?_⟩
    show K (.tup []) S.next S.heap = some z
    rw [hn]; exact H
  case typeAssert x xt t ok =>
    obtain ⟨a, h1, H⟩ := evK_some H
    obtain ⟨v, h3, H⟩ := bindR_some H
    exact ⟨.val v ⟨n, h⟩, by simp only [evalOp, h1, h3, pureR], H⟩
  case extract t i =>
    obtain ⟨a, h1, H⟩ := evK_some H
    obtain ⟨vs, rfl, H⟩ := asTup_some H
    obtain ⟨v, h2, H⟩ := bindO_some H
    rw [nthQV_eq] at h2
    exact ⟨.val v ⟨n, h⟩, by simp only [evalOp, h1, h2], H⟩
  case call c =>
    obtain ⟨callee, args, ats⟩ := c
    cases callee with
    | value f =>
      obtain ⟨v, h1, H⟩ := evK_some H
      obtain ⟨g, a, b, rfl, H⟩ := asFunc_some H
      rcases selQ_some H with ⟨hb, H⟩ | ⟨hb, H⟩
      · obtain ⟨vs, h2, H⟩ := evsK_some H
        rw [joinK_eq] at H
        unfold hasBody at hb
        rw [nthQF_eq] at hb
        split at hb
        · cases hb
        · rename_i fn hfn
          have hfn : P.funcs[g]? = some fn := by simpa using hfn
          obtain ⟨c, hc⟩ := Option.isSome_iff_exists.1 hb
          exact ⟨.call g (a ++ vs ++ b), by simp only [evalOp, h1, h2, callOr, hfn, hc], H⟩
      · obtain ⟨vs, h2, H⟩ := evsK_some H
        rw [joinK_eq] at H
        obtain ⟨fn, hfn, H⟩ := bindO_some H
        obtain ⟨v, h3, H⟩ := bindR_some H
        rw [normV_eq] at H
        unfold hasBody at hb
        rw [nthQF_eq] at hb
        have hfn' : P.funcs.toList[g]? = some fn := by simpa using hfn
        simp only [hfn'] at hb
        cases hc : fn.body with
        | some c => rw [hc] at hb; cases hb
        | none => exact ⟨.val v ⟨n, h⟩, by simp only [evalOp, h1, h2, callOr, hfn, hc, h3, pureR], H⟩
    | invoke r m => exact slowQ_some H
    | builtin b =>
      rcases selQ_some H with ⟨hb, H⟩ | ⟨_, H⟩
      · have hb' : b = .len := by cases b <;> first | rfl | cases hb
        subst hb'
        obtain ⟨t, h1, H⟩ := bindO_some H
        rw [nthQT_eq] at h1
        have h1' : ats[0]? = some t := by simpa using h1
        rcases selQ_some H with ⟨hs, H⟩ | ⟨_, H⟩
        · have hd : ∃ e, P.underlying t = some (.slice e) := by
            unfold isSlT at hs
            split at hs
            · rename_i e hd; exact ⟨e, hd⟩
            · cases hs
          obtain ⟨e, hd⟩ := hd
          cases hl : args.toList with
          | nil => simp only [hl] at H; cases H
          | cons x l =>
            simp only [hl] at H
            obtain ⟨v, h2, H⟩ := evK_some H
            cases l with
            | cons y l => cases H
            | nil =>
              have hv : evs (evF X.g E) args.toList = some [v] := by simp only [hl, evs, h2]
              have HZ := H
              clear H
              rcases asSl_some HZ with ⟨a, ver, es, off, len, rfl, H⟩ | ⟨rfl, H⟩ | H
              · exact ⟨.val _ ⟨n, h⟩, by simp only [evalOp, hv, builtinV, h1', lenV, hd, pureR]; rfl, H⟩
              · exact ⟨.val _ ⟨n, h⟩, by simp only [evalOp, hv, builtinV, h1', lenV, hd, pureR]; rfl, H⟩
              · exact slowQ_some H
        · obtain ⟨vs, h2, H⟩ := evsK_some H
          cases vs with
          | nil => cases H
          | cons x l =>
            cases l with
            | cons y l => cases H
            | nil =>
              obtain ⟨v, h3, H⟩ := bindR_some (α := V) H
              rw [normV_eq] at H
              exact ⟨.val v ⟨n, h⟩, by simp only [evalOp, h2, builtinV, h1', h3, pureR], H⟩
      · rcases selQ_some H with ⟨hb, H⟩ | ⟨_, H⟩
        · have hb' : b = .append := by cases b <;> first | rfl | cases hb
          subst hb'
          obtain ⟨t, h1, H⟩ := bindO_some H
          obtain ⟨u, h2, H⟩ := bindO_some H
          rw [nthQT_eq] at h1 h2
          have h1' : ats[0]? = some t := by simpa using h1
          have h2' : ats[1]? = some u := by simpa using h2
          obtain ⟨hs, H⟩ := ifQ_some H
          obtain ⟨vs, h3, H⟩ := evsK_some H
          cases vs with
          | nil => cases H
          | cons s l =>
            cases l with
            | nil => cases H
            | cons x l =>
              cases l with
              | cons y l => cases H
              | nil =>
                obtain ⟨v, n', h', h4, H⟩ := appendK_some H
                refine ⟨.val v ⟨n', h'⟩, ?_, H⟩
                have hu : (∃ e, P.underlying u = some (.slice e)) ∨ P.underlying u = some .string := by
                  cases hsl : isSlT P u with
                  | true =>
                    unfold isSlT at hsl
                    split at hsl
                    · rename_i e hd; exact .inl ⟨e, hd⟩
                    · cases hsl
                  | false =>
                    rw [hsl] at hs
                    have hs : isStT P u = true := hs
                    unfold isStT at hs
                    split at hs
                    · rename_i hd; exact .inr hd
                    · cases hs
                rcases hu with ⟨e, hu⟩ | hu <;> simp only [evalOp, h3, builtinV, h1', h2', hu, h4, pairR]
        · exact slowQ_some H
end Go.AM
