/-
  The machine is sound: calls.
-/
import Derived.Test.YtcdegmbabbgiaaaAmExec
import Derived.Test.YtcdegmbabbgiaaaAmInsert3
import Derived.Test.YtcdegmbabbgiaaaAmDel2
import Derived.Below
set_option linter.unusedSimpArgs false
namespace Go.AM

theorem lookN_mem {α : Type} {n : Nat} {x : α} : ∀ {l : List (Nat × α)}, lookN n l = some x → (n, x) ∈ l
  | [], h => by cases h
  | (m, y) :: l, h => by
    simp only [lookN, cond_eq_ite] at h
    split at h
    · rename_i hb
      have := Nat.eq_of_beq_eq_true hb
      cases h; subst this
      exact List.mem_cons_self ..
    · exact List.mem_cons_of_mem _ (lookN_mem h)

/-- A function may stand as one step. -/
structure SpecOK (P : Program) (f : FuncId) (g : List V → St → R (V × St)) : Prop where
  enters : ∃ fn c, P.funcs[f]? = some fn ∧ (fn.name == "runtime.NumGoroutine") = false ∧ fn.body = some c
  calls : ∀ {args : List V} {S S' : St} {v : V}, g args S = .ok (v, S') → ∀ {F : Nat → Option Obj} {G : Gh} {W : World} {cs : List Value}, Rel F G S W.heap → VRs G args cs →
    Calls P f cs.toArray W fun e W' => ∃ G' w, e = .returned w ∧ Sim F none G S W G' S' W' ∧ VR G' v w
structure PlansOK (P : Program) (pl : Plans) : Prop where
  mixed : P.follows .mixedOrders = true
  ok : ∀ f p, pl f = some (.code p) → funcOK P p f = true
  sp : ∀ f g, pl f = some (.spec g) → SpecOK P f g
def SpAll (P : Program) : SpTab → Prop
  | [] => True
  | (f, x) :: l => SpecOK P f (x.run P) ∧ SpAll P l
theorem SpAll.mem {P : Program} {f : FuncId} {x : Sp} : ∀ {l : SpTab}, SpAll P l → (f, x) ∈ l → SpecOK P f (x.run P)
  | (_, _) :: _, h, hm => by
    rcases List.mem_cons.1 hm with e | hm
    · cases e; exact h.1
    · exact SpAll.mem h.2 hm
theorem plansOK_of {P : Program} {sp : SpTab} {t : PlTab} (hm : P.follows .mixedOrders = true) (hs : SpAll P sp) (h : tabOK P t = true) : PlansOK P (plansOf P sp t) := by
  refine ⟨hm, fun f p hp => ?_, fun f g hp => ?_⟩ <;> unfold plansOf at hp
  · split at hp
    · cases hp
    · split at hp
      · rename_i l hl
        cases hp
        exact List.all_eq_true.1 h (f, l) (lookN_mem hl)
      · cases hp
  · split at hp
    · rename_i x hl
      cases hp
      exact hs.mem (lookN_mem hl)
    · split at hp <;> cases hp

theorem sp3 {P : Program} {f : FuncId} {args : List V} {S S' : St} {v : V} {s i x : V} (he : args = [s, i, x])
    {F : Nat → Option Obj} {G : Gh} {W : World} {cs : List Value} (hvs : VRs G args cs)
    (K : ∀ {a b c : Value}, VR G s a → VR G i b → VR G x c → Calls P f #[a, b, c] W fun e W' => ∃ G' w, e = .returned w ∧ Sim F none G S W G' S' W' ∧ VR G' v w) :
    Calls P f cs.toArray W fun e W' => ∃ G' w, e = .returned w ∧ Sim F none G S W G' S' W' ∧ VR G' v w := by
  subst he
  cases hvs with
  | cons _ a1 _ _ h1 t => cases t with
    | cons _ a2 _ _ h2 t => cases t with
      | cons _ a3 _ _ h3 t => cases t with
        | nil => exact K h1 h2 h3
theorem spec_insert {P : Program} {f : FuncId} {T e I B : TypeId} {ov rr : FuncId} {fn : Func} (L : InsAt P f T e I B ov rr fn) (hn : (fn.name == "runtime.NumGoroutine") = false) : SpecOK P f ((Sp.ins T).run P) := by
  refine ⟨⟨fn, _, L.hf, hn, L.hb⟩, fun {args S S' v} h => ?_⟩
  intro F G W cs R hvs
  have hd : ∃ s i x, args = [s, i, x] ∧ insertV P T s i x S = .ok (v, S') := by
    match args, h with
    | [s, i, x], h => exact ⟨s, i, x, rfl, h⟩
  obtain ⟨s, i, x, he, h⟩ := hd
  exact sp3 he hvs fun h1 h2 h3 => insert_sound L h R h1 h2 h3
theorem spec_delete {P : Program} {f : FuncId} {T e I B : TypeId} {fn : Func} (L : DelAt P f T e I B fn) (hn : (fn.name == "runtime.NumGoroutine") = false) : SpecOK P f ((Sp.del T).run P) := by
  refine ⟨⟨fn, _, L.hf, hn, L.hb⟩, fun {args S S' v} h => ?_⟩
  intro F G W cs R hvs
  have hd : ∃ s i x, args = [s, i, x] ∧ deleteV P T s i x S = .ok (v, S') := by
    match args, h with
    | [s, i, x], h => exact ⟨s, i, x, rfl, h⟩
  obtain ⟨s, i, x, he, h⟩ := hd
  exact sp3 he hvs fun h1 h2 h3 => delete_sound L h R h1 h2 h3

theorem argsEnv_get : ∀ (l : List V) (i : Nat) (e : Env) (t : Nat), i + l.length ≤ lim → (argsEnv i l e).get t = if i ≤ t ∧ t < i + l.length then l[t - i]? else e.get t
  | [], i, e, t, _ => by simp [argsEnv]; intro h1 h2; omega
  | v :: l, i, e, t, h => by
    simp only [List.length_cons] at h
    simp only [argsEnv, List.length_cons]
    rw [argsEnv_get l (i + 1) _ t (by omega)]
    by_cases h1 : t = i
    · subst h1
      rw [if_neg (by omega), if_pos (by omega), Tr.get_put_same _ _ _ (by omega)]; simp
    · rw [Tr.get_put_ne _ _ _ _ (by omega) h1]
      by_cases h2 : i + 1 ≤ t ∧ t < i + 1 + l.length
      · rw [if_pos h2, if_pos (by omega), show t - i = (t - (i + 1)) + 1 by omega]; simp
      · rw [if_neg h2, if_neg (by omega)]

theorem loadAt_asAddr {P : Program} {t : TypeId} {p : V} {v : V} {G : Gh} {q w : Value} {W : World} {S : St} (hv : loadV P t p S = .ok v) (hq : VR G p q) (h : (Instr.loadAt t q).run P W = .ok w W) :
    (do loadVar t (← asAddr q) : Sem Value).run P W = .ok w W := by
  cases hq with
  | ptr _ _ _ _ ad hp => exact h
  | iptr _ _ b o c ty fr hb vs hv hvs => exact h
  | _ => cases hv
theorem resV_sound {P : Program} {F : Nat → Option Obj} {G : Gh} {S : St} {W : World} (R : Rel F G S W.heap) {n : Nat} {e : Env} {tmps : Array Value} (he : EnvR G n e tmps) :
    ∀ {l : List ResultVar} {vs : List V}, resV P e S l = .ok vs → ∃ ws : List Value, (l.mapM (resSem tmps)).run P W = Result.ok ws W ∧ VRs G vs ws
  | [], vs, h => by
    cases h
    exact ⟨[], rfl, .nil⟩
  | .tmp t :: l, vs, h => by
    simp only [resV] at h
    split at h
    · rename_i v vs' hv hvs
      cases h
      obtain ⟨ws, w1, w2⟩ := resV_sound R he hvs
      obtain ⟨w, h1, h2⟩ := he.2 t v hv
      refine ⟨w :: ws, ?_, .cons _ _ _ _ h2 w2⟩
      have hd : tmps.getD t undef = w := by simp [h1]
      simp only [List.mapM_cons, Sem.run_bind, resSem, hd, Sem.run_pure, Result.andThen_ok, w1]
    · cases h
    · cases h
  | .cell a t :: l, vs, h => by
    simp only [resV] at h
    split at h
    · cases h
    · rename_i p hp
      split at h
      · rename_i v vs' hv hvs
        cases h
        obtain ⟨ws, w1, w2⟩ := resV_sound R he hvs
        obtain ⟨w, h1, h2⟩ := he.2 a p hp
        have hd : tmps.getD a undef = w := by simp [h1]
        obtain ⟨u, u1, u2⟩ := load_sound hv R h2
        refine ⟨u :: ws, ?_, .cons _ _ _ _ u2 w2⟩
        have := loadAt_asAddr hv h2 u1
        simp only [List.mapM_cons, Sem.run_bind (f := fun _ => _) , resSem, hd]
        rw [Sem.run_bind, this]
        simp only [Result.andThen_ok, Sem.run_bind, w1, Sem.run_pure]
      · cases h
      · cases h


theorem resOut_VR {G : Gh} {vs : List V} {ws : List Value} (h : VRs G vs ws) : VR G (resOne vs) (resOut ws) := by
  cases h with
  | nil => exact .tup [] #[] .nil
  | cons v w vs ws h t =>
    cases t with
    | nil => exact h
    | cons v2 w2 vs2 ws2 h2 t2 => exact .tup _ _ (.cons _ _ _ _ h (.cons _ _ _ _ h2 t2))

theorem callF_sound {P : Program} {pl : Plans} (hp : PlansOK P pl) : ∀ k, CallOK P (callF P pl k)
  | 0 => by
    refine ⟨?_, ?_⟩
    · intro f args S r h; cases h
    · intro f args S v S' h; cases h
  | k + 1 => by
    have ih := callF_sound hp k
    refine ⟨?_, ?_⟩
    · intro f args S r h cs W
      simp only [callF] at h
      split at h
      · cases h
      · rename_i g hpl
        obtain ⟨fn, c, hf, hn, hb⟩ := (hp.sp f g hpl).enters
        unfold callFunc
        rw [Sem.run_bind, show Sem.run P program W = .ok P W from rfl]
        simp only [Result.andThen_ok, hf, hn, hb]
        rfl
      · rename_i p hpl
        split at h
        · cases h
        · rename_i fn hf
          split at h
          · cases h
          · rename_i c hb
            have hok := hp.ok f p hpl
            unfold funcOK at hok
            rw [hf] at hok
            simp only [Bool.and_eq_true, Bool.not_eq_true'] at hok
            unfold callFunc
            rw [Sem.run_bind, show Sem.run P program W = .ok P W from rfl]
            simp only [Result.andThen_ok, hf, hok.1, hb]
            rfl
    · intro f args S v S' h F G W cs R hvs
      simp only [callF] at h
      split at h
      · cases h
      · rename_i g hpl
        exact (hp.sp f g hpl).calls h R hvs
      · rename_i p hpl
        split at h
        · cases h
        · rename_i fn hf
          split at h
          · cases h
          · rename_i c hb
            have hok := hp.ok f p hpl
            unfold funcOK at hok
            rw [hf] at hok
            simp only [Bool.and_eq_true, hb] at hok
            rw [cond_eq_ite] at h
            split at h
            · rename_i hsz
              simp only [Bool.and_eq_true, Nat.ble_eq, Nat.blt_eq] at hsz
              obtain ⟨hl, hn⟩ := hsz
              have hcl := hvs.length
              refine calls_of_wp hf hb ?_
              have he : EnvR G fn.ntmps (argsEnv 0 args .nil) (cs.toArray ++ Array.replicate (fn.ntmps - cs.toArray.size) undef) := by
                refine ⟨by simp; omega, fun t v ht => ?_⟩
                rw [argsEnv_get _ _ _ _ (by omega)] at ht
                split at ht
                · rename_i hlt
                  obtain ⟨w, w1, w2⟩ := hvs.get (i := t) (by simpa using ht)
                  refine ⟨w, ?_, w2⟩
                  rw [Array.getElem?_append_left (by simp; omega)]
                  simpa using w1
                · rw [Tr.get_nil] at ht; cases ht
              split at h
              · cases h
              · cases h
              · rename_i x e1 S1 hne hx
                split at h
                · rename_i vs hr
                  cases h
                  refine exec_sound ih hp.mixed hn c hok.2 hx R he fun G' W' a' q1 q2 q3 => ?_
                  obtain ⟨ws, w1, w2⟩ := resV_sound q1.rel q2 hr
                  have hres := results_sound w1
                  have : a'.defers = [] ∧ ∃ v, (results fn a'.tmps).run P W' = .ok v W' ∧ ∃ G' w, Ending.returned v = .returned w ∧ Sim F none G S W G' S' W' ∧ VR G' (resOne vs) w :=
                    ⟨q3, _, hres, G', _, rfl, q1, resOut_VR w2⟩
                  cases x with
                  | normal => exact this
                  | ret => exact this
                  | exit id => exact (hne id rfl).elim
                · cases h
            · cases h

/-- A memory with nothing known in it. -/
def Gh.none : Gh := ⟨fun _ => .none, fun _ => .none, fun _ => .none, fun _ => 0⟩
def St.empty : St := ⟨0, .nil⟩
theorem rel_empty (W : World) : Rel (fun i => W.heap[i]?) Gh.none St.empty W.heap :=
  ⟨fun _ _ => ⟨rfl, rfl⟩, fun _ _ h => (by cases h), fun a b h => (by cases h), fun a a' b b' i h => (by cases h), fun i o h => h, fun i o h => (by cases h), fun a b i h => (by cases h),
    fun a i h => (by rcases h with ⟨L, h, _⟩ | h <;> cases h), fun a b h => (by cases h)⟩

/-- What the machine says holds of every run: nothing that was there is turned. -/
theorem calls_true {P : Program} {pl : Plans} (hp : PlansOK P pl) {k : Nat} {f : FuncId} (h : saysTrue (callF P pl k f [] St.empty) = true) (W : World) :
    Calls P f #[] W fun e W' => e = .returned (.bool true) ∧ RowKit.Below W.heap.size W W' := by
  unfold saysTrue at h
  split at h
  · rename_i b S' hx
    subst h
    refine ((callF_sound hp k).calls hx (rel_empty W) .nil).mono ?_
    rintro e W' ⟨G', w, rfl, q1, q2⟩
    cases q2
    refine ⟨rfl, q1.same.os, q1.same.tape, q1.same.output, q1.same.size, fun i hi => ?_⟩
    have := Array.getElem?_eq_getElem hi
    rw [this]
    exact q1.rel.fr i _ this
  · cases h
end Go.AM
