/-
  Walks with literal states: a memory under other numbers, tokens for ints, and a loop whose end a token decides.
-/
import Derived.Test.YtcdegmbabbgiaaaAmWithin
set_option linter.unusedSimpArgs false
set_option linter.unusedVariables false
namespace Go.AM
open Go.RowKit

/-! ### A value under other numbers -/
abbrev Ren := List (Nat × Nat)
abbrev Bnd := List (Nat × V)
def renTo (ρ : Ren) (a a' : Nat) : Bool := match lookN a ρ with
  | some x => Nat.beq x a'
  | none => false
def tokOK (σ : Bnd) (m r : Nat) (v : V) : Bool :=
  match v with
  | .int k n => bif Nat.blt m tokBase then kindBeq k .i64 && Nat.beq m 1 && Nat.beq r 0 else
      (match lookN (tokId m) σ with
      | some (.int _ z) => kindBeq (tokKind m) k && decide (z = n) && decide (tokLo r ≤ n) && decide (n ≤ tokHi r)
      | _ => false)
  | .res m' r' => bif Nat.blt m tokBase then Nat.blt m' tokBase && ((Nat.beq m 1 && Nat.beq r 0) || (Nat.beq m m' && Nat.beq r r')) else
      (match lookN (tokId m) σ with
      | some (.res m2 _) => Nat.ble tokBase m' && Nat.ble tokBase m2 && Nat.beq (tokId m2) (tokId m') && kindBeq (tokKind m) (tokKind m') && decide (tokLo r ≤ tokLo r') && decide (tokHi r' ≤ tokHi r)
      | _ => false)
  | _ => false
mutual
def fitV (ρ : Ren) (σ : Bnd) : V → V → Bool
  | .bool a, .bool b => a == b
  | .int j a, .int k b => kindBeq j k && decide (a = b)
  | .str a, .str b => beqB a b
  | .nilp, .nilp => true
  | .ptr a b c d, .ptr a' b' c' d' => renTo ρ a a' && Nat.beq b b' && Nat.beq c c' && Nat.beq d d'
  | .iptr a b, .iptr a' b' => fitVs ρ σ a a' && Nat.beq b b'
  | .nils, .nils => true
  | .sl a b c d f, .sl a' b' c' d' f' => renTo ρ a a' && Nat.beq b b' && Nat.beq c c' && Nat.beq d d' && Nat.beq f f'
  | .imm a, .imm b => fitVss ρ σ a b
  | .agg a, .agg b => fitVs ρ σ a b
  | .tup a, .tup b => fitVs ρ σ a b
  | .nili, .nili => true
  | .iface t a, .iface u b => Nat.beq t u && fitV ρ σ a b
  | .nilf, .nilf => true
  | .func f a b, .func g c d => Nat.beq f g && fitVs ρ σ a c && fitVs ρ σ b d
  | .nilm, .nilm => true
  | .mp a, .mp b => renTo ρ a b
  | .res m r, v => tokOK σ m r v
  | _, _ => false
def fitVs (ρ : Ren) (σ : Bnd) : List V → List V → Bool
  | [], [] => true
  | a :: x, b :: y => fitV ρ σ a b && fitVs ρ σ x y
  | _, _ => false
def fitVss (ρ : Ren) (σ : Bnd) : List (List V) → List (List V) → Bool
  | [], [] => true
  | a :: x, b :: y => fitVs ρ σ a b && fitVss ρ σ x y
  | _, _ => false
end
def fitBlk (ρ : Ren) (σ : Bnd) : Blk → Blk → Bool
  | .row a b c, .row a' b' c' => Nat.beq a a' && Nat.beq b b' && fitVss ρ σ c c'
  | _, _ => false
def fitH (ρ : Ren) (σ : Bnd) (h : Tr Blk) : List (Nat × Blk) → Bool
  | [] => true
  | (a, b) :: l => (match lookN a ρ with
    | some a' => (match h.get a' with
      | some b' => fitBlk ρ σ b b'
      | none => false)
    | none => false) && fitH ρ σ h l
def fitE (ρ : Ren) (σ : Bnd) (e : Env) : List (Nat × V) → Bool
  | [] => true
  | (t, v) :: l => (match e.get t with
    | some v' => fitV ρ σ v v'
    | none => false) && fitE ρ σ e l
def mkEnv : List (Nat × V) → Env
  | [] => .nil
  | (t, v) :: l => (mkEnv l).put t v
def notIn (x : Nat) : List Nat → Bool
  | [] => true
  | y :: l => !Nat.beq x y && notIn x l
def apartL : List Nat → Bool
  | [] => true
  | x :: l => notIn x l && apartL l
/-- The numbers of a renaming: below the bounds, and none twice. -/
def renOK (ρ : Ren) (n' : Nat) : Bool := ρ.all (fun x => Nat.blt x.1 n') && Nat.ble n' lim && apartL (ρ.map (·.2))
def slotsOK (N : Nat) (l : List (Nat × V)) : Bool := l.all fun x => Nat.blt x.1 N

def Gh.ren (G : Gh) (ρ : Ren) (σ : Bnd) : Gh :=
  ⟨fun a => (lookN a ρ).bind G.loc, fun a => (lookN a ρ).bind G.ml, G.pr, fun t => match lookN t σ with
    | some (.int _ n) => n
    | some (.res m _) => G.sy (tokId m)
    | _ => 0⟩
theorem Gh.ren_loc {G : Gh} {ρ : Ren} {σ : Bnd} {a a' : Nat} (h : renTo ρ a a' = true) : (G.ren ρ σ).loc a = G.loc a' ∧ (G.ren ρ σ).ml a = G.ml a' := by
  unfold renTo at h
  split at h
  · rename_i x hx
    have := Nat.eq_of_beq_eq_true h
    subst this
    simp [Gh.ren, hx]
  · cases h

theorem tok_fit {G : Gh} {ρ : Ren} {σ : Bnd} {m r : Nat} {v : V} {w : Value} (h : tokOK σ m r v = true) (hv : VR G v w) : VR (G.ren ρ σ) (.res m r) w := by
  unfold tokOK at h
  split at h
  · rename_i k n
    cases hv
    rw [cond_eq_ite] at h
    split at h
    · rename_i hm
      simp only [Bool.and_eq_true, Nat.beq_eq] at h
      obtain ⟨⟨hk, rfl⟩, rfl⟩ := h
      have hk := kindBeq_eq hk
      subst hk
      exact .res _ _ _ _ (.inl ⟨by simpa using hm, rfl, by simp⟩)
    · rename_i hm
      split at h
      · rename_i z hz
        simp only [Bool.and_eq_true, decide_eq_true_eq] at h
        obtain ⟨⟨⟨hk, rfl⟩, h1⟩, h2⟩ := h
        have hk := kindBeq_eq hk
        refine .res _ _ _ _ (.inr ⟨by simpa using hm, hk.symm, ?_, h1, h2⟩)
        simp [Gh.ren, hz]
      · cases h
  · rename_i m' r'
    cases hv with
    | res _ _ k n hn =>
    rw [cond_eq_ite] at h
    split at h
    · rename_i hm
      simp only [Bool.and_eq_true, Bool.or_eq_true, Nat.beq_eq, Nat.blt_eq] at h
      obtain ⟨hm', h⟩ := h
      rcases hn with ⟨_, rfl, hn⟩ | ⟨hb, _⟩
      · rcases h with ⟨rfl, rfl⟩ | ⟨rfl, rfl⟩
        · exact .res _ _ _ _ (.inl ⟨by simpa using hm, rfl, by simp⟩)
        · exact .res _ _ _ _ (.inl ⟨by simpa using hm, rfl, hn⟩)
      · omega
    · rename_i hm
      split at h
      · rename_i m2 r2 hz
        simp only [Bool.and_eq_true, decide_eq_true_eq, Nat.beq_eq, Nat.ble_eq] at h
        obtain ⟨⟨⟨⟨⟨hm', hm2⟩, hid⟩, hk⟩, h1⟩, h2⟩ := h
        have hk := kindBeq_eq hk
        rcases hn with ⟨hb, _⟩ | ⟨_, e1, e2, e3, e4⟩
        · omega
        · refine .res _ _ _ _ (.inr ⟨by simpa using hm, by rw [e1, hk], ?_, by omega, by omega⟩)
          simp [Gh.ren, hz, hid, e2]
      · cases h
  · cases h

mutual
theorem fitV_VR {G : Gh} {ρ : Ren} {σ : Bnd} : ∀ {v' v : V} {w : Value}, fitV ρ σ v' v = true → VR G v w → VR (G.ren ρ σ) v' w
  | .bool a, v, w, h, hv => by
    cases v <;> simp [fitV] at h
    subst h; cases hv; exact .bool _
  | .int k a, v, w, h, hv => by
    cases v <;> simp [fitV] at h
    obtain ⟨h1, rfl⟩ := h
    have := kindBeq_eq h1; subst this
    cases hv; exact .int _ _
  | .str a, v, w, h, hv => by
    cases v <;> simp [fitV] at h
    rw [beqB_eq] at h
    have := beq_iff_eq.1 h; subst this
    cases hv; exact .str _
  | .nilp, v, w, h, hv => by cases v <;> simp [fitV] at h; cases hv; exact .nilp
  | .ptr a b c d, v, w, h, hv => by
    cases v <;> simp [fitV] at h
    obtain ⟨⟨⟨h1, rfl⟩, rfl⟩, rfl⟩ := h
    obtain ⟨q, _⟩ := Gh.ren_loc (G := G) (σ := σ) h1
    cases hv with
    | ptr _ _ _ _ p hp =>
      obtain ⟨L, hL, r⟩ := hp
      exact .ptr _ _ _ _ p ⟨L, by rw [q]; exact hL, r⟩
  | .iptr a b, v, w, h, hv => by
    cases v <;> simp [fitV] at h
    obtain ⟨h1, rfl⟩ := h
    cases hv with
    | iptr _ _ b o c ty fr hb vs hvs hh => exact .iptr _ _ b o c ty fr hb vs hvs (fitVs_VR h1 hh)
  | .nils, v, w, h, hv => by cases v <;> simp [fitV] at h; cases hv; exact .nils
  | .sl a b c d f, v, w, h, hv => by
    cases v <;> simp [fitV] at h
    obtain ⟨⟨⟨⟨h1, rfl⟩, rfl⟩, rfl⟩, rfl⟩ := h
    obtain ⟨q, _⟩ := Gh.ren_loc (G := G) (σ := σ) h1
    cases hv with
    | sl _ _ _ _ _ p n c hp =>
      obtain ⟨e1, e2, L, hL, r⟩ := hp
      exact .sl _ _ _ _ _ p n c ⟨e1, e2, L, by rw [q]; exact hL, r⟩
  | .imm a, v, w, h, hv => by
    cases v <;> simp [fitV] at h
    cases hv with
    | imm es p n c e hn hc vs hh he hp =>
      refine .imm _ p n c e ?_ hc vs (fitVss_VR h hh) (fitVss_len h he) hp
      rw [hn, fitVss_length h]
  | .agg a, v, w, h, hv => by
    cases v <;> simp [fitV] at h
    cases hv with
    | agg _ vs hh => exact .agg _ vs (fitVs_VR h hh)
  | .tup a, v, w, h, hv => by
    cases v <;> simp [fitV] at h
    cases hv with
    | tup _ vs hh => exact .tup _ vs (fitVs_VR h hh)
  | .nili, v, w, h, hv => by cases v <;> simp [fitV] at h; cases hv; exact .nili
  | .iface t a, v, w, h, hv => by
    cases v <;> simp [fitV] at h
    obtain ⟨rfl, h1⟩ := h
    cases hv with
    | iface _ _ w hh => exact .iface _ _ w (fitV_VR h1 hh)
  | .nilf, v, w, h, hv => by cases v <;> simp [fitV] at h; cases hv; exact .nilf
  | .func f a b, v, w, h, hv => by
    cases v <;> simp [fitV] at h
    obtain ⟨⟨rfl, h1⟩, h2⟩ := h
    cases hv with
    | func _ _ _ x y ha hb => exact .func _ _ _ x y (fitVs_VR h1 ha) (fitVs_VR h2 hb)
  | .nilm, v, w, h, hv => by cases v <;> simp [fitV] at h; cases hv; exact .nilm
  | .mp a, v, w, h, hv => by
    cases v <;> simp [fitV] at h
    obtain ⟨_, q⟩ := Gh.ren_loc (G := G) (σ := σ) h
    cases hv with
    | mp _ cb hh => exact .mp _ cb (by rw [q]; exact hh)
  | .res m r, v, w, h, hv => tok_fit (by simpa [fitV] using h) hv
theorem fitVs_VR {G : Gh} {ρ : Ren} {σ : Bnd} : ∀ {v' v : List V} {w : List Value}, fitVs ρ σ v' v = true → VRs G v w → VRs (G.ren ρ σ) v' w
  | [], v, w, h, hv => by
    cases v <;> simp [fitVs] at h
    cases hv; exact .nil
  | a :: x, v, w, h, hv => by
    cases v <;> simp [fitVs] at h
    cases hv with
    | cons _ w _ ws h1 t => exact .cons _ _ _ _ (fitV_VR h.1 h1) (fitVs_VR h.2 t)
theorem fitVss_VR {G : Gh} {ρ : Ren} {σ : Bnd} : ∀ {v' v : List (List V)} {w : List (List Value)}, fitVss ρ σ v' v = true → VRss G v w → VRss (G.ren ρ σ) v' w
  | [], v, w, h, hv => by
    cases v <;> simp [fitVss] at h
    cases hv; exact .nil
  | a :: x, v, w, h, hv => by
    cases v <;> simp [fitVss] at h
    cases hv with
    | cons _ w _ ws h1 t => exact .cons _ _ _ _ (fitVs_VR h.1 h1) (fitVss_VR h.2 t)
theorem fitVs_length {ρ : Ren} {σ : Bnd} : ∀ {v' v : List V}, fitVs ρ σ v' v = true → v'.length = v.length
  | [], v, h => by cases v <;> simp [fitVs] at h; rfl
  | a :: x, v, h => by
    cases v <;> simp [fitVs] at h
    simp [fitVs_length h.2]
theorem fitVss_length {ρ : Ren} {σ : Bnd} : ∀ {v' v : List (List V)}, fitVss ρ σ v' v = true → v'.length = v.length
  | [], v, h => by cases v <;> simp [fitVss] at h; rfl
  | a :: x, v, h => by
    cases v <;> simp [fitVss] at h
    simp [fitVss_length h.2]
theorem fitVss_len {ρ : Ren} {σ : Bnd} {e : Nat} : ∀ {v' v : List (List V)}, fitVss ρ σ v' v = true → (∀ cs, cs ∈ v → cs.length = e) → ∀ cs, cs ∈ v' → cs.length = e
  | [], v, h, he, cs, hm => by cases hm
  | a :: x, v, h, he, cs, hm => by
    cases v with
    | nil => simp [fitVss] at h
    | cons b y =>
      simp [fitVss] at h
      rcases List.mem_cons.1 hm with rfl | hm
      · rw [fitVs_length h.1]; exact he b (List.mem_cons_self ..)
      · exact fitVss_len h.2 (fun c hc => he c (List.mem_cons_of_mem _ hc)) cs hm
end
theorem fitVss_get {ρ : Ren} {σ : Bnd} : ∀ {v' v : List (List V)}, fitVss ρ σ v' v = true → ∀ {i : Nat} {cs : List V}, v'[i]? = some cs → ∃ ds, v[i]? = some ds ∧ fitVs ρ σ cs ds = true
  | [], v, h, i, cs, hi => by simp at hi
  | a :: x, v, h, i, cs, hi => by
    cases v with
    | nil => simp [fitVss] at h
    | cons b y =>
      simp [fitVss] at h
      cases i with
      | zero => simp at hi; subst hi; exact ⟨b, by simp, h.1⟩
      | succ i => simp at hi; simpa using fitVss_get h.2 hi
theorem fitVs_get {ρ : Ren} {σ : Bnd} : ∀ {v' v : List V}, fitVs ρ σ v' v = true → ∀ {i : Nat} {c : V}, v'[i]? = some c → ∃ d, v[i]? = some d ∧ fitV ρ σ c d = true
  | [], v, h, i, cs, hi => by simp at hi
  | a :: x, v, h, i, cs, hi => by
    cases v with
    | nil => simp [fitVs] at h
    | cons b y =>
      simp [fitVs] at h
      cases i with
      | zero => simp at hi; subst hi; exact ⟨b, by simp, h.1⟩
      | succ i => simp at hi; simpa using fitVs_get h.2 hi
theorem fitE_get {ρ : Ren} {σ : Bnd} {e : Env} : ∀ {l : List (Nat × V)}, fitE ρ σ e l = true → ∀ {t : Nat} {v : V}, (t, v) ∈ l → ∃ v', e.get t = some v' ∧ fitV ρ σ v v' = true
  | [], _, t, v, hm => by cases hm
  | (s, u) :: l, h, t, v, hm => by
    simp only [fitE, Bool.and_eq_true] at h
    rcases List.mem_cons.1 hm with e1 | hm
    · cases e1
      have h1 := h.1
      split at h1
      · rename_i v' hv'; exact ⟨v', hv', h1⟩
      · cases h1
    · exact fitE_get h.2 hm
theorem fitH_get {ρ : Ren} {σ : Bnd} {h : Tr Blk} : ∀ {l : List (Nat × Blk)}, fitH ρ σ h l = true → ∀ {a : Nat} {b : Blk}, (a, b) ∈ l → ∃ a' b', lookN a ρ = some a' ∧ h.get a' = some b' ∧ fitBlk ρ σ b b' = true
  | [], _, t, v, hm => by cases hm
  | (s, u) :: l, h, t, v, hm => by
    simp only [fitH, Bool.and_eq_true] at h
    rcases List.mem_cons.1 hm with e1 | hm
    · cases e1
      have h1 := h.1
      split at h1
      · rename_i a' ha'
        split at h1
        · rename_i b' hb'
          exact ⟨a', b', ha', hb', h1⟩
        · cases h1
      · cases h1
    · exact fitH_get h.2 hm
theorem mkEnv_get : ∀ {l : List (Nat × V)}, (∀ a b, (a, b) ∈ l → a < lim) → ∀ {a : Nat} {b : V}, (mkEnv l).get a = some b → (a, b) ∈ l
  | [], _, a, b, h => by cases h
  | (c, d) :: l, hl, a, b, h => by
    simp only [mkEnv] at h
    rw [Tr.get_put _ _ _ _ (hl c d (List.mem_cons_self ..))] at h
    split at h
    · rename_i e
      cases h; subst e
      exact List.mem_cons_self ..
    · exact List.mem_cons_of_mem _ (mkEnv_get (fun a b hm => hl a b (List.mem_cons_of_mem _ hm)) h)
theorem notIn_spec {x : Nat} : ∀ {l : List Nat}, notIn x l = true → x ∉ l
  | [], _, hm => by cases hm
  | y :: l, h, hm => by
    simp only [notIn, Bool.and_eq_true, Bool.not_eq_true'] at h
    rcases List.mem_cons.1 hm with rfl | hm
    · have := Nat.beq_refl x
      rw [this] at h; cases h.1
    · exact notIn_spec h.2 hm
theorem lookN_key {α : Type} {n : Nat} {x : α} {l : List (Nat × α)} (h : lookN n l = some x) : (n, x) ∈ l := lookN_mem h
theorem apart_inj {x : Nat} : ∀ {ρ : Ren}, apartL (ρ.map (·.2)) = true → ∀ {a b : Nat}, lookN a ρ = some x → lookN b ρ = some x → a = b
  | [], _, a, b, ha, hb => by cases ha
  | (c, y) :: ρ, h, a, b, ha, hb => by
    simp only [List.map_cons, apartL, Bool.and_eq_true] at h
    have hn := notIn_spec h.1
    simp only [lookN, cond_eq_ite] at ha hb
    split at ha
    · rename_i h1
      cases ha
      split at hb
      · rename_i h2
        exact (Nat.eq_of_beq_eq_true h1).trans (Nat.eq_of_beq_eq_true h2).symm
      · exact (hn (List.mem_map.2 ⟨_, lookN_mem hb, rfl⟩)).elim
    · split at hb
      · cases hb
        exact (hn (List.mem_map.2 ⟨_, lookN_mem ha, rfl⟩)).elim
      · exact apart_inj h.2 ha hb

/-- A memory under other numbers. -/
theorem Rel.ren {F : Nat → Option Obj} {G : Gh} {S : St} {H : Array Obj} (R : Rel F G S H) {ρ : Ren} {σ : Bnd} {n' : Nat} (hr : renOK ρ n' = true) {l : List (Nat × Blk)} (hf : fitH ρ σ S.heap l = true) :
    Rel F (G.ren ρ σ) ⟨n', mkHeap l⟩ H := by
  simp only [renOK, Bool.and_eq_true, List.all_eq_true, Nat.blt_eq, Nat.ble_eq] at hr
  obtain ⟨⟨hlt, hlim⟩, hap⟩ := hr
  have key : ∀ a x, lookN a ρ = some x → a < n' := fun a x h => hlt _ (lookN_mem h)
  have hmem : ∀ {a b}, (mkHeap l).get a = some b → (a, b) ∈ l := fun {a b} h => mkHeap_get (fun a b hm => by
    obtain ⟨a', b', h1, _⟩ := fitH_get hf hm
    have := key _ _ h1
    omega) h
  have hol : ∀ a i, Holds (G.ren ρ σ) a i → ∃ a', lookN a ρ = some a' ∧ Holds G a' i := by
    intro a i h
    rcases h with ⟨L, hL, e⟩ | h
    · simp only [Gh.ren] at hL
      cases hx : lookN a ρ with
      | none => rw [hx] at hL; cases hL
      | some x => rw [hx] at hL; exact ⟨x, rfl, .inl ⟨L, hL, e⟩⟩
    · simp only [Gh.ren] at h
      cases hx : lookN a ρ with
      | none => rw [hx] at h; cases h
      | some x => rw [hx] at h; exact ⟨x, rfl, .inr h⟩
  constructor
  · intro a ha
    have ha' : n' ≤ a := ha
    cases hx : lookN a ρ with
    | none => simp [Gh.ren, hx]
    | some x => have := key _ _ hx; omega
  · intro a L hL
    simp only [Gh.ren] at hL ⊢
    cases hx : lookN a ρ with
    | none => rfl
    | some x => rw [hx] at hL; exact R.sep x L hL
  · intro a b hb
    obtain ⟨a', b', h1, h2, h3⟩ := fitH_get hf (hmem hb)
    have hB := R.blk a' b' h2
    cases b with
    | row v es el =>
      cases b' with
      | row v' es' el' =>
        simp only [fitBlk, Bool.and_eq_true, Nat.beq_eq] at h3
        obtain ⟨⟨rfl, rfl⟩, h3⟩ := h3
        obtain ⟨L, hL, r1, r2, r3, c, ty, fr, r4, r5, r6, r7⟩ := hB
        refine ⟨L, by simp [Gh.ren, h1, hL], r1, r2, by rw [fitVss_length h3]; exact r3, c, ty, fr, r4, r5, r6, ?_⟩
        intro i cs hcs
        obtain ⟨ds, hds, hfit⟩ := fitVss_get h3 hcs
        obtain ⟨q1, q2⟩ := r7 i ds hds
        refine ⟨by rw [fitVs_length hfit]; exact q1, fun j x hx => ?_⟩
        obtain ⟨y, hy, hxy⟩ := fitVs_get hfit hx
        obtain ⟨w, w1, w2⟩ := q2 j y hy
        exact ⟨w, w1, fitV_VR hxy w2⟩
      | _ => simp [fitBlk] at h3
    | _ => simp [fitBlk] at h3
  · intro a a' b b' i hb hb' ha ha'
    obtain ⟨x, x1, x2⟩ := hol a i ha
    obtain ⟨y, y1, y2⟩ := hol a' i ha'
    obtain ⟨x', c, h1, h2, _⟩ := fitH_get hf (hmem hb)
    obtain ⟨y', d, h3, h4, _⟩ := fitH_get hf (hmem hb')
    rw [x1] at h1; cases h1
    rw [y1] at h3; cases h3
    have := R.inj x y c d i h2 h4 x2 y2
    subst this
    exact apart_inj hap x1 y1
  · exact R.fr
  · exact R.pr
  · intro a b i hb ha
    obtain ⟨x, x1, x2⟩ := hol a i ha
    obtain ⟨x', c, h1, h2, _⟩ := fitH_get hf (hmem hb)
    rw [x1] at h1; cases h1
    exact R.own x c i h2 x2
  · intro a i ha
    obtain ⟨x, x1, x2⟩ := hol a i ha
    exact R.lt x i x2
  · intro a b hb
    obtain ⟨x', c, h1, _⟩ := fitH_get hf (hmem hb)
    have := key _ _ h1
    omega
theorem EnvR.ren {G : Gh} {n : Nat} {e : Env} {tmps : Array Value} (h : EnvR G n e tmps) {ρ : Ren} {σ : Bnd} {l : List (Nat × V)} (hn : n ≤ lim) (hs : slotsOK n l = true) (hf : fitE ρ σ e l = true) :
    EnvR (G.ren ρ σ) n (mkEnv l) tmps := by
  simp only [slotsOK, List.all_eq_true, Nat.blt_eq] at hs
  refine ⟨h.1, fun t v ht => ?_⟩
  have hm := mkEnv_get (fun a b hm => Nat.lt_of_lt_of_le (hs _ hm) hn) ht
  obtain ⟨v', h1, h2⟩ := fitE_get hf hm
  obtain ⟨w, w1, w2⟩ := h.2 t v' h1
  exact ⟨w, w1, fitV_VR h2 w2⟩
end Go.AM
