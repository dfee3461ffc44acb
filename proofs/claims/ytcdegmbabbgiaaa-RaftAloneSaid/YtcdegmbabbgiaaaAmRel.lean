/-
  What the abstract memory says of the model's: the relation, and how it is kept.
-/
import Derived.Test.YtcdegmbabbgiaaaAmDef
namespace Go.AM

/-! ### Trees -/
theorem Tr.get_node {α : Type} (l : Tr α) (v : Option α) (r : Tr α) (m : Nat) :
    (Tr.node l v r).get m = if m = 0 then v else if m % 2 = 1 then l.get (m / 2) else r.get (m / 2 - 1) := by
  simp only [Tr.get, cond_eq_ite, Nat.beq_eq]
theorem Tr.get_nil {α : Type} (m : Nat) : (Tr.nil : Tr α).get m = none := rfl
theorem Tr.get_set {α : Type} : ∀ (f : Nat) (t : Tr α) (n m : Nat) (x : α), n + 1 < 2 ^ f →
    (Tr.set f t n x).get m = if m = n then some x else t.get m := by
  intro f
  induction f with
  | zero => intro t n m x h; simp at h
  | succ f ih =>
    intro t n m x h
    have h2 : 2 ^ (f + 1) = 2 * 2 ^ f := by rw [Nat.pow_succ]; omega
    rw [h2] at h
    have hl : n % 2 = 1 → n / 2 + 1 < 2 ^ f := by intro _; omega
    have hr : n ≠ 0 → n % 2 ≠ 1 → n / 2 - 1 + 1 < 2 ^ f := by intro _ _; omega
    cases t with
    | nil =>
      simp only [Tr.set, cond_eq_ite, Nat.beq_eq]
      split
      · rw [Tr.get_node]; subst n
        split <;> simp [Tr.get_nil, *]
      · split
        · rename_i h0 h1
          rw [Tr.get_node, ih _ _ _ _ (hl h1)]
          by_cases hm : m = n
          · subst hm; simp [h0, h1]
          · simp only [Tr.get_nil, hm, if_false]
            split
            · rfl
            · split
              · rw [if_neg (by omega)]
              · rfl
        · rename_i h0 h1
          rw [Tr.get_node, ih _ _ _ _ (hr h0 h1)]
          by_cases hm : m = n
          · subst hm; simp [h0, h1]
          · simp only [Tr.get_nil, hm, if_false]
            split
            · rfl
            · split
              · rfl
              · rw [if_neg (by omega)]
    | node l v r =>
      simp only [Tr.set, cond_eq_ite, Nat.beq_eq]
      split
      · subst n; rw [Tr.get_node, Tr.get_node]
        split <;> simp [*]
      · split
        · rename_i h0 h1
          rw [Tr.get_node, Tr.get_node, ih _ _ _ _ (hl h1)]
          by_cases hm : m = n
          · subst hm; simp [h0, h1]
          · simp only [hm, if_false]
            split
            · rfl
            · split
              · rw [if_neg (by omega)]
              · rfl
        · rename_i h0 h1
          rw [Tr.get_node, Tr.get_node, ih _ _ _ _ (hr h0 h1)]
          by_cases hm : m = n
          · subst hm; simp [h0, h1]
          · simp only [hm, if_false]
            split
            · rfl
            · split
              · rfl
              · rw [if_neg (by omega)]
theorem Tr.get_put {α : Type} (t : Tr α) (n m : Nat) (x : α) (h : n < lim) : (t.put n x).get m = if m = n then some x else t.get m :=
  Tr.get_set 32 t n m x (by unfold lim at h; omega)
theorem Tr.get_put_same {α : Type} (t : Tr α) (n : Nat) (x : α) (h : n < lim) : (t.put n x).get n = some x := by rw [Tr.get_put t n n x h, if_pos rfl]
theorem Tr.get_put_ne {α : Type} (t : Tr α) (n m : Nat) (x : α) (h : n < lim) (hm : m ≠ n) : (t.put n x).get m = t.get m := by rw [Tr.get_put t n m x h, if_neg hm]

/-! ### Where the blocks lie -/
/-- Where a row lies in the model's memory: its present version, the block, the first cell, how many elements have room, the cells of one. -/
structure Loc where
  ver : Nat
  cb : Nat
  co : Nat
  cap : Nat
  es : Nat
/-- What is known beside: where the rows lie, where the maps lie, which blocks never change. -/
structure Gh where
  loc : Nat → Option Loc
  ml : Nat → Option Nat
  pr : Nat → Option Obj
  /-- what the tokens stand for -/
  sy : Nat → Int := fun _ => 0
/-- What a token, or a residue, says of an int. -/
def resP (sy : Nat → Int) (m r : Nat) (k : IntKind) (n : Int) : Prop :=
  (m < tokBase ∧ k = .i64 ∧ n % (m : Int) = (r : Int)) ∨ (tokBase ≤ m ∧ k = tokKind m ∧ n = sy (tokId m) ∧ tokLo r ≤ n ∧ n ≤ tokHi r)

structure Gh.le (G G' : Gh) : Prop where
  loc : ∀ a L, G.loc a = some L → ∃ L', G'.loc a = some L' ∧ (L' = L ∨ L.ver < L'.ver)
  ml : ∀ a b, G.ml a = some b → G'.ml a = some b
  pr : ∀ b o, G.pr b = some o → G'.pr b = some o
  sy : G'.sy = G.sy
theorem Gh.le_refl (G : Gh) : G.le G := ⟨fun _ L h => ⟨L, h, .inl rfl⟩, fun _ _ h => h, fun _ _ h => h, rfl⟩
theorem Gh.le_trans {A B C : Gh} (h : A.le B) (k : B.le C) : A.le C := by
  refine ⟨fun a L ha => ?_, fun a b hb => k.ml a b (h.ml a b hb), fun b o hb => k.pr b o (h.pr b o hb), k.sy.trans h.sy⟩
  obtain ⟨L1, h1, e1⟩ := h.loc a L ha
  obtain ⟨L2, h2, e2⟩ := k.loc a L1 h1
  refine ⟨L2, h2, ?_⟩
  rcases e1 with rfl | e1
  · exact e2
  · rcases e2 with rfl | e2
    · exact .inr e1
    · exact .inr (Nat.lt_trans e1 e2)

def PtrAt (G : Gh) (a ver i j : Nat) (p : Addr) : Prop :=
  ∃ L, G.loc a = some L ∧ (ver < L.ver ∨ (ver = L.ver ∧ p = ⟨L.cb, L.co + i * L.es + j, none⟩))
def SlAt (G : Gh) (a ver es off len : Nat) (p : Addr) (n c : Nat) : Prop :=
  n = len ∧ len ≤ c ∧ ∃ L, G.loc a = some L ∧ (ver < L.ver ∨ (ver = L.ver ∧ es = L.es ∧ off + c ≤ L.cap ∧ (c ≠ 0 → p = ⟨L.cb, L.co + off * L.es, none⟩)))

mutual
inductive VR (G : Gh) : V → Value → Prop
  | bool (b : Bool) : VR G (.bool b) (.bool b)
  | int (k : IntKind) (n : Int) : VR G (.int k n) (.int k n)
  | str (s : List UInt8) : VR G (.str s) (.string ⟨⟨s⟩⟩)
  | nilp : VR G .nilp (.pointer none)
  | ptr (a ver i j : Nat) (p : Addr) (h : PtrAt G a ver i j p) : VR G (.ptr a ver i j) (.pointer (some p))
  | iptr (cs : List V) (j : Nat) (b o : Nat) (c : Array Value) (ty : TypeId) (fr : Nat × Nat) (hb : G.pr b = some (.cells c ty fr)) (vs : List Value)
      (hv : ∀ k v, vs[k]? = some v → c[o + k]? = some v) (h : VRs G cs vs) : VR G (.iptr cs j) (.pointer (some ⟨b, o + j, none⟩))
  | nils : VR G .nils (.slice none 0 0)
  | sl (a ver es off len : Nat) (p : Addr) (n c : Nat) (h : SlAt G a ver es off len p n c) : VR G (.sl a ver es off len) (.slice (some p) n c)
  | imm (es : List (List V)) (p : Addr) (n c e : Nat) (hn : n = es.length) (hc : n ≤ c) (vs : List (List Value)) (h : VRss G es vs) (he : ∀ cs, cs ∈ es → cs.length = e)
      (hp : n = 0 ∨ ∃ (ca : Array Value) (ty : TypeId) (fr : Nat × Nat), G.pr p.block = some (.cells ca ty fr) ∧ p.spot = none ∧
        ∀ i l, vs[i]? = some l → ∀ k v, l[k]? = some v → ca[p.off + i * e + k]? = some v) : VR G (.imm es) (.slice (some p) n c)
  | agg (cs : List V) (vs : Array Value) (h : VRs G cs vs.toList) : VR G (.agg cs) (.agg vs)
  | tup (cs : List V) (vs : Array Value) (h : VRs G cs vs.toList) : VR G (.tup cs) (.tuple vs)
  | nili : VR G .nili .nilIface
  | iface (t : TypeId) (v : V) (w : Value) (h : VR G v w) : VR G (.iface t v) (.iface t w)
  | nilf : VR G .nilf .nilFunc
  | func (f : FuncId) (a b : List V) (x y : Array Value) (ha : VRs G a x.toList) (hb : VRs G b y.toList) : VR G (.func f a b) (.func (.func f) x y)
  | nilm : VR G .nilm (.map none)
  | mp (a cb : Nat) (h : G.ml a = some cb) : VR G (.mp a) (.map (some cb))
  | res (m r : Nat) (k : IntKind) (n : Int) (h : resP G.sy m r k n) : VR G (.res m r) (.int k n)
inductive VRs (G : Gh) : List V → List Value → Prop
  | nil : VRs G [] []
  | cons (v : V) (w : Value) (vs : List V) (ws : List Value) (h : VR G v w) (t : VRs G vs ws) : VRs G (v :: vs) (w :: ws)
inductive VRss (G : Gh) : List (List V) → List (List Value) → Prop
  | nil : VRss G [] []
  | cons (v : List V) (w : List Value) (vs : List (List V)) (ws : List (List Value)) (h : VRs G v w) (t : VRss G vs ws) : VRss G (v :: vs) (w :: ws)
end

theorem PtrAt.mono {G G' : Gh} (hg : G.le G') {a ver i j : Nat} {p : Addr} (h : PtrAt G a ver i j p) : PtrAt G' a ver i j p := by
  obtain ⟨L, hL, h⟩ := h
  obtain ⟨L', hL', e⟩ := hg.loc a L hL
  refine ⟨L', hL', ?_⟩
  rcases e with rfl | e
  · exact h
  · rcases h with h | ⟨h, _⟩
    · exact .inl (Nat.lt_trans h e)
    · exact .inl (h ▸ e)
theorem SlAt.mono {G G' : Gh} (hg : G.le G') {a ver es off len : Nat} {p : Addr} {n c : Nat} (h : SlAt G a ver es off len p n c) : SlAt G' a ver es off len p n c := by
  obtain ⟨hn, hc, L, hL, h⟩ := h
  obtain ⟨L', hL', e⟩ := hg.loc a L hL
  refine ⟨hn, hc, L', hL', ?_⟩
  rcases e with rfl | e
  · exact h
  · rcases h with h | ⟨h, _⟩
    · exact .inl (Nat.lt_trans h e)
    · exact .inl (h ▸ e)

mutual
theorem VR.mono {G G' : Gh} (hg : G.le G') {v : V} {w : Value} (h : VR G v w) : VR G' v w := by
  cases h with
  | bool b => exact .bool b
  | int k n => exact .int k n
  | str s => exact .str s
  | nilp => exact .nilp
  | ptr a ver i j p h => exact .ptr a ver i j p (h.mono hg)
  | iptr cs j b o c ty fr hb vs hv h => exact .iptr cs j b o c ty fr (hg.pr _ _ hb) vs hv (VRs.mono hg h)
  | nils => exact .nils
  | sl a ver es off len p n c h => exact .sl a ver es off len p n c (h.mono hg)
  | imm es p n c e hn hc vs h he hp =>
    refine .imm es p n c e hn hc vs (VRss.mono hg h) he (hp.imp id ?_)
    rintro ⟨ca, ty, fr, h1, h2, h3⟩
    exact ⟨ca, ty, fr, hg.pr _ _ h1, h2, h3⟩
  | agg cs vs h => exact .agg cs vs (VRs.mono hg h)
  | tup cs vs h => exact .tup cs vs (VRs.mono hg h)
  | nili => exact .nili
  | iface t v w h => exact .iface t v w (VR.mono hg h)
  | nilf => exact .nilf
  | func f a b x y ha hb => exact .func f a b x y (VRs.mono hg ha) (VRs.mono hg hb)
  | nilm => exact .nilm
  | mp a cb h => exact .mp a cb (hg.ml _ _ h)
  | res m r k n h => exact .res m r k n (by rw [hg.sy]; exact h)
theorem VRs.mono {G G' : Gh} (hg : G.le G') {v : List V} {w : List Value} (h : VRs G v w) : VRs G' v w := by
  cases h with
  | nil => exact .nil
  | cons v w vs ws h t => exact .cons v w vs ws (VR.mono hg h) (VRs.mono hg t)
theorem VRss.mono {G G' : Gh} (hg : G.le G') {v : List (List V)} {w : List (List Value)} (h : VRss G v w) : VRss G' v w := by
  cases h with
  | nil => exact .nil
  | cons v w vs ws h t => exact .cons v w vs ws (VRs.mono hg h) (VRss.mono hg t)
end

/-! ### Lists of values, place by place -/
theorem VRs.length {G : Gh} {vs : List V} {ws : List Value} (h : VRs G vs ws) : vs.length = ws.length := by
  induction vs generalizing ws with
  | nil => cases h; rfl
  | cons v vs ih => cases h with | cons _ w _ ws _ t => simp [ih t]
theorem VRs.get {G : Gh} {vs : List V} {ws : List Value} (h : VRs G vs ws) {i : Nat} {v : V} (hv : vs[i]? = some v) : ∃ w, ws[i]? = some w ∧ VR G v w := by
  induction vs generalizing ws i with
  | nil => simp at hv
  | cons x vs ih =>
    cases h with
    | cons _ w _ ws hx t =>
      cases i with
      | zero => simp at hv; subst hv; exact ⟨w, by simp, hx⟩
      | succ i => simp at hv; simpa using ih t hv
theorem VRs.of {G : Gh} {vs : List V} {ws : List Value} (hl : vs.length = ws.length) (h : ∀ (i : Nat) (v : V) (w : Value), vs[i]? = some v → ws[i]? = some w → VR G v w) : VRs G vs ws := by
  induction vs generalizing ws with
  | nil => cases ws with
    | nil => exact .nil
    | cons w ws => simp at hl
  | cons v vs ih => cases ws with
    | nil => simp at hl
    | cons w ws =>
      refine .cons v w vs ws (h 0 v w (by simp) (by simp)) (ih (by simpa using hl) fun i v w hv hw => h (i + 1) v w (by simpa using hv) (by simpa using hw))
theorem VRs.append {G : Gh} {a b : List V} {x y : List Value} (h : VRs G a x) (k : VRs G b y) : VRs G (a ++ b) (x ++ y) := by
  induction a generalizing x with
  | nil => cases h; simpa using k
  | cons v a ih => cases h with | cons _ w _ ws hv t => exact .cons v w _ _ hv (ih t)
theorem VRs.take {G : Gh} {a : List V} {x : List Value} (h : VRs G a x) (n : Nat) : VRs G (a.take n) (x.take n) := by
  refine VRs.of (by simp [h.length]) fun i v w hv hw => ?_
  rw [List.getElem?_take] at hv hw
  split at hv
  · obtain ⟨w', hw', r⟩ := h.get hv
    rw [if_pos (by assumption)] at hw
    rw [hw'] at hw; cases hw; exact r
  · cases hv
theorem VRs.drop {G : Gh} {a : List V} {x : List Value} (h : VRs G a x) (n : Nat) : VRs G (a.drop n) (x.drop n) := by
  refine VRs.of (by simp [h.length]) fun i v w hv hw => ?_
  rw [List.getElem?_drop] at hv hw
  obtain ⟨w', hw', r⟩ := h.get hv
  rw [hw'] at hw; cases hw; exact r
theorem VRs.replicate {G : Gh} {v : V} {w : Value} (h : VR G v w) (n : Nat) : VRs G (List.replicate n v) (List.replicate n w) := by
  induction n with
  | zero => exact .nil
  | succ n ih => exact .cons _ _ _ _ h ih
theorem VR.cells {G : Gh} {v : V} {w : Value} (h : VR G v w) : VRs G v.cells w.cells.toList := by
  cases h <;> first
    | (simp only [V.cells, Value.cells]; assumption)
    | (simp only [V.cells, Value.cells]; exact .cons _ _ _ _ (by constructor <;> assumption) .nil)
    | skip
theorem VR.one {G : Gh} {v : V} {w : Value} (h : VR G v w) (ho : v.one = true) : w.oneCell' = true := by
  cases h <;> first | rfl | (simp [V.one] at ho)
theorem ofLit_VR (G : Gh) {w : Value} {v : V} (h : ofLit w = some v) : VR G v w := by
  unfold ofLit at h
  split at h <;> first | (cases h; first | exact .bool _ | exact .int _ _ | exact .nilp | exact .nils | exact .nili | exact .nilf | exact .nilm | skip) | skip
  rename_i s
  obtain ⟨⟨l⟩⟩ := s
  exact .str l
theorem ofLits_VRs (G : Gh) : ∀ {ws : List Value} {vs : List V}, ofLits ws = some vs → VRs G vs ws
  | [], vs, h => by simp [ofLits] at h; subst h; exact .nil
  | w :: ws, vs, h => by
    simp only [ofLits] at h
    split at h
    · rename_i x hx
      split at h
      · rename_i xs hxs
        cases h
        exact .cons _ _ _ _ (ofLit_VR G hx) (ofLits_VRs G hxs)
      · cases h
    · cases h
theorem ofValue_VR (G : Gh) {w : Value} {v : V} (h : ofValue w = some v) : VR G v w := by
  unfold ofValue at h
  split at h
  · split at h
    · rename_i hx; cases h; exact .agg _ _ (ofLits_VRs G hx)
    · cases h
  · exact ofLit_VR G h
end Go.AM
