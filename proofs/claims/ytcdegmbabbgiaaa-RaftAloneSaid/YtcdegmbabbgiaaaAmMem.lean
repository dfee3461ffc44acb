/-
  The relation between the abstract memory and the model's, and how an allocation, a store and a load keep it.
-/
import Derived.Test.YtcdegmbabbgiaaaAmRel
namespace Go.AM

/-- Nothing beside the memory has changed, and no block has gone. -/
structure Same (W W' : World) : Prop where
  os : W'.os = W.os
  tape : W'.tape = W.tape
  output : W'.output = W.output
  size : W.heap.size ≤ W'.heap.size
theorem Same.refl (W : World) : Same W W := ⟨rfl, rfl, rfl, Nat.le_refl _⟩
theorem Same.trans {A B C : World} (h : Same A B) (k : Same B C) : Same A C :=
  ⟨k.os.trans h.os, k.tape.trans h.tape, k.output.trans h.output, Nat.le_trans h.size k.size⟩
theorem Same.drew (W : World) : Same W W.drew := ⟨rfl, rfl, rfl, Nat.le_refl _⟩
theorem Same.alloc (W : World) (o : Obj) : Same W (W.alloc o) := ⟨rfl, rfl, rfl, by simp⟩

def RowR (G : Gh) (c : Array Value) (o es : Nat) (elems : List (List V)) : Prop :=
  ∀ i cs, elems[i]? = some cs → cs.length = es ∧ ∀ j v, cs[j]? = some v → ∃ w, c[o + i * es + j]? = some w ∧ VR G v w
theorem RowR.mono {G G' : Gh} (hg : G.le G') {c : Array Value} {o es : Nat} {elems : List (List V)} (h : RowR G c o es elems) : RowR G' c o es elems :=
  fun i cs hc => ⟨(h i cs hc).1, fun j v hv => let ⟨w, a, b⟩ := (h i cs hc).2 j v hv; ⟨w, a, b.mono hg⟩⟩
def RowAt (G : Gh) (H : Array Obj) (L : Loc) (ver es : Nat) (elems : List (List V)) : Prop :=
  L.ver = ver ∧ L.es = es ∧ elems.length ≤ L.cap ∧ ∃ c ty fr, H[L.cb]? = some (.cells c ty fr) ∧ L.co + L.cap * es ≤ c.size ∧
    ((∀ o, L.co ≤ o → o < L.co + L.cap * es → ¬ (fr.1 ≤ o ∧ o < fr.2)) ∧ (es ≠ 1 → ¬ (fr.1 ≤ c.size ∧ c.size < fr.2))) ∧ RowR G c L.co es elems
inductive MapR (G : Gh) : List MapEntry → List (V × V) → Prop
  | nil : MapR G [] []
  | cons (e : MapEntry) (k v : V) (es : List MapEntry) (l : List (V × V)) (hk : VR G k e.key) (hv : VR G v e.val) (t : MapR G es l) : MapR G (e :: es) ((k, v) :: l)
theorem MapR.mono {G G' : Gh} (hg : G.le G') : ∀ {es : List MapEntry} {l : List (V × V)}, MapR G es l → MapR G' es l
  | _, _, .nil => .nil
  | _, _, .cons e k v es l hk hv t => .cons e k v es l (hk.mono hg) (hv.mono hg) (t.mono hg)
def BlkAt (G : Gh) (H : Array Obj) (a : Nat) : Blk → Prop
  | .row ver es elems => ∃ L, G.loc a = some L ∧ RowAt G H L ver es elems
  | .mp kvs => ∃ b es clock, G.ml a = some b ∧ H[b]? = some (.map es clock) ∧ MapR G es.toList kvs ∧ (∀ e ∈ es.toList, e.born < clock) ∧ (es.toList.map (·.born)).Nodup
  | .iter s pos => ∃ L, G.loc a = some L ∧ L.ver = 0 ∧ L.co = 0 ∧ H[L.cb]? = some (.stringIter ⟨⟨s⟩⟩ pos)
def Holds (G : Gh) (a i : Nat) : Prop := (∃ L, G.loc a = some L ∧ L.cb = i) ∨ G.ml a = some i

structure RelH (F : Nat → Option Obj) (G : Gh) (nx : Nat) (hp : Nat → Option Blk) (H : Array Obj) : Prop where
  fresh : ∀ a, nx ≤ a → G.loc a = none ∧ G.ml a = none
  sep : ∀ a L, G.loc a = some L → G.ml a = none
  blk : ∀ a b, hp a = some b → BlkAt G H a b
  inj : ∀ a a' b b' i, hp a = some b → hp a' = some b' → Holds G a i → Holds G a' i → a = a'
  fr : ∀ i o, F i = some o → H[i]? = some o
  pr : ∀ i o, G.pr i = some o → H[i]? = some o
  own : ∀ a b i, hp a = some b → Holds G a i → F i = none ∧ G.pr i = none
  lt : ∀ a i, Holds G a i → i < H.size
  small : ∀ a b, hp a = some b → a < lim
abbrev Rel (F : Nat → Option Obj) (G : Gh) (S : St) (H : Array Obj) : Prop := RelH F G S.next S.heap.get H

theorem BlkAt.next {G : Gh} {H : Array Obj} {a : Nat} {b : Blk} (h : BlkAt G H a b) : ∃ i, Holds G a i := by
  cases b with
  | row ver es elems => obtain ⟨L, hL, _⟩ := h; exact ⟨L.cb, .inl ⟨L, hL, rfl⟩⟩
  | mp kvs => obtain ⟨i, _, _, hi, _⟩ := h; exact ⟨i, .inr hi⟩
  | iter s pos => obtain ⟨L, hL, _⟩ := h; exact ⟨L.cb, .inl ⟨L, hL, rfl⟩⟩
theorem RelH.alive {F : Nat → Option Obj} {G : Gh} {nx : Nat} {hp : Nat → Option Blk} {H : Array Obj} (R : RelH F G nx hp H) {a : Nat} {b : Blk} (h : hp a = some b) : a < nx := by
  rcases Nat.lt_or_ge a nx with k | k
  · exact k
  · obtain ⟨i, hi⟩ := (R.blk a b h).next
    have := R.fresh a k
    rcases hi with ⟨L, hL, _⟩ | hi
    · rw [this.1] at hL; cases hL
    · rw [this.2] at hi; cases hi

theorem Gh.le_set {G : Gh} {a : Nat} {L L' : Loc} (hL : G.loc a = some L) (hver : L' = L ∨ L.ver < L'.ver) : G.le { G with loc := fun x => if x = a then some L' else G.loc x } := by
  refine ⟨fun x K hK => ?_, fun _ _ h => h, fun _ _ h => h, rfl⟩
  by_cases hx : x = a
  · subst hx
    rw [hL] at hK; cases hK
    exact ⟨L', by simp, hver⟩
  · exact ⟨K, by simp [hx, hK], .inl rfl⟩
/-- One block is set, in its own place or in a new one; all other blocks are as they were. -/
theorem RelH.setBlk {F : Nat → Option Obj} {G : Gh} {S : St} {H H' : Array Obj} (R : Rel F G S H) {a : Nat} {b0 : Blk} (hget : S.heap.get a = some b0)
    {L L' : Loc} (hL : G.loc a = some L) (hver : L' = L ∨ L.ver < L'.ver) (hcb : L'.cb = L.cb ∨ L'.cb = H.size)
    (hoth : ∀ i, i < H.size → i ≠ L'.cb → H'[i]? = H[i]?) (hsz : H.size ≤ H'.size) (hlt : L'.cb < H'.size) {nb : Blk}
    (row : BlkAt { G with loc := fun x => if x = a then some L' else G.loc x } H' a nb) :
    G.le { G with loc := fun x => if x = a then some L' else G.loc x } ∧
    Rel F { G with loc := fun x => if x = a then some L' else G.loc x } ⟨S.next, S.heap.put a nb⟩ H' := by
  have hlim := R.small a b0 hget
  have hle : G.le { G with loc := fun x => if x = a then some L' else G.loc x } := by
    refine ⟨fun x K hK => ?_, fun _ _ h => h, fun _ _ h => h, rfl⟩
    by_cases hx : x = a
    · subst hx
      rw [hL] at hK; cases hK
      exact ⟨L', by simp, hver⟩
    · exact ⟨K, by simp [hx, hK], .inl rfl⟩
  have holds : ∀ x i, x ≠ a → Holds { G with loc := fun x => if x = a then some L' else G.loc x } x i → Holds G x i := by
    intro x i hx h
    rcases h with ⟨K, hK, e⟩ | h
    · simp [hx] at hK; exact .inl ⟨K, hK, e⟩
    · exact .inr h
  have holda : ∀ i, Holds { G with loc := fun x => if x = a then some L' else G.loc x } a i → i = L'.cb := by
    intro i h
    rcases h with ⟨K, hK, e⟩ | h
    · simp at hK; subst hK; exact e.symm
    · have := R.sep a L hL
      change G.ml a = some i at h
      rw [this] at h; cases h
  have hLa : Holds G a L.cb := .inl ⟨L, hL, rfl⟩
  have nota : ∀ x b, S.heap.get x = some b → x ≠ a → ¬ Holds G x L'.cb := by
    intro x b hb hx h
    rcases hcb with e | e
    · rw [e] at h
      exact hx (R.inj x a b b0 L.cb hb hget h hLa)
    · have := R.lt x _ h; omega
  refine ⟨hle, ?_⟩
  constructor
  · intro x hx
    have hx' : S.next ≤ x := hx
    have : x ≠ a := fun e => by have := R.alive hget; omega
    simp only [this, if_false]
    exact R.fresh x hx'
  · intro x K hK
    by_cases hx : x = a
    · subst hx; exact R.sep _ L hL
    · simp [hx] at hK; exact R.sep x K hK
  · intro x b hb
    simp only at hb
    rw [Tr.get_put _ _ _ _ hlim] at hb
    by_cases hx : x = a
    · subst hx
      simp at hb; subst hb
      exact row
    · rw [if_neg hx] at hb
      have old := R.blk x b hb
      cases b with
      | row ver' es' elems' =>
        obtain ⟨K, hK, r1, r2, r3, c, ty, fr, hc, r4, r5, r6⟩ := old
        have hne : K.cb ≠ L'.cb := fun e => nota x _ hb hx (.inl ⟨K, hK, e⟩)
        exact ⟨K, by simp [hx, hK], r1, r2, r3, c, ty, fr, by rw [hoth _ (R.lt x _ (.inl ⟨K, hK, rfl⟩)) hne]; exact hc, r4, r5, r6.mono hle⟩
      | mp kvs =>
        obtain ⟨i, es', clock, hi, hH, r1, r2⟩ := old
        have hne : i ≠ L'.cb := fun e => nota x _ hb hx (.inr (e ▸ hi))
        exact ⟨i, es', clock, hi, by rw [hoth _ (R.lt x _ (.inr hi)) hne]; exact hH, r1.mono hle, r2⟩
      | iter s pos =>
        obtain ⟨K, hK, r1, r2, hH⟩ := old
        have hne : K.cb ≠ L'.cb := fun e => nota x _ hb hx (.inl ⟨K, hK, e⟩)
        exact ⟨K, by simp [hx, hK], r1, r2, by rw [hoth _ (R.lt x _ (.inl ⟨K, hK, rfl⟩)) hne]; exact hH⟩
  · intro x y b b' i hb hb' h1 h2
    simp only at hb hb'
    rw [Tr.get_put _ _ _ _ hlim] at hb hb'
    by_cases hx : x = a
    · by_cases hy : y = a
      · rw [hx, hy]
      · rw [if_neg hy] at hb'
        subst hx
        have e := holda i h1
        subst e
        exact absurd (holds y _ hy h2) (nota y b' hb' hy)
    · rw [if_neg hx] at hb
      by_cases hy : y = a
      · subst hy
        have e := holda i h2
        subst e
        exact absurd (holds x _ hx h1) (nota x b hb hx)
      · rw [if_neg hy] at hb'
        exact R.inj x y b b' i hb hb' (holds x i hx h1) (holds y i hy h2)
  · intro i o h
    have hlt' : i < H.size := by
      have := R.fr i o h
      exact (Array.getElem?_eq_some_iff.1 this).1
    rw [hoth i hlt' ?_]
    · exact R.fr i o h
    · intro e
      rcases hcb with e' | e'
      · have := (R.own a b0 L.cb hget hLa).1
        rw [e, e', this] at h; cases h
      · omega
  · intro i o h
    have hlt' : i < H.size := by
      have := R.pr i o h
      exact (Array.getElem?_eq_some_iff.1 this).1
    rw [hoth i hlt' ?_]
    · exact R.pr i o h
    · intro e
      rcases hcb with e' | e'
      · have := (R.own a b0 L.cb hget hLa).2
        change G.pr i = some o at h
        rw [e, e', this] at h; cases h
      · omega
  · intro x b i hb h
    simp only at hb
    rw [Tr.get_put _ _ _ _ hlim] at hb
    by_cases hx : x = a
    · subst hx
      have e := holda i h
      subst e
      rcases hcb with e' | e'
      · rw [e']; exact R.own _ b0 L.cb hget hLa
      · constructor
        · cases hF : F L'.cb with
          | none => rfl
          | some o =>
            have := (Array.getElem?_eq_some_iff.1 (R.fr _ o hF)).1; omega
        · cases hF : G.pr L'.cb with
          | none => rfl
          | some o =>
            have := (Array.getElem?_eq_some_iff.1 (R.pr _ o hF)).1; omega
    · rw [if_neg hx] at hb
      exact R.own x b i hb (holds x i hx h)
  · intro x i h
    by_cases hx : x = a
    · subst hx
      rw [holda i h]; exact hlt
    · exact Nat.lt_of_lt_of_le (R.lt x i (holds x i hx h)) hsz
  · intro x b hb
    simp only at hb
    rw [Tr.get_put _ _ _ _ hlim] at hb
    by_cases hx : x = a
    · subst hx; exact hlim
    · rw [if_neg hx] at hb; exact R.small x b hb
/-- One row is set. -/
theorem RelH.setRow {F : Nat → Option Obj} {G : Gh} {S : St} {H H' : Array Obj} (R : Rel F G S H) {a : Nat} {b0 : Blk} (hget : S.heap.get a = some b0)
    {L L' : Loc} (hL : G.loc a = some L) (hver : L' = L ∨ L.ver < L'.ver) (hcb : L'.cb = L.cb ∨ L'.cb = H.size)
    (hoth : ∀ i, i < H.size → i ≠ L'.cb → H'[i]? = H[i]?) (hsz : H.size ≤ H'.size) (hlt : L'.cb < H'.size) {ver es : Nat} {elems : List (List V)}
    (row : RowAt { G with loc := fun x => if x = a then some L' else G.loc x } H' L' ver es elems) :
    G.le { G with loc := fun x => if x = a then some L' else G.loc x } ∧
    Rel F { G with loc := fun x => if x = a then some L' else G.loc x } ⟨S.next, S.heap.put a (.row ver es elems)⟩ H' :=
  R.setBlk hget hL hver hcb hoth hsz hlt (nb := .row ver es elems) ⟨L', by simp, row⟩
/-- A block is set where it lies. -/
theorem RelH.keepBlk {F : Nat → Option Obj} {G : Gh} {S : St} {H H' : Array Obj} (R : Rel F G S H) {a : Nat} {b0 : Blk} (hget : S.heap.get a = some b0)
    {L : Loc} (hL : G.loc a = some L) (hoth : ∀ i, i ≠ L.cb → H'[i]? = H[i]?) (hsz : H'.size = H.size) {nb : Blk} (row : BlkAt G H' a nb) : Rel F G ⟨S.next, S.heap.put a nb⟩ H' := by
  have e : { G with loc := fun x => if x = a then some L else G.loc x } = G := by
    cases G with
    | mk loc ml pr =>
      congr 1
      funext x
      by_cases hx : x = a
      · subst hx; simpa using hL.symm
      · simp [hx]
  have := R.setBlk (H' := H') hget hL (.inl rfl) (.inl rfl) (fun i _ hi => hoth i hi) (by omega) (by rw [hsz]; exact R.lt a _ (.inl ⟨L, hL, rfl⟩)) (nb := nb) (by rw [e]; exact row)
  rw [e] at this
  exact this.2
/-- The same where the row stays where it lies. -/
theorem RelH.keepRow {F : Nat → Option Obj} {G : Gh} {S : St} {H H' : Array Obj} (R : Rel F G S H) {a : Nat} {b0 : Blk} (hget : S.heap.get a = some b0)
    {L : Loc} (hL : G.loc a = some L) (hoth : ∀ i, i ≠ L.cb → H'[i]? = H[i]?) (hsz : H'.size = H.size) {ver es : Nat} {elems : List (List V)}
    (row : RowAt G H' L ver es elems) : Rel F G ⟨S.next, S.heap.put a (.row ver es elems)⟩ H' := by
  have e : { G with loc := fun x => if x = a then some L else G.loc x } = G := by
    cases G with
    | mk loc ml pr =>
      congr 1
      funext x
      by_cases hx : x = a
      · subst hx; simpa using hL.symm
      · simp [hx]
  have := R.setRow (H' := H') hget hL (.inl rfl) (.inl rfl) (fun i _ hi => hoth i hi) (by omega) (by rw [hsz]; exact R.lt a _ (.inl ⟨L, hL, rfl⟩)) (ver := ver) (es := es) (elems := elems) (by rw [e]; exact row)
  rw [e] at this
  exact this.2

/-- A new block. -/
theorem RelH.allocBlk {F : Nat → Option Obj} {G : Gh} {S : St} {H : Array Obj} (R : Rel F G S H) {k nx : Nat} (hk : G.loc k = none) (hm : G.ml k = none) (hlim : k < lim)
    (hn : S.next ≤ nx) (hkn : k < nx) {ob : Obj} {cap es : Nat} {nb : Blk}
    (hrow : G.le { G with loc := fun x => if x = k then some ⟨0, H.size, 0, cap, es⟩ else G.loc x } → BlkAt { G with loc := fun x => if x = k then some ⟨0, H.size, 0, cap, es⟩ else G.loc x } (H.push ob) k nb) :
    G.le { G with loc := fun x => if x = k then some ⟨0, H.size, 0, cap, es⟩ else G.loc x } ∧
    Rel F { G with loc := fun x => if x = k then some ⟨0, H.size, 0, cap, es⟩ else G.loc x } ⟨nx, S.heap.put k nb⟩ (H.push ob) := by
  have hle : G.le { G with loc := fun x => if x = k then some ⟨0, H.size, 0, cap, es⟩ else G.loc x } := by
    refine ⟨fun x K hK => ?_, fun _ _ h => h, fun _ _ h => h, rfl⟩
    have hx : x ≠ k := fun e => by rw [e, hk] at hK; cases hK
    exact ⟨K, by simp [hx, hK], .inl rfl⟩
  have holds : ∀ x i, x ≠ k → Holds { G with loc := fun x => if x = k then some ⟨0, H.size, 0, cap, es⟩ else G.loc x } x i → Holds G x i := by
    intro x i hx h
    rcases h with ⟨K, hK, e⟩ | h
    · simp [hx] at hK; exact .inl ⟨K, hK, e⟩
    · exact .inr h
  have holdk : ∀ i, Holds { G with loc := fun x => if x = k then some ⟨0, H.size, 0, cap, es⟩ else G.loc x } k i → i = H.size := by
    intro i h
    rcases h with ⟨K, hK, e⟩ | h
    · simp at hK; subst hK; exact e.symm
    · change G.ml k = some i at h
      rw [hm] at h; cases h
  have old : ∀ i, i < H.size → (H.push ob)[i]? = H[i]? := by
    intro i hi
    rw [Array.getElem?_push, if_neg (by omega)]
  refine ⟨hle, ?_⟩
  constructor
  · intro x hx
    have hx' : nx ≤ x := hx
    have : x ≠ k := by omega
    simp only [this, if_false]
    exact R.fresh x (by omega)
  · intro x K hK
    by_cases hx : x = k
    · subst hx; exact hm
    · simp [hx] at hK; exact R.sep x K hK
  · intro x b hb
    simp only at hb
    rw [Tr.get_put _ _ _ _ hlim] at hb
    by_cases hx : x = k
    · subst hx
      simp at hb; subst hb
      exact hrow hle
    · rw [if_neg hx] at hb
      have hold := R.blk x b hb
      cases b with
      | row ver' es' elems' =>
        obtain ⟨K, hK, r1, r2, r3, c', ty', fr', hc, r4, r5, r6⟩ := hold
        exact ⟨K, by simp [hx, hK], r1, r2, r3, c', ty', fr', by rw [old _ (R.lt x _ (.inl ⟨K, hK, rfl⟩))]; exact hc, r4, r5, r6.mono hle⟩
      | mp kvs =>
        obtain ⟨i, es', clock, hi, hH, r1, r2⟩ := hold
        exact ⟨i, es', clock, hi, by rw [old _ (R.lt x _ (.inr hi))]; exact hH, r1.mono hle, r2⟩
      | iter s pos =>
        obtain ⟨K, hK, r1, r2, hH⟩ := hold
        exact ⟨K, by simp [hx, hK], r1, r2, by rw [old _ (R.lt x _ (.inl ⟨K, hK, rfl⟩))]; exact hH⟩
  · intro x y b b' i hb hb' h1 h2
    simp only at hb hb'
    rw [Tr.get_put _ _ _ _ hlim] at hb hb'
    by_cases hx : x = k
    · by_cases hy : y = k
      · rw [hx, hy]
      · subst hx
        have e := holdk i h1
        subst e
        have := R.lt y _ (holds y _ hy h2); omega
    · rw [if_neg hx] at hb
      by_cases hy : y = k
      · subst hy
        have e := holdk i h2
        subst e
        have := R.lt x _ (holds x _ hx h1); omega
      · rw [if_neg hy] at hb'
        exact R.inj x y b b' i hb hb' (holds x i hx h1) (holds y i hy h2)
  · intro i o h
    have hlt' : i < H.size := (Array.getElem?_eq_some_iff.1 (R.fr i o h)).1
    rw [old i hlt']; exact R.fr i o h
  · intro i o h
    have hlt' : i < H.size := (Array.getElem?_eq_some_iff.1 (R.pr i o h)).1
    rw [old i hlt']; exact R.pr i o h
  · intro x b i hb h
    simp only at hb
    rw [Tr.get_put _ _ _ _ hlim] at hb
    by_cases hx : x = k
    · subst hx
      have e := holdk i h
      subst e
      constructor
      · cases hF : F H.size with
        | none => rfl
        | some o => have := (Array.getElem?_eq_some_iff.1 (R.fr _ o hF)).1; omega
      · cases hF : G.pr H.size with
        | none => rfl
        | some o => have := (Array.getElem?_eq_some_iff.1 (R.pr _ o hF)).1; omega
    · rw [if_neg hx] at hb
      exact R.own x b i hb (holds x i hx h)
  · intro x i h
    by_cases hx : x = k
    · subst hx
      rw [holdk i h]; simp
    · have := R.lt x i (holds x i hx h); simp; omega
  · intro x b hb
    simp only at hb
    rw [Tr.get_put _ _ _ _ hlim] at hb
    by_cases hx : x = k
    · subst hx; exact hlim
    · rw [if_neg hx] at hb; exact R.small x b hb

/-- A new row in a new block. -/
theorem RelH.alloc {F : Nat → Option Obj} {G : Gh} {S : St} {H : Array Obj} (R : Rel F G S H) {k nx : Nat} (hk : G.loc k = none) (hm : G.ml k = none) (hlim : k < lim)
    (hn : S.next ≤ nx) (hkn : k < nx) {c : Array Value} {ty : TypeId} {fr : Nat × Nat} {cap es : Nat} {elems : List (List V)} (hlen : elems.length ≤ cap) (hsz : cap * es ≤ c.size)
    (hfr : ∀ o, o < cap * es → ¬ (fr.1 ≤ o ∧ o < fr.2)) (hfr' : es ≠ 1 → ¬ (fr.1 ≤ c.size ∧ c.size < fr.2)) (hrow : RowR G c 0 es elems) :
    G.le { G with loc := fun x => if x = k then some ⟨0, H.size, 0, cap, es⟩ else G.loc x } ∧
    Rel F { G with loc := fun x => if x = k then some ⟨0, H.size, 0, cap, es⟩ else G.loc x } ⟨nx, S.heap.put k (.row 0 es elems)⟩ (H.push (.cells c ty fr)) := by
  refine R.allocBlk hk hm hlim hn hkn (nb := .row 0 es elems) (fun hle => ?_)
  refine ⟨⟨0, H.size, 0, cap, es⟩, by simp, rfl, rfl, hlen, c, ty, fr, by simp, by simpa using hsz, ⟨?_, hfr'⟩, hrow.mono hle⟩
  intro o _ ho
  exact hfr o (by simpa using ho)

/-! ### Cells in the model's memory -/
def CellsAt (G : Gh) (W : World) (b o : Nat) (cs : List V) : Prop :=
  ∀ q v, cs[q]? = some v → ∃ w, W.cell? ⟨b, o + q, none⟩ = some w ∧ VR G v w
theorem CellsAt.values {G : Gh} {W : World} {b o : Nat} {cs : List V} (h : CellsAt G W b o cs) :
    ∃ ws, VRs G cs ws ∧ ∀ q w, ws[q]? = some w → W.cell? ⟨b, o + q, none⟩ = some w := by
  induction cs generalizing o with
  | nil => exact ⟨[], .nil, by simp⟩
  | cons v cs ih =>
    obtain ⟨w, hw, hv⟩ := h 0 v (by simp)
    obtain ⟨ws, h1, h2⟩ := ih (o := o + 1) (fun q v hv => by
      obtain ⟨w, a, b⟩ := h (q + 1) v (by simpa using hv)
      exact ⟨w, by rw [show o + 1 + q = o + (q + 1) by omega]; exact a, b⟩)
    refine ⟨w :: ws, .cons _ _ _ _ hv h1, fun q w' hq => ?_⟩
    cases q with
    | zero => simp at hq; subst hq; exact hw
    | succ q =>
      have := h2 q w' (by simpa using hq)
      rw [show o + (q + 1) = o + 1 + q by omega]; exact this
theorem addr_add (b o n : Nat) : (Addr.mk b o none).add n = ⟨b, o + n, none⟩ := by
  unfold Addr.add
  split
  · subst n; rfl
  · rfl
theorem run_sizeOf {P : Program} {t : TypeId} {d : TypeDesc} (h : P.underlying t = some d) (W : World) : (sizeOf t).run P W = .ok (sz P t) W := by
  have : ∃ i, P.info? t = some i := by
    unfold Program.underlying at h
    cases hi : P.info? t with
    | none => rw [hi] at h; cases h
    | some i => exact ⟨i, rfl⟩
  obtain ⟨i, hi⟩ := this
  simp [sizeOf, typeInfo, hi, sz, Program.cellsOf]
theorem run_isAgg {P : Program} {t : TypeId} {d : TypeDesc} (h : P.underlying t = some d) (W : World) : (Go.isAgg t).run P W = .ok (aggD d) W := by
  simp only [Go.isAgg, Sem.run_bind, run_underlying h, Result.andThen_ok]
  cases d <;> rfl

/-- A value of a type, out of cells. -/
theorem part_sound {P : Program} {t : TypeId} {cs : List V} {off : Nat} {v : V} (h : partV P t cs off = .ok v) {G : Gh} {ws : List Value} (hw : VRs G cs ws) (W : World) :
    ∃ w, (part t ws.toArray off).run P W = .ok w W ∧ VR G v w := by
  unfold partV at h
  split at h
  · cases h
  · rename_i d hd
    simp only [part, Sem.run_bind, run_isAgg hd, Result.andThen_ok]
    cases ha : aggD d
    · rw [ha] at h
      simp only [cond_false] at h
      simp only [Bool.false_eq_true, if_false]
      split at h
      · rename_i x hx
        cases h
        obtain ⟨w, a, b⟩ := hw.get hx
        exact ⟨w, by simp [a], b⟩
      · cases h
    · rw [ha] at h
      simp only [cond_true] at h
      simp only [cond_eq_ite] at h
      split at h
      · cases h
        simp only [if_true, Sem.run_bind, run_sizeOf hd, Result.andThen_ok]
        refine ⟨_, rfl, ?_⟩
        refine .agg _ _ ?_
        have : (ws.toArray.extract off (off + sz P t)).toList = (ws.drop off).take (sz P t) := by
          simp [List.extract_eq_take_drop]
        rw [this]
        exact (hw.drop off).take _
      · cases h

theorem loadVar_sound {P : Program} {t : TypeId} {cs : List V} {j : Nat} {v : V} (h : partV P t cs j = .ok v) {G : Gh} {W : World} {b o : Nat} (hc : CellsAt G W b o cs) :
    ∃ w, (loadVar t ⟨b, o + j, none⟩).run P W = .ok w W ∧ VR G v w := by
  unfold partV at h
  split at h
  · cases h
  · rename_i d hd
    simp only [loadVar, Sem.run_bind, run_isAgg hd, Result.andThen_ok]
    cases ha : aggD d
    · rw [ha] at h
      simp only [cond_false] at h
      simp only [Bool.false_eq_true, if_false]
      split at h
      · rename_i x hx
        cases h
        obtain ⟨w, a, b⟩ := hc _ _ hx
        exact ⟨w, by simp [run_load, a], b⟩
      · cases h
    · rw [ha] at h
      simp only [cond_true] at h
      simp only [cond_eq_ite] at h
      split at h
      · rename_i hle
        cases h
        have hle' : j + sz P t ≤ cs.length := by simpa using hle
        simp only [if_true, Sem.run_bind, run_sizeOf hd, Result.andThen_ok]
        obtain ⟨ws, h1, h2⟩ := hc.values
        have hlen : ((ws.drop j).take (sz P t)).length = sz P t := by
          have := h1.length
          simp; omega
        have := run_loadCells_list (P := P) W ⟨b, o + j, none⟩ ((ws.drop j).take (sz P t)) (fun q w hq => by
          rw [addr_add, show o + j + q = o + (j + q) by omega]
          refine h2 (j + q) w ?_
          rw [List.getElem?_take] at hq
          split at hq
          · rw [List.getElem?_drop] at hq; exact hq
          · cases hq)
        rw [hlen] at this
        rw [this]
        exact ⟨_, rfl, .agg _ _ (by simpa using (h1.drop j).take (sz P t))⟩
      · cases h

theorem cell_of_heap {W : World} {b : Nat} {c : Array Value} {ty : TypeId} {fr : Nat × Nat} (h : W.heap[b]? = some (.cells c ty fr)) (o : Nat) : W.cell? ⟨b, o, none⟩ = c[o]? := by
  simp [World.cell?, h]
theorem RowR.cellsAt {G : Gh} {W : World} {L : Loc} {c : Array Value} {ty : TypeId} {fr : Nat × Nat} {es : Nat} {elems : List (List V)} (hb : W.heap[L.cb]? = some (.cells c ty fr))
    (h : RowR G c L.co es elems) {i : Nat} {cs : List V} (hi : elems[i]? = some cs) : CellsAt G W L.cb (L.co + i * es) cs := by
  intro q v hv
  obtain ⟨w, a, b⟩ := (h i cs hi).2 q v hv
  exact ⟨w, by rw [cell_of_heap hb]; exact a, b⟩

theorem getRow_ok {S : St} {a ver es : Nat} {elems : List (List V)} (h : getRow S a ver = .ok (es, elems)) : S.heap.get a = some (.row ver es elems) := by
  unfold getRow at h
  split at h
  · rename_i v es' el hg
    cases hb : Nat.beq v ver
    · rw [hb] at h; cases h
    · rw [hb] at h
      simp only [cond_true] at h
      cases h
      rw [hg, Nat.eq_of_beq_eq_true hb]
  · cases h

theorem load_sound {P : Program} {t : TypeId} {p : V} {S : St} {v : V} (h : loadV P t p S = .ok v) {F : Nat → Option Obj} {G : Gh} {W : World} (R : Rel F G S W.heap)
    {q : Value} (hq : VR G p q) : ∃ w, (Instr.loadAt t q).run P W = .ok w W ∧ VR G v w := by
  unfold loadV at h
  split at h
  · rename_i a ver i j
    split at h
    · cases h
    · rename_i es elems hrow
      have hr := getRow_ok hrow
      split at h
      · rename_i cs hcs
        cases hq with
        | ptr _ _ _ _ ad hp =>
          obtain ⟨L, hL, hp⟩ := hp
          obtain ⟨L', hL', r1, r2, r3, c, ty, fr, hc, r4, r5, r6⟩ := R.blk a _ hr
          rw [hL] at hL'; cases hL'
          rcases hp with hp | ⟨_, rfl⟩
          · omega
          · obtain ⟨w, a1, a2⟩ := loadVar_sound h (r6.cellsAt hc hcs)
            refine ⟨w, ?_, a2⟩
            simp only [Instr.loadAt, Instr.sureAddr, Sem.run_bind, Sem.run_pure, Result.andThen_ok]
            rw [r2]; exact a1
      · cases h
  · rename_i cs j
    cases hq with
    | iptr _ _ b o c ty fr hb vs hv hvs =>
      have hH := R.pr _ _ hb
      obtain ⟨w, a1, a2⟩ := loadVar_sound (G := G) (W := W) (b := b) (o := o) h (fun q v hq => by
        obtain ⟨w, x, y⟩ := hvs.get hq
        exact ⟨w, by rw [cell_of_heap hH]; exact hv _ _ x, y⟩)
      exact ⟨w, by simp only [Instr.loadAt, Instr.sureAddr, Sem.run_bind, Sem.run_pure, Result.andThen_ok]; exact a1, a2⟩
  · cases h
end Go.AM
