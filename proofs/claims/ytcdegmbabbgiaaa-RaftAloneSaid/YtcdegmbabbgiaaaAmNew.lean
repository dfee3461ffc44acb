/-
  Operations that make blocks.
-/
import Derived.Test.YtcdegmbabbgiaaaAmStore
namespace Go.AM

/-- What a step has kept and made. -/
structure Sim (F : Nat → Option Obj) (fr : Option Nat) (G : Gh) (S : St) (W : World) (G' : Gh) (S' : St) (W' : World) : Prop where
  le : G.le G'
  rel : Rel F G' S' W'.heap
  same : Same W W'
  next : S.next ≤ S'.next
  keep : ∀ a, S.heap.get a = none → a < S.next → fr ≠ some a → G'.loc a = G.loc a ∧ G'.ml a = G.ml a
  dead : ∀ a, S.heap.get a = none → a < S.next → fr ≠ some a → S'.heap.get a = none
  prs : ∀ i, G'.pr i = G.pr i
theorem Sim.refl {F : Nat → Option Obj} {fr : Option Nat} {G : Gh} {S : St} {W : World} (R : Rel F G S W.heap) : Sim F fr G S W G S W :=
  ⟨G.le_refl, R, Same.refl W, Nat.le_refl _, fun _ _ _ _ => ⟨rfl, rfl⟩, fun _ h _ _ => h, fun _ => rfl⟩
/-- A number that was kept free for a block. -/
def FrOK (fr : Option Nat) (G : Gh) (S : St) : Prop := ∀ k, fr = some k → k < S.next ∧ G.loc k = none ∧ G.ml k = none

theorem flat_get {α : Type} (n : Nat) : ∀ (l : List (List α)), (∀ x ∈ l, x.length = n) → ∀ (i j : Nat), j < n → l.flatten[i * n + j]? = (l[i]?).bind (·[j]?)
  | [], _, i, j, _ => by simp
  | x :: l, h, i, j, hj => by
    have hx : x.length = n := h x (by simp)
    cases i with
    | zero => simp only [Nat.zero_mul, Nat.zero_add, List.flatten_cons]; rw [List.getElem?_append_left (by omega)]; simp
    | succ i =>
      rw [List.flatten_cons, Nat.succ_mul, List.getElem?_append_right (by omega), show i * n + n + j - x.length = i * n + j by omega, flat_get n l (fun y hy => h y (List.mem_cons_of_mem _ hy)) i j hj]
      simp
theorem flat_length {α : Type} (n : Nat) : ∀ (l : List (List α)), (∀ x ∈ l, x.length = n) → l.flatten.length = l.length * n
  | [], _ => by simp
  | x :: l, h => by
    rw [List.flatten_cons, List.length_append, flat_length n l (fun y hy => h y (List.mem_cons_of_mem _ hy)), h x (by simp), List.length_cons, Nat.succ_mul]; omega
theorem rowR_of_flat {G : Gh} {c : Array Value} {es : Nat} {elems : List (List V)} {ws : List Value} (hl : ∀ x ∈ elems, x.length = es) (hv : VRs G elems.flatten ws)
    (hc : ∀ (k : Nat) (w : Value), ws[k]? = some w → c[k]? = some w) : RowR G c 0 es elems := by
  intro i cs hi
  have hcs : cs ∈ elems := List.mem_of_getElem? hi
  refine ⟨hl cs hcs, fun j v hj => ?_⟩
  have hj' : j < es := by rw [← hl cs hcs]; exact (List.getElem?_eq_some_iff.1 hj).1
  have : elems.flatten[i * es + j]? = some v := by rw [flat_get es elems hl i j hj', hi]; exact hj
  obtain ⟨w, w1, w2⟩ := hv.get this
  exact ⟨w, by rw [Nat.zero_add]; exact hc _ _ w1, w2⟩

theorem newBlk_sound' {fr : Option Nat} {S S' : St} {es : Nat} {elems : List (List V)} {a : Nat} (h : newBlk fr S (.row 0 es elems) = .ok (a, S'))
    {F : Nat → Option Obj} {G : Gh} {W W' : World} (R : Rel F G S W.heap) (hf : FrOK fr G S) {c : Array Value} {ty : TypeId} {fz : Nat × Nat} {cap : Nat} (hW : W'.heap = W.heap.push (.cells c ty fz))
    (hs : Same W W') (hlen : elems.length ≤ cap) (hsz : cap * es ≤ c.size) (hfz : ∀ o, o < cap * es → ¬ (fz.1 ≤ o ∧ o < fz.2)) (hfz' : es ≠ 1 → ¬ (fz.1 ≤ c.size ∧ c.size < fz.2)) (hrow : RowR G c 0 es elems) :
    ∃ G', Sim F fr G S W G' S' W' ∧ G'.loc a = some ⟨0, W.heap.size, 0, cap, es⟩ := by
  unfold newBlk at h
  split at h
  · rw [cond_eq_ite] at h
    split at h
    · rename_i hl
      cases h
      have hl' : S.next < lim := by simpa using hl
      obtain ⟨f1, f2⟩ := R.fresh S.next (Nat.le_refl _)
      obtain ⟨g1, g2⟩ := R.alloc (k := S.next) (nx := S.next + 1) f1 f2 hl' (by omega) (by omega) (c := c) (ty := ty) (fr := fz) hlen hsz hfz hfz' hrow
      refine ⟨_, ⟨g1, by rw [hW]; exact g2, hs, by simp, fun x hx hlt _ => ⟨?_, rfl⟩, fun x hx hlt _ => ?_, fun _ => rfl⟩, by simp⟩
      · have : x ≠ S.next := by omega
        simp [this]
      · show (S.heap.put S.next _).get x = none
        rw [Tr.get_put_ne _ _ _ _ hl' (by omega)]; exact hx
    · cases h
  · rename_i k
    rw [cond_eq_ite] at h
    split at h
    · rename_i hl
      cases h
      have hl' : a < lim := by simpa using hl
      obtain ⟨f0, f1, f2⟩ := hf a rfl
      obtain ⟨g1, g2⟩ := R.alloc (k := a) (nx := S.next) f1 f2 hl' (Nat.le_refl _) f0 (c := c) (ty := ty) (fr := fz) hlen hsz hfz hfz' hrow
      refine ⟨_, ⟨g1, by rw [hW]; exact g2, hs, by simp, fun x hx hlt hne => ⟨?_, rfl⟩, fun x hx hlt hne => ?_, fun _ => rfl⟩, by simp⟩
      · have : x ≠ a := fun e => hne (by rw [e])
        simp [this]
      · show (S.heap.put a _).get x = none
        rw [Tr.get_put_ne _ _ _ _ hl' (fun e => hne (by rw [e]))]; exact hx
    · cases h
theorem newBlk_sound {fr : Option Nat} {S S' : St} {es : Nat} {elems : List (List V)} {a : Nat} (h : newBlk fr S (.row 0 es elems) = .ok (a, S'))
    {F : Nat → Option Obj} {G : Gh} {W W' : World} (R : Rel F G S W.heap) (hf : FrOK fr G S) {c : Array Value} {ty : TypeId} {cap : Nat} (hW : W'.heap = W.heap.push (.cells c ty))
    (hs : Same W W') (hlen : elems.length ≤ cap) (hsz : cap * es ≤ c.size) (hrow : RowR G c 0 es elems) :
    ∃ G', Sim F fr G S W G' S' W' ∧ G'.loc a = some ⟨0, W.heap.size, 0, cap, es⟩ :=
  newBlk_sound' h R hf hW hs hlen hsz (fun o _ => by simp) (fun _ => by simp) hrow

theorem zeroOf_some {P : Program} {t : TypeId} {z : V} (h : zeroOf P t = some z) : ∃ i w, P.info? t = some i ∧ i.zero = some w ∧ ofValue w = some z := by
  unfold zeroOf at h
  split at h
  · rename_i w hw
    cases hi : P.info? t with
    | none => rw [hi] at hw; cases hw
    | some i => rw [hi] at hw; exact ⟨i, w, rfl, hw, h⟩
  · cases h
theorem sz_of_info {P : Program} {t : TypeId} {i : TypeInfo} (h : P.info? t = some i) : sz P t = i.size := by simp [sz, Program.cellsOf, h]
theorem bytes_of_info {P : Program} {t : TypeId} {i : TypeInfo} (h : P.info? t = some i) : P.bytesOf t = i.bytes := by simp [Program.bytesOf, h]

/-- One variable in a block of its own. -/
theorem newVar_sound {P : Program} {v : V} {w : Value} {G : Gh} (hv : VR G v w) {fr : Option Nat} {S S' : St} {a : Nat} (h : newBlk fr S (.row 0 v.cells.length [v.cells]) = .ok (a, S'))
    {F : Nat → Option Obj} {W : World} (R : Rel F G S W.heap) (hf : FrOK fr G S) (t : TypeId) :
    ∃ W' G', (newVar t w).run P W = .ok ⟨W.heap.size, 0, none⟩ W' ∧ Sim F fr G S W G' S' W' ∧ VR G' (.ptr a 0 0 0) (.pointer (some ⟨W.heap.size, 0, none⟩)) := by
  have hc := hv.cells
  have hl := hc.length
  obtain ⟨G', h1, h2⟩ := newBlk_sound (W' := W.alloc (.cells w.cells t)) (c := w.cells) (ty := t) (cap := 1) h R hf rfl (Same.alloc _ _) (by simp) (by simp at hl; omega)
    (rowR_of_flat (ws := w.cells.toList) (by simp) (by simpa using hc) (fun k x hx => by simpa using hx))
  refine ⟨_, G', ?_, h1, .ptr _ _ _ _ _ ⟨_, h2, .inr ⟨rfl, by simp⟩⟩⟩
  simp [newVar, newRow]

theorem alloc_sound {P : Program} {t : TypeId} {z : V} (hz : zeroOf P t = some z) {fr : Option Nat} {S S' : St} {a : Nat} (h : newBlk fr S (.row 0 z.cells.length [z.cells]) = .ok (a, S'))
    {F : Nat → Option Obj} {G : Gh} {W : World} (R : Rel F G S W.heap) (hf : FrOK fr G S) :
    ∃ W' G' w, (Instr.alloc t true (.tuple #[])).run P W = .ok w W' ∧ Sim F fr G S W G' S' W' ∧ VR G' (.ptr a 0 0 0) w := by
  obtain ⟨i, w, hi, hw, ho⟩ := zeroOf_some hz
  obtain ⟨W', G', h1, h2, h3⟩ := newVar_sound (P := P) (ofValue_VR G ho) h R hf t
  exact ⟨W', G', _, by simp [Instr.alloc, zeroValue, typeInfo, hi, hw, h1], h2, h3⟩
theorem box_sound {P : Program} {t : TypeId} {v : V} {w : Value} {G : Gh} (hv : VR G v w) {fr : Option Nat} {S S' : St} {a : Nat} (h : newBlk fr S (.row 0 v.cells.length [v.cells]) = .ok (a, S'))
    {F : Nat → Option Obj} {W : World} (R : Rel F G S W.heap) (hf : FrOK fr G S) :
    ∃ W' G' x, (Instr.box t w).run P W = .ok x W' ∧ Sim F fr G S W G' S' W' ∧ VR G' (.ptr a 0 0 0) x := by
  obtain ⟨W', G', h1, h2, h3⟩ := newVar_sound (P := P) hv h R hf t
  exact ⟨W', G', _, by simp [Instr.box, h1], h2, h3⟩

/-! ### Parts laid over cells -/
theorem zipIdx_fold (off : Nat) : ∀ (l : List Value) (n : Nat) (cells : Array Value),
    (l.zipIdx n).foldl (fun cs x => cs.setIfInBounds (off + x.2) x.1) cells = writeAt cells (off + n) l
  | [], _, _ => rfl
  | v :: l, n, cells => by
    simp only [List.zipIdx_cons, List.foldl_cons, writeAt]
    rw [zipIdx_fold off l (n + 1), Nat.add_assoc]
theorem fold_writeAt (cells : Array Value) (off : Nat) (l : Array Value) :
    l.zipIdx.foldl (fun cs (x : Value × Nat) => cs.setIfInBounds (off + x.2) x.1) cells = writeAt cells off l.toList := by
  rw [← Array.foldl_toList, Array.toList_zipIdx]
  exact zipIdx_fold off l.toList 0 cells
theorem VRs.splice {G : Gh} {cs xs : List V} {c y : Array Value} {j : Nat} (h : VRs G cs c.toList) (k : VRs G xs y.toList) (hj : j + xs.length ≤ cs.length) :
    VRs G (AM.splice cs j xs) (writeAt c j y.toList).toList := by
  have l1 := h.length
  have l2 := k.length
  refine VRs.of (by rw [splice_length _ _ _ hj, l1]; simp [writeAt_size]) fun i v w hv hw => ?_
  rw [splice_get _ _ _ hj] at hv
  have hw' : (writeAt c j y.toList)[i]? = some w := by simpa using hw
  rw [writeAt_get] at hw'
  split at hv
  · rename_i hi
    rw [if_pos ⟨hi.1, by omega, by simp at l1; omega⟩] at hw'
    obtain ⟨w2, a, b⟩ := k.get hv
    rw [a] at hw'; cases hw'; exact b
  · rename_i hi
    rw [if_neg (by omega)] at hw'
    obtain ⟨w2, a, b⟩ := h.get hv
    have : c[i]? = some w2 := by simpa using a
    rw [this] at hw'; cases hw'; exact b
inductive PsR (G : Gh) : List (Nat × V) → List (Nat × Value) → Prop
  | nil : PsR G [] []
  | cons (i : Nat) (v : V) (w : Value) (vs : List (Nat × V)) (ws : List (Nat × Value)) (h : VR G v w) (t : PsR G vs ws) : PsR G ((i, v) :: vs) ((i, w) :: ws)
theorem fill_sound {G : Gh} {place place' : Nat → Option (Nat × Nat)} (hp : ∀ i x, place i = some x → place' i = some x) : ∀ {parts : List (Nat × V)} {ps : List (Nat × Value)}, PsR G parts ps →
    ∀ {cells out : List V} {c : Array Value}, VRs G cells c.toList → fillV place cells parts = .ok out → ∃ c', Instr.fill place' c ps = some c' ∧ VRs G out c'.toList
  | _, _, .nil, cells, out, c, hc, h => by simp [fillV] at h; subst h; exact ⟨c, rfl, hc⟩
  | _, _, .cons i v w vs ws hv t, cells, out, c, hc, h => by
    simp only [fillV] at h
    split at h
    · cases h
    · rename_i off size hpl
      rw [cond_eq_ite] at h
      split at h
      · rename_i hok
        simp only [Bool.and_eq_true, Nat.beq_eq, Nat.ble_eq] at hok
        have hl := hv.cells.length
        have hcl := hc.length
        obtain ⟨c', h1, h2⟩ := fill_sound hp t (hc.splice hv.cells hok.1.2) h
        refine ⟨c', ?_, h2⟩
        simp only [Instr.fill, hp _ _ hpl]
        rw [if_neg ?_]
        · rw [fold_writeAt]; exact h1
        · simp only [Bool.or_eq_true, decide_eq_true_eq, ne_eq, not_or, Decidable.not_not]
          simp at hl hcl
          omega
      · cases h
theorem run_list_mapM {P : Program} {α β : Type} {f : α → Sem β} {g : α → β} {W : World} : ∀ (l : List α), (∀ x ∈ l, (f x).run P W = .ok (g x) W) → (l.mapM f).run P W = .ok (l.map g) W
  | [], _ => by simp
  | x :: l, h => by
    simp only [List.mapM_cons, Sem.run_bind, h x (by simp), Result.andThen_ok, run_list_mapM l (fun y hy => h y (List.mem_cons_of_mem _ hy)), Sem.run_pure, List.map_cons]
theorem run_places {P : Program} {W : World} (fs : Array Field) (h : ∀ f ∈ fs.toList, ∃ d, P.underlying f.type = some d) :
    (fs.mapM fun f => do pure (f.offset, ← sizeOf f.type) : Sem (Array (Nat × Nat))).run P W = .ok (fs.map fun f => (f.offset, sz P f.type)) W := by
  rw [Array.mapM_eq_mapM_toList, Sem.run_map, run_list_mapM (g := fun f => (f.offset, sz P f.type)) fs.toList (fun f hf => by
    obtain ⟨d, hd⟩ := h f hf
    simp [run_sizeOf hd])]
  simp only [Result.andThen_ok]
  congr 1
  apply Array.ext'
  simp

theorem build_sound {P : Program} {t : TypeId} {parts : List (Nat × V)} {v : V} (h : buildV P t parts = .ok v) {G : Gh} {ps : Array (Nat × Value)} (hp : PsR G parts ps.toList) (W : World) :
    ∃ w, (Instr.build t ps).run P W = .ok w W ∧ VR G v w := by
  unfold buildV at h
  split at h
  · cases h
  · rename_i z hz
    obtain ⟨i, zw, hi, hzw, ho⟩ := zeroOf_some hz
    have hzr := (ofValue_VR G ho).cells
    have hzv : (zeroValue t).run P W = .ok zw W := by simp [zeroValue, typeInfo, hi, hzw]
    split at h
    · rename_i fs hd
      rw [cond_eq_ite] at h
      split at h
      · cases h
      · rename_i hall
        have hall' : ∀ f ∈ fs.toList, ∃ d, P.underlying f.type = some d := by
          intro f hf
          simp only [Bool.not_eq_true, Bool.not_eq_false', List.all_eq_true] at hall
          exact Option.isSome_iff_exists.1 (hall f hf)
        split at h
        · rename_i cs hcs
          cases h
          obtain ⟨c', f1, f2⟩ := fill_sound (place' := fun i => (fs.map fun f => (f.offset, sz P f.type))[i]?) (fun i x hx => by simpa using hx) hp hzr hcs
          refine ⟨.agg c', ?_, .agg _ _ f2⟩
          simp only [Instr.build, Sem.run_bind, hzv, Result.andThen_ok, run_underlying hd, run_places fs hall', f1, Sem.run_pure]
        · cases h
    · rename_i n elem hd
      rw [cond_eq_ite] at h
      split at h
      · cases h
      · rename_i hall
        simp only [Bool.not_eq_true, Bool.not_eq_false'] at hall
        obtain ⟨d, hd'⟩ := Option.isSome_iff_exists.1 hall
        split at h
        · rename_i cs hcs
          cases h
          obtain ⟨c', f1, f2⟩ := fill_sound (place' := fun i => some (i * sz P elem, sz P elem)) (fun i x hx => hx) hp hzr hcs
          refine ⟨.agg c', ?_, .agg _ _ f2⟩
          simp only [Instr.build, Sem.run_bind, hzv, Result.andThen_ok, run_underlying hd, run_sizeOf hd', f1, Sem.run_pure]
        · cases h
    · cases h

/-! ### Rows laid element by element -/
theorem lay_sound {G : Gh} {es : Nat} : ∀ {parts : List (Nat × V)} {ps : List (Nat × Value)}, PsR G parts ps →
    ∀ {elems out : List (List V)} {c : Array Value}, (∀ x ∈ elems, x.length = es) → VRs G elems.flatten c.toList → layV es elems parts = .ok out →
      ∃ c', Instr.fill (fun i => some (i * es, es)) c ps = some c' ∧ VRs G out.flatten c'.toList ∧ (∀ x ∈ out, x.length = es) ∧ out.length = elems.length
  | _, _, .nil, elems, out, c, hl, hc, h => by simp [layV] at h; subst h; exact ⟨c, rfl, hc, hl, rfl⟩
  | _, _, .cons i v w vs ws hv t, elems, out, c, hl, hc, h => by
    simp only [layV] at h
    rw [cond_eq_ite] at h
    split at h
    · rename_i hok
      simp only [Bool.and_eq_true, Nat.beq_eq, Nat.blt_eq] at hok
      obtain ⟨⟨h1, h2⟩, h3⟩ := hok
      have hvl := hv.cells.length
      have hcl := hc.length
      have hfl := flat_length es elems hl
      have hin : (i + 1) * es ≤ elems.length * es := Nat.mul_le_mul_right es (by omega)
      rw [Nat.succ_mul] at hin
      have hset : (elems.set i v.cells).flatten = splice elems.flatten (i * es) v.cells := by
        apply List.ext_getElem?
        intro k
        have hl' : ∀ x ∈ elems.set i v.cells, x.length = es := by
          intro x hx
          rcases List.mem_or_eq_of_mem_set hx with hx | rfl
          · exact hl x hx
          · exact h1
        rw [splice_get _ _ _ (by omega)]
        rcases Nat.eq_zero_or_pos es with he | he
        · subst he
          have e1 : (elems.set i v.cells).flatten = [] := List.eq_nil_of_length_eq_zero (by rw [flat_length 0 _ hl']; simp)
          have e2 : elems.flatten = [] := List.eq_nil_of_length_eq_zero (by rw [hfl]; simp)
          rw [e1, e2, if_neg (by omega)]
        · have hdm := Nat.div_add_mod k es
          have hk : k = k / es * es + k % es := by rw [Nat.mul_comm]; exact hdm.symm
          have hlt := Nat.mod_lt k he
          generalize k / es = a at hk
          generalize k % es = b at hk hlt
          subst hk
          rw [flat_get es _ hl' a b hlt, flat_get es _ hl a b hlt, List.getElem?_set]
          by_cases hia : i = a
          · subst hia
            rw [if_pos rfl, if_pos h2, if_pos (by omega)]
            simp
          · rw [if_neg hia]
            rw [if_neg ?_]
            rcases Nat.lt_or_ge a i with q | q
            · have : (a + 1) * es ≤ i * es := Nat.mul_le_mul_right es (by omega)
              rw [Nat.succ_mul] at this; omega
            · have : (i + 1) * es ≤ a * es := Nat.mul_le_mul_right es (by omega)
              rw [Nat.succ_mul] at this; omega
      obtain ⟨c', f1, f2, f3, f4⟩ := lay_sound t (elems := elems.set i v.cells) (c := writeAt c (i * es) w.cells.toList) (fun x hx => by
          rcases List.mem_or_eq_of_mem_set hx with hx | rfl
          · exact hl x hx
          · exact h1) (by rw [hset]; exact hc.splice hv.cells (by omega)) h
      refine ⟨c', ?_, f2, f3, by rw [f4]; simp⟩
      simp only [Instr.fill]
      rw [if_neg ?_]
      · rw [fold_writeAt]; exact f1
      · simp only [Bool.or_eq_true, decide_eq_true_eq, ne_eq, not_or, Decidable.not_not]
        rw [hfl] at hcl
        simp only [Array.length_toList] at hvl hcl
        omega
    · cases h
theorem zeros_sound {G : Gh} {z : List V} {zw : Array Value} (h : VRs G z zw.toList) (n : Nat) :
    VRs G (List.replicate n z).flatten (((Array.range (n * zw.size)).map (zw[· % zw.size]!)).toList) := by
  have hl : z.length = zw.size := by simpa using h.length
  have hlen : ∀ x ∈ List.replicate n z, x.length = zw.size := fun x hx => by rw [List.eq_of_mem_replicate hx]; exact hl
  refine VRs.of (by rw [flat_length zw.size _ hlen]; simp) fun i v w hv hw => ?_
  have hi : i < n * zw.size := by
    have := (List.getElem?_eq_some_iff.1 hw).1
    simpa using this
  rcases Nat.eq_zero_or_pos zw.size with he | he
  · rw [he] at hi; simp at hi
  · have hdm := Nat.div_add_mod i zw.size
    have hk : i = i / zw.size * zw.size + i % zw.size := by rw [Nat.mul_comm]; exact hdm.symm
    have hlt := Nat.mod_lt i he
    rw [hk, flat_get zw.size _ hlen _ _ hlt] at hv
    have hdn : i / zw.size < n := by rw [Nat.div_lt_iff_lt_mul he]; exact hi
    simp [hdn] at hv
    obtain ⟨w', a, b⟩ := h.get hv
    have hw2 : w = zw[i % zw.size]! := by
      simp [hi] at hw
      exact hw.symm
    have a' : zw[i % zw.size]? = some w' := by simpa using a
    rw [hw2, getElem!_def, a']; exact b

theorem buildSlice_sound {P : Program} {t : TypeId} {len : Nat} {parts : List (Nat × V)} {fr : Option Nat} {S S' : St} {v : V} (h : buildSliceV P t len parts fr S = .ok (v, S'))
    {F : Nat → Option Obj} {G : Gh} {W : World} (R : Rel F G S W.heap) (hf : FrOK fr G S) {ps : Array (Nat × Value)} (hp : PsR G parts ps.toList) :
    ∃ W' G' w, (Instr.buildSlice t len ps).run P W = .ok w W' ∧ Sim F fr G S W G' S' W' ∧ VR G' v w := by
  unfold buildSliceV at h
  split at h
  · cases h
  · rename_i e he
    have hd : P.underlying t = some (.slice e) := by
      unfold elemT at he
      split at he
      · rename_i e' hd; cases he; exact hd
      · cases he
    split at h
    · cases h
    · rename_i z hz
      obtain ⟨i, zw, hi, hzw, ho⟩ := zeroOf_some hz
      have hzr := (ofValue_VR G ho).cells
      rw [cond_eq_ite] at h
      split at h
      · rename_i hok
        simp only [Bool.and_eq_true, Nat.beq_eq, Nat.ble_eq] at hok
        obtain ⟨hzl, hsm⟩ := hok
        split at h
        · cases h
        · rename_i elems hlay
          split at h
          · cases h
          · rename_i a S1 hnew
            cases h
            have hzs : zw.cells.size = sz P e := by have := hzr.length; simp at this; omega
            have hszi : sz P e = i.size := sz_of_info hi
            have hz0 := zeros_sound hzr len
            rw [hzs] at hz0
            obtain ⟨c', f1, f2, f3, f4⟩ := lay_sound hp (fun x hx => by rw [List.eq_of_mem_replicate hx]; exact hzl) hz0 hlay
            have hlen : elems.length = len := by rw [f4]; simp
            have hcs : elems.length * sz P e ≤ c'.size := by
              have := f2.length
              rw [flat_length _ _ f3] at this
              simp at this; omega
            obtain ⟨G', h1, h2⟩ := newBlk_sound (W' := W.alloc (.cells c' e)) (c := c') (ty := e) (cap := elems.length) hnew R hf rfl (Same.alloc _ _) (Nat.le_refl _) hcs
              (rowR_of_flat f3 f2 (fun k x hx => by simpa using hx))
            refine ⟨_, G', .slice (some ⟨W.heap.size, 0, none⟩) len len, ?_, h1, .sl _ _ _ _ _ _ _ _ ⟨rfl, Nat.le_refl _, _, h2, .inr ⟨rfl, rfl, by simp [hlen], fun _ => by simp⟩⟩⟩
            have hsize : (sizeOf e).run P W = .ok (sz P e) W := by simp [sizeOf, typeInfo, hi, hszi]
            have hzv : (zeroValue e).run P W = .ok zw W := by simp [zeroValue, typeInfo, hi, hzw]
            have hns : ¬ (len * sz P e > 2 ^ 24) := by omega
            simp only [Instr.buildSlice, Sem.run_bind, run_underlying hd, Result.andThen_ok, hsize, hns, if_false]
            by_cases h0 : len * sz P e = 0
            · simp only [h0, if_true, Sem.run_bind, Sem.run_pure, Result.andThen_ok]
              rw [h0] at f1
              have : ∀ (z1 z2 : Array Value), (Array.range 0).map (z1[· % z1.size]!) = (Array.range 0).map (z2[· % z2.size]!) := by intro z1 z2; simp
              rw [this #[] zw.cells, hzs, f1]
              simp [newRow]
            · simp only [h0, if_false, Sem.run_bind, hzv, Result.andThen_ok, Sem.run_pure]
              rw [hzs, f1]
              simp [newRow]
      · cases h
theorem RowR.sub {G : Gh} {c : Array Value} {o es : Nat} {e1 e2 : List (List V)} (h : RowR G c o es e2) (hs : ∀ (i : Nat) (cs : List V), e1[i]? = some cs → e2[i]? = some cs) : RowR G c o es e1 :=
  fun i cs hi => h i cs (hs i cs hi)
theorem elemT_some {P : Program} {t e : TypeId} (h : elemT P t = some e) : P.underlying t = some (.slice e) := by
  unfold elemT at h
  split at h
  · rename_i e' hd; cases h; exact hd
  · cases h

theorem makeSlice_sound {P : Program} {t : TypeId} {l c : V} {fr : Option Nat} {S S' : St} {v : V} (h : makeSliceV P t l c fr S = .ok (v, S'))
    {F : Nat → Option Obj} {G : Gh} {W : World} (R : Rel F G S W.heap) (hf : FrOK fr G S) {lc cc : Value} (hl : VR G l lc) (hc : VR G c cc) :
    ∃ W' G' w, (Instr.makeSlice t lc cc).run P W = .ok w W' ∧ Sim F fr G S W G' S' W' ∧ VR G' v w := by
  unfold makeSliceV at h
  split at h
  · rename_i e kl l kc c he
    have hd := elemT_some he
    split at h
    · cases h
    · rename_i z hz
      obtain ⟨i, zw, hi, hzw, ho⟩ := zeroOf_some hz
      have hzr := (ofValue_VR G ho).cells
      rw [cond_eq_ite] at h
      split at h
      · rename_i hok
        simp only [Bool.and_eq_true, Nat.beq_eq, decide_eq_true_eq, room, Nat.ble_eq, Nat.blt_eq] at hok
        obtain ⟨⟨⟨⟨hzl, h0⟩, hlc⟩, hcb⟩, hroom, _⟩ := hok
        split at h
        · cases h
        · rename_i a S1 hnew
          cases h
          cases hl; cases hc
          have hzs : zw.cells.size = sz P e := by have := hzr.length; simp at this; omega
          have hszi : sz P e = i.size := sz_of_info hi
          have hby : P.bytesOf e = i.bytes := bytes_of_info hi
          have hz0 := zeros_sound hzr c.toNat
          have hlz : ∀ x ∈ List.replicate c.toNat z.cells, x.length = sz P e := fun x hx => by rw [List.eq_of_mem_replicate hx]; exact hzl
          have hrow : RowR G (madeCells zw.cells (c.toNat * i.size)) 0 (sz P e) (List.replicate l.toNat z.cells) := by
            refine (rowR_of_flat hlz hz0 (fun k x hx => ?_)).sub fun i cs hi => ?_
            · simp only [hzs, hszi] at hx
              simp only [madeCells, hzs, hszi]
              rw [Array.getElem?_toList] at hx
              exact hx
            · rw [List.getElem?_replicate] at hi ⊢
              split at hi
              · rw [if_pos (by omega)]; exact hi
              · cases hi
          obtain ⟨G', h1, h2⟩ := newBlk_sound (W' := W.alloc (.cells (madeCells zw.cells (c.toNat * i.size)) e)) (c := madeCells zw.cells (c.toNat * i.size)) (ty := e) (cap := c.toNat) hnew R hf rfl (Same.alloc _ _)
            (by simp; omega) (by rw [size_madeCells, hszi]; exact Nat.le_refl _) hrow
          refine ⟨_, G', .slice (some ⟨W.heap.size, 0, none⟩) l.toNat c.toNat, ?_, h1, .sl _ _ _ _ _ _ _ _ ⟨rfl, by omega, _, h2, .inr ⟨rfl, rfl, by simp, fun _ => by simp⟩⟩⟩
          refine run_make W t e i zw hd hi hzw kl kc l c h0 hlc ?_ (by omega)
          rw [hby] at hroom
          have : (i.bytes : Int) * c = ((c.toNat * i.bytes : Nat) : Int) := by
            rw [Int.natCast_mul, Int.toNat_of_nonneg (by omega), Int.mul_comm]
          rw [this]; omega
      · cases h
  · cases h

theorem flat_bytes : ∀ s : List UInt8, (s.map fun b => [V.int .u8 (b.toNat : Int)]).flatten = s.map fun b => V.int .u8 (b.toNat : Int)
  | [] => rfl
  | b :: s => by rw [List.map_cons, List.flatten_cons, flat_bytes s]; rfl
/-- The elements of a slice or a text, as the model reads them. -/
theorem elemsOf_sound {P : Program} {S : St} {x : V} {xs : List (List V)} (h : elemsOf S x = .ok xs) {n : Nat} (hn : ∀ cs ∈ xs, cs.length = n)
    {F : Nat → Option Obj} {G : Gh} {W : World} (R : Rel F G S W.heap) {y : Value} (hx : VR G x y) :
    (∀ W', (Builtin.lenOf y).run P W' = .ok xs.length W') ∧ ∃ ws, VRs G xs.flatten ws ∧ ∀ W' : World, W'.heap = W.heap → (Builtin.firstCells n xs.length y).run P W' = .ok ws.toArray W' := by
  have hfl := flat_length n xs hn
  -- cells that lie side by side from an address on
  have side : ∀ (p : Addr) (ws : List Value) (c : Nat), VRs G xs.flatten ws → (∀ (k : Nat) (w : Value), ws[k]? = some w → W.cell? (p.add k) = some w) →
      ∃ ws, VRs G xs.flatten ws ∧ ∀ W' : World, W'.heap = W.heap → (Builtin.firstCells n xs.length (.slice (some p) xs.length c)).run P W' = .ok ws.toArray W' := by
    intro p ws c h1 h2
    refine ⟨ws, h1, fun W' hW => ?_⟩
    have hl : ws.length = xs.length * n := by rw [← h1.length, hfl]
    have := run_loadCells_list (P := P) W' p ws (fun j v hj => by
      have := h2 j v hj
      simpa [World.cell?, hW] using this)
    simp only [Builtin.firstCells]
    rw [← hl]; exact this
  unfold elemsOf at h
  split at h
  · cases h
    cases hx
    exact ⟨fun W' => by simp [Builtin.lenOf], [], .nil, fun W' _ => by simp [Builtin.firstCells]⟩
  · rename_i a ver es0 off len
    split at h
    · cases h
    · rename_i es elems hrow
      have hr := getRow_ok hrow
      rw [cond_eq_ite] at h
      split at h
      · rename_i hle
        cases h
        have hle' : off + len ≤ elems.length := by simpa using hle
        cases hx with
        | sl _ _ _ _ _ p m c hs =>
          obtain ⟨rfl, hc1, L, hL, hs⟩ := hs
          obtain ⟨L', hL', r1, r2, r3, ca, ty, fr, hcb, r4, r5, r6⟩ := R.blk a _ hr
          rw [hL] at hL'; cases hL'
          rcases hs with hs | ⟨_, _, hc2, hp⟩
          · omega
          · have hlen : ((elems.drop off).take m).length = m := by simp; omega
            rw [hlen] at side hfl ⊢
            refine ⟨fun W' => by simp [Builtin.lenOf], ?_⟩
            rcases Nat.eq_zero_or_pos m with h0 | h0
            · subst h0
              exact side p [] c (by simp; exact .nil) (by simp)
            · have hp' := hp (by omega)
              subst hp'
              -- the cells
              have hnes : n = es := by
                have hin : off < elems.length := by omega
                have hmem : elems[off] ∈ (elems.drop off).take m := by
                  rw [List.mem_iff_getElem?]
                  exact ⟨0, by rw [List.getElem?_take, if_pos h0]; simp⟩
                rw [← hn _ hmem]
                exact (r6 off elems[off] (by simp)).1
              have hcells : CellsAt G W L.cb (L.co + off * L.es) ((elems.drop off).take m).flatten := by
                intro q v hq
                have hql : q < m * n := by
                  have := (List.getElem?_eq_some_iff.1 hq).1
                  rw [hfl] at this; exact this
                have hnp : 0 < n := by rcases Nat.eq_zero_or_pos n with e | e
                                       · subst e; simp at hql
                                       · exact e
                have hdm := Nat.div_add_mod q n
                have hk : q = q / n * n + q % n := by rw [Nat.mul_comm]; exact hdm.symm
                have hlt := Nat.mod_lt q hnp
                generalize q / n = i at hk
                generalize q % n = j at hk hlt
                subst hk
                rw [flat_get n _ hn i j hlt] at hq
                cases hi : ((elems.drop off).take m)[i]? with
                | none => rw [hi] at hq; cases hq
                | some cs =>
                  rw [hi] at hq
                  have hi' : elems[off + i]? = some cs := by
                    rw [List.getElem?_take] at hi
                    split at hi
                    · rw [List.getElem?_drop] at hi; exact hi
                    · cases hi
                  obtain ⟨w, w1, w2⟩ := (r6 _ cs hi').2 j v hq
                  refine ⟨w, ?_, w2⟩
                  rw [cell_of_heap hcb, r2, hnes]
                  rw [show L.co + off * es + (i * es + j) = L.co + (off + i) * es + j by rw [Nat.add_mul]; omega]
                  exact w1
              obtain ⟨ws, h1, h2⟩ := hcells.values
              exact side _ ws c h1 (fun k w hk => by rw [addr_add]; exact h2 k w hk)
      · cases h
  · rename_i es
    cases h
    cases hx with
    | imm _ p m c e hm hc vs hv he hp =>
      subst hm
      refine ⟨fun W' => by simp [Builtin.lenOf], ?_⟩
      have hvf : ∀ {es : List (List V)} {vs : List (List Value)}, VRss G es vs → VRs G es.flatten vs.flatten := by
        intro es vs h
        induction es generalizing vs with
        | nil => cases h; exact .nil
        | cons x es ih => cases h with | cons _ w _ ws h t => simpa using h.append (ih t)
      have hvl : ∀ {es : List (List V)} {vs : List (List Value)}, VRss G es vs → (∀ x ∈ es, x.length = n) → (∀ x ∈ vs, x.length = n) := by
        intro es vs h
        induction es generalizing vs with
        | nil => cases h; intro _ x hx; cases hx
        | cons x es ih =>
          cases h with
          | cons _ w _ ws h t =>
            intro hx y hy
            rcases List.mem_cons.1 hy with rfl | hy
            · rw [← h.length]; exact hx _ (by simp)
            · exact ih t (fun z hz => hx z (List.mem_cons_of_mem _ hz)) y hy
      refine side p vs.flatten c (hvf hv) fun k w hk => ?_
      have hvn := hvl hv hn
      rcases hp with hp | ⟨ca, ty, fr, h1, h2, h3⟩
      · have : xs = [] := List.eq_nil_of_length_eq_zero hp
        subst this; cases hv; simp at hk
      · have hkl : k < vs.length * n := by
          have := (List.getElem?_eq_some_iff.1 hk).1
          rw [flat_length n _ hvn] at this; exact this
        have hnp : 0 < n := by rcases Nat.eq_zero_or_pos n with e | e
                               · subst e; simp at hkl
                               · exact e
        have hdm := Nat.div_add_mod k n
        have hk' : k = k / n * n + k % n := by rw [Nat.mul_comm]; exact hdm.symm
        have hlt := Nat.mod_lt k hnp
        generalize k / n = i at hk'
        generalize k % n = j at hk' hlt
        subst hk'
        rw [flat_get n _ hvn i j hlt] at hk
        cases hi : vs[i]? with
        | none => rw [hi] at hk; cases hk
        | some l =>
          rw [hi] at hk
          have hne : e = n := by
            cases xs with
            | nil => cases hv; simp at hi
            | cons x es => rw [← he x (by simp)]; exact hn x (by simp)
          subst hne
          have := h3 i l hi j w hk
          obtain ⟨pb, po, ps⟩ := p
          simp only at h1 h2 this
          subst h2
          rw [addr_add, cell_of_heap (R.pr _ _ h1), ← Nat.add_assoc]; exact this
  · rename_i s
    cases h
    cases hx
    have hlen : (s.map fun b => [V.int .u8 (b.toNat : Int)]).length = s.length := by simp
    refine ⟨fun W' => by simp [Builtin.lenOf, ByteArray.size], s.map fun b => .int .u8 b.toNat, ?_, fun W' _ => ?_⟩
    · rw [flat_bytes]
      refine VRs.of (by simp) fun i v w hv hw => ?_
      simp at hv hw
      obtain ⟨b, hb, rfl⟩ := hv
      obtain ⟨b', hb', rfl⟩ := hw
      rw [hb] at hb'; cases hb'
      exact .int _ _
    · rw [hlen]
      simp only [Builtin.firstCells, Sem.run_pure]
      congr 1
      apply Array.ext'
      simp [ByteArray.extract, ByteArray.copySlice]
  · cases h
end Go.AM
