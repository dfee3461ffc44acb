import Derived.Test.YtjbicclbalagbaaGreatX4
set_option linter.unusedSimpArgs false
set_option linter.unusedVariables false
set_option maxRecDepth 100000
section
namespace Go.Proofs.YtjbicclbalagbaaGreat
open Go.AM Tryz
theorem dPl_dead : StepsDead dPl := plansOf_dead _ _ _
theorem told_free {S S1 : St} (w : WF S) {n k : Nat} (d : D (S.next + n) (⟨S.next + n, S.heap⟩ : St) S1) (h1 : S.next ≤ k) (h2 : k < S.next + n) : S1.heap.get k = none ∧ k < S1.next :=
 ⟨d.dead k h2 (free_at w n k h1), Nat.lt_of_lt_of_le h2 d.next⟩
theorem fewM_len (l : List Call) (n : Nat) : (fewM l n).length ≤ n := by simp only [fewM, List.length_map, List.length_take]; omega
theorem sh_struct {P : Program} {n : Nat} {t : TypeId} {fs : Array Field} {xs : List V} (ht : P.underlying t = some (.struct fs)) (h : shapeOK P n t xs) :
  ∃ m, xs.length = P.cellsOf t ∧ ∀ (i : Nat) (f : Field), fs[i]? = some f → shapeOK P m f.type ((xs.drop f.offset).take (P.cellsOf f.type)) := by
 cases n with
 | zero => exact h.elim
 | succ m =>
  simp only [shapeOK, ht] at h
  exact ⟨m, h.1, fun i f hf => h.2 f (by rw [← Array.getElem?_toList] at hf; exact List.mem_of_getElem? hf)⟩
theorem sh_slice {P : Program} {n : Nat} {t e : TypeId} {xs : List V} (ht : P.underlying t = some (.slice e)) (h : shapeOK P n t xs) :
  ∃ m, xs = [.nils] ∨ ∃ es, xs = [.imm es] ∧ es.length ≤ maxLen ∧ ∀ c, c ∈ es → c.length = P.cellsOf e ∧ shapeOK P m e c := by
 cases n with
 | zero => exact h.elim
 | succ m =>
  simp only [shapeOK, ht] at h
  exact ⟨m, h⟩
theorem c3 : prog.cellsOf 3 = 1 := by kernel_rfl
theorem c9 : prog.cellsOf 9 = 1 := by kernel_rfl
theorem c4 : prog.cellsOf 4 = 1 := by kernel_rfl
theorem c41 : prog.cellsOf 41 = 1 := by kernel_rfl
theorem sh_int {n : Nat} {xs : List V} (h : shapeOK prog n 3 xs) : ∃ i, xs = [.int .i64 i] := by
 cases n with
 | zero => exact h.elim
 | succ m =>
  simp only [shapeOK, Tryz.underlying3] at h
  obtain ⟨i, h, _⟩ := h
  exact ⟨i, h⟩
theorem sh_str {n : Nat} {xs : List V} (h : shapeOK prog n 9 xs) : ∃ s, xs = [.str s] := by
 cases n with
 | zero => exact h.elim
 | succ m =>
  simp only [shapeOK, Tryz.underlying9] at h
  obtain ⟨s, h, _⟩ := h
  exact ⟨s, h⟩
theorem cut (xs : List V) (o k : Nat) : xs.drop o = (xs.drop o).take k ++ xs.drop (o + k) := by
 rw [← List.drop_drop, List.take_append_drop]
theorem c38 : prog.cellsOf 38 = 3 := by kernel_rfl
theorem sh_date {n : Nat} {xs : List V} (h : shapeOK prog n 38 xs) : ∃ d : Date, xs = d.enc := by
 obtain ⟨m, hl, hf⟩ := sh_struct Tryz.underlying38 h
 rw [c38] at hl
 have h0 : shapeOK prog m 3 ((xs.drop 0).take (prog.cellsOf 3)) := hf 0 _ rfl
 rw [c3] at h0
 obtain ⟨x0, e0⟩ := sh_int h0
 have q0 := cut xs 0 1
 rw [e0] at q0
 have h1 : shapeOK prog m 3 ((xs.drop 1).take (prog.cellsOf 3)) := hf 1 _ rfl
 rw [c3] at h1
 obtain ⟨x1, e1⟩ := sh_int h1
 have q1 := cut xs 1 1
 rw [e1] at q1
 have h2 : shapeOK prog m 3 ((xs.drop 2).take (prog.cellsOf 3)) := hf 2 _ rfl
 rw [c3] at h2
 obtain ⟨x2, e2⟩ := sh_int h2
 have q2 := cut xs 2 1
 rw [e2] at q2
 have hend : xs.drop 3 = [] := List.drop_eq_nil_of_le (by omega)
 have hx : xs = [.int .i64 x0] ++ ([.int .i64 x1] ++ ([.int .i64 x2] ++ [])) := by
  have z : xs = xs.drop 0 := rfl
  rw [z, q0, q1, q2]
  show _ = _
  rw [show (2 + 1 : Nat) = 3 from rfl, hend]
 rw [hx]
 exact ⟨⟨x0, x1, x2⟩, rfl⟩
theorem c43 : prog.cellsOf 43 = 2 := by kernel_rfl
theorem sh_ref {n : Nat} {xs : List V} (h : shapeOK prog n 43 xs) : ∃ d : Ref, xs = d.enc := by
 obtain ⟨m, hl, hf⟩ := sh_struct Tryz.underlying43 h
 rw [c43] at hl
 have h0 : shapeOK prog m 9 ((xs.drop 0).take (prog.cellsOf 9)) := hf 0 _ rfl
 rw [c9] at h0
 obtain ⟨x0, e0⟩ := sh_str h0
 have q0 := cut xs 0 1
 rw [e0] at q0
 have h1 : shapeOK prog m 3 ((xs.drop 1).take (prog.cellsOf 3)) := hf 1 _ rfl
 rw [c3] at h1
 obtain ⟨x1, e1⟩ := sh_int h1
 have q1 := cut xs 1 1
 rw [e1] at q1
 have hend : xs.drop 2 = [] := List.drop_eq_nil_of_le (by omega)
 have hx : xs = [.str x0] ++ ([.int .i64 x1] ++ []) := by
  have z : xs = xs.drop 0 := rfl
  rw [z, q0, q1]
  show _ = _
  rw [show (1 + 1 : Nat) = 2 from rfl, hend]
 rw [hx]
 exact ⟨⟨x0, x1⟩, rfl⟩
theorem c40 : prog.cellsOf 40 = 5 := by kernel_rfl
theorem sh_rate {n : Nat} {xs : List V} (h : shapeOK prog n 40 xs) : ∃ d : Rate, xs = d.enc := by
 obtain ⟨m, hl, hf⟩ := sh_struct Tryz.underlying40 h
 rw [c40] at hl
 have h0 : shapeOK prog m 9 ((xs.drop 0).take (prog.cellsOf 9)) := hf 0 _ rfl
 rw [c9] at h0
 obtain ⟨x0, e0⟩ := sh_str h0
 have q0 := cut xs 0 1
 rw [e0] at q0
 have h1 : shapeOK prog m 38 ((xs.drop 1).take (prog.cellsOf 38)) := hf 1 _ rfl
 rw [c38] at h1
 obtain ⟨x1, e1⟩ := sh_date h1
 have q1 := cut xs 1 3
 rw [e1] at q1
 have h2 : shapeOK prog m 3 ((xs.drop 4).take (prog.cellsOf 3)) := hf 2 _ rfl
 rw [c3] at h2
 obtain ⟨x2, e2⟩ := sh_int h2
 have q2 := cut xs 4 1
 rw [e2] at q2
 have hend : xs.drop 5 = [] := List.drop_eq_nil_of_le (by omega)
 have hx : xs = [.str x0] ++ (x1.enc ++ ([.int .i64 x2] ++ [])) := by
  have z : xs = xs.drop 0 := rfl
  rw [z, q0, q1, q2]
  show _ = _
  rw [show (4 + 1 : Nat) = 5 from rfl, hend]
 rw [hx]
 exact ⟨⟨x0, x1, x2⟩, rfl⟩
theorem c115 : prog.cellsOf 115 = 4 := by kernel_rfl
theorem sh_line {n : Nat} {xs : List V} (h : shapeOK prog n 115 xs) : ∃ d : Line, xs = d.enc := by
 obtain ⟨m, hl, hf⟩ := sh_struct Tryz.underlying115 h
 rw [c115] at hl
 have h0 : shapeOK prog m 9 ((xs.drop 0).take (prog.cellsOf 9)) := hf 0 _ rfl
 rw [c9] at h0
 obtain ⟨x0, e0⟩ := sh_str h0
 have q0 := cut xs 0 1
 rw [e0] at q0
 have h1 : shapeOK prog m 9 ((xs.drop 1).take (prog.cellsOf 9)) := hf 1 _ rfl
 rw [c9] at h1
 obtain ⟨x1, e1⟩ := sh_str h1
 have q1 := cut xs 1 1
 rw [e1] at q1
 have h2 : shapeOK prog m 3 ((xs.drop 2).take (prog.cellsOf 3)) := hf 2 _ rfl
 rw [c3] at h2
 obtain ⟨x2, e2⟩ := sh_int h2
 have q2 := cut xs 2 1
 rw [e2] at q2
 have h3 : shapeOK prog m 3 ((xs.drop 3).take (prog.cellsOf 3)) := hf 3 _ rfl
 rw [c3] at h3
 obtain ⟨x3, e3⟩ := sh_int h3
 have q3 := cut xs 3 1
 rw [e3] at q3
 have hend : xs.drop 4 = [] := List.drop_eq_nil_of_le (by omega)
 have hx : xs = [.str x0] ++ ([.str x1] ++ ([.int .i64 x2] ++ ([.int .i64 x3] ++ []))) := by
  have z : xs = xs.drop 0 := rfl
  rw [z, q0, q1, q2, q3]
  show _ = _
  rw [show (3 + 1 : Nat) = 4 from rfl, hend]
 rw [hx]
 exact ⟨⟨x0, x1, x2, x3⟩, rfl⟩
theorem list_dec {α : Type} {enc : α → List V} : ∀ {es : List (List V)}, (∀ c, c ∈ es → ∃ a : α, c = enc a) → ∃ l : List α, es = l.map enc
 | [], _ => ⟨[], rfl⟩
 | c :: es, h => by
  obtain ⟨a, ha⟩ := h c (List.mem_cons_self ..)
  obtain ⟨l, hl⟩ := list_dec fun d hd => h d (List.mem_cons_of_mem _ hd)
  exact ⟨a :: l, by rw [ha, hl]; rfl⟩
theorem sh_lines {n : Nat} {xs : List V} (h : shapeOK prog n 41 xs) : ∃ (l : List Line) (v : V), xs = [v] ∧ Sl St.empty 4 v (l.map Line.enc) := by
 obtain ⟨m, h | ⟨es, h, _, hes⟩⟩ := sh_slice Tryz.underlying41 h
 ·exact ⟨[], .nils, h, Sl.nilv _ _⟩
 ·obtain ⟨l, hl⟩ := list_dec (enc := Line.enc) fun c hc => sh_line (hes c hc).2
  subst hl
  refine ⟨l, .imm (l.map Line.enc), h, ⟨.inr (.inl rfl), fun c hc => ?_⟩⟩
  obtain ⟨a, _, rfl⟩ := List.mem_map.1 hc
  exact ⟨rfl, rfl⟩
theorem c45 : prog.cellsOf 45 = 15 := by kernel_rfl
theorem sh_cmd {n : Nat} {xs : List V} (h : shapeOK prog n 45 xs) : ∃ (c : Cmd) (lv : V), xs = c.cells lv ∧ Sl St.empty 4 lv (c.lines.map Line.enc) := by
 obtain ⟨m, hl, hf⟩ := sh_struct Tryz.underlying45 h
 rw [c45] at hl
 have h0 : shapeOK prog m 3 ((xs.drop 0).take (prog.cellsOf 3)) := hf 0 _ rfl
 rw [c3] at h0
 obtain ⟨x0, e0⟩ := sh_int h0
 have q0 := cut xs 0 1
 rw [e0] at q0
 have h1 : shapeOK prog m 9 ((xs.drop 1).take (prog.cellsOf 9)) := hf 1 _ rfl
 rw [c9] at h1
 obtain ⟨x1, e1⟩ := sh_str h1
 have q1 := cut xs 1 1
 rw [e1] at q1
 have h2 : shapeOK prog m 3 ((xs.drop 2).take (prog.cellsOf 3)) := hf 2 _ rfl
 rw [c3] at h2
 obtain ⟨x2, e2⟩ := sh_int h2
 have q2 := cut xs 2 1
 rw [e2] at q2
 have h3 : shapeOK prog m 40 ((xs.drop 3).take (prog.cellsOf 40)) := hf 3 _ rfl
 rw [c40] at h3
 obtain ⟨x3, e3⟩ := sh_rate h3
 have q3 := cut xs 3 5
 rw [e3] at q3
 have h4 : shapeOK prog m 38 ((xs.drop 8).take (prog.cellsOf 38)) := hf 4 _ rfl
 rw [c38] at h4
 obtain ⟨x4, e4⟩ := sh_date h4
 have q4 := cut xs 8 3
 rw [e4] at q4
 have h5 : shapeOK prog m 41 ((xs.drop 11).take (prog.cellsOf 41)) := hf 5 _ rfl
 rw [c41] at h5
 obtain ⟨x5, v5, e5, hs⟩ := sh_lines h5
 have q5 := cut xs 11 1
 rw [e5] at q5
 have h6 : shapeOK prog m 43 ((xs.drop 12).take (prog.cellsOf 43)) := hf 6 _ rfl
 rw [c43] at h6
 obtain ⟨x6, e6⟩ := sh_ref h6
 have q6 := cut xs 12 2
 rw [e6] at q6
 have h7 : shapeOK prog m 3 ((xs.drop 14).take (prog.cellsOf 3)) := hf 7 _ rfl
 rw [c3] at h7
 obtain ⟨x7, e7⟩ := sh_int h7
 have q7 := cut xs 14 1
 rw [e7] at q7
 have hend : xs.drop 15 = [] := List.drop_eq_nil_of_le (by omega)
 have hx : xs = [.int .i64 x0] ++ ([.str x1] ++ ([.int .i64 x2] ++ (x3.enc ++ (x4.enc ++ ([v5] ++ (x6.enc ++ ([.int .i64 x7] ++ []))))))) := by
  have z : xs = xs.drop 0 := rfl
  rw [z, q0, q1, q2, q3, q4, q5, q6, q7]
  show _ = _
  rw [show (14 + 1 : Nat) = 15 from rfl, hend]
 rw [hx]
 exact ⟨⟨x0, x1, x2, x3, x4, x5, x6, x7⟩, v5, rfl, hs⟩
theorem c47 : prog.cellsOf 47 = 17 := by kernel_rfl
theorem sh_call {n : Nat} {xs : List V} (h : shapeOK prog n 47 xs) : ∃ q : KV, xs = kvEnc q ∧ Sl St.empty 4 q.2 (q.1.cmd.lines.map Line.enc) := by
 obtain ⟨m, hl, hf⟩ := sh_struct Tryz.underlying47 h
 rw [c47] at hl
 have h0 : shapeOK prog m 3 ((xs.drop 0).take (prog.cellsOf 3)) := hf 0 _ rfl
 rw [c3] at h0
 obtain ⟨x0, e0⟩ := sh_int h0
 have q0 := cut xs 0 1
 rw [e0] at q0
 have h1 : shapeOK prog m 3 ((xs.drop 1).take (prog.cellsOf 3)) := hf 1 _ rfl
 rw [c3] at h1
 obtain ⟨x1, e1⟩ := sh_int h1
 have q1 := cut xs 1 1
 rw [e1] at q1
 have h2 : shapeOK prog m 45 ((xs.drop 2).take (prog.cellsOf 45)) := hf 2 _ rfl
 rw [c45] at h2
 obtain ⟨x2, v2, e2, hs⟩ := sh_cmd h2
 have q2 := cut xs 2 15
 rw [e2] at q2
 have hend : xs.drop 17 = [] := List.drop_eq_nil_of_le (by omega)
 have hx : xs = [.int .i64 x0] ++ ([.int .i64 x1] ++ (x2.cells v2 ++ [])) := by
  have z : xs = xs.drop 0 := rfl
  rw [z, q0, q1, q2]
  show _ = _
  rw [show (2 + 15 : Nat) = 17 from rfl, hend]
 rw [hx]
 exact ⟨(⟨x0, x1, x2⟩, v2), rfl, hs⟩
theorem sh_calls {n : Nat} {xs : List V} (h : shapeOK prog n 22 xs) : ∃ (l : List KV) (v : V), xs = [v] ∧ Sl St.empty 17 v (l.map kvEnc) ∧ LinesOK St.empty l ∧ l.length ≤ 9223372036854775807 := by
 obtain ⟨m, h | ⟨es, h, hl, hes⟩⟩ := sh_slice Tryz.underlying22 h
 ·exact ⟨[], .nils, h, Sl.nilv _ _, fun _ h => (by cases h), by simp⟩
 ·have : ∀ {es : List (List V)}, (∀ c, c ∈ es → ∃ q : KV, c = kvEnc q ∧ Sl St.empty 4 q.2 (q.1.cmd.lines.map Line.enc)) → ∃ l : List KV, es = l.map kvEnc ∧ LinesOK St.empty l := by
   intro es
   induction es with
   | nil => exact fun _ => ⟨[], rfl, fun _ h => by cases h⟩
   | cons c es ih =>
    intro h
    obtain ⟨q, hq, hs⟩ := h c (List.mem_cons_self ..)
    obtain ⟨l, hl, ho⟩ := ih fun d hd => h d (List.mem_cons_of_mem _ hd)
    refine ⟨q :: l, by rw [hq, hl]; rfl, fun a ha => ?_⟩
    rcases List.mem_cons.1 ha with rfl | ha
    ·exact hs
    ·exact ho a ha
  obtain ⟨l, hl', ho⟩ := this fun c hc => sh_call (hes c hc).2
  subst hl'
  refine ⟨l, .imm (l.map kvEnc), h, ⟨.inr (.inl rfl), fun c hc => ?_⟩, ho, by rw [List.length_map] at hl; unfold maxLen at hl; omega⟩
  obtain ⟨a, ha, rfl⟩ := List.mem_map.1 hc
  exact ⟨rfl, kvEnc_one a (ho a ha)⟩
theorem WF_empty : WF St.empty := fun a b h => by
 have : (Tr.nil : Tr Blk).get a = some b := h
 rw [Tr.get_nil] at this; cases this
def z6 : List V := [.nils,.nils,.nils,.nils,.nils,.int .i64 0]
def z3 : List V := [.int .i64 0,.int .i64 0,.int .i64 0]
theorem two_told {T : St} {k1 k2 : Nat} (h1 : T.heap.get k1 = none ∧ k1 < T.next) (h2 : T.heap.get k2 = none ∧ k2 < T.next) (hne : k1 ≠ k2) {x y : List V} (hx : x.length = 6) (hy : y.length = 3) (ox : allOne x = true) (oy : allOne y = true) :
  ∃ Sa Sb Sc Sd, newBlk (some k1) T (.row 0 6 [[.nils,.nils,.nils,.nils,.nils,.int .i64 0]]) = .ok (k1, Sa) ∧ newBlk (some k2) Sa (.row 0 3 [[.int .i64 0,.int .i64 0,.int .i64 0]]) = .ok (k2, Sb) ∧
   storeW 6 (.ptr k1 0 0 0) (.agg x) Sb = .ok Sc ∧ storeW 3 (.ptr k2 0 0 0) (.agg y) Sc = .ok Sd ∧ Ext T Sd ∧ Sd.heap.get k1 = some (.row 0 6 [x]) ∧ Sd.heap.get k2 = some (.row 0 3 [y]) ∧ Sd.next = T.next := by
 have e1 := newBlk_at k1 T (.row 0 6 [z6])
 have xa : Ext T (⟨T.next, T.heap.put k1 (.row 0 6 [z6])⟩ : St) := Ext.newAt h1.1 h1.2 _
 have ga : (⟨T.next, T.heap.put k1 (.row 0 6 [z6])⟩ : St).heap.get k1 = some (.row 0 6 [z6]) := Tr.get_put_sameB _ _ _ trivial
 have fa : (⟨T.next, T.heap.put k1 (.row 0 6 [z6])⟩ : St).heap.get k2 = none := by rw [← h2.1]; exact Tr.get_put_neB _ _ _ _ trivial (Ne.symm hne)
 obtain ⟨Sa, hSa⟩ : ∃ Sa, Sa = (⟨T.next, T.heap.put k1 (.row 0 6 [z6])⟩ : St) := ⟨_, rfl⟩
 have na : Sa.next = T.next := by rw [hSa]
 rw [← hSa] at xa ga fa e1
 clear hSa
 have e2 := newBlk_at k2 Sa (.row 0 3 [z3])
 have xb : Ext Sa (⟨Sa.next, Sa.heap.put k2 (.row 0 3 [z3])⟩ : St) := Ext.newAt fa (by omega) _
 have gb : (⟨Sa.next, Sa.heap.put k2 (.row 0 3 [z3])⟩ : St).heap.get k2 = some (.row 0 3 [z3]) := Tr.get_put_sameB _ _ _ trivial
 obtain ⟨Sb, hSb⟩ : ∃ Sb, Sb = (⟨Sa.next, Sa.heap.put k2 (.row 0 3 [z3])⟩ : St) := ⟨_, rfl⟩
 have nb : Sb.next = T.next := by rw [hSb]; exact na
 rw [← hSb] at xb gb e2
 clear hSb
 have gab := xb.old _ _ ga
 obtain ⟨q1, _⟩ := cell_put (cs := x) gab rfl hx ox
 have gc : (⟨Sb.next, Sb.heap.put k1 (.row 0 6 [x])⟩ : St).heap.get k1 = some (.row 0 6 [x]) := Tr.get_put_sameB _ _ _ trivial
 have gc2 : (⟨Sb.next, Sb.heap.put k1 (.row 0 6 [x])⟩ : St).heap.get k2 = some (.row 0 3 [z3]) := by rw [← gb]; exact Tr.get_put_neB _ _ _ _ trivial (Ne.symm hne)
 obtain ⟨q2, _⟩ := cell_put (cs := y) gc2 rfl hy oy
 refine ⟨Sa, Sb, _, _, e1, e2, q1, q2, ⟨fun a d hd => ?_, by show T.next ≤ Sb.next; omega, fun w a d hd => ?_⟩, ?_, Tr.get_put_sameB _ _ _ trivial, nb⟩
 ·have n1 : a ≠ k1 := fun e => by rw [e, h1.1] at hd; cases hd
  have n2 : a ≠ k2 := fun e => by rw [e, h2.1] at hd; cases hd
  show ((Sb.heap.put k1 _).put k2 _).get a = some d
  rw [Tr.get_put_neB _ _ _ _ trivial n2, Tr.get_put_neB _ _ _ _ trivial n1]
  exact xb.old _ _ (xa.old _ _ hd)
 ·have hd' : ((Sb.heap.put k1 (.row 0 6 [x])).put k2 (.row 0 3 [y])).get a = some d := hd
  show a < Sb.next
  by_cases n2 : a = k2
  ·omega
  ·by_cases n1 : a = k1
   ·omega
   ·rw [Tr.get_put_neB _ _ _ _ trivial n2, Tr.get_put_neB _ _ _ _ trivial n1] at hd'
    exact (xb.wf (xa.wf w)) a d hd'
 ·show ((Sb.heap.put k1 _).put k2 _).get k1 = _
  rw [Tr.get_put_neB _ _ _ _ trivial hne]; exact Tr.get_put_sameB _ _ _ trivial
theorem put_state {S0 T : St} (w0 : WF S0) (x0 : Ext S0 T) {a : Nat} {cs : List V} (g : T.heap.get a = some (.row 0 6 [cs])) (hc : cs.length = 6) (ha : S0.next ≤ a) {z : SV} {s : State} (ok : StOK T z s) :
  ∃ T', storeW 6 (.ptr a 0 0 0) (.agg (z.cells s.next)) T = .ok T' ∧ Ext S0 T' ∧ But a T T' ∧ T'.heap.get a = some (.row 0 6 [z.cells s.next]) ∧ StOK T' z s ∧ T'.next = T.next := by
 obtain ⟨q1, _⟩ := cell_put (cs := z.cells s.next) g hc rfl (ok.one _)
 have b : But a T (⟨T.next, T.heap.put a (.row 0 6 [z.cells s.next])⟩ : St) := But.put (x0.wf w0 _ _ g) _
 exact ⟨_, q1, b.ext w0 x0 ha, b, Tr.get_put_sameB _ _ _ trivial, ok.but b g (.inl rfl), rfl⟩
theorem KVs.but {a ver : Nat} {el : List (List V)} {S S' : St} {qs : List KV} (h : LinesOK S qs) (b : But a S S') (hr : S.heap.get a = some (.row ver 6 el)) : LinesOK S' qs := fun r hr' => (h r hr').but b.old hr (by decide)
structure Lp (S0 : St) (a : Nat) (v : V) (qs : List KV) (s : State) (T : St) : Prop where
 x : Ext S0 T
 sm : Sml s
 sl : Sl T 17 v (qs.map kvEnc)
 lo : LinesOK T qs
 st : ∃ z : SV, T.heap.get a = some (.row 0 6 [z.cells s.next]) ∧ StOK T z s
theorem Lp.ext {S0 T T' : St} {a : Nat} {v : V} {qs : List KV} {s : State} (h : Lp S0 a v qs s T) (x : Ext T T') : Lp S0 a v qs s T' := by
 obtain ⟨z, g, ok⟩ := h.st
 exact ⟨h.x.trans x, h.sm, h.sl.ext x, h.lo.ext x, z, x.old _ _ g, ok.ext x⟩
theorem start {S : St} (w : WF S) {v : V} {l : List KV} {n : Nat} (hlo : LinesOK S l) (hs : Sl S 17 v (l.map kvEnc)) (hn : n ≤ 1000) (hbl : l.length ≤ 9223372036854775807) {G : Nat → KS → Nat → V → St → An} {Q : V → St → Prop}
  (hG : ∀ (S1 : St) (t4 : V) (qs : List KV) (S5 : St), S.next ≤ S1.next → qs.length ≤ n → qs.map (·.1) = fewM (l.map (·.1)) n → Lp S S1.next t4 qs State.new S5 → Ok (fun k K => G k K S1.next t4 S5) Q) :
  Ok (fun k K => callD prog dPl dLv k 14 [] S fun t0 S1 =>
dR (newBlk none S1 (.row 0 6 [[.nils,.nils,.nils,.nils,.nils,.int .i64 0]])) fun r2 =>
dR (storeV prog 30 (.ptr r2.1 0 0 0) t0 r2.2) fun S3 =>
callD prog dPl dLv k 13 [v, (.int .i64 (n : Int))] S3 fun t4 S5 => G k K r2.1 t4 S5) Q := by
 refine (g14 S w).call fun S1 x1 => ?_
 have w1 := x1.wf w
 obtain ⟨S2a, S2, hn2, hst2, x2, hg2, hnx2⟩ := vb w1 6 [.nils,.nils,.nils,.nils,.nils,.int .i64 0] (.agg (SV.new.cells 1)) rfl rfl rfl
 rw [agg_cells] at hg2
 have x02 := x1.trans x2
 simp only [hn2, dR_ok, st30, hst2]
 refine Does.call (g13 v l n S2 (x02.wf w) (hlo.ext x02) (hs.ext x02) hn hbl) fun t4 S5 ⟨qs, x5, own5, lo5, hqs⟩ => ?_
 have hql : qs.length ≤ n := by have := congrArg List.length hqs; rw [List.length_map] at this; have := fewM_len (l.map (·.1)) n; omega
 exact hG S1 t4 qs S5 x1.next hql hqs ⟨x02.trans x5, Sml.new, own5.sl, lo5.ext x5, SV.new, x5.old _ _ hg2, StOK.new _⟩
theorem StOK.plen {S : St} {x : SV} {s : State} (h : StOK S x s) : lenW x.p = .ok (.int .i64 s.posted.length) := by
 rw [h.pp.lenI, ← h.q, List.length_map]
abbrev I64 (n : Int) : Prop := -9223372036854775808 ≤ n ∧ n ≤ 9223372036854775807
theorem wr_id {n : Int} (h : I64 n) : wr .i64 n = n := wr64 h.1 h.2
theorem wr_I64 (n : Int) : I64 (wr .i64 n) := by
 unfold wr lo hi
 simp only
 split
 ·omega
 ·rw [IntKind.wrap_i64]; omega
theorem wru_id {n : Int} (h1 : 0 ≤ n) (h2 : n < 18446744073709551616) : wr .u64 n = n := by
 unfold wr lo hi
 simp only
 rw [if_pos (by omega)]
theorem wru_mod (n : Int) : wr .u64 n = n % 18446744073709551616 := by
 unfold wr lo hi
 simp only
 split
 ·omega
 ·rfl
theorem addM_spec {a b : Int} (ha : I64 a) (hb : I64 b) : addM a b = if I64 (a + b) then (a + b, 0) else (0, 7) := by
 unfold addM at *
 have e1 : 0 < b → wr .i64 (9223372036854775807 - b) = 9223372036854775807 - b := fun h => wr64 (by omega) (by omega)
 have e2 : b < 0 → wr .i64 (-9223372036854775808 - b) = -9223372036854775808 - b := fun h => wr64 (by omega) (by omega)
 by_cases h : -9223372036854775808 ≤ a + b ∧ a + b ≤ 9223372036854775807
 ·rw [if_pos h, wr64 h.1 h.2, if_neg]
  rintro (⟨h1, h2⟩ | ⟨h1, h2⟩)
  ·rw [e1 h1] at h2; omega
  ·rw [e2 h1] at h2; omega
 ·rw [if_neg h, if_pos]
  by_cases h0 : 0 < b
  ·exact .inl ⟨h0, by rw [e1 h0]; omega⟩
  ·exact .inr ⟨by omega, by rw [e2 (by omega)]; omega⟩
theorem sub0_spec {b : Int} (hb : I64 b) : subM 0 b = if b = -9223372036854775808 then (0, 7) else (-b, 0) := by
 unfold subM at *
 have e1 : b < 0 → wr .i64 (9223372036854775807 + b) = 9223372036854775807 + b := fun h => wr64 (by omega) (by omega)
 have e2 : 0 < b → wr .i64 (-9223372036854775808 + b) = -9223372036854775808 + b := fun h => wr64 (by omega) (by omega)
 by_cases h : b = -9223372036854775808
 ·rw [if_pos h, if_pos]
  exact .inl ⟨by omega, by rw [e1 (by omega)]; omega⟩
 ·rw [if_neg h, if_neg, Int.zero_sub, wr64 (by omega) (by omega)]
  rintro (⟨h1, h2⟩ | ⟨h1, h2⟩)
  ·rw [e1 h1] at h2; omega
  ·rw [e2 h1] at h2; omega
theorem addM_I64 (a b : Int) : I64 (addM a b).1 := by
 unfold addM
 split
 ·show I64 0; omega
 ·exact wr_I64 _
theorem shareM_I64 (n bp : Int) : I64 (shareM n bp).1 := by
 unfold shareM
 have h0 : I64 0 := by omega
 split
 ·exact h0
 ·simp only
  split
  ·exact h0
  ·split
   ·exact h0
   ·split
    ·exact wr_I64 _
    ·exact wr_I64 _
theorem exactL : ∀ (l : List Int) (h w s : Int), (∀ n ∈ l, I64 n) → 0 ≤ h → h < 18446744073709551616 → 0 ≤ w → w < 18446744073709551616 → (h * 18446744073709551616 + w - s) % 340282366920938463463374607431768211456 = 0 →
  ∃ h' w', runL exactStep exactFin l (h, w) = exactFin (h', w') ∧ 0 ≤ h' ∧ h' < 18446744073709551616 ∧ 0 ≤ w' ∧ w' < 18446744073709551616 ∧ (h' * 18446744073709551616 + w' - (s + l.sum)) % 340282366920938463463374607431768211456 = 0
 | [], h, w, s, _, a, b, c, d, e => ⟨h, w, rfl, a, b, c, d, by simpa using e⟩
 | n :: l, h, w, s, hl, a, b, c, d, e => by
  have hn := hl n (List.mem_cons_self ..)
  have hstep : ∃ h2 w2, exactStep (h, w) n = .inr (h2, w2) ∧ 0 ≤ h2 ∧ h2 < 18446744073709551616 ∧ 0 ≤ w2 ∧ w2 < 18446744073709551616 ∧ (h2 * 18446744073709551616 + w2 - (s + n)) % 340282366920938463463374607431768211456 = 0 := by
   refine ⟨_, _, rfl, ?_, ?_, ?_, ?_, ?_⟩
   ·simp only; omega
   ·simp only; omega
   ·simp only; omega
   ·simp only; omega
   ·simp only [wru_mod]
    split <;> omega
  obtain ⟨h2, w2, e1, a2, b2, c2, d2, e2⟩ := hstep
  obtain ⟨h', w', r1, r2⟩ := exactL l h2 w2 (s + n) (fun m hm => hl m (List.mem_cons_of_mem _ hm)) a2 b2 c2 d2 e2
  refine ⟨h', w', ?_, ?_⟩
  ·simp only [runL, e1]; exact r1
  ·rw [List.sum_cons, ← Int.add_assoc]; exact r2
theorem sum_bound : ∀ (l : List Int), (∀ n ∈ l, I64 n) → -9223372036854775808 * (l.length : Int) ≤ l.sum ∧ l.sum ≤ 9223372036854775808 * (l.length : Int)
 | [], _ => by simp
 | n :: l, h => by
  have h1 := h n (List.mem_cons_self ..)
  have h2 := sum_bound l fun m hm => h m (List.mem_cons_of_mem _ hm)
  simp only [List.sum_cons, List.length_cons]
  omega
theorem exactM_spec {l : List Int} (h : ∀ n ∈ l, I64 n) (hl : l.length ≤ 1000000) : (exactM l).1 = wr .i64 l.sum ∧ ((exactM l).2 = true ↔ I64 l.sum) := by
 obtain ⟨h', w', e, a, b, c, d, m⟩ := exactL l 0 0 0 h (by decide) (by decide) (by decide) (by decide) (by decide)
 have hs := sum_bound l h
 unfold exactM
 rw [e]
 have hb1 : -9223372036854775808000000 ≤ l.sum := by omega
 have hb2 : l.sum ≤ 9223372036854775808000000 := by omega
 have key : w' = l.sum % 18446744073709551616 ∧ h' = (l.sum / 18446744073709551616) % 18446744073709551616 := by
  rw [Int.zero_add] at m
  omega
 constructor
 ·show wr .i64 w' = wr .i64 l.sum
  unfold wr lo hi
  simp only [IntKind.wrap_i64]
  split <;> split <;> omega
 ·show (if w'.fdiv (2 ^ 63) = 0 then decide (h' = 0) else decide (h' = 18446744073709551615)) = true ↔ _
  have hf : w'.fdiv (2 ^ 63) = w' / 9223372036854775808 := by
   rw [Int.fdiv_eq_ediv_of_nonneg _ (by decide)]
   rfl
  rw [hf]
  split
  ·simp only [decide_eq_true_eq]; omega
  ·simp only [decide_eq_true_eq]; omega
theorem exactM_of {l : List Int} (h : ∀ n ∈ l, I64 n) (hl : l.length ≤ 1000000) (hs : I64 l.sum) : exactM l = (l.sum, true) := by
 obtain ⟨h1, h2⟩ := exactM_spec h hl
 exact Prod.ext (by rw [h1, wr_id hs]) (h2.2 hs)
theorem ltB_irrefl : ∀ a, ltB a a = false
 | [] => rfl
 | x :: a => by
  simp only [ltB, cond_eq_ite]
  rw [if_neg (by simp [Nat.blt]), if_pos (by simp)]
  exact ltB_irrefl a
theorem ltB_cons (x y : UInt8) (a b : List UInt8) : ltB (x :: a) (y :: b) = true ↔ x.toNat < y.toNat ∨ x.toNat = y.toNat ∧ ltB a b = true := by
 simp only [ltB, cond_eq_ite, Nat.blt_eq, Nat.beq_eq]
 split
 ·rename_i h; simp [h]
 ·rename_i h
  split
  ·rename_i h2; simp [h2]
  ·rename_i h2; simp [h, h2]
theorem ltB_trans : ∀ {a b c : List UInt8}, ltB a b = true → ltB b c = true → ltB a c = true
 | [], [], c, h, _ => by cases h
 | x :: a, [], c, h, _ => by cases h
 | a, y :: b, [], _, h => by cases h
 | [], y :: b, z :: c, _, _ => rfl
 | x :: a, y :: b, z :: c, h1, h2 => by
  rw [ltB_cons] at *
  rcases h1 with h1 | ⟨h1, h3⟩ <;> rcases h2 with h2 | ⟨h2, h4⟩
  ·exact .inl (by omega)
  ·exact .inl (by omega)
  ·exact .inl (by omega)
  ·exact .inr ⟨by omega, ltB_trans h3 h4⟩
theorem ltB_tri : ∀ a b : List UInt8, ltB a b = true ∨ a = b ∨ ltB b a = true
 | [], [] => .inr (.inl rfl)
 | [], y :: b => .inl rfl
 | x :: a, [] => .inr (.inr rfl)
 | x :: a, y :: b => by
  rw [ltB_cons, ltB_cons]
  rcases Nat.lt_trichotomy x.toNat y.toNat with h | h | h
  ·exact .inl (.inl h)
  ·have hxy : x = y := UInt8.toNat_inj.1 h
   rcases ltB_tri a b with h2 | h2 | h2
   ·exact .inl (.inr ⟨h, h2⟩)
   ·exact .inr (.inl (by rw [hxy, h2]))
   ·exact .inr (.inr (.inr ⟨h.symm, h2⟩))
  ·exact .inr (.inr (.inl h))
theorem ltB_ne {a b : List UInt8} (h : ltB a b = true) : a ≠ b := fun e => by subst e; rw [ltB_irrefl] at h; cases h
theorem runL_append {σ ρ α : Type} {step : σ → α → ρ ⊕ σ} {fin : σ → ρ} : ∀ (a b : List α) (s : σ), runL step fin (a ++ b) s = runL step (fun s => runL step fin b s) a s
 | [], b, s => rfl
 | x :: a, b, s => by
  simp only [List.cons_append, runL]
  split
  ·rfl
  ·exact runL_append a b _
theorem runL_chain' {α : Type} {step : Option α → α → Bool ⊕ Option α} {good : α → Prop} {R : α → α → Prop}
  (h2 : ∀ a p, ¬ good a → step p a = .inl false) (h3 : ∀ p a, good a → R p a → step (some p) a = .inr (some a)) (h4 : ∀ p a, good a → ¬ R p a → step (some p) a = .inl false)
  (tr : ∀ a b c, R a b → R b c → R a c) : ∀ (l : List α) (p : α), runL step (fun _ => true) l (some p) = true ↔ (∀ a ∈ l, good a) ∧ (∀ a ∈ l, R p a) ∧ l.Pairwise R
 | [], p => by simp [runL]
 | a :: l, p => by
  by_cases g : good a
  ·by_cases r : R p a
   ·simp only [runL, h3 p a g r]
    rw [runL_chain' h2 h3 h4 tr l a]
    simp only [List.mem_cons, List.pairwise_cons]
    constructor
    ·rintro ⟨q1, q2, q3⟩
     exact ⟨fun b hb => hb.elim (fun e => e ▸ g) (q1 b), fun b hb => hb.elim (fun e => e ▸ r) (fun hb => tr _ _ _ r (q2 b hb)), q2, q3⟩
    ·rintro ⟨q1, q2, q3, q4⟩
     exact ⟨fun b hb => q1 b (.inr hb), q3, q4⟩
   ·simp only [runL, h4 p a g r]
    constructor
    ·intro h; cases h
    ·rintro ⟨_, q2, _⟩; exact absurd (q2 a (List.mem_cons_self ..)) r
  ·simp only [runL, h2 a (some p) g]
   constructor
   ·intro h; cases h
   ·rintro ⟨q1, _, _⟩; exact absurd (q1 a (List.mem_cons_self ..)) g
theorem runL_chain {α : Type} {step : Option α → α → Bool ⊕ Option α} {good : α → Prop} {R : α → α → Prop} (h1 : ∀ a, good a → step none a = .inr (some a))
  (h2 : ∀ a p, ¬ good a → step p a = .inl false) (h3 : ∀ p a, good a → R p a → step (some p) a = .inr (some a)) (h4 : ∀ p a, good a → ¬ R p a → step (some p) a = .inl false)
  (tr : ∀ a b c, R a b → R b c → R a c) : ∀ (l : List α), runL step (fun _ => true) l none = true ↔ (∀ a ∈ l, good a) ∧ l.Pairwise R
 | [] => by simp [runL]
 | a :: l => by
  by_cases g : good a
  ·simp only [runL, h1 a g]
   rw [runL_chain' h2 h3 h4 tr l a]
   simp only [List.mem_cons, List.pairwise_cons]
   constructor
   ·rintro ⟨q1, q2, q3⟩
    exact ⟨fun b hb => hb.elim (fun e => e ▸ g) (q1 b), q2, q3⟩
   ·rintro ⟨q1, q3, q4⟩
    exact ⟨fun b hb => q1 b (.inr hb), q3, q4⟩
  ·simp only [runL, h2 a none g]
   constructor
   ·intro h; cases h
   ·rintro ⟨q1, _⟩; exact absurd (q1 a (List.mem_cons_self ..)) g
theorem before_trans {a b c : Date} (h1 : a.before b = true) (h2 : b.before c = true) : a.before c = true := by
 unfold Date.before at *
 simp only [Bool.and_eq_true, decide_eq_true_eq] at *
 exact ⟨h1.1, h2.2.1, by omega⟩
theorem aheadR_iff (a b : Rate) : aheadR a b = true ↔ ltB a.cat b.cat = true ∨ a.cat = b.cat ∧ a.day.before b.day = true := by
 unfold aheadR
 split
 ·rename_i h; simp [h]
 ·rename_i h
  split
  ·rename_i h2; simp only [beq_iff_eq] at h2; exact ⟨fun q => .inr ⟨h2, q⟩, fun q => q.elim (fun q => absurd q h) (·.2)⟩
  ·rename_i h2; simp only [beq_iff_eq] at h2; simp [h, h2]
theorem aheadR_trans {a b c : Rate} (h1 : aheadR a b = true) (h2 : aheadR b c = true) : aheadR a c = true := by
 rw [aheadR_iff] at *
 rcases h1 with h1 | ⟨e1, h1⟩ <;> rcases h2 with h2 | ⟨e2, h2⟩
 ·exact .inl (ltB_trans h1 h2)
 ·exact .inl (e2 ▸ h1)
 ·exact .inl (e1 ▸ h2)
 ·exact .inr ⟨e1.trans e2, before_trans h1 h2⟩
theorem tableM_iff (l : List Rate) : tableM l = true ↔ l.length ≤ 24 ∧ (∀ r ∈ l, rowM r = 0) ∧ l.Pairwise (fun a b => aheadR a b = true) := by
 unfold tableM
 split
 ·rename_i h; simp; omega
 ·rename_i h
  rw [runL_chain (good := fun r => rowM r = 0) (R := fun a b => aheadR a b = true)]
  ·constructor
   ·intro q; exact ⟨by omega, q⟩
   ·intro q; exact q.2
  ·intro a g; simp only [tableStep, g, ne_eq, not_true_eq_false, if_false]
  ·intro a p g; simp only [tableStep, ne_eq, g, not_false_eq_true, if_true]
  ·intro p a g r; simp only [tableStep, g, ne_eq, not_true_eq_false, if_false, r, if_true]
  ·intro p a g r; simp only [tableStep, g, ne_eq, not_true_eq_false, if_false, r]; rfl
  ·intro a b c; exact aheadR_trans
theorem serM_iff (l : List Ser) : serM l = true ↔ l.length ≤ 8 ∧ (∀ s ∈ l, nameM s.name = true ∧ serBad s = false) ∧ l.Pairwise (fun a b => ltB a.name b.name = true) := by
 unfold serM
 split
 ·rename_i h; simp; omega
 ·rename_i h
  rw [runL_chain (good := fun s : Ser => nameM s.name = true ∧ serBad s = false) (R := fun a b => ltB a.name b.name = true)]
  ·constructor
   ·intro q; exact ⟨by omega, q⟩
   ·intro q; exact q.2
  ·intro a g; simp [serStep, serAfter, g.1, g.2]
  ·intro a p g
   unfold serStep
   split
   ·rfl
   ·split
    ·rfl
    ·split
     ·rfl
     ·rename_i h1 h2 h3
      exact absurd ⟨by simpa using h1, by simpa using h3⟩ g
  ·intro p a g r; simp [serStep, serAfter, g.1, g.2, r]
  ·intro p a g r; simp [serStep, serAfter, g.1, g.2, r]
  ·intro a b c; exact ltB_trans
theorem sessL : ∀ (l : List Sess) (last : Int), runL sessStep (fun _ => true) l last = true ↔ (∀ s ∈ l, last < s.id ∧ 0 ≤ s.last ∧ s.last ≤ 1099511627776 ∧ (s.last = 0 → s.reply = Rep.zero)) ∧ l.Pairwise (fun a b => a.id < b.id)
 | [], last => by simp [runL]
 | s :: l, last => by
  by_cases g : last < s.id ∧ 0 ≤ s.last ∧ s.last ≤ 1099511627776 ∧ (s.last = 0 → s.reply = Rep.zero)
  ·have e : sessStep last s = .inr s.id := by
    unfold sessStep
    rw [if_neg (by omega), if_neg (by omega), if_neg (by omega), if_neg (fun h => h.2 (g.2.2.2 h.1))]
   simp only [runL, e]
   rw [sessL l s.id]
   simp only [List.mem_cons, List.pairwise_cons]
   constructor
   ·rintro ⟨q1, q2⟩
    exact ⟨fun b hb => hb.elim (fun e => e ▸ g) (fun hb => ⟨by have := (q1 b hb).1; omega, (q1 b hb).2⟩), fun b hb => (q1 b hb).1, q2⟩
   ·rintro ⟨q1, q2, q3⟩
    exact ⟨fun b hb => ⟨q2 b hb, (q1 b (.inr hb)).2⟩, q3⟩
  ·have e : sessStep last s = .inl false := by
    unfold sessStep
    repeat' split
    all_goals first | rfl | skip
    rename_i h1 h2 h3 h4
    refine absurd ⟨by omega, by omega, by omega, fun h => ?_⟩ g
    by_cases c : s.reply = Rep.zero
    ·exact c
    ·exact absurd ⟨h, c⟩ h4
   simp only [runL, e]
   constructor
   ·intro h; cases h
   ·rintro ⟨q1, _⟩; exact absurd (q1 s (List.mem_cons_self ..)) g
theorem sessM_iff (l : List Sess) : sessM l = true ↔ l.length ≤ 8 ∧ (∀ s ∈ l, 0 < s.id ∧ 0 ≤ s.last ∧ s.last ≤ 1099511627776 ∧ (s.last = 0 → s.reply = Rep.zero)) ∧ l.Pairwise (fun a b => a.id < b.id) := by
 unfold sessM
 split
 ·rename_i h; simp; omega
 ·rename_i h
  rw [sessL]
  exact ⟨fun q => ⟨by omega, q⟩, fun q => q.2⟩
theorem lowM_take {α : Type} (p : α → Bool) : ∀ (l : List α) (n : Nat), runL (lowStep p) id l n = n + (l.takeWhile p).length
 | [], n => rfl
 | a :: l, n => by
  by_cases c : p a = true
  ·simp only [runL, lowStep, c, if_true, List.takeWhile_cons]
   rw [lowM_take p l (n + 1), List.length_cons]; omega
  ·simp only [runL, lowStep, c, if_false, List.takeWhile_cons]; rfl
theorem insAt_low {α : Type} (p : α → Bool) (l : List α) (a : α) : insAt l (lowM p l) a = l.takeWhile p ++ a :: l.dropWhile p := by
 unfold insAt lowM
 rw [lowM_take, Nat.zero_add]
 have h1 : l.take (l.takeWhile p).length = l.takeWhile p := by
  have := congrArg (List.take (l.takeWhile p).length) (List.takeWhile_append_dropWhile (p := p) (l := l)).symm
  rw [List.take_left'] at this
  ·exact this
  ·rfl
 have h2 : l.drop (l.takeWhile p).length = l.dropWhile p := by
  have := congrArg (List.drop (l.takeWhile p).length) (List.takeWhile_append_dropWhile (p := p) (l := l)).symm
  rw [List.drop_left'] at this
  ·exact this
  ·rfl
 rw [h1, h2]
theorem mem_takeWhile {α : Type} {p : α → Bool} : ∀ {l : List α} {a : α}, a ∈ l.takeWhile p → p a = true ∧ a ∈ l
 | [], a, h => by cases h
 | x :: l, a, h => by
  rw [List.takeWhile_cons] at h
  split at h
  ·rename_i c
   rcases List.mem_cons.1 h with rfl | h
   ·exact ⟨c, List.mem_cons_self ..⟩
   ·exact ⟨(mem_takeWhile h).1, List.mem_cons_of_mem _ (mem_takeWhile h).2⟩
  ·cases h
theorem ins_sorted {α : Type} {R : α → α → Prop} {p : α → Bool} {l : List α} {a : α} (hl : l.Pairwise R) (tr : ∀ a b c, R a b → R b c → R a c) (h1 : ∀ x ∈ l, p x = true → R x a) (h2 : ∀ x ∈ l, p x = false → R a x) :
  (l.takeWhile p ++ a :: l.dropWhile p).Pairwise R := by
 induction l with
 | nil => simp
 | cons x l ih =>
  rw [List.pairwise_cons] at hl
  by_cases c : p x = true
  ·simp only [List.takeWhile_cons, List.dropWhile_cons, c, if_true, List.cons_append, List.pairwise_cons]
   refine ⟨fun b hb => ?_, ih hl.2 (fun y hy => h1 y (List.mem_cons_of_mem _ hy)) (fun y hy => h2 y (List.mem_cons_of_mem _ hy))⟩
   rcases List.mem_append.1 hb with hb | hb
   ·exact hl.1 b (mem_takeWhile hb).2
   ·rcases List.mem_cons.1 hb with rfl | hb
    ·exact h1 x (List.mem_cons_self ..) c
    ·exact hl.1 b (List.dropWhile_suffix p |>.mem hb)
  ·have c : p x = false := by simpa using c
   simp only [List.takeWhile_cons, List.dropWhile_cons, c, Bool.false_eq_true, if_false, List.nil_append, List.pairwise_cons]
   refine ⟨fun b hb => ?_, hl⟩
   have hx := h2 x (List.mem_cons_self ..) (by simpa using c)
   rcases List.mem_cons.1 hb with rfl | hb
   ·exact hx
   ·exact tr _ _ _ hx (hl.1 b hb)
theorem insAt_mem {α : Type} (l : List α) (i : Nat) (a x : α) : x ∈ insAt l i a ↔ x = a ∨ x ∈ l := by
 unfold insAt
 rw [List.mem_append, List.mem_cons]
 constructor
 ·rintro (h | h | h)
  ·exact .inr (List.mem_of_mem_take h)
  ·exact .inl h
  ·exact .inr (List.mem_of_mem_drop h)
 ·rintro (h | h)
  ·exact .inr (.inl h)
  ·rw [← List.take_append_drop i l, List.mem_append] at h
   exact h.elim .inl (fun h => .inr (.inr h))
theorem sizeM_abs {n : Int} (h : I64 n) : sizeM n = if n < 0 then -n else n := by
 unfold sizeM
 split
 ·rename_i c
  have h1 : wr .u64 n = 18446744073709551616 + n := by rw [wru_mod]; omega
  rw [h1]
  have h2 : notU (18446744073709551616 + n) = -n - 1 := by
   unfold notU
   simp only [IntKind.signed, Bool.false_eq_true, if_false]
   have hm : (IntKind.u64.max : Int) = 18446744073709551615 := by decide
   rw [hm]
   have hb : IntKind.u64.bits = 64 := rfl
   rw [hb]
   have : (BitVec.ofInt 64 18446744073709551615 ^^^ BitVec.ofInt 64 (18446744073709551616 + n)) = ~~~ (BitVec.ofInt 64 (18446744073709551616 + n)) := by
    rw [show (BitVec.ofInt 64 18446744073709551615) = BitVec.allOnes 64 from by decide, BitVec.allOnes_xor]
   rw [this, BitVec.toNat_not]
   have hv : (BitVec.ofInt 64 (18446744073709551616 + n)).toNat = (18446744073709551616 + n).toNat := by
    rw [BitVec.toNat_ofInt]
    omega
   rw [hv, wru_id (by omega) (by omega)]
   omega
  rw [h2, wru_id (by omega) (by omega)]
  omega
 ·exact wru_id (by omega) (by omega)
def shareU (u bp : Int) : Option Int :=
 if 0 < bp ∧ 9223372036854775807 / bp < u / 10000 then none else
  if 9223372036854775807 < u / 10000 * bp + (2 * (u % 10000) * bp + 10000) / 20000 then none else some (u / 10000 * bp + (2 * (u % 10000) * bp + 10000) / 20000)
theorem shareU_range {u bp t : Int} (hu : 0 ≤ u) (hb : 0 ≤ bp) (h : shareU u bp = some t) : 0 ≤ t ∧ t ≤ 9223372036854775807 := by
 unfold shareU at h
 split at h
 ·cases h
 ·split at h
  ·cases h
  ·rename_i h2
   cases h
   have h3 : 0 ≤ u / 10000 * bp := Int.mul_nonneg (by omega) hb
   have h4 : 0 ≤ 2 * (u % 10000) * bp := Int.mul_nonneg (by omega) hb
   exact ⟨by omega, by omega⟩
theorem shareM_eq {n bp : Int} (h : I64 n) (h1 : 0 ≤ bp) (h2 : bp ≤ 100000) : shareM n bp = match shareU (if n < 0 then -n else n) bp with
  | none => (0, 7)
  | some t => (if n < 0 then -t else t, 0) := by
 unfold shareM
 rw [if_neg (by omega)]
 simp only [sizeM_abs h]
 have hp : wr .u64 bp = bp := wru_id h1 (by omega)
 rw [hp]
 obtain ⟨u, hu⟩ : ∃ u, u = (if n < 0 then -n else n) := ⟨_, rfl⟩
 rw [← hu]
 have hu0 : 0 ≤ u ∧ u ≤ 9223372036854775808 := by subst hu; split <;> omega
 have hq : u.tdiv 10000 = u / 10000 := Int.tdiv_eq_ediv_of_nonneg hu0.1
 have hr : u.tmod 10000 = u % 10000 := Int.tmod_eq_emod_of_nonneg hu0.1
 have hmax : (9223372036854775807 : Int).tdiv bp = 9223372036854775807 / bp := Int.tdiv_eq_ediv_of_nonneg (by decide)
 rw [hq, hr, hmax, wru_id (n := u / 10000) (by omega) (by omega)]
 have hdiv : 0 < bp → 0 ≤ 9223372036854775807 / bp ∧ 9223372036854775807 / bp < 18446744073709551616 := by
  intro hb
  constructor
  ·exact Int.ediv_nonneg (by decide) (by omega)
  ·have := Int.ediv_le_self bp (a := 9223372036854775807) (by decide); omega
 unfold shareU
 by_cases c : 0 < bp ∧ 9223372036854775807 / bp < u / 10000
 ·rw [if_pos c, if_pos ⟨c.1, by rw [wru_id (hdiv c.1).1 (hdiv c.1).2]; exact c.2⟩]
 ·rw [if_neg c, if_neg (fun q => c ⟨q.1, by have := q.2; rwa [wru_id (hdiv q.1).1 (hdiv q.1).2] at this⟩)]
  have hm1 : 0 ≤ u / 10000 * bp := Int.mul_nonneg (by omega) h1
  have hm2 : u / 10000 * bp ≤ 9223372036854775807 := by
   by_cases hb : 0 < bp
   ·have hle : u / 10000 ≤ 9223372036854775807 / bp := by
     by_cases q : u / 10000 ≤ 9223372036854775807 / bp
     ·exact q
     ·exact absurd ⟨hb, by omega⟩ c
    calc u / 10000 * bp ≤ 9223372036854775807 / bp * bp := Int.mul_le_mul_of_nonneg_right hle h1
     _ ≤ 9223372036854775807 := Int.ediv_mul_le _ (by omega)
   ·have : bp = 0 := by omega
    subst this; simp
  have hr1 : 0 ≤ 2 * (u % 10000) * bp := Int.mul_nonneg (by omega) h1
  have hr2 : 2 * (u % 10000) * bp ≤ 2 * 10000 * 100000 := Int.mul_le_mul (by omega) h2 h1 (by decide)
  rw [wru_id hm1 (by omega), wru_id (n := 2 * (u % 10000)) (by omega) (by omega), wru_id hr1 (by omega), wru_id (n := 2 * (u % 10000) * bp + 10000) (by omega) (by omega), w20000]
  have ht : (2 * (u % 10000) * bp + 10000).tdiv 20000 = (2 * (u % 10000) * bp + 10000) / 20000 := Int.tdiv_eq_ediv_of_nonneg (by omega)
  rw [ht, wru_id (n := (2 * (u % 10000) * bp + 10000) / 20000) (by omega) (by omega), wru_id (n := u / 10000 * bp + (2 * (u % 10000) * bp + 10000) / 20000) (by omega) (by omega)]
  obtain ⟨t, htt⟩ : ∃ t, t = u / 10000 * bp + (2 * (u % 10000) * bp + 10000) / 20000 := ⟨_, rfl⟩
  have ht0 : 0 ≤ t := by omega
  rw [← htt]
  split
  ·rfl
  ·rename_i hle
   rw [wr64 (n := t) (by omega) (by omega)]
   split
   ·rw [wr64 (by omega) (by omega)]; simp
   ·rfl
theorem shareM_neg {n bp t : Int} (h : I64 n) (h1 : 0 ≤ bp) (h2 : bp ≤ 100000) (hn : n ≠ -9223372036854775808) (hs : shareM n bp = (t, 0)) : shareM (-n) bp = (-t, 0) ∧ t ≠ -9223372036854775808 := by
 rw [shareM_eq h h1 h2] at hs
 rw [shareM_eq (by omega) h1 h2]
 have hu : (if -n < 0 then - -n else -n) = if n < 0 then -n else n := by split <;> split <;> omega
 rw [hu]
 cases hx : shareU (if n < 0 then -n else n) bp with
 | none => rw [hx] at hs; cases hs
 | some x =>
  rw [hx] at hs
  obtain ⟨a, b⟩ := shareU_range (by split <;> omega) h1 hx
  simp only [Prod.mk.injEq, and_true] at hs ⊢
  by_cases c0 : n = 0
  ·subst c0
   have : x = 0 := by
    simp only [Int.lt_irrefl, if_false] at hx
    unfold shareU at hx
    simp only [Int.zero_ediv, Int.zero_emod, Int.zero_mul, Int.mul_zero] at hx
    split at hx
    ·cases hx
    ·split at hx
     ·cases hx
     ·cases hx; decide
   subst this
   simp at hs ⊢
   omega
  ·constructor
   ·rw [← hs]; split <;> split <;> omega
   ·rw [← hs]; split <;> omega
theorem runL_fin {σ α : Type} {step : σ → α → Bool ⊕ σ} (hs : ∀ s a r, step s a = .inl r → r = false) (c : Bool) : ∀ (l : List α) (s : σ), runL step (fun _ => c) l s = (runL step (fun _ => true) l s && c)
 | [], s => by simp [runL]
 | a :: l, s => by
  simp only [runL]
  split
  ·rename_i r he; rw [hs _ _ _ he, Bool.false_and]
  ·exact runL_fin hs c l _
structure PG (p : Part) : Prop where
 name : nameM p.cat = true
 lo : 0 ≤ p.bp
 hi : p.bp ≤ 100000
 tax : shareM p.net p.bp = (p.tax, 0)
theorem PG_iff (p : Part) : PG p ↔ nameM p.cat = true ∧ partBad p = false ∧ partTax p = false := by
 unfold partBad partTax
 simp only [Bool.or_eq_false_iff, decide_eq_false_iff_not, Bool.not_eq_false', decide_eq_true_eq]
 constructor
 ·rintro ⟨a, b, c, d⟩
  exact ⟨a, ⟨by omega, by omega⟩, by rw [d], by rw [d]⟩
 ·rintro ⟨a, ⟨b, c⟩, d, e⟩
  exact ⟨a, by omega, by omega, Prod.ext e d⟩
theorem partStep_false : ∀ s a r, partStep s a = .inl r → r = false := by
 intro s a r h
 unfold partStep at h
 repeat' split at h
 all_goals first | (cases h; done) | (cases h; rfl)
theorem okTotal_iff (t : Total) : okTotal t = true ↔ 1 ≤ t.parts.length ∧ t.parts.length ≤ 12 ∧ (∀ p ∈ t.parts, PG p) ∧ t.parts.Pairwise (fun a b => ltB a.cat b.cat = true) ∧ sumsM t = true := by
 unfold okTotal
 split
 ·rename_i h; simp; omega
 ·rename_i h
  split
  ·rename_i h2; simp; omega
  ·rename_i h2
   rw [runL_fin partStep_false, Bool.and_eq_true, runL_chain (good := PG) (R := fun a b => ltB a.cat b.cat = true)]
   ·constructor
    ·rintro ⟨⟨a, b⟩, c⟩; exact ⟨by omega, by omega, a, b, c⟩
    ·rintro ⟨_, _, a, b, c⟩; exact ⟨⟨a, b⟩, c⟩
   ·intro a g
    obtain ⟨g1, g2, g3⟩ := (PG_iff a).1 g
    simp [partStep, partAfter, g1, g2, g3]
   ·intro a p g
    rw [PG_iff] at g
    unfold partStep
    split
    ·rfl
    ·split
     ·rfl
     ·split
      ·rfl
      ·split
       ·rfl
       ·rename_i h1 _ h3 h4
        exact absurd ⟨by simpa using h1, by simpa using h3, by simpa using h4⟩ g
   ·intro p a g r
    obtain ⟨g1, g2, g3⟩ := (PG_iff a).1 g
    simp [partStep, partAfter, g1, g2, g3, r]
   ·intro p a g r
    obtain ⟨g1, g2, g3⟩ := (PG_iff a).1 g
    simp [partStep, partAfter, g1, g2, g3, r]
   ·intro a b c; exact ltB_trans
theorem sumsM_iff {t : Total} (hn : ∀ p ∈ t.parts, I64 p.net) (ht : ∀ p ∈ t.parts, I64 p.tax) (hl : t.parts.length ≤ 1000000) :
  sumsM t = true ↔ I64 t.net ∧ I64 t.tax ∧ I64 t.gross ∧ t.net = (t.parts.map (·.net)).sum ∧ t.tax = (t.parts.map (·.tax)).sum ∧ t.gross = t.net + t.tax := by
 have h1 : ∀ n ∈ t.parts.map (·.net), I64 n := fun n h => by obtain ⟨p, hp, rfl⟩ := List.mem_map.1 h; exact hn p hp
 have h2 : ∀ n ∈ t.parts.map (·.tax), I64 n := fun n h => by obtain ⟨p, hp, rfl⟩ := List.mem_map.1 h; exact ht p hp
 obtain ⟨a1, a2⟩ := exactM_spec h1 (by rw [List.length_map]; exact hl)
 obtain ⟨b1, b2⟩ := exactM_spec h2 (by rw [List.length_map]; exact hl)
 unfold sumsM
 constructor
 ·intro h
  repeat' split at h
  all_goals first | cases h; done | skip
  rename_i c1 c2 c3 c4 c5
  have d := of_decide_eq_true h
  have i1 := a2.1 c1
  have i2 := b2.1 c2
  rw [a1, wr_id i1] at c4
  rw [b1, wr_id i2] at c5
  have j : ∀ n ∈ [t.net, t.tax], I64 n := by
   intro n hn
   simp only [List.mem_cons, List.not_mem_nil, or_false] at hn
   rcases hn with rfl | rfl
   ·rw [← c4]; exact i1
   ·rw [← c5]; exact i2
  obtain ⟨e1, e2⟩ := exactM_spec j (by simp)
  have i3 := e2.1 c3
  rw [e1, wr_id i3] at d
  have hs : [t.net, t.tax].sum = t.net + t.tax := by simp
  rw [hs] at d i3
  exact ⟨by rw [← c4]; exact i1, by rw [← c5]; exact i2, by rw [← d]; exact i3, c4.symm, c5.symm, d.symm⟩
 ·rintro ⟨i1, i2, i3, e1, e2, e3⟩
  have j : ∀ n ∈ [t.net, t.tax], I64 n := by
   intro n hn
   simp only [List.mem_cons, List.not_mem_nil, or_false] at hn
   rcases hn with rfl | rfl
   ·exact i1
   ·exact i2
  have hs : [t.net, t.tax].sum = t.net + t.tax := by simp
  have k3 := exactM_of j (by simp) (by rw [hs, ← e3]; exact i3)
  have k1 := exactM_of h1 (by rw [List.length_map]; exact hl) (by rw [← e1]; exact i1)
  have k2 := exactM_of h2 (by rw [List.length_map]; exact hl) (by rw [← e2]; exact i2)
  rw [k1, k2, k3]
  simp only [if_true, ← e1, ← e2, hs, ← e3, decide_true]
theorem low_get {α : Type} (p : α → Bool) (l : List α) : l[lowM p l]? = (l.dropWhile p)[0]? := by
 unfold lowM
 rw [lowM_take, Nat.zero_add]
 have h : l[(l.takeWhile p).length]? = (l.takeWhile p ++ l.dropWhile p)[(l.takeWhile p).length]? := by rw [List.takeWhile_append_dropWhile]
 rw [h, List.getElem?_append_right (Nat.le_refl _), Nat.sub_self]
theorem drop_head {α : Type} {p : α → Bool} : ∀ {l : List α} {a : α}, (l.dropWhile p)[0]? = some a → p a = false
 | [], a, h => by cases h
 | x :: l, a, h => by
  rw [List.dropWhile_cons] at h
  split at h
  ·exact drop_head h
  ·rename_i c; cases h; simpa using c
theorem not_in_drop {α : Type} {p : α → Bool} {R : α → α → Prop} : ∀ {l : List α}, l.Pairwise R → (∀ a b, R a b → p a = false → p b = false) → ∀ {x : α}, x ∈ l → p x = false → x ∈ l.dropWhile p
 | a :: l, hl, hp, x, hx, h => by
  rw [List.dropWhile_cons]
  rw [List.pairwise_cons] at hl
  split
  ·rename_i c
   rcases List.mem_cons.1 hx with rfl | hx
   ·rw [h] at c; cases c
   ·exact not_in_drop hl.2 hp hx h
  ·exact hx
theorem low_miss {α : Type} {key : α → List UInt8} {l : List α} (hs : l.Pairwise (fun a b => ltB (key a) (key b) = true)) (k : List UInt8) (h : ∀ b, l[lowM (fun x => ltB (key x) k) l]? = some b → key b ≠ k) :
  ∀ x ∈ l, ltB (key x) k = false → ltB k (key x) = true := by
 intro x hx hk
 have hd := not_in_drop (p := fun x => ltB (key x) k) hs (fun a b r ha => by
  cases c : ltB (key b) k with
  | false => rfl
  | true => rw [ltB_trans r c] at ha; cases ha) hx hk
 rw [low_get] at h
 have hsd : (l.dropWhile fun x => ltB (key x) k).Pairwise (fun a b => ltB (key a) (key b) = true) := hs.sublist (List.dropWhile_sublist _)
 cases hc : l.dropWhile (fun x => ltB (key x) k) with
 | nil => rw [hc] at hd; cases hd
 | cons q r =>
  rw [hc] at hd hsd
  have hq : ltB (key q) k = false := drop_head (p := fun x => ltB (key x) k) (l := l) (by rw [hc]; rfl)
  have hne := h q (by rw [hc]; rfl)
  have hkq : ltB k (key q) = true := by
   rcases ltB_tri (key q) k with h1 | h1 | h1
   ·rw [hq] at h1; cases h1
   ·exact absurd h1 hne
   ·exact h1
  rcases List.mem_cons.1 hd with rfl | hd
  ·exact hkq
  ·exact ltB_trans hkq ((List.pairwise_cons.1 hsd).1 x hd)
theorem sorted_set {α : Type} {key : α → List UInt8} {l : List α} (hs : l.Pairwise (fun a b => ltB (key a) (key b) = true)) {i : Nat} {a b : α} (hi : l[i]? = some a) (he : key b = key a) : (l.set i b).Pairwise (fun a b => ltB (key a) (key b) = true) := by
 have hm : ∀ l : List α, l.Pairwise (fun a b => ltB (key a) (key b) = true) ↔ (l.map key).Pairwise (fun a b => ltB a b = true) := fun l => (List.pairwise_map (f := key) (R := fun a b => ltB a b = true)).symm
 rw [hm] at hs ⊢
 have : (l.set i b).map key = l.map key := by
  rw [List.map_set, he]
  apply List.ext_getElem?
  intro j
  rw [List.getElem?_set]
  split
  ·rename_i hj
   subst hj
   rw [List.getElem?_map, hi, List.length_map]
   rw [if_pos (List.getElem?_eq_some_iff.1 hi).1]; rfl
  ·rfl
 rw [this]; exact hs
structure PInv (l : List Part) : Prop where
 name : ∀ p ∈ l, nameM p.cat = true
 bp : ∀ p ∈ l, 0 ≤ p.bp ∧ p.bp ≤ 100000
 net : ∀ p ∈ l, I64 p.net
 srt : l.Pairwise (fun a b => ltB a.cat b.cat = true)
theorem PInv.nil : PInv [] := ⟨fun _ h => (by cases h), fun _ h => (by cases h), fun _ h => (by cases h), .nil⟩
theorem PInv.room {l : List Part} (h : PInv l) {cat : List UInt8} {bp : Int} (hc : nameM cat = true) (h1 : 0 ≤ bp) (h2 : bp ≤ 100000) : PInv (roomPart l cat bp) := by
 unfold roomPart
 split
 ·rename_i hm
  have hmem : ∀ p, p ∈ insAt l (placePart l cat) ⟨cat, bp, 0, 0⟩ → p = ⟨cat, bp, 0, 0⟩ ∨ p ∈ l := fun p hp => (insAt_mem _ _ _ _).1 hp
  refine ⟨fun p hp => ?_, fun p hp => ?_, fun p hp => ?_, ?_⟩
  ·rcases hmem p hp with rfl | hp
   ·exact hc
   ·exact h.name p hp
  ·rcases hmem p hp with rfl | hp
   ·exact ⟨h1, h2⟩
   ·exact h.bp p hp
  ·rcases hmem p hp with rfl | hp
   ·show I64 0; omega
   ·exact h.net p hp
  ·unfold placePart
   rw [insAt_low]
   refine ins_sorted h.srt (fun a b c => ltB_trans) (fun x hx hp => hp) (fun x hx hp => ?_)
   refine low_miss (key := fun p : Part => p.cat) h.srt cat (fun b hb => ?_) x hx hp
   unfold missPart placePart at hm
   rw [hb] at hm
   simpa using hm
 ·exact h
theorem PInv.put {l : List Part} (h : PInv l) {cat : List UInt8} {bp n : Int} (hc : nameM cat = true) (h1 : 0 ≤ bp) (h2 : bp ≤ 100000) : PInv (putM l cat bp n).1 ∧ (putM l cat bp n).1 ≠ [] := by
 obtain ⟨b, hb⟩ := roomPart_get l cat bp
 have hr := h.room hc h1 h2
 unfold putM
 rw [hb]
 have hbm := List.mem_of_getElem? hb
 constructor
 ·refine ⟨fun p hp => ?_, fun p hp => ?_, fun p hp => ?_, sorted_set (key := fun p : Part => p.cat) hr.srt hb rfl⟩
  ·rcases List.mem_or_eq_of_mem_set hp with hp | rfl
   ·exact hr.name p hp
   ·exact hr.name b hbm
  ·rcases List.mem_or_eq_of_mem_set hp with hp | rfl
   ·exact hr.bp p hp
   ·exact hr.bp b hbm
  ·rcases List.mem_or_eq_of_mem_set hp with hp | rfl
   ·exact hr.net p hp
   ·exact addM_I64 _ _
 ·intro e
  have := congrArg List.length e
  rw [List.length_set, List.length_nil] at this
  have := (List.getElem?_eq_some_iff.1 hb).1
  omega
theorem rowM_bp {r : Rate} (h : rowM r = 0) : nameM r.cat = true ∧ r.day.right = true ∧ 0 ≤ r.bp ∧ r.bp ≤ 100000 := by
 unfold rowM at h
 split at h
 ·omega
 ·rename_i h1
  split at h
  ·omega
  ·rename_i h2
   split at h
   ·omega
   ·split at h
    ·omega
    ·exact ⟨by simpa using h1, by simpa using h2, by omega, by omega⟩
theorem findL {cat : List UInt8} {d : Date} : ∀ (l : List Rate) (st : Int × Bool), (st.2 = true → 0 ≤ st.1 ∧ st.1 ≤ 100000) → (∀ r ∈ l, 0 ≤ r.bp ∧ r.bp ≤ 100000) → (runL (findStep cat d) id l st).2 = true → 0 ≤ (runL (findStep cat d) id l st).1 ∧ (runL (findStep cat d) id l st).1 ≤ 100000
 | [], st, h, _, h2 => h h2
 | r :: l, st, h, hl, h2 => by
  simp only [runL, findStep] at h2 ⊢
  refine findL l _ ?_ (fun x hx => hl x (List.mem_cons_of_mem _ hx)) h2
  split
  ·intro _; exact hl r (List.mem_cons_self ..)
  ·exact h
theorem findRate_bp {l : List Rate} {cat : List UInt8} {d : Date} (h : (findRate l cat d).2 = true) : 0 ≤ (findRate l cat d).1 ∧ (findRate l cat d).1 ≤ 100000 := by
 unfold findRate at h ⊢
 split at h
 ·cases h
 ·rename_i h1
  split at h
  ·cases h
  ·rename_i h2
   rw [if_neg h1, if_neg h2]
   have ht := (tableM_iff l).1 (by simpa using h1)
   exact findL l _ (fun h => by cases h) (fun r hr => (rowM_bp (ht.2.1 r hr)).2.2) h
theorem lineM_ok {tab : List Rate} {d : Date} {l : Line} (h : (lineM tab d l).2.2 = 0) : nameM l.cat = true ∧ 0 ≤ (lineM tab d l).1 ∧ (lineM tab d l).1 ≤ 100000 := by
 unfold lineM at h ⊢
 split at h
 ·simp at h
 ·rename_i h1
  split at h
  ·simp at h
  ·rename_i h2
   split at h
   ·simp at h
   ·rename_i h3
    split at h
    ·simp at h
    ·rename_i h4
     rw [if_neg h1, if_neg h2, if_neg h3, if_neg h4]
     exact ⟨by simpa using h2, findRate_bp (by simpa using h4)⟩
theorem totL {tab : List Rate} {d : Date} : ∀ (lines : List Line) (parts : List Part) (r : Total × Int), PInv parts → runL (totStep tab d) wholeM lines parts = r → r.2 = 0 → ∃ ps, PInv ps ∧ wholeM ps = r ∧ (parts ≠ [] ∨ lines ≠ [] → ps ≠ [])
 | [], parts, r, hp, h, _ => ⟨parts, hp, h, fun h => h.elim id (fun h => absurd rfl h)⟩
 | l :: lines, parts, r, hp, h, h0 => by
  simp only [runL] at h
  split at h
  ·rename_i r' he
   subst h
   unfold totStep at he
   split at he
   ·rename_i hc; cases he; exact absurd h0 hc
   ·split at he
    ·rename_i hc; cases he; exact absurd h0 hc
    ·cases he
  ·rename_i s' he
   unfold totStep at he
   split at he
   ·cases he
   ·rename_i hl
    split at he
    ·cases he
    ·cases he
     obtain ⟨a, b, c⟩ := lineM_ok (Decidable.not_not.1 hl)
     obtain ⟨q1, q2⟩ := hp.put (n := (lineM tab d l).2.1) a b c
     obtain ⟨ps, i1, i2, i3⟩ := totL lines _ r q1 h h0
     exact ⟨ps, i1, i2, fun _ => i3 (.inl q2)⟩
def taxed (p : Part) : Part := { p with tax := (shareM p.net p.bp).1 }
theorem wholeL : ∀ (l : List Part) (n x : Int) (ps : List Part) (r : Total × Int), I64 n → I64 x → (∀ p ∈ l, I64 p.net) → runL wholeStep wholeFin l (n, x, ps) = r → r.2 = 0 →
  r.1.parts = ps ++ l.map taxed ∧ (∀ p ∈ l, (shareM p.net p.bp).2 = 0) ∧ r.1.net = n + (l.map (·.net)).sum ∧ r.1.tax = x + (l.map fun p => (shareM p.net p.bp).1).sum ∧ r.1.gross = r.1.net + r.1.tax ∧ I64 r.1.net ∧ I64 r.1.tax ∧ I64 r.1.gross
 | [], n, x, ps, r, hn, hx, _, h, h0 => by
  simp only [runL, wholeFin] at h
  split at h
  ·rename_i hc; subst h; exact absurd h0 hc
  ·rename_i hc
   have hc := Decidable.not_not.1 hc
   subst h
   simp only at hc ⊢
   rw [addM_spec hn hx] at hc ⊢
   split at hc
   ·rename_i hi; rw [if_pos hi]; refine ⟨by simp, by simp, by simp, by simp, rfl, hn, hx, hi⟩
   ·simp at hc
 | p :: l, n, x, ps, r, hn, hx, hl, h, h0 => by
  simp only [runL] at h
  split at h
  ·rename_i r' he
   subst h
   unfold wholeStep at he
   split at he
   ·cases he; simp at h0
   ·cases he
  ·rename_i s' he
   unfold wholeStep at he
   split at he
   ·cases he
   ·rename_i hc
    cases he
    have hp := hl p (List.mem_cons_self ..)
    have c1 : (shareM p.net p.bp).2 = 0 := by by_cases q : (shareM p.net p.bp).2 = 0; exact q; exact absurd (.inl q) hc
    have c2 : (addM n p.net).2 = 0 := by by_cases q : (addM n p.net).2 = 0; exact q; exact absurd (.inr (.inl q)) hc
    have c3 : (addM x (shareM p.net p.bp).1).2 = 0 := by by_cases q : (addM x (shareM p.net p.bp).1).2 = 0; exact q; exact absurd (.inr (.inr q)) hc
    have e2 : (addM n p.net).1 = n + p.net ∧ I64 (n + p.net) := by
     rw [addM_spec hn hp] at c2 ⊢
     split at c2
     ·rename_i hi; rw [if_pos hi]; exact ⟨rfl, hi⟩
     ·simp at c2
    have e3 : (addM x (shareM p.net p.bp).1).1 = x + (shareM p.net p.bp).1 ∧ I64 (x + (shareM p.net p.bp).1) := by
     rw [addM_spec hx (shareM_I64 _ _)] at c3 ⊢
     split at c3
     ·rename_i hi; rw [if_pos hi]; exact ⟨rfl, hi⟩
     ·simp at c3
    simp only [e2.1, e3.1] at h
    obtain ⟨a1, a2, a3, a4, a5⟩ := wholeL l _ _ _ r e2.2 e3.2 (fun q hq => hl q (List.mem_cons_of_mem _ hq)) h h0
    refine ⟨by rw [a1, List.map_cons, List.append_assoc]; rfl, fun q hq => ?_, ?_, ?_, a5⟩
    ·rcases List.mem_cons.1 hq with rfl | hq
     ·exact c1
     ·exact a2 q hq
    ·rw [a3, List.map_cons, List.sum_cons]; omega
    ·rw [a4, List.map_cons, List.sum_cons]; omega
theorem taxed_ok {ps : List Part} (h : PInv ps) (h0 : ps ≠ []) {t : Total} (hl : t.parts.length ≤ 12) (hw : wholeM ps = (t, 0)) : okTotal t = true ∧ (∀ p ∈ t.parts, I64 p.net ∧ I64 p.tax) := by
 obtain ⟨a1, a2, a3, a4, a5, a6, a7, a8⟩ := wholeL ps 0 0 [] (t, 0) (by omega) (by omega) h.net hw rfl
 simp only [List.nil_append, Int.zero_add] at a1 a2 a3 a4 a5 a6 a7 a8
 have hm : ∀ p ∈ t.parts, ∃ q ∈ ps, p = taxed q := fun p hp => by rw [a1] at hp; obtain ⟨q, hq, rfl⟩ := List.mem_map.1 hp; exact ⟨q, hq, rfl⟩
 have hi : ∀ p ∈ t.parts, I64 p.net ∧ I64 p.tax := fun p hp => by
  obtain ⟨q, hq, rfl⟩ := hm p hp
  exact ⟨h.net q hq, shareM_I64 _ _⟩
 refine ⟨(okTotal_iff t).2 ⟨?_, hl, fun p hp => ?_, ?_, ?_⟩, hi⟩
 ·rw [a1, List.length_map]
  cases ps with
  | nil => exact absurd rfl h0
  | cons a l => simp
 ·obtain ⟨q, hq, rfl⟩ := hm p hp
  exact ⟨h.name q hq, (h.bp q hq).1, (h.bp q hq).2, Prod.ext rfl (a2 q hq)⟩
 ·rw [a1, List.pairwise_map]
  exact h.srt
 ·rw [sumsM_iff (fun p hp => (hi p hp).1) (fun p hp => (hi p hp).2) (by omega)]
  refine ⟨a6, a7, a8, ?_, ?_, a5⟩
  ·rw [a3, a1, List.map_map]; rfl
  ·rw [a4, a1, List.map_map]; rfl
theorem totalM_right {tab : List Rate} {d : Date} {lines : List Line} (h : (totalM tab d lines).2 = 0) : d.right = true ∧ okTotal (totalM tab d lines).1 = true ∧ ∀ p ∈ (totalM tab d lines).1.parts, I64 p.net ∧ I64 p.tax := by
 have hf := (totalM_fit h).1
 unfold totalM at h hf ⊢
 split at h
 ·simp at h
 ·rename_i h1
  split at h
  ·simp at h
  ·rename_i h2
   split at h
   ·simp at h
   ·rename_i h3
    split at h
    ·simp at h
    ·rename_i h4
     rw [if_neg h1, if_neg h2, if_neg h3, if_neg h4] at hf ⊢
     obtain ⟨ps, i1, i2, i3⟩ := totL lines [] _ PInv.nil rfl h
     have hne : ps ≠ [] := i3 (.inr (fun e => h3 (by rw [e]; rfl)))
     exact ⟨by simpa using h2, taxed_ok i1 hne hf (by rw [i2]; exact Prod.ext rfl h)⟩
def negP (p : Part) : Part := { p with net := -p.net, tax := -p.tax }
def minI : Int := -9223372036854775808
theorem offL_spec : ∀ (l d : List Int) (r : List Int × Int), (∀ n ∈ l, I64 n) → runL offStep (fun l => (l, 0)) l d = r → r.2 = 0 → r.1 = d ++ l.map (fun n => -n) ∧ ∀ n ∈ l, n ≠ minI
 | [], d, r, _, h, _ => by subst h; simp [runL]
 | n :: l, d, r, hl, h, h0 => by
  simp only [runL, offStep, sub0_spec (hl n (List.mem_cons_self ..))] at h
  by_cases c : n = -9223372036854775808
  ·simp only [c, if_true] at h
   subst h; simp at h0
  ·simp only [c, if_false] at h
   obtain ⟨a, b⟩ := offL_spec l _ r (fun m hm => hl m (List.mem_cons_of_mem _ hm)) h h0
   refine ⟨by rw [a, List.map_cons, List.append_assoc]; rfl, fun m hm => ?_⟩
   rcases List.mem_cons.1 hm with rfl | hm
   ·exact c
   ·exact b m hm
theorem offM_spec {l : List Int} (hl : ∀ n ∈ l, I64 n) (h : (offM l).2 = 0) : (offM l).1 = l.map (fun n => -n) ∧ ∀ n ∈ l, n ≠ minI := by
 have := offL_spec l [] (offM l) hl rfl h
 exact this
theorem backL_spec : ∀ (l a : List Part) (r : List Part × Int), (∀ p ∈ l, I64 p.net ∧ I64 p.tax) → runL backStep (fun l => (l, 0)) l a = r → r.2 = 0 → r.1 = a ++ l.map negP ∧ ∀ p ∈ l, p.net ≠ minI ∧ p.tax ≠ minI
 | [], a, r, _, h, _ => by subst h; simp [runL]
 | p :: l, a, r, hl, h, h0 => by
  simp only [runL, backStep] at h
  split at h
  ·rename_i r' he
   split at he
   ·rename_i hc; cases he; subst h; exact absurd h0 hc
   ·cases he
  ·rename_i s' he
   split at he
   ·cases he
   ·rename_i hc
    cases he
    have hp := hl p (List.mem_cons_self ..)
    obtain ⟨e1, e2⟩ := offM_spec (l := [p.net, p.tax]) (fun n hn => by
     simp only [List.mem_cons, List.not_mem_nil, or_false] at hn
     rcases hn with rfl | rfl
     ·exact hp.1
     ·exact hp.2) (Decidable.not_not.1 hc)
    rw [e1] at h
    obtain ⟨q1, q2⟩ := backL_spec l _ r (fun m hm => hl m (List.mem_cons_of_mem _ hm)) h h0
    refine ⟨by rw [q1, List.map_cons, List.append_assoc]; rfl, fun m hm => ?_⟩
    rcases List.mem_cons.1 hm with rfl | hm
    ·exact ⟨e2 _ (List.mem_cons_self ..), e2 _ (List.mem_cons_of_mem _ (List.mem_cons_self ..))⟩
    ·exact q2 m hm
theorem backM_spec {t : Total} (ht : ∀ p ∈ t.parts, I64 p.net ∧ I64 p.tax) (h1 : I64 t.net) (h2 : I64 t.tax) (h3 : I64 t.gross) (h : (backM t).2 = 0) :
  (backM t).1 = ⟨-t.net, -t.tax, -t.gross, t.parts.map negP⟩ ∧ t.net ≠ minI ∧ t.tax ≠ minI ∧ t.gross ≠ minI ∧ ∀ p ∈ t.parts, p.net ≠ minI ∧ p.tax ≠ minI := by
 unfold backM at h ⊢
 split at h
 ·rename_i hc; exact absurd h hc
 ·rename_i hc
  split at h
  ·rename_i hc2; exact absurd h hc2
  ·rename_i hc2
   rw [if_neg hc, if_neg hc2]
   obtain ⟨e1, e2⟩ := offM_spec (l := [t.net, t.tax, t.gross]) (fun n hn => by
    simp only [List.mem_cons, List.not_mem_nil, or_false] at hn
    rcases hn with rfl | rfl | rfl
    ·exact h1
    ·exact h2
    ·exact h3) (Decidable.not_not.1 hc)
   obtain ⟨q1, q2⟩ := backL_spec t.parts [] _ ht rfl (Decidable.not_not.1 hc2)
   rw [e1, q1]
   exact ⟨rfl, e2 _ (by simp), e2 _ (by simp), e2 _ (by simp), q2⟩
theorem sum_neg : ∀ l : List Int, (l.map fun n => -n).sum = -l.sum
 | [] => rfl
 | n :: l => by rw [List.map_cons, List.sum_cons, List.sum_cons, sum_neg l]; omega
theorem back_right {t : Total} (ht : ∀ p ∈ t.parts, I64 p.net ∧ I64 p.tax) (ho : okTotal t = true) (h : (backM t).2 = 0) : okTotal (backM t).1 = true ∧ (∀ p ∈ (backM t).1.parts, I64 p.net ∧ I64 p.tax) ∧ (backM t).1 = ⟨-t.net, -t.tax, -t.gross, t.parts.map negP⟩ := by
 obtain ⟨o1, o2, o3, o4, o5⟩ := (okTotal_iff t).1 ho
 obtain ⟨s1, s2, s3, s4, s5, s6⟩ := (sumsM_iff (fun p hp => (ht p hp).1) (fun p hp => (ht p hp).2) (by omega)).1 o5
 obtain ⟨b1, b2, b3, b4, b5⟩ := backM_spec ht s1 s2 s3 h
 unfold minI at b2 b3 b4 b5
 have hm : ∀ p ∈ t.parts.map negP, ∃ q ∈ t.parts, p = negP q := fun p hp => by obtain ⟨q, hq, rfl⟩ := List.mem_map.1 hp; exact ⟨q, hq, rfl⟩
 have hi : ∀ p ∈ t.parts.map negP, I64 p.net ∧ I64 p.tax := fun p hp => by
  obtain ⟨q, hq, rfl⟩ := hm p hp
  have := ht q hq
  have := b5 q hq
  show I64 (-q.net) ∧ I64 (-q.tax)
  omega
 refine ⟨?_, by rw [b1]; exact hi, b1⟩
 rw [b1, okTotal_iff]
 refine ⟨by simpa using o1, by simpa using o2, fun p hp => ?_, ?_, ?_⟩
 ·obtain ⟨q, hq, rfl⟩ := hm p hp
  have g := o3 q hq
  exact ⟨g.name, g.lo, g.hi, (shareM_neg (ht q hq).1 g.lo g.hi (b5 q hq).1 g.tax).1⟩
 ·show (t.parts.map negP).Pairwise _
  rw [List.pairwise_map]; exact o4
 ·rw [sumsM_iff (fun p hp => (hi p hp).1) (fun p hp => (hi p hp).2) (by simp; omega)]
  have e1 : (t.parts.map negP).map (·.net) = (t.parts.map (·.net)).map fun n => -n := by rw [List.map_map, List.map_map]; rfl
  have e2 : (t.parts.map negP).map (·.tax) = (t.parts.map (·.tax)).map fun n => -n := by rw [List.map_map, List.map_map]; rfl
  simp only [e1, e2, sum_neg]
  refine ⟨?_, ?_, ?_, ?_, ?_, ?_⟩
  ·show I64 (-t.net); omega
  ·show I64 (-t.tax); omega
  ·show I64 (-t.gross); omega
  ·show -t.net = _; omega
  ·show -t.tax = _; omega
  ·show -t.gross = -t.net + -t.tax; omega
theorem ahead_eq {y : Int} (h1 : 1 ≤ y) (h2 : y ≤ 9999) : Go.Proofs.YtjbicclbalagbaaGreat.ahead y = 365 * (y - 1) + (y - 1) / 4 - (y - 1) / 100 + (y - 1) / 400 := by
 unfold Go.Proofs.YtjbicclbalagbaaGreat.ahead
 have a1 : wr .i64 (y - 1) = y - 1 := wr_id (by omega)
 rw [a1]
 have a2 : (y - 1).tdiv 4 = (y - 1) / 4 := Int.tdiv_eq_ediv_of_nonneg (by omega)
 have a3 : (y - 1).tdiv 100 = (y - 1) / 100 := Int.tdiv_eq_ediv_of_nonneg (by omega)
 have a4 : (y - 1).tdiv 400 = (y - 1) / 400 := Int.tdiv_eq_ediv_of_nonneg (by omega)
 rw [a2, a3, a4]
 rw [wr_id (n := 365 * (y - 1)) (by omega), wr_id (n := (y - 1) / 4) (by omega), wr_id (n := (y - 1) / 100) (by omega), wr_id (n := (y - 1) / 400) (by omega)]
 rw [wr_id (n := 365 * (y - 1) + (y - 1) / 4) (by omega), wr_id (n := 365 * (y - 1) + (y - 1) / 4 - (y - 1) / 100) (by omega), wr_id (by omega)]
theorem monthLen_range (y m : Int) : 28 ≤ monthLen y m ∧ monthLen y m ≤ 31 := by
 unfold monthLen
 repeat' split
 all_goals omega
def months (y : Int) : Nat → Int
 | 0 => 0
 | n + 1 => months y n + monthLen y ((n : Int) + 1)
theorem months_range (y : Int) : ∀ n : Nat, 28 * (n : Int) ≤ months y n ∧ months y n ≤ 31 * (n : Int)
 | 0 => by simp [months]
 | n + 1 => by
  have := months_range y n
  have := monthLen_range y ((n : Int) + 1)
  simp only [months]
  omega
theorem monthsL (y : Int) : ∀ (n k : Nat) (a : Int), -1000000000 ≤ a → a ≤ 1000000000 → k + n ≤ 1000 → runL (monthStep y) id (List.range' k n) (a + months y k) = a + months y (k + n)
 | 0, k, a, _, _, _ => rfl
 | n + 1, k, a, h1, h2, h3 => by
  have m1 := months_range y k
  have m2 := monthLen_range y ((k : Int) + 1)
  rw [List.range'_succ]
  simp only [runL, monthStep]
  rw [wr_id (by omega), Int.add_assoc]
  have := monthsL y n (k + 1) a h1 h2 (by omega)
  rw [show k + (n + 1) = k + 1 + n from by omega]
  exact this
theorem right_iff (d : Date) : d.right = true ↔ 1 ≤ d.y ∧ d.y ≤ 9999 ∧ 1 ≤ d.m ∧ d.m ≤ 12 ∧ 1 ≤ d.d ∧ d.d ≤ monthLen d.y d.m := by
 unfold Date.right
 simp only [Bool.and_eq_true, decide_eq_true_eq]
theorem days_eq {d : Date} (h : d.right = true) : d.days = 365 * (d.y - 1) + (d.y - 1) / 4 - (d.y - 1) / 100 + (d.y - 1) / 400 + months d.y (d.m - 1).toNat + d.d - 1 := by
 obtain ⟨h1, h2, h3, h4, h5, h6⟩ := (right_iff d).1 h
 unfold Date.days
 rw [if_pos h]
 have e := ahead_eq h1 h2
 have hr := monthLen_range d.y d.m
 have hm := months_range d.y (d.m - 1).toNat
 have hl := monthsL d.y (d.m - 1).toNat 0 (Go.Proofs.YtjbicclbalagbaaGreat.ahead d.y) (by rw [e]; omega) (by rw [e]; omega) (by omega)
 simp only [months, Int.add_zero, Nat.zero_add] at hl
 rw [List.range_eq_range', hl, e, wr_id (n := 365 * (d.y - 1) + (d.y - 1) / 4 - (d.y - 1) / 100 + (d.y - 1) / 400 + months d.y (d.m - 1).toNat + d.d) (by omega), wr_id (by omega)]
theorem months12 (y : Int) : months y 12 = 365 + (if leap y = true then 1 else 0) := by
 simp only [months, monthLen]
 by_cases c : leap y = true <;> simp [c]
theorem leap_eq {y : Int} (h : 0 ≤ y) : leap y = decide (y % 4 = 0 ∧ (y % 100 ≠ 0 ∨ y % 400 = 0)) := by
 unfold leap
 have a : y.tmod 4 = y % 4 := Int.tmod_eq_emod_of_nonneg h
 have b : y.tmod 100 = y % 100 := Int.tmod_eq_emod_of_nonneg h
 have c : y.tmod 400 = y % 400 := Int.tmod_eq_emod_of_nonneg h
 rw [a, b, c]
 split
 ·rename_i h1
  split
  ·rename_i h2; simp [h1, h2]
  ·rename_i h2; simp [h1, h2]
 ·rename_i h1; simp [h1]
theorem months_mono (y : Int) : ∀ (n k : Nat), months y n + 28 * (k : Int) ≤ months y (n + k)
 | n, 0 => by simp
 | n, k + 1 => by
  have := months_mono y n k
  have := monthLen_range y (((n + k : Nat) : Int) + 1)
  show _ ≤ months y (n + k) + monthLen y (((n + k : Nat) : Int) + 1)
  omega
theorem months_lt (y : Int) {n k : Nat} (h : n < k) : months y n + monthLen y ((n : Int) + 1) ≤ months y k := by
 have := months_mono y (n + 1) (k - (n + 1))
 rw [show n + 1 + (k - (n + 1)) = k from by omega] at this
 simp only [months] at this
 omega
theorem days_lt {a b : Date} (ha : a.right = true) (hb : b.right = true) (h : a.y < b.y ∨ a.y = b.y ∧ (a.m < b.m ∨ a.m = b.m ∧ a.d < b.d)) : a.days < b.days := by
 rw [days_eq ha, days_eq hb]
 obtain ⟨a1, a2, a3, a4, a5, a6⟩ := (right_iff a).1 ha
 obtain ⟨b1, b2, b3, b4, b5, b6⟩ := (right_iff b).1 hb
 have hma : ∀ {d : Date}, 1 ≤ d.m → (((d.m - 1).toNat : Nat) : Int) + 1 = d.m := fun h => by omega
 rcases h with h | ⟨hy, h | ⟨h2, h⟩⟩
 ·
  have h12 : months a.y (a.m - 1).toNat + a.d ≤ months a.y 12 := by
   have := months_lt a.y (n := (a.m - 1).toNat) (k := 12) (by omega)
   rw [hma a3] at this
   omega
  rw [months12, leap_eq (by omega)] at h12
  have h0 := (months_range b.y (b.m - 1).toNat).1
  by_cases c : a.y % 4 = 0 ∧ (a.y % 100 ≠ 0 ∨ a.y % 400 = 0)
  ·rw [if_pos (by simpa using c)] at h12
   omega
  ·rw [if_neg (by simpa using c)] at h12
   omega
 ·have := months_lt a.y (n := (a.m - 1).toNat) (k := (b.m - 1).toNat) (by omega)
  rw [hma a3] at this
  rw [hy] at this ⊢
  rw [hy] at a6
  omega
 ·rw [hy, h2]; omega
theorem days_inj {a b : Date} (ha : a.right = true) (hb : b.right = true) (h : a.days = b.days) : a = b := by
 have h1 : ¬ (a.y < b.y ∨ a.y = b.y ∧ (a.m < b.m ∨ a.m = b.m ∧ a.d < b.d)) := fun q => by have := days_lt ha hb q; omega
 have h2 : ¬ (b.y < a.y ∨ b.y = a.y ∧ (b.m < a.m ∨ b.m = a.m ∧ b.d < a.d)) := fun q => by have := days_lt hb ha q; omega
 have e1 : a.y = b.y := by omega
 have e2 : a.m = b.m := by omega
 have e3 : a.d = b.d := by omega
 cases a; cases b
 simp only at e1 e2 e3
 rw [e1, e2, e3]
theorem ixL_neg {α : Type} (p : α → Bool) : ∀ (l : List α) (n : Nat), runL (ixStep p) (fun _ => -1) l n = -1 → ∀ a ∈ l, p a = false
 | [], n, _, a, h => by cases h
 | x :: l, n, h, a, ha => by
  by_cases c : p x = true
  ·simp only [runL, ixStep, c, if_true] at h
   omega
  ·simp only [runL, ixStep, c, if_false] at h
   rcases List.mem_cons.1 ha with rfl | ha
   ·simpa using c
   ·exact ixL_neg p l (n + 1) h a ha
theorem ixM_neg {α : Type} {p : α → Bool} {l : List α} (h : ixM p l < 0) : ∀ a ∈ l, p a = false := by
 rcases ixM_cases p l with e | ⟨i, a, e, _⟩
 ·exact ixL_neg p l 0 e
 ·rw [e] at h; omega
theorem ixL_first {α : Type} (p : α → Bool) : ∀ (l : List α) (n i : Nat) (a : α), l[i]? = some a → p a = true → (∀ j b, j < i → l[j]? = some b → p b = false) → runL (ixStep p) (fun _ => -1) l n = ((n + i : Nat) : Int)
 | x :: l, n, 0, a, h, hp, _ => by
  cases h
  simp only [runL, ixStep, hp, if_true]; rfl
 | x :: l, n, i + 1, a, h, hp, hj => by
  have c : p x = false := hj 0 x (by omega) rfl
  simp only [runL, ixStep, c, Bool.false_eq_true, if_false]
  rw [ixL_first p l (n + 1) i a h hp (fun j b hji hb => hj (j + 1) b (by omega) hb)]
  omega
theorem ixM_first {α : Type} {p : α → Bool} {l : List α} {i : Nat} {a : α} (h : l[i]? = some a) (hp : p a = true) (hj : ∀ j b, j < i → l[j]? = some b → p b = false) : ixM p l = (i : Int) := by
 have := ixL_first p l 0 i a h hp hj
 rw [Nat.zero_add] at this
 exact this
theorem serAt_of {l : List Ser} (hs : l.Pairwise (fun a b => ltB a.name b.name = true)) {i : Nat} {s : Ser} (h : l[i]? = some s) : serAt l s.name = (i : Int) := by
 refine ixM_first h (by simp) (fun j b hj hb => ?_)
 have h1 := List.pairwise_iff_getElem.1 hs j i (List.getElem?_eq_some_iff.1 hb).1 (List.getElem?_eq_some_iff.1 h).1 hj
 rw [(List.getElem?_eq_some_iff.1 hb).2, (List.getElem?_eq_some_iff.1 h).2] at h1
 have := ltB_ne h1
 simpa using this
theorem serAt_none {l : List Ser} {name : List UInt8} (h : serAt l name < 0) : ∀ s ∈ l, s.name ≠ name := fun s hs => by
 have := ixM_neg h s hs
 simpa using this
def cnt (l : List Posted) (name : List UInt8) : Int := ((l.filter fun p => p.ref.ser == name).length : Int)
theorem cnt_append (a b : List Posted) (name : List UInt8) : cnt (a ++ b) name = cnt a name + cnt b name := by
 unfold cnt; rw [List.filter_append, List.length_append]; omega
theorem cnt_one (p : Posted) (name : List UInt8) : cnt [p] name = if p.ref.ser = name then 1 else 0 := by
 unfold cnt
 by_cases c : p.ref.ser = name
 ·simp [c]
 ·simp [c]
theorem cnt_nonneg (l : List Posted) (name : List UInt8) : 0 ≤ cnt l name := by unfold cnt; omega
structure Nums (ser : List Ser) (l : List Posted) : Prop where
 num : ∀ i p, l[i]? = some p → (∃ s ∈ ser, s.name = p.ref.ser) ∧ p.ref.num = cnt (l.take i) p.ref.ser + 1
 next : ∀ s ∈ ser, s.next = cnt l s.name + 1
def tally (ser : List Ser) (l : List Posted) : List Int := ser.map (fun s => cnt l s.name) ++ List.replicate (8 - ser.length) 0
theorem tally_get {ser : List Ser} {l : List Posted} {i : Nat} {s : Ser} (h : ser[i]? = some s) : (tally ser l)[i]? = some (cnt l s.name) := by
 unfold tally
 rw [List.getElem?_append_left (by rw [List.length_map]; exact (List.getElem?_eq_some_iff.1 h).1), List.getElem?_map, h]
 rfl
theorem tally_bump {ser : List Ser} (hs : ser.Pairwise (fun a b => ltB a.name b.name = true)) {l : List Posted} {p : Posted} {i : Nat} {s : Ser} (h : ser[i]? = some s) (hn : s.name = p.ref.ser) : bump (tally ser l) i = tally ser (l ++ [p]) := by
 unfold bump
 rw [List.getD_eq_getElem?_getD, tally_get h]
 apply List.ext_getElem?
 intro j
 rw [List.getElem?_set]
 have hlen : ser.length ≤ (tally ser l).length := by unfold tally; rw [List.length_append, List.length_map]; omega
 have hi := (List.getElem?_eq_some_iff.1 h).1
 split
 ·rename_i e
  subst e
  rw [if_pos (by omega), tally_get h, cnt_append, cnt_one, if_pos hn.symm]
  rfl
 ·rename_i e
  by_cases hj : j < ser.length
  ·have hjs : ser[j]? = some ser[j] := List.getElem?_eq_getElem hj
   rw [tally_get hjs, tally_get hjs, cnt_append, cnt_one, if_neg, Int.add_zero]
   intro hc
   have e1 := serAt_of hs hjs
   have e2 := serAt_of hs h
   rw [hn, hc] at e2
   rw [e2] at e1
   exact e (by omega)
  ·unfold tally
   rw [List.getElem?_append_right (by rw [List.length_map]; omega), List.getElem?_append_right (by rw [List.length_map]; omega), List.length_map, List.length_map]
theorem numL {ser : List Ser} (hs : ser.Pairwise (fun a b => ltB a.name b.name = true)) (h8 : ser.length ≤ 8) {fin : List Int → Bool} : ∀ (l done : List Posted), runL (numStep ser) fin l (tally ser done) = true ↔
  (∀ i p, l[i]? = some p → (∃ s ∈ ser, s.name = p.ref.ser) ∧ p.ref.num = cnt (done ++ l.take i) p.ref.ser + 1) ∧ fin (tally ser (done ++ l)) = true
 | [], done => by simp [runL]
 | p :: l, done => by
  by_cases c : serAt ser p.ref.ser < 0
  ·have e : numStep ser (tally ser done) p = .inl false := by unfold numStep; rw [if_pos c]
   simp only [runL, e]
   constructor
   ·intro h; cases h
   ·rintro ⟨h, _⟩
    obtain ⟨⟨s, h1, h2⟩, _⟩ := h 0 p rfl
    exact absurd h2 (serAt_none c s h1)
  ·rcases serAt_cases ser p.ref.ser with e | ⟨i, s, e, hi, hn⟩
   ·exact absurd (by rw [e]; decide) c
   ·have hb := tally_bump hs (l := done) hi hn
    have hg : (tally ser (done ++ [p])).getD i 0 = cnt done p.ref.ser + 1 := by
     rw [List.getD_eq_getElem?_getD, tally_get hi, cnt_append, cnt_one, if_pos hn.symm, hn]; rfl
    by_cases q : p.ref.num = cnt done p.ref.ser + 1
    ·have es : numStep ser (tally ser done) p = .inr (tally ser (done ++ [p])) := by
      unfold numStep
      rw [if_neg c, e]
      simp only [Int.toNat_natCast]
      rw [hb, hg, if_pos q]
     simp only [runL, es]
     rw [numL hs h8 l (done ++ [p])]
     constructor
     ·rintro ⟨h1, h2⟩
      refine ⟨fun j x hj => ?_, by rw [List.append_assoc] at h2; exact h2⟩
      cases j with
      | zero => cases hj; exact ⟨⟨s, List.mem_of_getElem? hi, hn⟩, by simpa using q⟩
      | succ j => have := h1 j x hj; rw [List.append_assoc] at this; exact this
     ·rintro ⟨h1, h2⟩
      refine ⟨fun j x hj => ?_, by rw [List.append_assoc]; exact h2⟩
      have := h1 (j + 1) x hj
      rw [List.append_assoc]; exact this
    ·have es : numStep ser (tally ser done) p = .inl false := by
      unfold numStep
      rw [if_neg c, e]
      simp only [Int.toNat_natCast]
      rw [hb, hg, if_neg q]
     simp only [runL, es]
     constructor
     ·intro h; cases h
     ·rintro ⟨h, _⟩
      have := (h 0 p rfl).2
      simp only [List.take_zero, List.append_nil] at this
      exact absurd this q
theorem nxtL : ∀ (ser : List Ser) (is : List Int), runL nxtStep (fun _ => true) ser is = true ↔ ∀ i s, ser[i]? = some s → s.next = is.getD i 0 + 1
 | [], is => by simp [runL]
 | s :: l, is => by
  have hh : is.headD 0 = is.getD 0 0 := by cases is <;> rfl
  have ht : ∀ j, is.tail.getD j 0 = is.getD (j + 1) 0 := fun j => by cases is <;> simp
  by_cases c : s.next = is.getD 0 0 + 1
  ·have e : nxtStep is s = .inr is.tail := by unfold nxtStep; rw [hh, if_pos c]
   simp only [runL, e]
   rw [nxtL l is.tail]
   constructor
   ·intro h i x hx
    cases i with
    | zero => cases hx; exact c
    | succ i => have := h i x hx; rwa [ht] at this
   ·intro h i x hx
    have := h (i + 1) x hx
    rwa [ht]
  ·have e : nxtStep is s = .inl false := by unfold nxtStep; rw [hh, if_neg c]
   simp only [runL, e]
   constructor
   ·intro h; cases h
   ·intro h; exact absurd (h 0 s rfl) c
theorem numbersM_iff {ser : List Ser} (hs : ser.Pairwise (fun a b => ltB a.name b.name = true)) (h8 : ser.length ≤ 8) (l : List Posted) : numbersM ser l = true ↔ Nums ser l := by
 unfold numbersM
 have h0 : List.replicate 8 (0 : Int) = tally ser [] := by
  unfold tally
  apply List.ext_getElem?
  intro j
  by_cases hj : j < ser.length
  ·rw [List.getElem?_append_left (by rw [List.length_map]; exact hj), List.getElem?_map, List.getElem?_eq_getElem hj, List.getElem?_replicate, if_pos (by omega)]; rfl
  ·rw [List.getElem?_append_right (by rw [List.length_map]; omega), List.length_map, List.getElem?_replicate, List.getElem?_replicate]
   by_cases hj8 : j < 8
   ·rw [if_pos hj8, if_pos (by omega)]
   ·rw [if_neg hj8, if_neg (by omega)]
 rw [h0, numL hs h8 l [], nxtL]
 simp only [List.nil_append]
 constructor
 ·rintro ⟨h1, h2⟩
  refine ⟨h1, fun s hm => ?_⟩
  obtain ⟨i, hi⟩ := List.mem_iff_getElem?.1 hm
  have := h2 i s hi
  rwa [List.getD_eq_getElem?_getD, tally_get hi] at this
 ·rintro ⟨h1, h2⟩
  refine ⟨h1, fun i s hi => ?_⟩
  rw [List.getD_eq_getElem?_getD, tally_get hi]
  exact h2 s (List.mem_of_getElem? hi)
def dflt : Posted := ⟨Ref.zero, ⟨0, 0, 0⟩, Total.zero, Ref.zero, false⟩
def nb' (p : Posted) : Posted := { p with back := false }
def OKat (done : List Posted) (p : Posted) : Prop := p.day.right = true ∧ okTotal p.total = true ∧ (p.of = Ref.zero ∨ 0 ≤ postAt done p.of ∧ takesM p (done.getD (postAt done p.of).toNat dflt) = true)
def cntStep (done : List Posted) (is : List Int) (p : Posted) : List Int := if p.of = Ref.zero then is else bump is (postAt done p.of).toNat
def countsFrom : List Posted → List Posted → List Int → List Int
 | _, [], is => is
 | done, p :: l, is => countsFrom (done ++ [p]) l (cntStep done is p)
def counts (l : List Posted) : List Int := countsFrom [] l (List.replicate 40 0)
theorem postStep_ok {done : List Posted} {is : List Int} {p : Posted} (h : OKat done p) : postStep (done, is) p = .inr (done ++ [p], cntStep done is p) := by
 obtain ⟨h1, h2, h3⟩ := h
 unfold postStep cntStep
 rw [if_neg (by rw [h1]; simp), if_neg (by rw [h2]; simp)]
 by_cases c : p.of = Ref.zero
 ·rw [if_pos c, if_pos c]
 ·rw [if_neg c, if_neg c]
  rcases h3 with h3 | ⟨h3, h4⟩
  ·exact absurd h3 c
  ·simp only
   rw [if_neg (by omega)]
   unfold dflt at h4
   rw [h4]
   simp
theorem postStep_no {done : List Posted} {is : List Int} {p : Posted} (h : ¬ OKat done p) : postStep (done, is) p = .inl false := by
 unfold postStep
 split
 ·rfl
 ·rename_i h1
  split
  ·rfl
  ·rename_i h2
   have h1 : p.day.right = true := by simpa using h1
   have h2 : okTotal p.total = true := by simpa using h2
   split
   ·rename_i h3; exact absurd ⟨h1, h2, .inl h3⟩ h
   ·split
    ·rfl
    ·rename_i h4
     split
     ·rfl
     ·rename_i h5
      exact absurd ⟨h1, h2, .inr ⟨by simp only at h4; omega, (Bool.not_eq_false _).mp h5⟩⟩ h
theorem postL {fin : List Posted × List Int → Bool} : ∀ (l done : List Posted) (is : List Int), runL postStep fin l (done, is) = true ↔ (∀ i p, l[i]? = some p → OKat (done ++ l.take i) p) ∧ fin (done ++ l, countsFrom done l is) = true
 | [], done, is => by simp [runL, countsFrom]
 | p :: l, done, is => by
  by_cases c : OKat done p
  ·simp only [runL, postStep_ok c]
   rw [postL l (done ++ [p]) _]
   simp only [countsFrom]
   constructor
   ·rintro ⟨h1, h2⟩
    refine ⟨fun j x hj => ?_, by rw [List.append_assoc] at h2; exact h2⟩
    cases j with
    | zero => cases hj; simpa using c
    | succ j => have := h1 j x hj; rw [List.append_assoc] at this; exact this
   ·rintro ⟨h1, h2⟩
    refine ⟨fun j x hj => ?_, by rw [List.append_assoc]; exact h2⟩
    have := h1 (j + 1) x hj
    rw [List.append_assoc]; exact this
  ·simp only [runL, postStep_no c]
   constructor
   ·intro h; cases h
   ·rintro ⟨h, _⟩
    have := h 0 p rfl
    simp only [List.take_zero, List.append_nil] at this
    exact absurd this c
theorem chkL : ∀ (l : List Posted) (is : List Int), runL chkStep (fun _ => true) l is = true ↔ ∀ i p, l[i]? = some p → is.getD i 0 ≤ 1 ∧ p.back = decide (is.getD i 0 = 1)
 | [], is => by simp [runL]
 | s :: l, is => by
  have hh : is.headD 0 = is.getD 0 0 := by cases is <;> rfl
  have ht : ∀ j, is.tail.getD j 0 = is.getD (j + 1) 0 := fun j => by cases is <;> simp
  by_cases c : is.getD 0 0 ≤ 1 ∧ s.back = decide (is.getD 0 0 = 1)
  ·have e : chkStep is s = .inr is.tail := by unfold chkStep; rw [hh, if_neg (by omega), if_pos c.2]
   simp only [runL, e]
   rw [chkL l is.tail]
   constructor
   ·intro h i x hx
    cases i with
    | zero => cases hx; exact c
    | succ i => have := h i x hx; rwa [ht] at this
   ·intro h i x hx
    have := h (i + 1) x hx
    rwa [ht]
  ·have e : chkStep is s = .inl false := by
    unfold chkStep
    rw [hh]
    split
    ·rfl
    ·split
     ·rename_i h1 h2; exact absurd ⟨by omega, h2⟩ c
     ·rfl
   simp only [runL, e]
   constructor
   ·intro h; cases h
   ·intro h; exact absurd (h 0 s rfl) c
theorem postedM_iff (l : List Posted) : postedM l = true ↔ l.length ≤ 40 ∧ (∀ i p, l[i]? = some p → OKat (l.take i) p) ∧ ∀ i p, l[i]? = some p → (counts l).getD i 0 ≤ 1 ∧ p.back = decide ((counts l).getD i 0 = 1) := by
 unfold postedM
 split
 ·rename_i h; simp; omega
 ·rename_i h
  rw [postL l [] _, chkL]
  simp only [List.nil_append]
  exact ⟨fun ⟨a, b⟩ => ⟨by omega, a, b⟩, fun ⟨_, a, b⟩ => ⟨a, b⟩⟩
theorem countsFrom_append : ∀ (l done : List Posted) (is : List Int) (p : Posted), countsFrom done (l ++ [p]) is = cntStep (done ++ l) (countsFrom done l is) p
 | [], done, is, p => by simp [countsFrom]
 | x :: l, done, is, p => by
  simp only [List.cons_append, countsFrom]
  rw [countsFrom_append l]
  rw [List.append_assoc]; rfl
theorem counts_append (l : List Posted) (p : Posted) : counts (l ++ [p]) = cntStep l (counts l) p := by
 unfold counts
 rw [countsFrom_append, List.nil_append]
theorem countsFrom_range : ∀ (l done : List Posted) (is : List Int), (∀ i, 0 ≤ is.getD i 0) → (∀ i, done.length ≤ i → is.getD i 0 = 0) → (∀ i p, l[i]? = some p → OKat (done ++ l.take i) p) →
  (∀ i, 0 ≤ (countsFrom done l is).getD i 0) ∧ (∀ i, (done ++ l).length ≤ i → (countsFrom done l is).getD i 0 = 0) ∧ (countsFrom done l is).length = is.length
 | [], done, is, h1, h2, _ => ⟨h1, by rw [List.append_nil]; exact h2, rfl⟩
 | p :: l, done, is, h1, h2, h3 => by
  simp only [countsFrom]
  have hp := h3 0 p rfl
  simp only [List.take_zero, List.append_nil] at hp
  have hb : ∀ i, (cntStep done is p).getD i 0 = is.getD i 0 ∨ i < done.length ∧ (cntStep done is p).getD i 0 = is.getD i 0 + 1 := by
   intro i
   unfold cntStep
   split
   ·exact .inl rfl
   ·rename_i hc
    obtain ⟨hp1, _⟩ := hp.2.2.resolve_left hc
    rcases postAt_cases done p.of with e | ⟨k, x, e, hk, _⟩
    ·omega
    ·have hkl := (List.getElem?_eq_some_iff.1 hk).1
     rw [e, Int.toNat_natCast]
     unfold bump
     simp only [List.getD_eq_getElem?_getD, List.getElem?_set]
     by_cases q : k = i
     ·rw [if_pos q]
      subst q
      split
      ·exact .inr ⟨hkl, rfl⟩
      ·rename_i hn; left; rw [List.getElem?_eq_none (by omega)]
     ·rw [if_neg q]; exact .inl rfl
  have hl : (cntStep done is p).length = is.length := by
   unfold cntStep
   split
   ·rfl
   ·exact bump_len _ _
  obtain ⟨a, b, c⟩ := countsFrom_range l (done ++ [p]) (cntStep done is p) (fun i => by have := h1 i; rcases hb i with h | ⟨_, h⟩ <;> omega)
   (fun i hi => by
    rw [List.length_append] at hi
    simp only [List.length_cons, List.length_nil] at hi
    have := h2 i (by omega)
    rcases hb i with h | ⟨h0, h⟩ <;> omega)
   (fun i x hx => by have := h3 (i + 1) x hx; rw [List.append_assoc]; exact this)
  refine ⟨a, fun i hi => b i (by rw [List.append_assoc]; exact hi), c.trans hl⟩
theorem counts_range {l : List Posted} (h : ∀ i p, l[i]? = some p → OKat (l.take i) p) : (∀ i, 0 ≤ (counts l).getD i 0) ∧ (∀ i, l.length ≤ i → (counts l).getD i 0 = 0) ∧ (counts l).length = 40 := by
 have hz : ∀ i, (List.replicate 40 (0 : Int)).getD i 0 = 0 := fun i => by
  rw [List.getD_eq_getElem?_getD, List.getElem?_replicate]; split <;> rfl
 have := countsFrom_range l [] (List.replicate 40 0) (fun i => by rw [hz]; omega) (fun i _ => hz i) (by simpa using h)
 simp only [List.nil_append, List.length_replicate] at this
 exact this
theorem postAt_nb (l : List Posted) (r : Ref) : postAt (l.map nb') r = postAt l r := by
 unfold postAt
 rw [← ixM_map]
 rfl
theorem takesM_nb (p q : Posted) : takesM (nb' p) (nb' q) = takesM p q := rfl
theorem getD_nb (l : List Posted) (k : Nat) : (l.map nb').getD k dflt = nb' (l.getD k dflt) := by
 rw [List.getD_eq_getElem?_getD, List.getD_eq_getElem?_getD, List.getElem?_map]
 cases l[k]? <;> rfl
theorem OKat_nb (done : List Posted) (p : Posted) : OKat (done.map nb') (nb' p) ↔ OKat done p := by
 unfold OKat
 rw [getD_nb, takesM_nb]
 show _ ∧ _ ∧ (p.of = Ref.zero ∨ 0 ≤ postAt (done.map nb') p.of ∧ _) ↔ _
 have e : postAt (done.map nb') (nb' p).of = postAt done p.of := postAt_nb done p.of
 rw [e, postAt_nb]
 exact Iff.rfl
theorem countsFrom_nb : ∀ (l done : List Posted) (is : List Int), countsFrom (done.map nb') (l.map nb') is = countsFrom done l is
 | [], _, _ => rfl
 | p :: l, done, is => by
  simp only [List.map_cons, countsFrom]
  have e : cntStep (done.map nb') is (nb' p) = cntStep done is p := by
   unfold cntStep
   show (if p.of = Ref.zero then is else bump is (postAt (done.map nb') p.of).toNat) = _
   rw [postAt_nb]
  rw [e]
  have := countsFrom_nb l (done ++ [p]) (cntStep done is p)
  rw [List.map_append] at this
  exact this
theorem counts_nb (l : List Posted) : counts (l.map nb') = counts l := countsFrom_nb l [] _
theorem setBack_nb (l : List Posted) (k : Nat) : (setBack l k).map nb' = l.map nb' := by
 unfold setBack
 split
 ·rfl
 ·rename_i p hp
  apply List.ext_getElem?
  intro j
  rw [List.getElem?_map, List.getElem?_map, List.getElem?_set]
  split
  ·rename_i e; subst e; rw [if_pos (List.getElem?_eq_some_iff.1 hp).1, hp]; rfl
  ·rfl
theorem OKall_nb {l m : List Posted} (e : l.map nb' = m.map nb') (h : ∀ i p, l[i]? = some p → OKat (l.take i) p) : ∀ i p, m[i]? = some p → OKat (m.take i) p := by
 intro i p hp
 have h1 : (l.map nb')[i]? = some (nb' p) := by rw [e, List.getElem?_map, hp]; rfl
 rw [List.getElem?_map] at h1
 cases hq : l[i]? with
 | none => rw [hq] at h1; cases h1
 | some q =>
  rw [hq] at h1
  have hqp : nb' q = nb' p := Option.some.inj h1
  have := h i q hq
  rw [← OKat_nb, List.map_take, hqp, e, ← List.map_take, OKat_nb] at this
  exact this
theorem bookedL_fin {fin : List Bal → List Bal × Int} : ∀ (l : List Posted) (a b : List Bal), runL bookedStep (fun b => (b, 0)) l a = (b, 0) → runL bookedStep fin l a = fin b
 | [], a, b, h => by cases h; rfl
 | p :: l, a, b, h => by
  simp only [runL] at h ⊢
  split at h
  ·rename_i r he
   unfold bookedStep at he
   split at he
   ·rename_i hc; cases he; exact absurd (congrArg Prod.snd h) hc
   ·split at he
    ·rename_i hc; cases he; exact absurd (congrArg Prod.snd h) hc
    ·cases he
  ·exact bookedL_fin l _ b h
theorem bookedM_push {l : List Posted} {b : List Bal} (h : bookedM l = (b, 0)) {p : Posted} (h1 : (entM p.total).2 = 0) (h2 : (enterM b (entM p.total).1).2 = 0) : bookedM (l ++ [p]) = ((enterM b (entM p.total).1).1, 0) := by
 unfold bookedM at h ⊢
 rw [runL_append, bookedL_fin l [] b h]
 simp only [runL, bookedStep, h1, h2, ne_eq, not_true_eq_false, if_false]
theorem bookedL_nb {fin : List Bal → List Bal × Int} : ∀ (l : List Posted) (a : List Bal), runL bookedStep fin (l.map nb') a = runL bookedStep fin l a
 | [], _ => rfl
 | p :: l, a => by
  simp only [List.map_cons, runL]
  have e : bookedStep a (nb' p) = bookedStep a p := rfl
  rw [e]
  split
  ·rfl
  ·exact bookedL_nb l _
theorem bookedM_nb {l m : List Posted} (e : l.map nb' = m.map nb') : bookedM l = bookedM m := by
 unfold bookedM
 rw [← bookedL_nb l, e, bookedL_nb]
theorem cnt_nb (l : List Posted) (name : List UInt8) : cnt (l.map nb') name = cnt l name := by
 unfold cnt
 rw [List.filter_map, List.length_map]
 rfl
theorem Nums_nb {ser : List Ser} {l m : List Posted} (e : l.map nb' = m.map nb') (h : Nums ser l) : Nums ser m := by
 refine ⟨fun i p hp => ?_, fun s hs => by rw [h.next s hs, ← cnt_nb l, e, cnt_nb]⟩
 have h1 : (l.map nb')[i]? = some (nb' p) := by rw [e, List.getElem?_map, hp]; rfl
 rw [List.getElem?_map] at h1
 cases hq : l[i]? with
 | none => rw [hq] at h1; cases h1
 | some q =>
  rw [hq] at h1
  have hqp : nb' q = nb' p := Option.some.inj h1
  have hr : (nb' q).ref = (nb' p).ref := congrArg Posted.ref hqp
  have hr : q.ref = p.ref := hr
  obtain ⟨a, b⟩ := h.num i q hq
  rw [hr] at a b
  refine ⟨a, ?_⟩
  rw [b, ← cnt_nb, List.map_take, e, ← List.map_take, cnt_nb]
theorem last_iff {l : List Sess} (hs : l.Pairwise (fun a b => a.id < b.id)) (n : Int) : lastOK l n = true ↔ ∀ s ∈ l, s.id < n := by
 unfold lastOK
 cases h : l[l.length - 1]? with
 | none =>
  have : l = [] := by
   rw [List.getElem?_eq_none_iff] at h
   cases l with
   | nil => rfl
   | cons a l => simp only [List.length_cons] at h; omega
  subst this
  simp
 | some s =>
  simp only [decide_eq_true_eq]
  constructor
  ·intro hn x hx
   obtain ⟨i, hi⟩ := List.mem_iff_getElem?.1 hx
   have hil := (List.getElem?_eq_some_iff.1 hi).1
   by_cases c : i = l.length - 1
   ·subst c; rw [h] at hi; cases hi; exact hn
   ·have h1 := List.pairwise_iff_getElem.1 hs i (l.length - 1) hil (by omega) (by omega)
    rw [(List.getElem?_eq_some_iff.1 h).2, (List.getElem?_eq_some_iff.1 hi).2] at h1
    omega
  ·intro q; exact q s (List.mem_of_getElem? h)
def SessOK (l : List Sess) (n : Int) : Prop := l.length ≤ 8 ∧ (∀ s ∈ l, 0 < s.id ∧ 0 ≤ s.last ∧ s.last ≤ 1099511627776 ∧ (s.last = 0 → s.reply = Rep.zero)) ∧ l.Pairwise (fun a b => a.id < b.id) ∧ 1 ≤ n ∧ n ≤ 1099511627776 ∧ ∀ s ∈ l, s.id < n
theorem sessionsM_iff (s : State) : sessionsM s = true ↔ SessOK s.sess s.next := by
 unfold sessionsM SessOK
 constructor
 ·intro h
  repeat' split at h
  all_goals first | (cases h; done) | skip
  rename_i h1 h2 h3
  obtain ⟨a, b, c⟩ := (sessM_iff _).1 h1
  exact ⟨a, b, c, h2, h3, (last_iff c _).1 h⟩
 ·rintro ⟨a, b, c, d, e, f⟩
  rw [if_pos ((sessM_iff _).2 ⟨a, b, c⟩), if_pos d, if_pos e]
  exact (last_iff c _).2 f
theorem rightM_iff (s : State) : rightM s = true ↔ tableM s.table = true ∧ serM s.ser = true ∧ SessOK s.sess s.next ∧ postedM s.posted = true ∧ Nums s.ser s.posted ∧ bookedM s.posted = (s.book, 0) := by
 rw [← sessionsM_iff]
 unfold rightM
 constructor
 ·intro h
  repeat' split at h
  all_goals first | (cases h; done) | skip
  rename_i h1 h2 h3 h4 h5 h6
  have h2' : serM s.ser = true := by simpa using h2
  obtain ⟨a, b, c⟩ := (serM_iff _).1 h2'
  exact ⟨by simpa using h1, h2', by simpa using h3, by simpa using h4, (numbersM_iff c a _).1 (by simpa using h5), Prod.ext (of_decide_eq_true h) h6⟩
 ·rintro ⟨h1, h2, h3, h4, h5, h6⟩
  obtain ⟨a, b, c⟩ := (serM_iff _).1 h2
  rw [if_neg (by rw [h1]; simp), if_neg (by rw [h2]; simp), if_neg (by rw [h3]; simp), if_neg (by rw [h4]; simp), if_neg (by rw [(numbersM_iff c a _).2 h5]; simp), if_pos (by rw [h6])]
  rw [h6]; simp
theorem openSer_ok {l : List Ser} {name : List UInt8} {limit : Int} (h : (openSer l name limit).2 = 0) : serM (openSer l name limit).1 = true ∧ (∀ s, s ∈ (openSer l name limit).1 ↔ s = ⟨name, 1, limit, false⟩ ∨ s ∈ l) ∧ (∀ s ∈ l, s.name ≠ name) ∧ l.length < 8 := by
 unfold openSer at h ⊢
 split at h
 ·simp at h
 ·rename_i h1
  split at h
  ·simp at h
  ·rename_i h2
   split at h
   ·simp at h
   ·rename_i h3
    split at h
    ·simp at h
    ·rename_i h4
     split at h
     ·simp at h
     ·rename_i h5
      rw [if_neg h1, if_neg h2, if_neg h3, if_neg h4, if_neg h5]
      obtain ⟨a, b, c⟩ := (serM_iff l).1 (by simpa using h1)
      have hn := serAt_none (l := l) (name := name) (by omega)
      refine ⟨?_, fun s => insAt_mem _ _ _ _, hn, by omega⟩
      simp only
      rw [serM_iff]
      refine ⟨by have := insAt_le l (lowM (fun s => ltB s.name name) l) ⟨name, 1, limit, false⟩; omega, fun s hs => ?_, ?_⟩
      ·rcases (insAt_mem _ _ _ _).1 hs with rfl | hs
       ·refine ⟨by simpa using h2, ?_⟩
        unfold serBad
        rw [wr_id (by simp only; omega)]
        simp; omega
       ·exact b s hs
      ·rw [insAt_low]
       refine ins_sorted c (fun a b c => ltB_trans) (fun x hx hp => hp) (fun x hx hp => ?_)
       rcases ltB_tri x.name name with q | q | q
       ·rw [hp] at q; cases q
       ·exact absurd q (hn x hx)
       ·exact q
theorem shutM_ok {l : List Ser} {name : List UInt8} (h : (shutM l name).2 = 0) : serM (shutM l name).1 = true ∧ ∃ (i : Nat) (s : Ser), l[i]? = some s ∧ s.name = name ∧ (shutM l name).1 = l.set i { s with shut := true } := by
 unfold shutM at h ⊢
 split at h
 ·rename_i hc; exact absurd h hc
 ·rename_i hc
  rw [if_neg hc]
  obtain ⟨h1, i, s, e1, e2, h3, h4, h5⟩ := openM_ok (Decidable.not_not.1 hc)
  rw [e1]
  simp only [Int.toNat_natCast, h3]
  refine ⟨?_, i, s, h3, h4, rfl⟩
  obtain ⟨a, b, c⟩ := (serM_iff l).1 h1
  rw [serM_iff]
  refine ⟨by rw [List.length_set]; exact a, fun x hx => ?_, sorted_set (key := fun s : Ser => s.name) c h3 rfl⟩
  rcases List.mem_or_eq_of_mem_set hx with hx | rfl
  ·exact b x hx
  ·exact b s (List.mem_of_getElem? h3)
theorem takeM_ok {l : List Ser} {name : List UInt8} (h : (takeM l name).2.2 = 0) : serM (takeM l name).1 = true ∧ ∃ (i : Nat) (s : Ser), l[i]? = some s ∧ s.name = name ∧ s.shut = false ∧ s.next ≤ s.limit ∧ (takeM l name) = (l.set i { s with next := s.next + 1 }, s.next, 0) := by
 unfold takeM at h ⊢
 split at h
 ·rename_i hc; exact absurd h hc
 ·rename_i hc
  rw [if_neg hc]
  obtain ⟨h1, i, s, e1, e2, h3, h4, h5⟩ := openM_ok (Decidable.not_not.1 hc)
  rw [e1] at h ⊢
  simp only [Int.toNat_natCast, h3] at h ⊢
  split at h
  ·simp at h
  ·rename_i h6
   rw [if_neg h6]
   obtain ⟨a, b, c⟩ := (serM_iff l).1 h1
   have hb := (b s (List.mem_of_getElem? h3)).2
   unfold serBad at hb
   simp only [Bool.or_eq_false_iff, decide_eq_false_iff_not] at hb
   obtain ⟨b1, b2, b3, b4⟩ := hb
   rw [wr_id (by omega)] at b4
   rw [wr_id (n := s.next + 1) (by omega)]
   refine ⟨?_, i, s, h3, h4, h5, by omega, rfl⟩
   rw [serM_iff]
   refine ⟨by rw [List.length_set]; exact a, fun x hx => ?_, sorted_set (key := fun s : Ser => s.name) c h3 rfl⟩
   rcases List.mem_or_eq_of_mem_set hx with hx | rfl
   ·exact b x hx
   ·refine ⟨(b s (List.mem_of_getElem? h3)).1, ?_⟩
    unfold serBad
    rw [wr_id (by simp only; omega)]
    simp only [Bool.or_eq_false_iff, decide_eq_false_iff_not]
    omega
theorem Nums_open {l : List Ser} {post : List Posted} {name : List UInt8} {limit : Int} (h : (openSer l name limit).2 = 0) (hn : Nums l post) : Nums (openSer l name limit).1 post := by
 obtain ⟨_, hm, hne, _⟩ := openSer_ok h
 refine ⟨fun i p hp => ?_, fun s hs => ?_⟩
 ·obtain ⟨⟨s, h1, h2⟩, h3⟩ := hn.num i p hp
  exact ⟨⟨s, (hm s).2 (.inr h1), h2⟩, h3⟩
 ·rcases (hm s).1 hs with rfl | hs
  ·have : cnt post name = 0 := by
    unfold cnt
    rw [List.filter_eq_nil_iff.2]
    ·rfl
    ·intro p hp hc
     obtain ⟨i, hi⟩ := List.mem_iff_getElem?.1 hp
     obtain ⟨⟨s, h1, h2⟩, _⟩ := hn.num i p hi
     exact hne s h1 (by rw [h2]; simpa using hc)
   show (1 : Int) = cnt post name + 1
   omega
  ·exact hn.next s hs
theorem Nums_set {l : List Ser} {post : List Posted} {i : Nat} {s : Ser} (hi : l[i]? = some s) (hn : Nums l post) : Nums (l.set i { s with shut := true }) post := by
 have hmem : { s with shut := true } ∈ l.set i { s with shut := true } := List.mem_of_getElem? (i := i) (by rw [List.getElem?_set, if_pos rfl, if_pos (List.getElem?_eq_some_iff.1 hi).1])
 refine ⟨fun j p hp => ?_, fun x hx => ?_⟩
 ·obtain ⟨⟨y, h1, h2⟩, h3⟩ := hn.num j p hp
  obtain ⟨k, hk⟩ := List.mem_iff_getElem?.1 h1
  refine ⟨?_, h3⟩
  by_cases c : i = k
  ·subst c; rw [hi] at hk; cases hk; exact ⟨_, hmem, h2⟩
  ·exact ⟨y, List.mem_of_getElem? (i := k) (by rw [List.getElem?_set, if_neg c]; exact hk), h2⟩
 ·rcases List.mem_or_eq_of_mem_set hx with hx | rfl
  ·exact hn.next x hx
  ·exact hn.next s (List.mem_of_getElem? hi)
theorem Nums_take {l : List Ser} (hs : l.Pairwise (fun a b => ltB a.name b.name = true)) {post : List Posted} {i : Nat} {s : Ser} (hi : l[i]? = some s) (hn : Nums l post) {p : Posted} (hp : p.ref = ⟨s.name, s.next⟩) : Nums (l.set i { s with next := s.next + 1 }) (post ++ [p]) := by
 have hmem : { s with next := s.next + 1 } ∈ l.set i { s with next := s.next + 1 } := List.mem_of_getElem? (i := i) (by rw [List.getElem?_set, if_pos rfl, if_pos (List.getElem?_eq_some_iff.1 hi).1])
 have hrs : p.ref.ser = s.name := by rw [hp]
 have hrn : p.ref.num = s.next := by rw [hp]
 refine ⟨fun j q hq => ?_, fun x hx => ?_⟩
 ·by_cases hj : j < post.length
  ·rw [List.getElem?_append_left hj] at hq
   rw [List.take_append_of_le_length (by omega)]
   obtain ⟨⟨y, h1, h2⟩, h3⟩ := hn.num j q hq
   obtain ⟨k, hk⟩ := List.mem_iff_getElem?.1 h1
   refine ⟨?_, h3⟩
   by_cases c : i = k
   ·subst c; rw [hi] at hk; cases hk; exact ⟨_, hmem, h2⟩
   ·exact ⟨y, List.mem_of_getElem? (i := k) (by rw [List.getElem?_set, if_neg c]; exact hk), h2⟩
  ·have hjl : j = post.length := by
    have := (List.getElem?_eq_some_iff.1 hq).1
    simp only [List.length_append, List.length_cons, List.length_nil] at this
    omega
   subst hjl
   rw [List.getElem?_append_right (Nat.le_refl _), Nat.sub_self] at hq
   cases hq
   rw [List.take_append_of_le_length (Nat.le_refl _), List.take_length, hrs, hrn]
   exact ⟨⟨_, hmem, rfl⟩, hn.next s (List.mem_of_getElem? hi)⟩
 ·rw [cnt_append, cnt_one, hrs]
  obtain ⟨k, hk⟩ := List.mem_iff_getElem?.1 hx
  rw [List.getElem?_set] at hk
  by_cases c : i = k
  ·rw [if_pos c, if_pos (List.getElem?_eq_some_iff.1 hi).1] at hk
   cases hk
   have := hn.next s (List.mem_of_getElem? hi)
   simp only [if_true]
   omega
  ·rw [if_neg c] at hk
   have e1 := serAt_of hs hk
   have e2 := serAt_of hs hi
   have hne : ¬ s.name = x.name := fun e => by rw [e, e1] at e2; exact c (by omega)
   rw [if_neg hne, Int.add_zero]
   exact hn.next x (List.mem_of_getElem? hk)
theorem putL {r : Rate} : ∀ (l : List Rate) (k n : Nat), runL (putStep r) some l k = some n → (∀ x ∈ l, ¬ (x.cat = r.cat ∧ x.day = r.day)) ∧ n = k + (l.filter fun x => aheadR x r).length
 | [], k, n, h => by cases h; simp
 | x :: l, k, n, h => by
  simp only [runL] at h
  split at h
  ·rename_i r' he
   unfold putStep at he
   split at he
   ·cases he; cases h
   ·cases he
  ·rename_i s' he
   unfold putStep at he
   split at he
   ·cases he
   ·rename_i hc
    cases he
    obtain ⟨a, b⟩ := putL l _ n h
    refine ⟨fun y hy => ?_, ?_⟩
    ·rcases List.mem_cons.1 hy with rfl | hy
     ·simpa using hc
     ·exact a y hy
    ·rw [b, List.filter_cons]
     split
     ·rw [List.length_cons]; omega
     ·rfl
theorem filter_prefix {α : Type} {p : α → Bool} {R : α → α → Prop} : ∀ {l : List α}, l.Pairwise R → (∀ a b, R a b → p b = true → p a = true) → l.filter p = l.takeWhile p
 | [], _, _ => rfl
 | x :: l, hl, hp => by
  rw [List.pairwise_cons] at hl
  rw [List.filter_cons, List.takeWhile_cons]
  split
  ·rw [filter_prefix hl.2 hp]
  ·rename_i c
   rw [List.filter_eq_nil_iff]
   intro y hy hc
   exact c (hp x y (hl.1 y hy) hc)
theorem putRate_ok {l : List Rate} {r : Rate} (h : (putRate l r).2 = 0) : tableM (putRate l r).1 = true ∧ (putRate l r).1 = insAt l (lowM (fun x => aheadR x r) l) r ∧ (∀ x ∈ l, ¬ (x.cat = r.cat ∧ x.day = r.day)) := by
 unfold putRate at h ⊢
 split at h
 ·simp at h
 ·rename_i h1
  split at h
  ·rename_i h2; exact absurd h h2
  ·rename_i h2
   rw [if_neg h1, if_neg h2]
   cases hr : runL (putStep r) some l 0 with
   | none => rw [hr] at h; simp at h
   | some k =>
    rw [hr] at h
    simp only at h ⊢
    split at h
    ·simp at h
    ·rename_i h3
     rw [if_neg h3]
     obtain ⟨a, b, c⟩ := (tableM_iff l).1 (by simpa using h1)
     obtain ⟨hne, hk⟩ := putL l 0 k hr
     have hpre := filter_prefix (p := fun x => aheadR x r) c (fun a b => aheadR_trans)
     have hk' : k = lowM (fun x => aheadR x r) l := by
      unfold lowM
      rw [lowM_take, hk, hpre]
     rw [hk']
     refine ⟨?_, rfl, hne⟩
     rw [tableM_iff]
     have hrow : rowM r = 0 := Decidable.not_not.1 h2
     refine ⟨by have := insAt_le l (lowM (fun x => aheadR x r) l) r; simp only; omega, fun x hx => ?_, ?_⟩
     ·rcases (insAt_mem _ _ _ _).1 hx with rfl | hx
      ·exact hrow
      ·exact b x hx
     ·rw [insAt_low]
      refine ins_sorted c (fun a b c => aheadR_trans) (fun x hx hp => hp) (fun x hx hp => ?_)
      rw [aheadR_iff]
      have hp' : ¬ (ltB x.cat r.cat = true ∨ x.cat = r.cat ∧ x.day.before r.day = true) := fun q => by rw [(aheadR_iff x r).2 q] at hp; cases hp
      rcases ltB_tri x.cat r.cat with q | q | q
      ·exact absurd (.inl q) hp'
      ·refine .inr ⟨q.symm, ?_⟩
       have hx1 := (rowM_bp (b x hx)).2.1
       have hr1 := (rowM_bp hrow).2.1
       unfold Date.before at hp' ⊢
       simp only [hx1, hr1, Bool.true_and, decide_eq_true_eq] at hp' ⊢
       have hd : x.day.days ≠ r.day.days := fun e => hne x hx ⟨q, days_inj hx1 hr1 e⟩
       have : ¬ x.day.days < r.day.days := fun e => hp' (.inr ⟨q, e⟩)
       omega
      ·exact .inl q
theorem issue_why {s : State} {name : List UInt8} {p : Posted} (h : (issueM s name p).2.why = 0) :
  (takeM s.ser name).2.2 = 0 ∧ s.posted.length < 40 ∧ (entM p.total).2 = 0 ∧ (enterM s.book (entM p.total).1).2 = 0 ∧
   issueM s name p = ({ s with ser := (takeM s.ser name).1, book := (enterM s.book (entM p.total).1).1, posted := s.posted ++ [{ p with ref := ⟨name, (takeM s.ser name).2.1⟩ }] }, ⟨0, (takeM s.ser name).2.1, p.total.gross⟩) := by
 unfold issueM at h ⊢
 split at h
 ·rename_i hc; exact absurd h hc
 ·rename_i h1
  split at h
  ·simp [why] at h
  ·rename_i h2
   split at h
   ·rename_i hc; exact absurd h hc
   ·rename_i h3
    split at h
    ·rename_i hc; exact absurd h hc
    ·rename_i h4
     rw [if_neg h1, if_neg h2, if_neg h3, if_neg h4]
     exact ⟨Decidable.not_not.1 h1, by omega, Decidable.not_not.1 h3, Decidable.not_not.1 h4, rfl⟩
theorem issue_not {s : State} {name : List UInt8} {p : Posted} (h : (issueM s name p).2.why ≠ 0) : (issueM s name p).1 = s ∧ (issueM s name p).2 = why (issueM s name p).2.why := by
 unfold issueM at h ⊢
 split at h
 ·rename_i h1; rw [if_pos h1]; exact ⟨rfl, rfl⟩
 ·rename_i h1
  rw [if_neg h1]
  split at h
  ·rename_i h2; rw [if_pos h2]; exact ⟨rfl, rfl⟩
  ·rename_i h2
   rw [if_neg h2]
   split at h
   ·rename_i h3; rw [if_pos h3]; exact ⟨rfl, rfl⟩
   ·rename_i h3
    rw [if_neg h3]
    split at h
    ·rename_i h4; rw [if_pos h4]; exact ⟨rfl, rfl⟩
    ·exact absurd rfl h
theorem issue_right {s : State} {name : List UInt8} {p : Posted} (hr : rightM s = true) (h : (issueM s name p).2.why = 0) {X : List Posted} (hX : X.map nb' = (s.posted ++ [{ p with ref := ⟨name, (takeM s.ser name).2.1⟩ }]).map nb')
  (hok : OKat s.posted p) (hback : ∀ i q, X[i]? = some q → (counts X).getD i 0 ≤ 1 ∧ q.back = decide ((counts X).getD i 0 = 1)) :
  rightM { (issueM s name p).1 with posted := X } = true := by
 obtain ⟨h1, h2, h3, h4, h5⟩ := issue_why h
 obtain ⟨r1, r2, r3, r4, r5, r6⟩ := (rightM_iff s).1 hr
 obtain ⟨t1, i, ser, t2, t3, t4, t5, t6⟩ := takeM_ok h1
 rw [h5, rightM_iff]
 obtain ⟨c1, c2, c3⟩ := (serM_iff s.ser).1 r2
 refine ⟨r1, t1, r3, ?_, ?_, ?_⟩
 ·show postedM X = true
  rw [postedM_iff] at r4 ⊢
  refine ⟨?_, OKall_nb hX.symm (fun j q hq => ?_), hback⟩
  ·have := congrArg List.length hX
   simp only [List.length_map, List.length_append, List.length_cons, List.length_nil] at this
   omega
  ·by_cases hj : j < s.posted.length
   ·rw [List.getElem?_append_left hj] at hq
    rw [List.take_append_of_le_length (by omega)]
    exact r4.2.1 j q hq
   ·have hjl : j = s.posted.length := by
     have := (List.getElem?_eq_some_iff.1 hq).1
     simp only [List.length_append, List.length_cons, List.length_nil] at this
     omega
    subst hjl
    rw [List.getElem?_append_right (Nat.le_refl _), Nat.sub_self] at hq
    cases hq
    rw [List.take_append_of_le_length (Nat.le_refl _), List.take_length]
    exact hok
 ·show Nums (takeM s.ser name).1 X
  refine Nums_nb hX.symm ?_
  rw [t6]
  exact Nums_take c3 t2 r5 (p := { p with ref := ⟨name, ser.next⟩ }) (by rw [← t3])
 ·show bookedM X = _
  rw [bookedM_nb hX]
  exact bookedM_push r6 h3 h4
def Ints (s : State) : Prop := ∀ p ∈ s.posted, ∀ q ∈ p.total.parts, I64 q.net ∧ I64 q.tax
theorem back_zero {l : List Posted} (hl : ∀ i p, l[i]? = some p → OKat (l.take i) p) {p : Posted} (hp : OKat l p) (hb : p.back = false) (hof : p.of = Ref.zero) (h : ∀ i q, l[i]? = some q → (counts l).getD i 0 ≤ 1 ∧ q.back = decide ((counts l).getD i 0 = 1)) (r : Ref) :
  ∀ i q, (l ++ [{ p with ref := r }])[i]? = some q → (counts (l ++ [{ p with ref := r }])).getD i 0 ≤ 1 ∧ q.back = decide ((counts (l ++ [{ p with ref := r }])).getD i 0 = 1) := by
 intro i q hq
 have e : counts (l ++ [{ p with ref := r }]) = counts l := by rw [counts_append]; unfold cntStep; rw [if_pos hof]
 rw [e]
 by_cases hi : i < l.length
 ·rw [List.getElem?_append_left hi] at hq
  exact h i q hq
 ·have hil : i = l.length := by
   have := (List.getElem?_eq_some_iff.1 hq).1
   simp only [List.length_append, List.length_cons, List.length_nil] at this
   omega
  subst hil
  rw [List.getElem?_append_right (Nat.le_refl _), Nat.sub_self] at hq
  cases hq
  rw [(counts_range hl).2.1 _ (Nat.le_refl _)]
  exact ⟨by omega, hb⟩
theorem bill_right {s : State} (hr : rightM s = true) (hi : Ints s) (c : Cmd) : rightM (billM s c).1 = true ∧ Ints (billM s c).1 := by
 unfold billM
 split
 ·exact ⟨hr, hi⟩
 ·rename_i h1
  obtain ⟨a1, a2, a3⟩ := totalM_right (Decidable.not_not.1 h1)
  by_cases hw : (issueM s c.series ⟨Ref.zero, c.day, (totalM s.table c.day c.lines).1, Ref.zero, false⟩).2.why = 0
  ·obtain ⟨_, _, _, _, h5⟩ := issue_why hw
   obtain ⟨r1, r2, r3, r4, r5, r6⟩ := (rightM_iff s).1 hr
   obtain ⟨p1, p2, p3⟩ := (postedM_iff _).1 r4
   have hok : OKat s.posted ⟨Ref.zero, c.day, (totalM s.table c.day c.lines).1, Ref.zero, false⟩ := ⟨a1, a2, .inl rfl⟩
   have := issue_right (X := (issueM s c.series ⟨Ref.zero, c.day, (totalM s.table c.day c.lines).1, Ref.zero, false⟩).1.posted) hr hw (by rw [h5]) hok (by rw [h5]; exact back_zero p2 hok rfl rfl p3 _)
   refine ⟨this, fun p hp => ?_⟩
   rw [h5] at hp
   rcases List.mem_append.1 hp with hp | hp
   ·exact hi p hp
   ·rw [List.mem_singleton.1 hp]; exact a3
  ·rw [(issue_not hw).1]; exact ⟨hr, hi⟩
theorem num_pos {ser : List Ser} {l : List Posted} (h : Nums ser l) {p : Posted} (hp : p ∈ l) : 1 ≤ p.ref.num := by
 obtain ⟨i, hi⟩ := List.mem_iff_getElem?.1 hp
 have := (h.num i p hi).2
 have := cnt_nonneg (l.take i) p.ref.ser
 omega
theorem credit_right {s : State} (hr : rightM s = true) (hi : Ints s) (c : Cmd) : rightM (creditM s c).1 = true ∧ Ints (creditM s c).1 := by
 obtain ⟨r1, r2, r3, r4, r5, r6⟩ := (rightM_iff s).1 hr
 obtain ⟨p1, p2, p3⟩ := (postedM_iff _).1 r4
 unfold creditM
 split
 ·exact ⟨hr, hi⟩
 ·rename_i h0
  rcases postAt_cases s.posted c.of with e | ⟨k, x, e, hk, hx⟩
  ·exact absurd (by rw [e]; decide) h0
  ·have hg : s.posted.getD (postAt s.posted c.of).toNat Posted.zero = x := by rw [e, Int.toNat_natCast, List.getD_eq_getElem?_getD, hk]; rfl
   rw [hg]
   have hxm := List.mem_of_getElem? hk
   unfold creditAt
   split
   ·exact ⟨hr, hi⟩
   ·rename_i h1
    split
    ·rename_i h2
     split
     ·exact ⟨hr, hi⟩
     ·rename_i h3
      split
      ·exact ⟨hr, hi⟩
      ·rename_i h4
       split
       ·exact ⟨hr, hi⟩
       ·rename_i h5
        have h5 := Decidable.not_not.1 h5
        have hxr := p2 k x hk
        obtain ⟨b1, b2, b3⟩ := back_right (hi x hxm) hxr.2.1 h5
        split
        ·rename_i h6
         obtain ⟨_, _, _, _, h7⟩ := issue_why h6
         have hofz : c.of ≠ Ref.zero := by
          intro q
          have := num_pos r5 hxm
          rw [hx, q] at this
          exact absurd this (by decide)
         have htk : takesM ⟨Ref.zero, c.day, (backM x.total).1, c.of, false⟩ x = true := by
          unfold takesM
          rw [if_pos h2, if_pos (by simpa using h4), if_pos h5]
          simp
         have hok : OKat s.posted ⟨Ref.zero, c.day, (backM x.total).1, c.of, false⟩ := by
          refine ⟨by simpa using h3, b1, .inr ⟨by show 0 ≤ postAt s.posted c.of; omega, ?_⟩⟩
          show takesM _ (s.posted.getD (postAt s.posted c.of).toNat dflt) = true
          rw [e, Int.toNat_natCast, List.getD_eq_getElem?_getD, hk]
          exact htk
         have hposted : (issueM s c.series ⟨Ref.zero, c.day, (backM x.total).1, c.of, false⟩).1.posted = s.posted ++ [⟨⟨c.series, (takeM s.ser c.series).2.1⟩, c.day, (backM x.total).1, c.of, false⟩] := by rw [h7]
         have hkl := (List.getElem?_eq_some_iff.1 hk).1
         have hset : setBack (issueM s c.series ⟨Ref.zero, c.day, (backM x.total).1, c.of, false⟩).1.posted (postAt s.posted c.of).toNat = s.posted.set k { x with back := true } ++ [⟨⟨c.series, (takeM s.ser c.series).2.1⟩, c.day, (backM x.total).1, c.of, false⟩] := by
          rw [hposted, e, Int.toNat_natCast]
          unfold setBack
          rw [List.getElem?_append_left hkl, hk]
          simp only
          rw [List.set_append_left _ _ hkl]
         have hnb := setBack_nb (issueM s c.series ⟨Ref.zero, c.day, (backM x.total).1, c.of, false⟩).1.posted (postAt s.posted c.of).toNat
         have hcnt : counts (setBack (issueM s c.series ⟨Ref.zero, c.day, (backM x.total).1, c.of, false⟩).1.posted (postAt s.posted c.of).toNat) = bump (counts s.posted) k := by
          rw [← counts_nb, hnb, counts_nb, hposted, counts_append]
          unfold cntStep
          rw [if_neg hofz]
          show bump (counts s.posted) (postAt s.posted c.of).toNat = _
          rw [e, Int.toNat_natCast]
         obtain ⟨g1, g2, g3⟩ := counts_range p2
         have hbk : ∀ i, (bump (counts s.posted) k).getD i 0 = (counts s.posted).getD i 0 + (if i = k then 1 else 0) := by
          intro i
          unfold bump
          simp only [List.getD_eq_getElem?_getD, List.getElem?_set]
          by_cases q : k = i
          ·subst q; rw [if_pos rfl, if_pos (by omega), if_pos rfl]; rfl
          ·rw [if_neg q, if_neg (fun q2 => q q2.symm), Int.add_zero]
         have h0k : (counts s.posted).getD k 0 = 0 := by
          obtain ⟨q1, q2⟩ := p3 k x hk
          have h1' : x.back = false := by simpa using h1
          rw [h1'] at q2
          have q3 := of_decide_eq_false q2.symm
          have := g1 k
          omega
         have := issue_right (X := setBack (issueM s c.series ⟨Ref.zero, c.day, (backM x.total).1, c.of, false⟩).1.posted (postAt s.posted c.of).toNat) hr h6 (by rw [hnb, hposted]) hok (by
          rw [hcnt, hset]
          intro i q hq
          rw [hbk]
          by_cases hil : i < s.posted.length
          ·rw [List.getElem?_append_left (by rw [List.length_set]; exact hil), List.getElem?_set] at hq
           by_cases ck : k = i
           ·subst ck
            rw [if_pos rfl, if_pos hil] at hq
            cases hq
            rw [h0k, if_pos rfl]
            exact ⟨by decide, rfl⟩
           ·rw [if_neg ck] at hq
            rw [if_neg (fun q2 => ck q2.symm), Int.add_zero]
            exact p3 i q hq
          ·have hieq : i = s.posted.length := by
            have := (List.getElem?_eq_some_iff.1 hq).1
            simp only [List.length_append, List.length_cons, List.length_nil, List.length_set] at this
            omega
           subst hieq
           rw [List.getElem?_append_right (by rw [List.length_set]; exact Nat.le_refl _), List.length_set, Nat.sub_self] at hq
           cases hq
           rw [g2 _ (Nat.le_refl _), if_neg (by omega)]
           exact ⟨by decide, rfl⟩)
         refine ⟨this, fun p hp => ?_⟩
         have hp : p ∈ setBack (issueM s c.series ⟨Ref.zero, c.day, (backM x.total).1, c.of, false⟩).1.posted (postAt s.posted c.of).toNat := hp
         rw [hset] at hp
         rcases List.mem_append.1 hp with hp | hp
         ·rcases List.mem_or_eq_of_mem_set hp with hp | rfl
          ·exact hi p hp
          ·exact hi x hxm
         ·rw [List.mem_singleton.1 hp]; exact b2
        ·rename_i h6
         rw [(issue_not h6).1]; exact ⟨hr, hi⟩
    ·exact ⟨hr, hi⟩
theorem ser_right {s : State} (hr : rightM s = true) {l : List Ser} (h1 : serM l = true) (h2 : Nums l s.posted) : rightM { s with ser := l } = true := by
 obtain ⟨r1, r2, r3, r4, r5, r6⟩ := (rightM_iff s).1 hr
 exact (rightM_iff _).2 ⟨r1, h1, r3, r4, h2, r6⟩
theorem sess_right {s : State} (hr : rightM s = true) {l : List Sess} {n : Int} (h1 : SessOK l n) : rightM { s with sess := l, next := n } = true := by
 obtain ⟨r1, r2, r3, r4, r5, r6⟩ := (rightM_iff s).1 hr
 exact (rightM_iff _).2 ⟨r1, r2, h1, r4, r5, r6⟩
theorem join_right {s : State} (hr : rightM s = true) : rightM (joinTop s).1 = true ∧ ((joinTop s).1.posted = s.posted) := by
 obtain ⟨r1, r2, r3, r4, r5, r6⟩ := (rightM_iff s).1 hr
 obtain ⟨a, b, c, d, e, f⟩ := r3
 unfold joinTop
 split
 ·exact ⟨hr, rfl⟩
 ·rename_i h1
  split
  ·exact ⟨hr, rfl⟩
  ·rename_i h2
   have h2 := Decidable.not_not.1 h2
   refine ⟨?_, rfl⟩
   show rightM { s with sess := (joinM s.sess s.next).1, next := wr .i64 (s.next + 1) } = true
   rw [wr_id (by omega)]
   refine sess_right hr ?_
   unfold joinM at h2 ⊢
   split at h2
   ·simp at h2
   ·rename_i j1
    split at h2
    ·simp at h2
    ·rename_i j2
     split at h2
     ·simp at h2
     ·rename_i j3
      rw [if_neg j1, if_neg j2, if_neg j3]
      refine ⟨by have := insAt_le s.sess (lowM (fun x => decide (x.id < s.next)) s.sess) ⟨s.next, 0, Rep.zero⟩; simp only; omega, fun x hx => ?_, ?_, by omega, by omega, fun x hx => ?_⟩
      ·rcases (insAt_mem _ _ _ _).1 hx with rfl | hx
       ·exact ⟨by show 0 < s.next; omega, by simp, by simp, fun _ => rfl⟩
       ·exact b x hx
      ·simp only
       rw [insAt_low]
       refine ins_sorted c (fun a b c h1 h2 => by omega) (fun x hx hp => by simpa using hp) (fun x hx hp => ?_)
       have := f x hx
       simp at hp
       show s.next < x.id
       omega
      ·rcases (insAt_mem _ _ _ _).1 hx with rfl | hx
       ·show s.next < s.next + 1; omega
       ·have := f x hx; omega
theorem leave_ok {l : List Sess} {n id : Int} (h : SessOK l n) : (leaveM l id).2 = 0 → SessOK (leaveM l id).1 n := by
 intro h0
 obtain ⟨a, b, c, d, e, f⟩ := h
 unfold leaveM at h0 ⊢
 split at h0
 ·simp at h0
 ·rename_i h1
  split at h0
  ·simp at h0
  ·rename_i h2
   rw [if_neg h1, if_neg h2]
   have hsub : (dropAt l (sessAt l id).toNat).Sublist l := by
    unfold dropAt
    conv => rhs; rw [← List.take_append_drop (sessAt l id).toNat l]
    refine List.Sublist.append (List.Sublist.refl _) ?_
    rw [← List.drop_drop]
    exact List.drop_sublist _ _
   exact ⟨by have := hsub.length_le; simp only; omega, fun x hx => b x (hsub.subset hx), c.sublist hsub, d, e, fun x hx => f x (hsub.subset hx)⟩
theorem keep_ok {l : List Sess} {n id seq : Int} {r : Rep} (h : SessOK l n) : (keepM l id seq r).2 = 0 → SessOK (keepM l id seq r).1 n := by
 intro h0
 obtain ⟨a, b, c, d, e, f⟩ := h
 unfold keepM at h0 ⊢
 split at h0
 ·rename_i hc; exact absurd h0 hc
 ·rename_i h1
  have h1' := Decidable.not_not.1 h1
  split at h0
  ·simp at h0
  ·rename_i h2
   rw [if_neg h1, if_neg h2]
   obtain ⟨hs, i, s, e1, e2⟩ := lookM_ok h1'
   rw [e1, Int.toNat_natCast, e2]
   have hseq : 1 ≤ seq ∧ seq ≤ 1099511627776 := by
    unfold lookM at h1'
    rw [if_neg (by rw [hs]; simp), if_neg (by omega)] at h1'
    split at h1'
    ·simp at h1'
    ·omega
   have hsm := List.mem_of_getElem? e2
   refine ⟨by simp only [List.length_set]; exact a, fun x hx => ?_, ?_, d, e, fun x hx => ?_⟩
   ·rcases List.mem_or_eq_of_mem_set hx with hx | rfl
    ·exact b x hx
    ·exact ⟨(b s hsm).1, by simp only; omega, by simp only; omega, fun q => by simp only at q; omega⟩
   ·simp only
    have hm : ∀ l : List Sess, l.Pairwise (fun a b => a.id < b.id) ↔ (l.map (·.id)).Pairwise (fun a b => a < b) := fun l => (List.pairwise_map (f := fun s : Sess => s.id) (R := fun a b => a < b)).symm
    rw [hm] at c ⊢
    have : (l.set i ⟨s.id, seq, r⟩).map (·.id) = l.map (·.id) := by
     apply List.ext_getElem?
     intro j
     rw [List.getElem?_map, List.getElem?_map, List.getElem?_set]
     split
     ·rename_i e; subst e; rw [if_pos (List.getElem?_eq_some_iff.1 e2).1, e2]; rfl
     ·rfl
    rw [this]; exact c
   ·rcases List.mem_or_eq_of_mem_set hx with hx | rfl
    ·exact f x hx
    ·exact f s hsm
theorem do_right {s : State} (hr : rightM s = true) (hi : Ints s) (c : Cmd) : rightM (doM s c).1 = true ∧ Ints (doM s c).1 := by
 obtain ⟨r1, r2, r3, r4, r5, r6⟩ := (rightM_iff s).1 hr
 unfold doM
 split
 ·unfold keptSer
  split
  ·rename_i h
   exact ⟨ser_right hr (openSer_ok h).1 (Nums_open h r5), hi⟩
  ·exact ⟨hr, hi⟩
 ·split
  ·unfold keptSer
   split
   ·rename_i h
    obtain ⟨a, i, x, b1, b2, b3⟩ := shutM_ok h
    exact ⟨ser_right hr a (by rw [b3]; exact Nums_set b1 r5), hi⟩
   ·exact ⟨hr, hi⟩
  ·split
   ·unfold keptTab
    split
    ·rename_i h
     exact ⟨(rightM_iff _).2 ⟨(putRate_ok h).1, r2, r3, r4, r5, r6⟩, hi⟩
    ·exact ⟨hr, hi⟩
   ·split
    ·exact bill_right hr hi c
    ·split
     ·exact credit_right hr hi c
     ·split
      ·unfold keptSess
       split
       ·rename_i h
        exact ⟨sess_right (n := s.next) hr (leave_ok r3 h), hi⟩
       ·exact ⟨hr, hi⟩
      ·exact ⟨hr, hi⟩
theorem apply_right {s : State} (hr : rightM s = true) (hi : Ints s) (c : Call) : rightM (applyM s c).1 = true ∧ Ints (applyM s c).1 := by
 unfold applyM
 rw [if_neg (by rw [hr]; simp)]
 split
 ·exact ⟨hr, hi⟩
 ·split
  ·obtain ⟨a, b⟩ := join_right hr
   exact ⟨a, fun p hp => hi p (by rw [b] at hp; exact hp)⟩
  ·split
   ·exact ⟨hr, hi⟩
   ·split
    ·exact ⟨hr, hi⟩
    ·obtain ⟨a, b⟩ := do_right hr hi c.cmd
     unfold keepTop
     split
     ·rename_i h
      exact ⟨sess_right (n := (doM s c.cmd).1.next) a (keep_ok ((rightM_iff _).1 a).2.2.1 h), b⟩
     ·exact ⟨a, b⟩
theorem new_right : rightM State.new = true ∧ Ints State.new := ⟨by decide, fun p hp => by cases hp⟩
def lookX (x : Sess) (seq : Int) : Rep × Bool × Int := if seq < 1 ∨ 1099511627776 < seq then (Rep.zero, false, 1) else if seq = x.last then (x.reply, true, 0) else if seq < x.last then (Rep.zero, false, 16) else (Rep.zero, false, 0)
theorem sessAt_of {l : List Sess} (hs : l.Pairwise (fun a b => a.id < b.id)) {i : Nat} {s : Sess} (h : l[i]? = some s) : sessAt l s.id = (i : Int) := by
 refine ixM_first h (by simp) (fun j b hj hb => ?_)
 have h1 := List.pairwise_iff_getElem.1 hs j i (List.getElem?_eq_some_iff.1 hb).1 (List.getElem?_eq_some_iff.1 h).1 hj
 rw [(List.getElem?_eq_some_iff.1 hb).2, (List.getElem?_eq_some_iff.1 h).2] at h1
 simp only [decide_eq_false_iff_not]
 omega
theorem look_mem {l : List Sess} (h : sessM l = true) {i : Nat} {x : Sess} (hx : l[i]? = some x) (seq : Int) : lookM l x.id seq = lookX x seq := by
 have e := sessAt_of ((sessM_iff l).1 h).2.2 hx
 unfold lookM lookX
 rw [if_neg (by rw [h]; simp), e, if_neg (by omega), Int.toNat_natCast, hx]
theorem look_new {l : List Sess} {id seq : Int} (h : (lookM l id seq).2.2 = 0) (h2 : (lookM l id seq).2.1 = false) : sessM l = true ∧ ∃ (i : Nat) (x : Sess), l[i]? = some x ∧ x.id = id ∧ 1 ≤ seq ∧ seq ≤ 1099511627776 ∧ x.last < seq := by
 obtain ⟨hs, i, x, e, hi⟩ := lookM_ok h
 have hid : x.id = id := by
  rcases sessAt_cases l id with e1 | ⟨j, y, e1, e2, e3⟩
  ·rw [e1] at e; omega
  ·rw [e1] at e
   have : j = i := by omega
   subst this
   rw [hi] at e2; cases e2; exact e3
 subst hid
 rw [look_mem hs hi] at h h2
 unfold lookX at h h2
 split at h
 ·simp at h
 ·rename_i h3
  rw [if_neg h3] at h2
  split at h
  ·rename_i h4; rw [if_pos h4] at h2; simp at h2
  ·rename_i h4
   split at h
   ·simp at h
   ·rename_i h5
    exact ⟨hs, i, x, hi, rfl, by omega, by omega, by omega⟩
theorem keep_new {l : List Sess} (h : sessM l = true) {i : Nat} {x : Sess} (hx : l[i]? = some x) {seq : Int} (h1 : 1 ≤ seq) (h2 : seq ≤ 1099511627776) (h3 : x.last < seq) (r : Rep) : keepM l x.id seq r = (l.set i ⟨x.id, seq, r⟩, 0) := by
 have e := sessAt_of ((sessM_iff l).1 h).2.2 hx
 have el : lookM l x.id seq = (Rep.zero, false, 0) := by
  rw [look_mem h hx]; unfold lookX
  rw [if_neg (by omega), if_neg (by omega), if_neg (by omega)]
 unfold keepM
 rw [el, if_neg (by simp), if_neg (by simp), e, Int.toNat_natCast, hx]
theorem sess_of {s : State} (hr : rightM s = true) : sessM s.sess = true := by
 obtain ⟨a, b, c, _⟩ := ((rightM_iff s).1 hr).2.2.1
 exact (sessM_iff _).2 ⟨a, b, c⟩
theorem openSer_why (l : List Ser) (name : List UInt8) (limit : Int) : 0 ≤ (openSer l name limit).2 ∧ (openSer l name limit).2 ≤ 14 := by
 unfold openSer; repeat' split
 all_goals (constructor <;> first | decide | simp)
theorem openM_why (l : List Ser) (name : List UInt8) : 0 ≤ (openM l name).2 ∧ (openM l name).2 ≤ 14 := by
 unfold openM; repeat' split
 all_goals (constructor <;> first | decide | simp)
theorem shutM_why (l : List Ser) (name : List UInt8) : 0 ≤ (shutM l name).2 ∧ (shutM l name).2 ≤ 14 := by
 unfold shutM
 split
 ·exact openM_why l name
 ·split <;> (constructor <;> first | decide | simp)
theorem takeM_why (l : List Ser) (name : List UInt8) : 0 ≤ (takeM l name).2.2 ∧ (takeM l name).2.2 ≤ 14 := by
 unfold takeM
 split
 ·exact openM_why l name
 ·repeat' split
  all_goals (constructor <;> first | decide | simp)
theorem rowM_why (r : Rate) : 0 ≤ rowM r ∧ rowM r ≤ 14 := by
 unfold rowM; repeat' split
 all_goals (constructor <;> first | decide | simp)
theorem putRate_why (l : List Rate) (r : Rate) : 0 ≤ (putRate l r).2 ∧ (putRate l r).2 ≤ 14 := by
 unfold putRate
 split
 ·constructor <;> first | decide | simp
 ·split
  ·exact rowM_why r
  ·repeat' split
   all_goals (constructor <;> first | decide | simp)
theorem addM_why (a b : Int) : 0 ≤ (addM a b).2 ∧ (addM a b).2 ≤ 14 := by
 unfold addM; split <;> (constructor <;> first | decide | simp)
theorem subM_why (a b : Int) : 0 ≤ (subM a b).2 ∧ (subM a b).2 ≤ 14 := by
 unfold subM; split <;> (constructor <;> first | decide | simp)
theorem mulM_why (a b : Int) : 0 ≤ (mulM a b).2 ∧ (mulM a b).2 ≤ 14 := by
 unfold mulM
 simp only
 repeat' split
 all_goals (constructor <;> first | decide | simp)
theorem lineM_why (tab : List Rate) (d : Date) (l : Line) : 0 ≤ (lineM tab d l).2.2 ∧ (lineM tab d l).2.2 ≤ 14 := by
 unfold lineM
 repeat' split
 all_goals first | exact mulM_why _ _ | (constructor <;> first | decide | simp)
theorem runL_inv {σ ρ α : Type} {step : σ → α → ρ ⊕ σ} {fin : σ → ρ} (Q : ρ → Prop) (hs : ∀ s a r, step s a = .inl r → Q r) (hf : ∀ s, Q (fin s)) : ∀ (l : List α) (s : σ), Q (runL step fin l s)
 | [], s => hf s
 | a :: l, s => by
  simp only [runL]
  split
  ·rename_i r he; exact hs _ _ _ he
  ·exact runL_inv Q hs hf l _
theorem wholeM_why (l : List Part) : 0 ≤ (wholeM l).2 ∧ (wholeM l).2 ≤ 14 := by
 refine runL_inv (fun r : Total × Int => 0 ≤ r.2 ∧ r.2 ≤ 14) (fun s a r h => ?_) (fun s => ?_) l _
 ·unfold wholeStep at h
  split at h
  ·cases h; constructor <;> first | decide | simp
  ·cases h
 ·unfold wholeFin
  split
  ·exact addM_why _ _
  ·constructor <;> first | decide | simp
theorem putM_why (l : List Part) (cat : List UInt8) (bp n : Int) : 0 ≤ (putM l cat bp n).2 ∧ (putM l cat bp n).2 ≤ 14 := by
 unfold putM
 split
 ·constructor <;> first | decide | simp
 ·exact addM_why _ _
theorem totalM_why (tab : List Rate) (d : Date) (lines : List Line) : 0 ≤ (totalM tab d lines).2 ∧ (totalM tab d lines).2 ≤ 14 := by
 unfold totalM
 split
 ·constructor <;> first | decide | simp
 ·split
  ·constructor <;> first | decide | simp
  ·split
   ·constructor <;> first | decide | simp
   ·split
    ·constructor <;> first | decide | simp
    ·refine runL_inv (fun r : Total × Int => 0 ≤ r.2 ∧ r.2 ≤ 14) (fun s a r h => ?_) (fun s => wholeM_why _) lines _
     unfold totStep at h
     split at h
     ·cases h; exact lineM_why _ _ _
     ·split at h
      ·cases h; exact putM_why _ _ _ _
      ·cases h
theorem entM_why (t : Total) : 0 ≤ (entM t).2 ∧ (entM t).2 ≤ 14 := by
 refine runL_inv (fun r : List Bal × Int => 0 ≤ r.2 ∧ r.2 ≤ 14) (fun s a r h => ?_) (fun s => by constructor <;> first | decide | simp) _ _
 unfold entStep at h
 split at h
 ·cases h; constructor <;> first | decide | simp
 ·split at h
  ·cases h; constructor <;> first | decide | simp
  ·cases h
theorem enterM_why (b l : List Bal) : 0 ≤ (enterM b l).2 ∧ (enterM b l).2 ≤ 14 := by
 unfold enterM
 split
 ·constructor <;> first | decide | simp
 ·refine runL_inv (fun r : List Bal × Int => 0 ≤ r.2 ∧ r.2 ≤ 14) (fun s a r h => ?_) (fun s => by constructor <;> first | decide | simp) _ _
  unfold enterStep at h
  split at h
  ·cases h; constructor <;> first | decide | simp
  ·split at h
   ·cases h; exact addM_why _ _
   ·cases h
theorem offM_why (l : List Int) : 0 ≤ (offM l).2 ∧ (offM l).2 ≤ 14 := by
 refine runL_inv (fun r : List Int × Int => 0 ≤ r.2 ∧ r.2 ≤ 14) (fun s a r h => ?_) (fun s => by constructor <;> first | decide | simp) _ _
 unfold offStep at h
 split at h
 ·cases h; exact subM_why _ _
 ·cases h
theorem backM_why (t : Total) : 0 ≤ (backM t).2 ∧ (backM t).2 ≤ 14 := by
 unfold backM
 split
 ·exact offM_why _
 ·split
  ·refine runL_inv (fun r : List Part × Int => 0 ≤ r.2 ∧ r.2 ≤ 14) (fun s a r h => ?_) (fun s => by constructor <;> first | decide | simp) _ _
   unfold backStep at h
   split at h
   ·cases h; exact offM_why _
   ·cases h
  ·constructor <;> first | decide | simp
theorem leaveM_why (l : List Sess) (id : Int) : 0 ≤ (leaveM l id).2 ∧ (leaveM l id).2 ≤ 14 := by
 unfold leaveM; repeat' split
 all_goals (constructor <;> first | decide | simp)
def Plain (s : State) (r : State × Rep) : Prop := 0 ≤ r.2.why ∧ r.2.why ≤ 14 ∧ (r.2.why ≠ 0 → r.1 = s ∧ r.2 = why r.2.why)
theorem Plain.why {s : State} {e : Int} (h1 : 0 ≤ e) (h2 : e ≤ 14) : Plain s (s, Go.Proofs.YtjbicclbalagbaaGreat.why e) := ⟨h1, h2, fun _ => ⟨rfl, rfl⟩⟩
theorem issue_plain (s : State) (name : List UInt8) (p : Posted) : Plain s (issueM s name p) := by
 unfold issueM
 split
 ·exact Plain.why (takeM_why _ _).1 (takeM_why _ _).2
 ·split
  ·exact Plain.why (by decide) (by decide)
  ·split
   ·exact Plain.why (entM_why _).1 (entM_why _).2
   ·split
    ·exact Plain.why (enterM_why _ _).1 (enterM_why _ _).2
    ·exact ⟨Int.le_refl 0, by show (0 : Int) ≤ 14; decide, fun h => absurd rfl h⟩
theorem do_plain (s : State) (c : Cmd) : Plain s (doM s c) := by
 have kw : ∀ (e : Int) (t : State), (0 ≤ e ∧ e ≤ 14) → Plain s (if e = 0 then (t, why e) else (s, why e)) := by
  intro e t h
  split
  ·rename_i h0; subst h0; exact ⟨Int.le_refl 0, by show (0 : Int) ≤ 14; decide, fun h => absurd rfl h⟩
  ·exact Plain.why h.1 h.2
 unfold doM
 split
 ·exact kw _ _ (openSer_why _ _ _)
 ·split
  ·exact kw _ _ (shutM_why _ _)
  ·split
   ·exact kw _ _ (putRate_why _ _)
   ·split
    ·unfold billM
     split
     ·exact Plain.why (totalM_why _ _ _).1 (totalM_why _ _ _).2
     ·exact issue_plain _ _ _
    ·split
     ·unfold creditM
      split
      ·exact Plain.why (by decide) (by decide)
      ·unfold creditAt
       split
       ·exact Plain.why (by decide) (by decide)
       ·split
        ·split
         ·exact Plain.why (by decide) (by decide)
         ·split
          ·exact Plain.why (by decide) (by decide)
          ·split
           ·exact Plain.why (backM_why _).1 (backM_why _).2
           ·split
            ·rename_i h
             exact ⟨by rw [h]; decide, by rw [h]; decide, fun q => absurd h q⟩
            ·exact issue_plain _ _ _
        ·exact Plain.why (by decide) (by decide)
     ·split
      ·exact kw _ _ (leaveM_why _ _)
      ·unfold askM
       split
       ·exact Plain.why (e := 11) (by decide) (by decide)
       ·exact ⟨Int.le_refl 0, by show (0 : Int) ≤ 14; decide, fun h => absurd rfl h⟩
theorem do_sess (s : State) (c : Cmd) : (doM s c).1.sess = s.sess ∨ (c.kind = 7 ∧ (leaveM s.sess c.session).2 = 0 ∧ (doM s c).1.sess = (leaveM s.sess c.session).1) := by
 have hi : ∀ name p, (issueM s name p).1.sess = s.sess := by
  intro name p
  unfold issueM
  repeat' split
  all_goals rfl
 unfold doM
 split
 ·unfold keptSer; split <;> exact .inl rfl
 ·split
  ·unfold keptSer; split <;> exact .inl rfl
  ·split
   ·unfold keptTab; split <;> exact .inl rfl
   ·split
    ·unfold billM
     split
     ·exact .inl rfl
     ·exact .inl (hi _ _)
    ·split
     ·unfold creditM creditAt
      repeat' split
      all_goals first | exact .inl rfl | exact .inl (hi _ _)
     ·split
      ·rename_i h7
       unfold keptSess
       split
       ·rename_i h; exact .inr ⟨h7, h, rfl⟩
       ·exact .inl rfl
      ·exact .inl rfl
theorem leave_mem {l : List Sess} {id : Int} (h : (leaveM l id).2 = 0) {n : Int} (hs : SessOK l n) : ∀ x, x ∈ (leaveM l id).1 ↔ x ∈ l ∧ x.id ≠ id := by
 unfold leaveM at h ⊢
 split at h
 ·simp at h
 ·rename_i h1
  split at h
  ·simp at h
  ·rename_i h2
   rw [if_neg h1, if_neg h2]
   rcases sessAt_cases l id with e | ⟨i, y, e, hi, hy⟩
   ·rw [e] at h2; exact absurd (by decide) h2
   ·simp only [e, Int.toNat_natCast]
    intro x
    unfold dropAt
    rw [List.mem_append]
    have hp := hs.2.2.1
    have hil := (List.getElem?_eq_some_iff.1 hi).1
    have key : ∀ j z, l[j]? = some z → (z.id = id ↔ j = i) := by
     intro j z hz
     constructor
     ·intro hzid
      have e1 := sessAt_of hp hz
      rw [hzid, e] at e1; omega
     ·rintro rfl; rw [hi] at hz; cases hz; exact hy
    constructor
    ·rintro (hx | hx)
     ·obtain ⟨j, hj⟩ := List.mem_iff_getElem?.1 hx
      rw [List.getElem?_take] at hj
      split at hj
      ·rename_i hji
       exact ⟨List.mem_of_getElem? hj, fun q => by have := (key j x hj).1 q; omega⟩
      ·cases hj
     ·obtain ⟨j, hj⟩ := List.mem_iff_getElem?.1 hx
      rw [List.getElem?_drop] at hj
      exact ⟨List.mem_of_getElem? hj, fun q => by have := (key _ x hj).1 q; omega⟩
    ·rintro ⟨hx, hne⟩
     obtain ⟨j, hj⟩ := List.mem_iff_getElem?.1 hx
     have hji : j ≠ i := fun q => hne ((key j x hj).2 q)
     by_cases c : j < i
     ·left; exact List.mem_of_getElem? (i := j) (by rw [List.getElem?_take, if_pos c]; exact hj)
     ·right; exact List.mem_of_getElem? (i := j - (i + 1)) (by rw [List.getElem?_drop, show i + 1 + (j - (i + 1)) = j from by omega]; exact hj)
theorem apply_new {s : State} (hr : rightM s = true) (hi : Ints s) {c : Call} (hk : ¬ (c.cmd.kind < 1 ∨ 8 < c.cmd.kind)) (h6 : c.cmd.kind ≠ 6) (h1 : (lookM s.sess c.session c.seq).2.2 = 0) (h2 : (lookM s.sess c.session c.seq).2.1 = false) :
  applyM s c = keepTop (doM s c.cmd) c := by
 unfold applyM
 rw [if_neg (by rw [hr]; simp), if_neg hk, if_neg h6, if_neg (by rw [h1]; simp), if_neg (by rw [h2]; simp)]
def RepsOK (s : State) : Prop := ∀ x ∈ s.sess, x.reply.why ≠ 0 → x.reply = why x.reply.why
theorem join_reps {s : State} (hr : rightM s = true) (hq : RepsOK s) : RepsOK (joinTop s).1 ∧ ((joinTop s).2.why ≠ 0 → (joinTop s).1 = s ∧ (joinTop s).2 = why (joinTop s).2.why) := by
 unfold joinTop
 split
 ·exact ⟨hq, fun _ => ⟨rfl, rfl⟩⟩
 ·split
  ·exact ⟨hq, fun _ => ⟨rfl, rfl⟩⟩
  ·refine ⟨fun x hx => ?_, fun h => absurd rfl h⟩
   rename_i h1 h2
   have h2 := Decidable.not_not.1 h2
   have hx : x ∈ (joinM s.sess s.next).1 := hx
   unfold joinM at h2 hx
   split at h2
   ·simp at h2
   ·rename_i j1
    split at h2
    ·simp at h2
    ·rename_i j2
     split at h2
     ·simp at h2
     ·rename_i j3
      rw [if_neg j1, if_neg j2, if_neg j3] at hx
      rcases (insAt_mem _ _ _ _).1 hx with rfl | hx
      ·intro h; exact absurd rfl h
      ·exact hq x hx
theorem do_reps {s : State} (hr : rightM s = true) (hq : RepsOK s) (c : Cmd) : RepsOK (doM s c).1 := by
 intro x hx
 rcases do_sess s c with e | ⟨_, e1, e2⟩
 ·rw [e] at hx; exact hq x hx
 ·rw [e2] at hx
  exact hq x ((leave_mem e1 ((rightM_iff s).1 hr).2.2.1 x).1 hx).1
theorem keep_cases (r : State × Rep) (c : Call) : keepTop r c = r ∨ ∃ (i : Nat) (x : Sess), r.1.sess[i]? = some x ∧ x.id = c.session ∧ x.last < c.seq ∧ keepTop r c = ({ r.1 with sess := r.1.sess.set i ⟨x.id, c.seq, r.2⟩ }, r.2) := by
 unfold keepTop
 split
 ·rename_i h
  right
  unfold keepM at h
  split at h
  ·rename_i h1; exact absurd h h1
  ·rename_i h1
   have h1' := Decidable.not_not.1 h1
   split at h
   ·simp at h
   ·rename_i h2
    have h2' : (lookM r.1.sess c.session c.seq).2.1 = false := by simpa using h2
    obtain ⟨hs, i, x, hx, hid, q1, q2, q3⟩ := look_new h1' h2'
    refine ⟨i, x, hx, hid, q3, ?_⟩
    have := keep_new hs hx q1 q2 q3 r.2
    rw [hid] at this
    rw [this, hid]
 ·exact .inl rfl
theorem apply_reps {s : State} (hr : rightM s = true) (hi : Ints s) (hq : RepsOK s) (c : Call) : RepsOK (applyM s c).1 := by
 unfold applyM
 rw [if_neg (by rw [hr]; simp)]
 split
 ·exact hq
 ·split
  ·exact (join_reps hr hq).1
  ·split
   ·exact hq
   ·split
    ·exact hq
    ·have hd := do_reps hr hq c.cmd
     rcases keep_cases (doM s c.cmd) c with e | ⟨i, x, e1, _, _, e2⟩
     ·rw [e]; exact hd
     ·rw [e2]
      intro y hy
      rcases List.mem_or_eq_of_mem_set hy with hy | rfl
      ·exact hd y hy
      ·intro h; exact ((do_plain s c.cmd).2.2 h).2
theorem new_reps : RepsOK State.new := fun x hx => by cases hx
structure Beh (s : State) : Prop where
 right : rightM s = true
 ints : Ints s
 reps : RepsOK s
theorem Beh.new : Beh State.new := ⟨new_right.1, new_right.2, new_reps⟩
theorem Beh.apply {s : State} (h : Beh s) (c : Call) : Beh (applyM s c).1 := ⟨(apply_right h.right h.ints c).1, (apply_right h.right h.ints c).2, apply_reps h.right h.ints h.reps c⟩
theorem Beh.play : ∀ (l : List Call) (s : State) (r : List Rep), Beh s → Beh (l.foldl playStep (s, r)).1
 | [], s, r, h => h
 | c :: l, s, r, h => Beh.play l _ _ (h.apply c)
theorem Beh.playM {s : State} (h : Beh s) (l : List Call) : Beh (Go.Proofs.YtjbicclbalagbaaGreat.playM s l).1 := Beh.play l s [] h
def One (s : State) (c : Cmd) (r : State × Rep) : Prop :=
 ∃ p, r.1.posted.length = s.posted.length + 1 ∧ r.1.posted[s.posted.length]? = some p ∧ r.2 = ⟨0, p.ref.num, p.total.gross⟩ ∧ p.ref.ser = c.series
theorem setBack_len (l : List Posted) (k : Nat) : (setBack l k).length = l.length := by
 unfold setBack; split <;> simp
theorem issue_one (s : State) (c : Cmd) (p : Posted) : (issueM s c.series p).1 = s ∨ ((issueM s c.series p).1.sess = s.sess ∧ (issueM s c.series p).1.next = s.next ∧ (issueM s c.series p).2.why = 0 ∧ One s c (issueM s c.series p)) := by
 by_cases h : (issueM s c.series p).2.why = 0
 ·obtain ⟨_, _, _, _, e⟩ := issue_why h
  right
  rw [e]
  exact ⟨rfl, rfl, rfl, { p with ref := ⟨c.series, (takeM s.ser c.series).2.1⟩ }, by simp, by simp, rfl, rfl⟩
 ·exact .inl (issue_not h).1
theorem do_one (s : State) (c : Cmd) : (doM s c).1.next = s.next ∧ ((doM s c).1.posted = s.posted ∨ ((doM s c).1.sess = s.sess ∧ One s c (doM s c))) := by
 unfold doM
 split
 ·unfold keptSer; split <;> exact ⟨rfl, .inl rfl⟩
 ·split
  ·unfold keptSer; split <;> exact ⟨rfl, .inl rfl⟩
  ·split
   ·unfold keptTab; split <;> exact ⟨rfl, .inl rfl⟩
   ·split
    ·unfold billM
     split
     ·exact ⟨rfl, .inl rfl⟩
     ·rcases issue_one s c ⟨Ref.zero, c.day, (totalM s.table c.day c.lines).1, Ref.zero, false⟩ with e | ⟨e1, e2, _, e3⟩
      ·rw [e]; exact ⟨rfl, .inl rfl⟩
      ·exact ⟨e2, .inr ⟨e1, e3⟩⟩
    ·split
     ·unfold creditM
      split
      ·exact ⟨rfl, .inl rfl⟩
      ·rename_i hat
       unfold creditAt
       split
       ·exact ⟨rfl, .inl rfl⟩
       ·split
        ·split
         ·exact ⟨rfl, .inl rfl⟩
         ·split
          ·exact ⟨rfl, .inl rfl⟩
          ·split
           ·exact ⟨rfl, .inl rfl⟩
           ·generalize hP : (⟨Ref.zero, c.day, (backM (s.posted.getD (postAt s.posted c.of).toNat Posted.zero).total).1, c.of, false⟩ : Posted) = P
            split
            ·rename_i h0
             rcases issue_one s c P with e | ⟨e1, e2, _, p, p1, p2, p3, p4⟩
             ·obtain ⟨_, _, _, _, e5⟩ := issue_why h0
              rw [e5] at e
              have := congrArg (fun s : State => s.posted.length) e
              simp at this
             ·refine ⟨e2, .inr ⟨e1, p, by show (setBack _ _).length = _; rw [setBack_len]; exact p1, ?_, p3, p4⟩⟩
              show (setBack _ _)[_]? = _
              unfold setBack
              split
              ·exact p2
              ·rename_i x hx
               rw [List.getElem?_set, if_neg]
               ·exact p2
               ·intro he
                rcases ixM_cases (fun p : Posted => decide (p.ref = c.of)) s.posted with h | ⟨i, a, h1, h2, _⟩
                ·exact hat (by unfold postAt; rw [h]; decide)
                ·have : postAt s.posted c.of = (i : Int) := h1
                 rw [this, Int.toNat_natCast] at he
                 have := (List.getElem?_eq_some_iff.1 h2).1
                 omega
            ·rename_i h0
             rcases issue_one s c P with e | ⟨e1, e2, e3, _⟩
             ·rw [e]; exact ⟨rfl, .inl rfl⟩
             ·exact absurd e3 h0
        ·exact ⟨rfl, .inl rfl⟩
     ·split
      ·unfold keptSess; split <;> exact ⟨rfl, .inl rfl⟩
      ·exact ⟨rfl, .inl rfl⟩
def Later (s t : State) : Prop := s.next ≤ t.next ∧ ∀ y ∈ t.sess, y.id = s.next ∨ ∃ x ∈ s.sess, x.id = y.id ∧ x.last ≤ y.last
theorem Later.refl (s : State) : Later s s := ⟨Int.le_refl _, fun y hy => .inr ⟨y, hy, rfl, Int.le_refl _⟩⟩
theorem join_later {s : State} (hr : rightM s = true) : Later s (joinTop s).1 := by
 obtain ⟨r1, r2, ⟨a, b, c, d, e, f⟩, _⟩ := (rightM_iff s).1 hr
 unfold joinTop
 split
 ·exact Later.refl s
 ·rename_i h1
  split
  ·exact Later.refl s
  ·rename_i h2
   have h2 := Decidable.not_not.1 h2
   refine ⟨?_, fun y hy => ?_⟩
   ·show s.next ≤ wr .i64 (s.next + 1)
    rw [wr_id (by omega)]; omega
   ·have hy : y ∈ (joinM s.sess s.next).1 := hy
    unfold joinM at h2 hy
    split at h2
    ·simp at h2
    ·rename_i j1
     split at h2
     ·simp at h2
     ·rename_i j2
      split at h2
      ·simp at h2
      ·rename_i j3
       rw [if_neg j1, if_neg j2, if_neg j3] at hy
       rcases (insAt_mem _ _ _ _).1 hy with rfl | hy
       ·exact .inl rfl
       ·exact .inr ⟨y, hy, rfl, Int.le_refl _⟩
theorem do_later {s : State} (hr : rightM s = true) (c : Cmd) : Later s (doM s c).1 := by
 refine ⟨by rw [(do_one s c).1]; exact Int.le_refl _, fun y hy => .inr ?_⟩
 rcases do_sess s c with e | ⟨_, e1, e2⟩
 ·rw [e] at hy; exact ⟨y, hy, rfl, Int.le_refl _⟩
 ·rw [e2] at hy
  exact ⟨y, ((leave_mem e1 ((rightM_iff s).1 hr).2.2.1 y).1 hy).1, rfl, Int.le_refl _⟩
theorem apply_cases {s : State} (h : Beh s) (c : Call) : Later s (applyM s c).1 ∧ ((applyM s c).1.posted = s.posted ∨
  (One s c.cmd (applyM s c) ∧ (∃ x ∈ s.sess, x.id = c.session ∧ x.last < c.seq) ∧ ∀ y ∈ (applyM s c).1.sess, y.id = c.session → c.seq ≤ y.last)) := by
 have hr := h.right
 have hi := h.ints
 by_cases hk : c.cmd.kind < 1 ∨ 8 < c.cmd.kind
 ·have e : applyM s c = (s, why 17) := by unfold applyM; rw [if_neg (by rw [hr]; simp), if_pos hk]
  rw [e]; exact ⟨Later.refl s, .inl rfl⟩
 ·by_cases h6 : c.cmd.kind = 6
  ·have e : applyM s c = joinTop s := by unfold applyM; rw [if_neg (by rw [hr]; simp), if_neg hk, if_pos h6]
   rw [e]
   exact ⟨join_later hr, .inl (join_right hr).2⟩
  ·by_cases h1 : (lookM s.sess c.session c.seq).2.2 = 0
   ·cases h2 : (lookM s.sess c.session c.seq).2.1 with
    | true =>
     have e : applyM s c = (s, (lookM s.sess c.session c.seq).1) := by
      unfold applyM
      rw [if_neg (by rw [hr]; simp), if_neg hk, if_neg h6, if_neg (by rw [h1]; simp), if_pos h2]
     rw [e]; exact ⟨Later.refl s, .inl rfl⟩
    | false =>
     have e := apply_new hr hi hk h6 h1 h2
     obtain ⟨hs, i, x, hx, hid, q1, q2, q3⟩ := look_new h1 h2
     have hdr := do_right hr hi c.cmd
     have hd := do_later hr c.cmd
     obtain ⟨d1, d2⟩ := do_one s c.cmd
     rw [e]
     constructor
     ·rcases keep_cases (doM s c.cmd) c with e3 | ⟨i, x, e1, _, e4, e3⟩
      ·rw [e3]; exact hd
      ·rw [e3]
       refine ⟨hd.1, fun y hy => ?_⟩
       rcases List.mem_or_eq_of_mem_set hy with hy | rfl
       ·exact hd.2 y hy
       ·rcases hd.2 x (List.mem_of_getElem? e1) with h | ⟨z, z1, z2, z3⟩
        ·exact .inl h
        ·exact .inr ⟨z, z1, z2, by simp only; omega⟩
     ·rcases d2 with d2 | ⟨d2, d3⟩
      ·left
       rcases keep_cases (doM s c.cmd) c with e3 | ⟨i, x, e1, _, e4, e3⟩
       ·rw [e3]; exact d2
       ·rw [e3]; exact d2
      ·right
       have hds := sess_of hdr.1
       have hx' : (doM s c.cmd).1.sess[i]? = some x := by rw [d2]; exact hx
       have ek := keep_new hds hx' q1 q2 q3 (doM s c.cmd).2
       rw [hid] at ek
       have et : keepTop (doM s c.cmd) c = ({ (doM s c.cmd).1 with sess := (doM s c.cmd).1.sess.set i ⟨c.session, c.seq, (doM s c.cmd).2⟩ }, (doM s c.cmd).2) := by
        unfold keepTop; rw [ek, if_pos rfl]
       rw [et]
       refine ⟨d3, ⟨x, List.mem_of_getElem? hx, hid, q3⟩, fun y hy hy2 => ?_⟩
       have hp := ((sessM_iff _).1 hds).2.2
       simp only at hy
       obtain ⟨j, hj⟩ := List.mem_iff_getElem?.1 hy
       rw [List.getElem?_set] at hj
       split at hj
       ·split at hj
        ·cases hj; exact Int.le_refl _
        ·cases hj
       ·rename_i hne
        have e1 := sessAt_of hp hj
        have e2 := sessAt_of hp hx'
        rw [hy2, ← hid, e2] at e1
        omega
   ·have e : applyM s c = (s, why (lookM s.sess c.session c.seq).2.2) := by
     unfold applyM
     rw [if_neg (by rw [hr]; simp), if_neg hk, if_neg h6, if_pos h1]
    rw [e]; exact ⟨Later.refl s, .inl rfl⟩
theorem OkL.loop {X : Type} {out : Nat → KS → X → St → An} {Q : Out X → Prop} {σ ρ α Y : Type} {F : Nat → KS → Ag → List V → St → Ag → An} {out2 : Nat → KS → Ag → Y → St → An} (all : List α) {step : σ → α → ρ ⊕ σ} {fin : σ → ρ} (Inv : Nat → σ → List V → St → Prop) (Post : ρ → Y → St → Prop)
  (hstep : ∀ i a s vs S, Inv i s vs S → all[i]? = some a → ∃ N, (∃ r y S', step s a = .inl r ∧ Post r y S' ∧ ∀ k K ag again, N ≤ k → F k K ag vs S again = out2 k K ag y S') ∨ (∃ s' vs' S', step s a = .inr s' ∧ Inv (i + 1) s' vs' S' ∧ ∀ k K ag again, N ≤ k → F k K ag vs S again = again vs' S'))
  (hend : ∀ s vs S, Inv all.length s vs S → ∃ N y S', Post (fin s) y S' ∧ ∀ k K ag again, N ≤ k → F k K ag vs S again = out2 k K ag y S')
  {s : σ} {vs : List V} {S : St} (hI : Inv 0 s vs S) (hout : ∀ y S', Post (runL step fin all s) y S' → OkL out (fun k K ag => out2 k K ag y S') Q) : OkL out (fun k K ag => loopD k vs S (F k K ag)) Q := by
 obtain ⟨N, y, S', hp, h⟩ := loop_rule (κ := KS × Ag) (F := fun k κ => F k κ.1 κ.2) (out := fun k κ => out2 k κ.1 κ.2) all Inv Post
  (fun i a s vs S h1 h2 => by
   obtain ⟨N, h⟩ := hstep i a s vs S h1 h2
   rcases h with ⟨r, y, S', a1, a2, a3⟩ | ⟨s', vs', S', a1, a2, a3⟩
   ·exact ⟨N, .inl ⟨r, y, S', a1, a2, fun k κ again hk => a3 k κ.1 κ.2 again hk⟩⟩
   ·exact ⟨N, .inr ⟨s', vs', S', a1, a2, fun k κ again hk => a3 k κ.1 κ.2 again hk⟩⟩)
  (fun s vs S h1 => by
   obtain ⟨N, y, S', a1, a2⟩ := hend s vs S h1
   exact ⟨N, y, S', a1, fun k κ again hk => a2 k κ.1 κ.2 again hk⟩) all 0 s vs S rfl (Nat.zero_le _) hI
 obtain ⟨o, M, hq, h2⟩ := hout y S' hp
 refine ⟨o, max N (max M (all.length + 1)), hq, fun k K ag hk => ?_⟩
 exact (h k k (K, ag) (by omega) (by omega)).trans (h2 k K ag (by omega))
def Grown (n B : Nat) (T T' : St) : Prop := Ext T T' ∨ ∃ a ver el, B ≤ a ∧ T.heap.get a = some (.row ver n el) ∧ But a T T'
theorem Sl.keep {S S' : St} {n : Nat} {v : V} {es : List (List V)} (h : Sl S n v es) (hg : ∀ y c, blkOf v = some y → S.heap.get y = some c → S'.heap.get y = some c) : Sl S' n v es := by
 refine ⟨?_, h.len⟩
 rcases h.is with h1 | h1 | ⟨a, ver, off, elems, h1, h2, h3⟩
 ·exact .inl h1
 ·exact .inr (.inl h1)
 ·exact .inr (.inr ⟨a, ver, off, elems, h1, row_get (hg a _ (by rw [h1]; rfl) (row_has h2)), h3⟩)
theorem Grown.old {n B : Nat} {T T' : St} (g : Grown n B T T') {y : Nat} {c : Blk} (h : T.heap.get y = some c) (hc : y < B ∨ ∀ ver el, c ≠ .row ver n el) : T'.heap.get y = some c := by
 rcases g with x | ⟨a, ver, el, ha, hr, b⟩
 ·exact x.old _ _ h
 ·refine b.old _ _ (fun e => ?_) h
  subst e
  rcases hc with hc | hc
  ·omega
  ·rw [h] at hr; cases hr; exact hc _ _ rfl
theorem Grown.sl {n B m : Nat} {T T' : St} (g : Grown n B T T') {v : V} {es : List (List V)} (h : Sl T m v es) (hm : m ≠ n) : Sl T' m v es := by
 rcases g with x | ⟨a, ver, el, ha, hr, b⟩
 ·exact h.ext x
 ·exact h.but b.old hr (Ne.symm hm)
theorem Grown.st {n B : Nat} {T T' : St} (g : Grown n B T T') (hn : n = 17 ∨ n = 1) {z : SV} {s : State} (h : StOK T z s) : StOK T' z s := by
 rcases g with x | ⟨a, ver, el, ha, hr, b⟩
 ·exact h.ext x
 ·exact h.but b hr (by omega)
def St.from (S T : St) : St := ⟨T.next, S.heap⟩
theorem p_gross {S : St} {a : Nat} {p : Posted} {pv : V} (h : getRow S a 0 = .ok (12, [p.cells pv])) : loadW none (.ptr a 0 0 (0 + 5 + 2)) S = .ok (.int .i64 p.total.gross) := by rw [load_one _ _ _ _ _ h]; rfl
def nameAt (ns : List (List UInt8)) (name : List UInt8) : Nat := lowM (fun n => !(n == name)) ns
def nameRoom (st : List (List UInt8) × List Int) (name : List UInt8) : List (List UInt8) × List Int := if nameAt st.1 name = st.1.length then (st.1 ++ [name], st.2 ++ [0]) else st
def gapNum (st : List (List UInt8) × List Int) (p : Posted) : Bool ⊕ (List (List UInt8) × List Int) :=
 if p.ref.num = wr .i64 ((nameRoom st p.ref.ser).2.getD (nameAt st.1 p.ref.ser) 0 + 1) then .inr ((nameRoom st p.ref.ser).1, (nameRoom st p.ref.ser).2.set (nameAt st.1 p.ref.ser) (wr .i64 ((nameRoom st p.ref.ser).2.getD (nameAt st.1 p.ref.ser) 0 + 1))) else .inl false
structure GI (done : List Posted) (st : List (List UInt8) × List Int) : Prop where
 eq : st.2 = st.1.map (cnt done)
 nd : st.1.Nodup
 all : ∀ p ∈ done, p.ref.ser ∈ st.1
theorem cnt_absent {done : List Posted} {name : List UInt8} (h : ∀ p ∈ done, p.ref.ser ≠ name) : cnt done name = 0 := by
 unfold cnt
 rw [List.filter_eq_nil_iff.2 (fun p hp => by simpa using h p hp)]
 rfl
theorem nameAt_len (ns : List (List UInt8)) (name : List UInt8) : nameAt ns name = (ns.takeWhile fun n => !(n == name)).length := by
 unfold nameAt lowM; rw [lowM_take]; omega
theorem nameAt_le (ns : List (List UInt8)) (name : List UInt8) : nameAt ns name ≤ ns.length := by
 rw [nameAt_len]; exact (List.takeWhile_prefix _).length_le
theorem nameAt_all {ns : List (List UInt8)} {name : List UInt8} (h : nameAt ns name = ns.length) : name ∉ ns := by
 rw [nameAt_len] at h
 have e : ns.takeWhile (fun n => !(n == name)) = ns := (List.takeWhile_prefix _).eq_of_length h
 intro hm
 rw [← e] at hm
 have := (mem_takeWhile hm).1
 simp at this
theorem nameAt_get {ns : List (List UInt8)} {name : List UInt8} (h : nameAt ns name ≠ ns.length) : ns[nameAt ns name]? = some name := by
 have hl := nameAt_le ns name
 have h1 : ns[nameAt ns name]? = (ns.dropWhile fun n => !(n == name))[0]? := low_get _ ns
 have h2 : nameAt ns name < ns.length := by omega
 have h3 := List.getElem?_eq_getElem h2
 rw [h3] at h1
 have := drop_head h1.symm
 rw [h3]
 simpa using this
theorem GI.step {done : List Posted} {st : List (List UInt8) × List Int} (h : GI done st) {p : Posted} (hn : p.ref.num = cnt done p.ref.ser + 1) (hb : done.length ≤ 1000) :
  ∃ st', gapNum st p = .inr st' ∧ GI (done ++ [p]) st' := by
 have hroom : (nameRoom st p.ref.ser).2 = (nameRoom st p.ref.ser).1.map (cnt done) ∧ (nameRoom st p.ref.ser).1.Nodup ∧ (∀ q ∈ done ++ [p], q.ref.ser ∈ (nameRoom st p.ref.ser).1) ∧ (nameRoom st p.ref.ser).1[nameAt st.1 p.ref.ser]? = some p.ref.ser := by
  unfold nameRoom
  by_cases hk : nameAt st.1 p.ref.ser = st.1.length
  ·have ha := nameAt_all hk
   rw [if_pos hk]
   refine ⟨?_, ?_, ?_, ?_⟩
   ·simp only [h.eq, List.map_append, List.map_cons, List.map_nil]
    rw [cnt_absent (fun q hq e => ha (by rw [← e]; exact h.all q hq))]
   ·exact List.nodup_append.2 ⟨h.nd, by simp, fun a ha' b hb' => by
     rw [List.mem_singleton] at hb'; subst hb'; intro e; exact ha (e ▸ ha')⟩
   ·intro q hq
    rcases List.mem_append.1 hq with hq | hq
    ·exact List.mem_append_left _ (h.all q hq)
    ·rw [List.mem_singleton.1 hq]; simp
   ·rw [hk]; simp
  ·rw [if_neg hk]
   have hg := nameAt_get hk
   refine ⟨h.eq, h.nd, fun q hq => ?_, hg⟩
   rcases List.mem_append.1 hq with hq | hq
   ·exact h.all q hq
   ·rw [List.mem_singleton.1 hq]; exact List.mem_of_getElem? hg
 obtain ⟨r1, r2, r3, r4⟩ := hroom
 have hc : cnt done p.ref.ser ≤ 1000 := by
  unfold cnt
  have := List.length_filter_le (fun q : Posted => q.ref.ser == p.ref.ser) done
  omega
 have hc0 := cnt_nonneg done p.ref.ser
 have hgd : (nameRoom st p.ref.ser).2.getD (nameAt st.1 p.ref.ser) 0 = cnt done p.ref.ser := by
  rw [r1, List.getD_eq_getElem?_getD, List.getElem?_map, r4]; rfl
 have hw : wr .i64 (cnt done p.ref.ser + 1) = cnt done p.ref.ser + 1 := wr64 (by omega) (by omega)
 refine ⟨((nameRoom st p.ref.ser).1, (nameRoom st p.ref.ser).2.set (nameAt st.1 p.ref.ser) (cnt done p.ref.ser + 1)), by unfold gapNum; rw [hgd, hw, if_pos hn], ?_, r2, r3⟩
 show (nameRoom st p.ref.ser).2.set (nameAt st.1 p.ref.ser) (cnt done p.ref.ser + 1) = (nameRoom st p.ref.ser).1.map (cnt (done ++ [p]))
 rw [r1]
 apply List.ext_getElem?
 intro j
 rw [List.getElem?_set, List.length_map]
 by_cases hj : nameAt st.1 p.ref.ser = j
 ·subst hj
  have hl : nameAt st.1 p.ref.ser < (nameRoom st p.ref.ser).1.length := (List.getElem?_eq_some_iff.1 r4).1
  rw [if_pos rfl, if_pos hl, List.getElem?_map, r4]
  simp only [Option.map_some, cnt_append, cnt_one, if_true]
 ·rw [if_neg hj, List.getElem?_map, List.getElem?_map]
  cases hq : (nameRoom st p.ref.ser).1[j]? with
  | none => rfl
  | some n =>
   have hne : p.ref.ser ≠ n := by
    intro e
    subst e
    have h1 := (List.getElem?_eq_some_iff.1 hq)
    have h2 := (List.getElem?_eq_some_iff.1 r4)
    obtain ⟨l1, e1⟩ := h1
    obtain ⟨l2, e2⟩ := h2
    exact hj (by
     rcases Nat.lt_trichotomy (nameAt st.1 p.ref.ser) j with hlt | heq | hgt
     ·exact absurd (e2.trans e1.symm) (List.pairwise_iff_getElem.1 r2 _ _ l2 l1 hlt)
     ·exact heq
     ·exact absurd (e1.trans e2.symm) (List.pairwise_iff_getElem.1 r2 _ _ l1 l2 hgt))
   simp only [Option.map_some, cnt_append, cnt_one, if_neg hne, Int.add_zero]
theorem gapNums : ∀ (l done : List Posted) (st : List (List UInt8) × List Int), GI done st → (∀ i p, l[i]? = some p → p.ref.num = cnt (done ++ l.take i) p.ref.ser + 1) → (done ++ l).length ≤ 1000 → runL gapNum (fun _ => true) l st = true
 | [], _, _, _, _, _ => rfl
 | p :: l, done, st, h, hn, hb => by
  simp only [List.length_append, List.length_cons] at hb
  obtain ⟨st', e, h'⟩ := h.step (by simpa using hn 0 p rfl) (by omega)
  simp only [runL, e]
  refine gapNums l (done ++ [p]) st' h' (fun i q hq => ?_) (by simp only [List.length_append, List.length_cons, List.length_nil]; omega)
  have := hn (i + 1) q (by simpa using hq)
  simpa using this
def gapBad (s : State) (c : Call) (p : Posted) : Bool :=
 if (applyM s c).1.posted.length = s.posted.length + 1 then (if (applyM s c).2.why = 0 then (if (applyM s c).2.number = p.ref.num then (if (applyM s c).2.gross = p.total.gross then !decide (p.ref.ser = c.cmd.series) else true) else true) else true) else true
def gapStep (s : State) (c : Call) : Bool ⊕ State :=
 if s.posted.length < (applyM s c).1.posted.length then (match (applyM s c).1.posted[s.posted.length]? with
  | none => .inl false
  | some p => if gapBad s c p = true then .inl false else .inr (applyM s c).1) else .inr (applyM s c).1
def gapFin (s : State) : Bool := runL gapNum (fun _ => true) s.posted ([], [])
theorem gap_fin {s : State} (h : Beh s) : gapFin s = true := by
 obtain ⟨_, _, _, q4, q5, _⟩ := (rightM_iff _).1 h.right
 exact gapNums s.posted [] ([], []) ⟨rfl, List.nodup_nil, fun p hp => by cases hp⟩ (fun i p hp => by simpa using (q5.num i p hp).2) (by have := ((postedM_iff _).1 q4).1; simp only [List.nil_append]; omega)
theorem gap_law : ∀ (l : List Call) (s : State), Beh s → runL gapStep gapFin l s = true
 | [], s, h => gap_fin h
 | c :: l, s, h => by
  have e : gapStep s c = .inr (applyM s c).1 := by
   unfold gapStep
   rcases (apply_cases h c).2 with hc | ⟨⟨p, p1, p2, p3, p4⟩, _⟩
   ·rw [if_neg (by rw [hc]; omega)]
   ·rw [if_pos (by omega), p2]
    simp only
    have : gapBad s c p = false := by unfold gapBad; rw [if_pos p1, p3]; simp [p4]
    rw [this]
    rfl
  simp only [runL, e]
  exact gap_law l _ (h.apply c)
theorem adv2 {S : St} {p : V} {cs : List V} (h : At S p cs) (i j : Nat) : advW j (adv i p) = .ok (adv (i + j) p) := by
 rcases h with ⟨a, ver, k, es, elems, rfl, h2, h3⟩ | rfl
 ·simp only [adv, advW, Nat.zero_add]
 ·simp only [adv, advW, Nat.zero_add]
theorem _root_.Go.AM.Own.pushG {S0 S : St} {n b : Nat} {v : V} {es : List (List V)} (h : Own S0 S n v es) (x : Ext S0 S) (w : WF S0) {u : V} {cs : List (List V)} (hu : elemsOf S u = .ok cs) (hc : ∀ c, c ∈ cs → c.length = n ∧ allOne c = true) (hne : cs ≠ [])
  (h1 : (es.length + cs.length) * b ≤ 35184372088832) (h2 : es.length + cs.length < lim) : ∃ v' S', appW n b v u none S = .ok (v', S') ∧ Ext S0 S' ∧ Own S0 S' n v' (es ++ cs) ∧ (blkOf v' = some S.next ∨ blkOf v' = blkOf v) ∧ (∀ y, y < S.next → blkOf v ≠ some y → S'.heap.get y = S.heap.get y) ∧ S.next ≤ S'.next := by
 obtain ⟨a1, a2⟩ := allLen_of hc
 have hlen : ∀ c, c ∈ es ++ cs → c.length = n ∧ allOne c = true := fun c hm => (List.mem_append.1 hm).elim (h.len c) (hc c)
 rcases h.is with ⟨rfl, rfl⟩ | ⟨a, ver, tl, rfl, q1, q2, q3⟩
 ·cases cs with
  | nil => exact absurd rfl hne
  | cons c cs =>
   refine ⟨.sl S.next 0 n 0 (c :: cs).length, ⟨S.next + 1, S.heap.put S.next (.row 0 n (c :: cs))⟩, ?_, x.trans (Ext.new (x.wf w) _), ⟨.inr ⟨S.next, 0, [], rfl, x.next, Nat.lt_succ_self _, ?_⟩, hlen⟩, .inl rfl, fun y hy _ => Tr.get_put_neB _ _ _ _ trivial (by omega), Nat.le_succ _⟩
   ·simp only [List.length_nil, Nat.zero_add] at h1 h2
    simp only [appW, hu, a1, a2, and_self, if_true, h1, h2, newBlk_none]
   ·rw [List.append_nil]; exact Tr.get_put_sameB _ _ _ trivial
 ·have hb : 0 + es.length ≤ es.length + tl.length := by omega
  refine ⟨.sl a (ver + 1) n 0 (es ++ cs).length, ⟨S.next, S.heap.put a (.row (ver + 1) n (es ++ cs))⟩, ?_, x.set q1 q2 w _, ⟨.inr ⟨a, ver + 1, [], rfl, q1, q2, ?_⟩, hlen⟩, .inr rfl, fun y _ hy => Tr.get_put_neB _ _ _ _ trivial (fun e => hy (by rw [e]; rfl)), Nat.le_refl _⟩
  ·simp only [appW, hu, a1, a2, and_self, if_true, row_get q3, hb, h1, h2, List.drop_zero, List.take_left', List.length_append]
  ·rw [List.append_nil]; exact Tr.get_put_sameB _ _ _ trivial
def strEnc (s : List UInt8) : List V := [.str s]
theorem str_block (S : St) (s : List UInt8) : buildSliceW 1 [.str []] 1 [(0, .str s)] none S = .ok (.sl S.next 0 1 0 1, ⟨S.next + 1, S.heap.put S.next (.row 0 1 [strEnc s])⟩) := by
 unfold buildSliceW
 rw [if_pos (by omega)]
 simp only [newBlk_none]
 rfl
theorem p_ser {S : St} {a : Nat} {p : Posted} {pv : V} (h : getRow S a 0 = .ok (12, [p.cells pv])) : loadW none (.ptr a 0 0 (0 + 0 + 0)) S = .ok (.str p.ref.ser) := by rw [load_one _ _ _ _ _ h]; rfl
def gapStepO (s : State) (c : Call) : Option State ⊕ State := match gapStep s c with
 | .inl _ => .inl none
 | .inr t => .inr t
theorem gapO : ∀ (l : List Call) (s : State), runL gapStep gapFin l s = true → ∃ t, runL gapStepO some l s = some t ∧ gapFin t = true
 | [], s, h => ⟨s, rfl, h⟩
 | c :: l, s, h => by
  simp only [runL, gapStepO] at h ⊢
  cases hs : gapStep s c with
  | inl r =>
   rw [hs] at h
   have : r = false := by
    unfold gapStep at hs
    repeat' split at hs
    all_goals cases hs; try rfl
   subst this
   cases h
  | inr t =>
   rw [hs] at h
   exact gapO l t h
theorem gap2 (S1n : Nat) (z : SV) (s : State) (T0 : St) (w : WF T0) (g : T0.heap.get S1n = some (.row 0 6 [z.cells s.next])) (ok : StOK T0 z s) (hb : s.posted.length ≤ 1000) (hlaw : gapFin s = true) :
  Ok (fun k K => loopD k [.bool false, .nils, .nils, .int .i64 0] T0 (m5_l1 (callD prog dPl dLv k) k K (.ptr S1n 0 0 0))) (fun u _ => u = .bool true) := by
 have hql : z.qs.length = s.posted.length := by rw [← ok.q, List.length_map]
 have hlaw2 : runL (fun st (q : PV) => gapNum st q.1) (fun _ => true) z.qs ([], []) = true := by rw [runL_map, ok.q]; exact hlaw
 refine Ok.loopL (F := fun k K => m5_l1 (callD prog dPl dLv k) k K (.ptr S1n 0 0 0)) (ρ := Bool) (α := PV) (X := Bool) z.qs (step := fun st q => gapNum st q.1) (fin := fun _ => true) (s := ([], []))
  (out := fun k K x S' => match x with
   | false => K (.bool false) S'
   | true => callD prog dPl dLv k 20 [] S' fun t29 S30 => K t29 S30)
  (fun i st vs T => ∃ nv lv, vs = [.bool false, nv, lv, .int .i64 (i : Int)] ∧ Ext T0 T ∧ Own T0 T 1 nv (st.1.map strEnc) ∧ Own T0 T 1 lv (st.2.map intEnc) ∧ (∀ y, blkOf nv = some y → blkOf lv ≠ some y) ∧ st.1.length = st.2.length ∧ st.1.length ≤ i)
  (fun r x T => r = x ∧ Ext T0 T) ?_ ?_ ⟨.nils, .nils, rfl, Ext.refl _, Own.nil _ _ _, Own.nil _ _ _, (fun y h => nomatch h), rfl, Nat.le_refl _⟩ ?_
 ·rintro i q ⟨ns, ls⟩ vs T ⟨nv, lv, rfl, xt, on, ol, hap, hnl, hni⟩ hi
  simp only at on ol hnl hni
  have hil : i < z.qs.length := (List.getElem?_eq_some_iff.1 hi).1
  have hlt : (i : Int) < (s.posted.length : Int) := by omega
  have hw : wr .i64 ((i : Int) + 1) = ((i + 1 : Nat) : Int) := by rw [wr64 (by omega) (by omega)]; omega
  have gt := xt.old _ _ g
  simp only [m5_l1, unD_cons, fa30_2, adv_ptr, ld26, s_p (row_get gt), len26, (ok.ext xt).plen, bin_lss, dR_ok, hlt, decide_true, pickD_true]
  refine OkL.loop (F := fun k K ag => m5_l2 (callD prog dPl dLv k) k K ag (.bool false) (.ptr S1n 0 0 0) nv lv (.int .i64 (i : Int))) (ρ := Nat) (α := List UInt8) (Y := Nat) ns (step := lowStep fun n => !(n == q.1.ref.ser)) (fin := id) (s := 0)
   (out2 := fun k K ag y S => m5_j0 (callD prog dPl dLv k) k K ag (.bool false) (.ptr S1n 0 0 0) nv lv (.int .i64 (i : Int)) (.int .i64 (y : Int)) S)
   (fun j n vs S' => n = j ∧ vs = [.int .i64 (j : Int)] ∧ S'.heap = T.heap ∧ T.next ≤ S'.next) (fun r y S' => r = y ∧ S'.heap = T.heap ∧ T.next ≤ S'.next) ?_ ?_ ⟨rfl, rfl, rfl, Nat.le_refl _⟩ ?_
  ·rintro j n m vs T2 ⟨rfl, rfl, hh, hn2⟩ hj
   have hjl : m < ns.length := (List.getElem?_eq_some_iff.1 hj).1
   have hltj : (m : Int) < (ns.length : Int) := by omega
   have hwj : wr .i64 ((m : Int) + 1) = ((m + 1 : Nat) : Int) := by rw [wr64 (by omega) (by omega)]; omega
   have x2 : Ext T (⟨T2.next + 18, T2.heap⟩ : St) := ⟨fun a b hb => by show T2.heap.get a = some b; rw [hh]; exact hb, by show T.next ≤ T2.next + 18; omega, fun w a b hb => by have hb' : T2.heap.get a = some b := hb; rw [hh] at hb'; have := w a b hb'; show a < T2.next + 18; omega⟩
   obtain ⟨p1, hp1, hat1, _, _⟩ := ((on.ext x2).sl).elem hj
   have okx := ok.ext (xt.trans x2)
   obtain ⟨p2, hp2, hat2, _, _⟩ := okx.pp.elem hi
   have gx := x2.old _ _ gt
   have r1 : partW none (strEnc n) 0 = .ok (.str n) := rfl
   have r2 : partW none (pvEnc q) (0 + 0) = .ok (.str q.1.ref.ser) := rfl
   have pre : ∀ (k : Nat) (K : KS) (ag again : Ag), m5_l2 (callD prog dPl dLv k) k K ag (.bool false) (.ptr S1n 0 0 0) nv lv (.int .i64 (i : Int)) [.int .i64 (m : Int)] T2 again = if (!(n == q.1.ref.ser)) = true then again [.int .i64 ((m + 1 : Nat) : Int)] (⟨T2.next + 18, T2.heap⟩ : St) else m5_j0 (callD prog dPl dLv k) k K ag (.bool false) (.ptr S1n 0 0 0) nv lv (.int .i64 (i : Int)) (.int .i64 (m : Int)) (⟨T2.next + 18, T2.heap⟩ : St) := by
    intro k K ag again
    simp only [m5_l2, unD_cons, len63, (on.ext x2).sl.lenI, bin_lss, dR_ok, hltj, decide_true, pickD_true, ix63, hp1, ld9, hat1.load0, r1, fa30_2, adv_ptr, ld26, s_p (row_get gx), ix26, hp2, fa62_0, hat2.advW, fa43_0, adv2 hat2, hat2.load, r2, guard_str, dIf_true, str_neq, bin_add, hwj]
    cases (!(n == q.1.ref.ser)) with
    | true => rfl
    | false => rfl
   refine ⟨0, ?_⟩
   by_cases c : (!(n == q.1.ref.ser)) = true
   ·exact .inr ⟨m + 1, [.int .i64 ((m + 1 : Nat) : Int)], (⟨T2.next + 18, T2.heap⟩ : St), by unfold lowStep; rw [if_pos c], ⟨rfl, rfl, hh, by show T.next ≤ T2.next + 18; omega⟩, fun k K ag again _ => by rw [pre, if_pos c]⟩
   ·exact .inl ⟨m, m, (⟨T2.next + 18, T2.heap⟩ : St), by unfold lowStep; rw [if_neg c], ⟨rfl, hh, by show T.next ≤ T2.next + 18; omega⟩, fun k K ag again _ => by rw [pre, if_neg c]⟩
  ·rintro n vs T2 ⟨rfl, rfl, hh, hn2⟩
   have hltj : ¬ (ns.length : Int) < (ns.length : Int) := by omega
   have x2 : Ext T (⟨T2.next + 18, T2.heap⟩ : St) := ⟨fun a b hb => by show T2.heap.get a = some b; rw [hh]; exact hb, by show T.next ≤ T2.next + 18; omega, fun w a b hb => by have hb' : T2.heap.get a = some b := hb; rw [hh] at hb'; have := w a b hb'; show a < T2.next + 18; omega⟩
   refine ⟨0, ns.length, (⟨T2.next + 18, T2.heap⟩ : St), ⟨rfl, hh, by show T.next ≤ T2.next + 18; omega⟩, fun k K ag again _ => ?_⟩
   simp only [m5_l2, unD_cons, len63, (on.ext x2).sl.lenI, bin_lss, dR_ok, hltj, decide_false, pickD_false]
  ·rintro y T2 ⟨hy, hh, hn2⟩
   have hk : nameAt ns q.1.ref.ser = y := hy
   have hkle := nameAt_le ns q.1.ref.ser
   rw [hk] at hkle
   have x2 : Ext T T2 := ⟨fun a b hb => by rw [hh]; exact hb, hn2, fun w a b hb => by rw [hh] at hb; have := w a b hb; omega⟩
   have j1 : ∀ (T3 : St) (nv3 lv3 : V) (st3 : List (List UInt8) × List Int), Ext T0 T3 → Own T0 T3 1 nv3 (st3.1.map strEnc) → Own T0 T3 1 lv3 (st3.2.map intEnc) → (∀ y, blkOf nv3 = some y → blkOf lv3 ≠ some y) → st3.1.length = st3.2.length → st3.1.length ≤ i + 1 → y < st3.1.length → nameRoom (ns, ls) q.1.ref.ser = st3 →
     OkL (fun k K x S' => match x with
      | false => K (.bool false) S'
      | true => callD prog dPl dLv k 20 [] S' fun t29 S30 => K t29 S30) (fun k K ag => m5_j1 (callD prog dPl dLv k) k K ag (.bool false) (.ptr S1n 0 0 0) nv3 lv3 (.int .i64 (i : Int)) (.int .i64 (y : Int)) T3)
      (Round (fun st (q : PV) => gapNum st q.1) (fun i st vs T => ∃ nv lv, vs = [.bool false, nv, lv, .int .i64 (i : Int)] ∧ Ext T0 T ∧ Own T0 T 1 nv (st.1.map strEnc) ∧ Own T0 T 1 lv (st.2.map intEnc) ∧ (∀ y, blkOf nv = some y → blkOf lv ≠ some y) ∧ st.1.length = st.2.length ∧ st.1.length ≤ i)
  (fun r x T => r = x ∧ Ext T0 T) i (ns, ls) q) := by
    rintro T3 nv3 lv3 ⟨ns3, ls3⟩ x3 on3 ol3 hap3 hnl3 hni3 hy3 hroom
    simp only at on3 ol3 hnl3 hni3 hy3
    have xb : Ext T0 (⟨T3.next + 13, T3.heap⟩ : St) := x3.bump 13
    have gb := xb.old _ _ g
    have okb := ok.ext xb
    obtain ⟨p2, hp2, hat2, _, _⟩ := okb.pp.elem hi
    have r2 : partW none (pvEnc q) (0 + 1) = .ok (.int .i64 q.1.ref.num) := rfl
    have hyl : y < ls3.length := by omega
    have hyg : (ls3.map intEnc)[y]? = some (intEnc ls3[y]) := by rw [List.getElem?_map, List.getElem?_eq_getElem hyl]; rfl
    have olb : Own T0 (⟨T3.next + 13, T3.heap⟩ : St) 1 lv3 (ls3.map intEnc) := ol3.ext ((Ext.refl T3).bump 13)
    obtain ⟨a, ver, hlv, ha1, ha2, hix, hatl, hset⟩ := olb.setK xb w hyg .i64
    have r3 : partW none (intEnc ls3[y]) 0 = .ok (.int .i64 ls3[y]) := rfl
    have hgd : ls3.getD y 0 = ls3[y] := by rw [List.getD_eq_getElem?_getD, List.getElem?_eq_getElem hyl]; rfl
    obtain ⟨T4, q1, x4, hn4, ol4, hs4, _⟩ := hset 0 1 (.int .i64 (wr .i64 (ls3[y] + 1))) rfl rfl (by omega)
    simp only [m5_j1, fa30_2, adv_ptr, ld26, s_p (row_get gb), dR_ok, ix26, hp2, fa62_0, hat2.advW, fa43_1, adv2 hat2, ld3, hat2.load, r2, ix64, hix, hatl.load0, r3, bin_add, guard_int, dIf_true, bin_neq]
    have hgap : gapNum (ns, ls) q.1 = if q.1.ref.num = wr .i64 (ls3[y] + 1) then .inr (ns3, ls3.set y (wr .i64 (ls3[y] + 1))) else .inl false := by
     unfold gapNum
     rw [hroom, show nameAt (ns, ls).1 q.1.ref.ser = y from hk, hgd]
    refine OkL.pickN (fun c => ?_) (fun c => ?_)
    ·refine OkL.stop false ⟨false, ?_, rfl, xb⟩ (by intros; rfl)
     show gapNum (ns, ls) q.1 = _
     rw [hgap, if_neg c]
    ·simp only [st3, q1, dR_ok, hw]
     refine OkL.next ⟨(ns3, ls3.set y (wr .i64 (ls3[y] + 1))), ?_, nv3, lv3, rfl, x4, ?_, ?_, hap3, by simp only [List.length_set]; exact hnl3, hni3⟩
     ·show gapNum (ns, ls) q.1 = _
      rw [hgap, if_pos c]
     ·refine (on3.ext ((Ext.refl T3).bump 13)).same (by rw [hn4]; exact Nat.le_refl _) (fun b hb => hs4 b (fun e => hap3 b hb (by rw [hlv, e]; rfl)))
     ·have : splice (intEnc ls3[y]) 0 (V.int .i64 (wr .i64 (ls3[y] + 1))).cells = intEnc (wr .i64 (ls3[y] + 1)) := rfl
      rw [this] at ol4
      rw [List.map_set]; exact ol4
   have x02 := xt.trans x2
   have on2 := on.ext x2
   have ol2 := ol.ext x2
   have ok2 := ok.ext x02
   have g2 := x02.old _ _ g
   simp only [m5_j0, len63, on2.sl.lenI, dR_ok, guard_int, dIf_true, bin_eql]
   refine OkL.pickP (fun c => ?_) (fun c => ?_)
   ·have hyl : y = ns.length := by omega
    obtain ⟨p2, hp2, hat2, _, _⟩ := ok2.pp.elem hi
    have r2 : partW none (pvEnc q) (0 + 0) = .ok (.str q.1.ref.ser) := rfl
    have w2 := x02.wf w
    have hnew := Ext.new w2 (.row 0 1 [strEnc q.1.ref.ser])
    have hel : elemsOf (⟨T2.next + 1, T2.heap.put T2.next (.row 0 1 [strEnc q.1.ref.ser])⟩ : St) (.sl T2.next 0 1 0 1) = .ok [strEnc q.1.ref.ser] := by
     simp only [elemsOf, getRow_put]
     rfl
    obtain ⟨nv3, T3, e3, x3, on3, hb3, hs3, hn3⟩ := (on2.ext hnew).pushG (b := 16) (x02.trans hnew) w hel (fun c hc => by rw [List.mem_singleton.1 hc]; exact ⟨rfl, rfl⟩) (by simp) (by rw [List.length_map]; simp only [List.length_cons, List.length_nil]; omega) (by rw [List.length_map]; simp only [List.length_cons, List.length_nil]; unfold lim; omega)
    have ol3 : Own T0 T3 1 lv (ls.map intEnc) := (ol2.ext hnew).same hn3 (fun b hb => hs3 b ((Own_lt (ol2.ext hnew) hb).2) (fun e => hap b e hb))
    have hap3 : ∀ y, blkOf nv3 = some y → blkOf lv ≠ some y := fun b hb e => by
     rcases hb3 with hb3 | hb3
     ·rw [hb3] at hb; cases hb
      have := (Own_lt ol2 e).2
      have hx : (⟨T2.next + 1, T2.heap.put T2.next (.row 0 1 [strEnc q.1.ref.ser])⟩ : St).next = T2.next + 1 := rfl
      omega
     ·exact hap b (hb3 ▸ hb) e
    have w3 := x3.wf w
    have hnew4 := Ext.new w3 (.row 0 1 [intEnc 0])
    have hel4 : elemsOf (⟨T3.next + 1, T3.heap.put T3.next (.row 0 1 [intEnc 0])⟩ : St) (.sl T3.next 0 1 0 1) = .ok [intEnc 0] := by
     simp only [elemsOf, getRow_put]
     rfl
    obtain ⟨lv5, T5, e5, x5, ol5, hb5, hs5, hn5⟩ := (ol3.ext hnew4).pushG (b := 8) (x3.trans hnew4) w hel4 (one_int _) (by simp) (by rw [List.length_map]; simp only [List.length_cons, List.length_nil]; omega) (by rw [List.length_map]; simp only [List.length_cons, List.length_nil]; unfold lim; omega)
    have on5 : Own T0 T5 1 nv3 (ns.map strEnc ++ [strEnc q.1.ref.ser]) := (on3.ext hnew4).same hn5 (fun b hb => hs5 b ((Own_lt (on3.ext hnew4) hb).2) (hap3 b hb))
    have hap5 : ∀ y, blkOf nv3 = some y → blkOf lv5 ≠ some y := fun b hb e => by
     rcases hb5 with hb5 | hb5
     ·rw [hb5] at e; cases e
      have := (Own_lt on3 hb).2
      have hx : (⟨T3.next + 1, T3.heap.put T3.next (.row 0 1 [intEnc 0])⟩ : St).next = T3.next + 1 := rfl
      omega
     ·exact hap3 b hb (hb5 ▸ e)
    simp only [fa30_2, adv_ptr, ld26, s_p (row_get g2), dR_ok, ix26, hp2, fa62_0, hat2.advW, fa43_0, adv2 hat2, ld9, hat2.load, r2, bs63, str_block, app63, e3, bs64, int_block, app64, e5]
    refine j1 T5 nv3 lv5 (ns ++ [q.1.ref.ser], ls ++ [0]) x5 (by rw [List.map_append]; exact on5) (by rw [List.map_append]; exact ol5) hap5 (by simp [hnl]) (by simp; omega) (by simp; omega) ?_
    unfold nameRoom
    rw [if_pos (by show nameAt ns _ = ns.length; rw [hk, hyl])]
   ·refine j1 T2 nv lv (ns, ls) x02 on2 ol2 hap hnl (by show ns.length ≤ i + 1; omega) (by show y < ns.length; omega) ?_
    unfold nameRoom
    rw [if_neg (by show nameAt ns _ ≠ ns.length; rw [hk]; omega)]
 ·rintro ⟨ns, ls⟩ vs T ⟨nv, lv, rfl, xt, _⟩
  have hlt : ¬ (z.qs.length : Int) < (s.posted.length : Int) := by omega
  refine ⟨true, ⟨rfl, xt⟩, fun k K again => ?_⟩
  simp only [m5_l1, unD_cons, fa30_2, adv_ptr, ld26, s_p (row_get (xt.old _ _ g)), len26, (ok.ext xt).plen, bin_lss, dR_ok, hlt, decide_false, pickD_false]
 ·rintro x T ⟨hx, xt⟩
  rw [hlaw2] at hx
  subst hx
  exact (g20 T (xt.wf w)).call fun T3 _ => Ok.ret rfl
theorem r_why {S : St} {a : Nat} {r : Rep} (h : getRow S a 0 = .ok (3, [r.enc])) : loadW none (.ptr a 0 0 (0 + 0)) S = .ok (.int .i64 r.why) := by rw [load_one _ _ _ _ _ h]; rfl
theorem r_num {S : St} {a : Nat} {r : Rep} (h : getRow S a 0 = .ok (3, [r.enc])) : loadW none (.ptr a 0 0 (0 + 1)) S = .ok (.int .i64 r.number) := by rw [load_one _ _ _ _ _ h]; rfl
theorem r_gross {S : St} {a : Nat} {r : Rep} (h : getRow S a 0 = .ok (3, [r.enc])) : loadW none (.ptr a 0 0 (0 + 2)) S = .ok (.int .i64 r.gross) := by rw [load_one _ _ _ _ _ h]; rfl
theorem g5 (v : V) (l : List KV) (S : St) (w : WF S) (hlo : LinesOK S l) (hs : Sl S 17 v (l.map kvEnc)) (hbl : l.length ≤ 9223372036854775807) :
  Does prog dPl dLv 5 [v] S (fun u _ => u = .bool true) := by
 refine e5 ?_
 simp only [m5]
 refine start w hlo hs (n := 60) (by omega) hbl (G := fun k K a t4 S5 => loopD k [(.bool false), (.int .i64 0)] S5 (m5_l0 (callD prog dPl dLv k) k K t4 (.ptr a 0 0 0))) fun S1 t4 qs S5 hS1 hql hqs lp5 => ?_
 obtain ⟨sf, hlaw, hgf⟩ := gapO _ _ (gap_law (fewM (l.map (·.1)) 60) State.new Beh.new)
 rw [← hqs, ← runL_map] at hlaw
 refine Ok.loopL (F := fun k K => m5_l0 (callD prog dPl dLv k) k K t4 (.ptr S1.next 0 0 0)) (ρ := Option State) (α := KV) (X := Bool) qs (step := fun st q => gapStepO st q.1) (fin := some) (s := State.new)
  (out := fun k K x S' => match x with
   | false => K (.bool false) S'
   | true => loopD k [.bool false, .nils, .nils, .int .i64 0] S' (m5_l1 (callD prog dPl dLv k) k K (.ptr S1.next 0 0 0)))
  (fun i s vs T => vs = [.bool false, .int .i64 (i : Int)] ∧ Lp S S1.next t4 qs s T)
  (fun r x T => match x with
   | false => r = none
   | true => ∃ s, r = some s ∧ Lp S S1.next t4 qs s T) ?_ ?_ ⟨rfl, lp5⟩ ?_
 ·rintro i q s vs T ⟨rfl, lp⟩ hi
  have hil : i < qs.length := (List.getElem?_eq_some_iff.1 hi).1
  have hm := List.mem_of_getElem? hi
  have hlt : (i : Int) < (qs.length : Int) := by omega
  have hw : wr .i64 ((i : Int) + 1) = ((i + 1 : Nat) : Int) := by rw [wr64 (by omega) (by omega)]; omega
  obtain ⟨z, gt, okt⟩ := lp.st
  have wt := lp.x.wf w
  have xb : Ext T (⟨T.next + 13, T.heap⟩ : St) := (Ext.refl T).bump 13
  have gb := xb.old _ _ gt
  obtain ⟨p, hp, hat, hl17, ho17⟩ := (lp.sl.ext xb).elem hi
  have wb := (lp.x.trans xb).wf w
  have hpos := lp.sm.sp
  have hwn : wr .i64 ((s.posted.length : Int) + 1) = ((s.posted.length + 1 : Nat) : Int) := by rw [wr64 (by omega) (by omega)]; omega
  simp only [m5_l0, unD_cons, len22, lp.sl.lenI, bin_lss, dR_ok, hlt, decide_true, pickD_true, fa30_2, adv_ptr, ld26, s_p (row_get gt), len26, okt.plen, ld30, s_all (row_get gb), ix22, hp, ld47 p, hat.load0, partW_all _ _ hl17]
  refine OkL.call ((g16 z s _ wb (okt.ext xb) lp.sm.bnd q.1 ((lp.lo q hm).ext xb)).dead dPl_dead) fun u2 T2 ⟨⟨z2, hu, x2, ok2⟩, d2⟩ => ?_
  subst hu
  have f9 := told_free wt (n := 13) d2 (k := T.next + 9) (by omega) (by omega)
  have f10 := told_free wt (n := 13) d2 (k := T.next + 10) (by omega) (by omega)
  obtain ⟨Sa, Sb, Sc, T3, n1, n2, st1, st2, x3, g31, g32, n3'⟩ := two_told f9 f10 (by omega) (x := z2.cells (applyM s q.1).1.next) (y := (applyM s q.1).2.enc) rfl rfl (ok2.one _) rfl
  have lp3 := lp.ext (xb.trans (x2.trans x3))
  have ok23 := ok2.ext x3
  have w3 := lp3.x.wf w
  have sm4 := applyM_sml lp.sm q.1
  have fin : ∀ (T4 : St), Ext T3 T4 → gapStepO s q.1 = .inr (applyM s q.1).1 → ∃ T5, storeW 6 (.ptr S1.next 0 0 0) (.agg (z2.cells (applyM s q.1).1.next)) T4 = .ok T5 ∧ Lp S S1.next t4 qs (applyM s q.1).1 T5 := by
   intro T4 x4 hstep
   have lp4 := lp3.ext x4
   obtain ⟨z', g4, _⟩ := lp4.st
   obtain ⟨T5, q1, x05, b5, g5, ok5, n5⟩ := put_state w lp4.x g4 rfl hS1 (ok23.ext x4)
   exact ⟨T5, q1, x05, sm4, lp4.sl.but b5.old g4 (by decide), KVs.but lp4.lo b5 g4, z2, g5, ok5⟩
  simp only [tupD_tup, List.getElem?_cons_zero, List.getElem?_cons_succ, dO_ok, n1, n2, dR_ok, st30, st34, st1, st2, fa30_2, adv_ptr, ld26, s_p (row_get g31), len26, ok23.plen, bin_gtr]
  refine OkL.pickP (fun c => ?_) (fun c => ?_)
  ·have c' : s.posted.length < (applyM s q.1).1.posted.length := by omega
   have hzl : z2.qs.length = (applyM s q.1).1.posted.length := by rw [← ok23.q, List.length_map]
   obtain ⟨pq, hpq⟩ : ∃ pq, z2.qs[s.posted.length]? = some pq := ⟨z2.qs[s.posted.length]'(by omega), List.getElem?_eq_getElem (by omega)⟩
   have hpp : (applyM s q.1).1.posted[s.posted.length]? = some pq.1 := by rw [← ok23.q, List.getElem?_map, hpq]; rfl
   obtain ⟨pp, Sx, T4, hp4, hld4, hnb4, hst4, x4, hr4⟩ := pvarB ok23.pp w3 hpq
   have x4b : Ext T3 (⟨T4.next + 39, T4.heap⟩ : St) := x4.bump 39
   have g31b := x4b.old _ _ g31
   have g32b := x4b.old _ _ g32
   have hr4b : getRow (⟨T4.next + 39, T4.heap⟩ : St) T3.next 0 = .ok (12, [pq.1.cells pq.2]) := row_get (((Ext.refl T4).bump 39).old _ _ (row_has hr4))
   have hat5 := hat.ext (x2.trans (x3.trans x4b))
   have rs : partW none (kvEnc q) (0 + 2 + 1) = .ok (.str q.1.cmd.series) := rfl
   have hs0 : partW none (kvEnc q) (2 + 1) = .ok (.str q.1.cmd.series) := rfl
   have hgb : gapStepO s q.1 = if gapBad s q.1 pq.1 = true then .inl none else .inr (applyM s q.1).1 := by
    unfold gapStepO gapStep
    rw [if_pos c', hpp]
    by_cases hb : gapBad s q.1 pq.1 = true
    ·simp only [hb, if_true]
    ·simp [hb]
   have okp := ok23.ext x4b
   simp only [ix26, hp4, dR_ok, ld62 pp, hld4, hnb4, st62, hst4, fa30_2, adv_ptr, ld26, s_p (row_get g31b), len26, okp.plen, bin_add, hwn, guard_int, dIf_true, bin_neq]
   refine OkL.pickN (fun c1 => OkL.stop false ?_ (by intros; rfl)) (fun c1 => ?_)
   ·refine ⟨none, ?_, rfl⟩
    show gapStepO s q.1 = _
    rw [hgb, if_pos]; unfold gapBad; rw [if_neg (by omega)]
   simp only [fa34_0, adv_ptr, dR_ok, ld32, r_why (row_get g32b), guard_int, dIf_true, bin_neq]
   refine OkL.pickN (fun c2 => OkL.stop false ?_ (by intros; rfl)) (fun c2 => ?_)
   ·refine ⟨none, ?_, rfl⟩
    show gapStepO s q.1 = _
    rw [hgb, if_pos]; unfold gapBad; rw [if_pos (by omega), if_neg c2]
   simp only [fa34_1, adv_ptr, dR_ok, ld3, r_num (row_get g32b), fa62_0, fa43_1, p_num hr4b, guard_int, dIf_true, bin_neq]
   refine OkL.pickN (fun c3 => OkL.stop false ?_ (by intros; rfl)) (fun c3 => ?_)
   ·refine ⟨none, ?_, rfl⟩
    show gapStepO s q.1 = _
    rw [hgb, if_pos]; unfold gapBad; rw [if_pos (by omega), if_pos c2, if_neg c3]
   simp only [fa34_2, adv_ptr, dR_ok, ld3, r_gross (row_get g32b), fa62_2, fa60_2, p_gross hr4b, guard_int, dIf_true, bin_neq]
   refine OkL.pickN (fun c4 => OkL.stop false ?_ (by intros; rfl)) (fun c4 => ?_)
   ·refine ⟨none, ?_, rfl⟩
    show gapStepO s q.1 = _
    rw [hgb, if_pos]; unfold gapBad; rw [if_pos (by omega), if_pos c2, if_pos c3, if_neg c4]
   simp only [fa62_0, fa43_0, adv_ptr, dR_ok, ld9, p_ser hr4b, fa47_2, hat5.advW, fa45_1, adv2 hat5, hat5.load, hs0, guard_str, dIf_true, str_neq]
   refine OkL.pick (fun c5 => OkL.stop false ?_ (by intros; rfl)) (fun c5 => ?_)
   ·refine ⟨none, ?_, rfl⟩
    show gapStepO s q.1 = _
    rw [hgb, if_pos]; unfold gapBad; rw [if_pos (by omega), if_pos c2, if_pos c3, if_pos c4]
    simpa using c5
   have hok : gapStepO s q.1 = .inr (applyM s q.1).1 := by
    rw [hgb, if_neg]; unfold gapBad; rw [if_pos (by omega), if_pos c2, if_pos c3, if_pos c4]
    simpa using c5
   obtain ⟨T5, q1, lp6⟩ := fin _ x4b hok
   simp only [ld30, s_all (row_get g31b), dR_ok, st30, q1, bin_add, hw]
   exact OkL.next ⟨_, hok, rfl, lp6⟩
  ·have c' : ¬ s.posted.length < (applyM s q.1).1.posted.length := by omega
   have hok : gapStepO s q.1 = .inr (applyM s q.1).1 := by unfold gapStepO gapStep; rw [if_neg c']
   obtain ⟨T5, q1, lp6⟩ := fin T3 (Ext.refl _) hok
   simp only [ld30, s_all (row_get g31), dR_ok, st30, q1, bin_add, hw]
   exact OkL.next ⟨_, hok, rfl, lp6⟩
 ·rintro s vs T ⟨rfl, lp⟩
  have hlt : ¬ (qs.length : Int) < (qs.length : Int) := by omega
  refine ⟨true, ⟨s, rfl, lp⟩, fun k K again => ?_⟩
  simp only [m5_l0, unD_cons, len22, lp.sl.lenI, bin_lss, dR_ok, hlt, decide_false, pickD_false]
 ·rintro x T hx
  rw [hlaw] at hx
  cases x with
  | false => cases hx
  | true =>
   obtain ⟨s, e, lp⟩ := hx
   cases e
   obtain ⟨z, g, ok⟩ := lp.st
   exact gap2 S1.next z sf T (lp.x.wf w) g ok lp.sm.sp hgf
end Go.Proofs.YtjbicclbalagbaaGreat
end
