import Derived.Test.YtjbicclbalagbaaGreatX4
set_option linter.unusedSimpArgs false
set_option linter.unusedVariables false
set_option maxRecDepth 100000
section
namespace Go.Proofs.YtjbicclbalagbaaGreat
open Go.AM Tryz
theorem dPl_dead : StepsDead dPl := plansOf_dead _ _ _
theorem told_free {S S1 : St} (w : WF S) {n k : Nat} (d : D (S.next + n) (⟨S.next + n, S.heap⟩ : St) S1) (h1 : S.next ≤ k) (h2 : k < S.next + n) : S1.heap.get k = none ∧ k < S1.next :=
 ⟨d.dead k h2 (free_at w n k h1), Nat.lt_of_lt_of_le h2 d.next⟩
theorem vbAt {S : St} {k : Nat} (hk : S.heap.get k = none ∧ k < S.next) (n : Nat) (zs : List V) (x : V) (hz : zs.length = n) (hx : x.cells.length = n) (ho : allOne x.cells = true) :
  ∃ S1 S2, newBlk (some k) S (.row 0 n [zs]) = .ok (k, S1) ∧ storeW n (.ptr k 0 0 0) x S1 = .ok S2 ∧ Ext S S2 ∧ S2.heap.get k = some (.row 0 n [x.cells]) ∧ S2.next = S.next := by
 have hg : (⟨S.next, S.heap.put k (.row 0 n [zs])⟩ : St).heap.get k = some (.row 0 n [zs]) := Tr.get_put_sameB _ _ _ trivial
 have hv := var_set (x := x) (j := 0) (m := n) hg hx ho (by omega)
 have hsp : splice zs 0 x.cells = x.cells := splice_all zs x.cells (by rw [hx, hz])
 rw [hsp] at hv
 refine ⟨_, _, newBlk_at .., hv, ?_, Tr.get_put_sameB _ _ _ trivial, rfl⟩
 refine ⟨fun y c hc => ?_, Nat.le_refl _, fun w y c hc => ?_⟩
 ·show ((S.heap.put k _).put k _).get y = some c
  rw [Tr.get_put_neB _ _ _ _ trivial (fun e => by rw [e, hk.1] at hc; cases hc), Tr.get_put_neB _ _ _ _ trivial (fun e => by rw [e, hk.1] at hc; cases hc)]; exact hc
 ·have hc' : ((S.heap.put k (.row 0 n [zs])).put k (.row 0 n [x.cells])).get y = some c := hc
  by_cases e : y = k
  ·rw [e]; exact hk.2
  ·rw [Tr.get_put_neB _ _ _ _ trivial e, Tr.get_put_neB _ _ _ _ trivial e] at hc'
   exact w y c hc'
theorem pl26 : dPl 26 = some (.spec (Sp.within.run prog)) := by kernel_rfl
theorem g26 (n lo hi : Int) (S : St) (h : lo ≤ hi) (h1 : hi ≤ 1000000) (h2 : -1000000 ≤ lo) : Does prog dPl dLv 26 [.int .i64 n, .int .i64 lo, .int .i64 hi] S (fun u S' => u = .int .i64 (lo + n % (hi - lo + 1)) ∧ S' = S) := by
 refine Does.step pl26 (v := .int .i64 (lo + n % (hi - lo + 1))) (S' := S) ?_ ⟨rfl, rfl⟩
 have : (decide (lo ≤ hi) && decide (hi ≤ 1000000) && decide (-1000000 ≤ lo)) = true := by simp; omega
 simp only [Sp.run, this, cond_true]
theorem sln22 : (fun lo hi => sliceV prog 22 .nils lo hi) = fun lo hi => (match bounds 0 lo hi with
 | .ok _ => (.ok .nils : R V)
 | .error e => .error e) := by kernel_rfl
theorem cutKV {S : St} {v : V} {l : List KV} (h : Sl S 17 v (l.map kvEnc)) {lo hi : Option V} {i j : Nat} (hb : bounds l.length lo hi = .ok (i, j)) (hij : i ≤ j) (hj : j ≤ l.length) : ∃ u, sliceV prog 22 v lo hi = .ok u ∧ Sl S 17 u (((l.take j).drop i).map kvEnc) := by
 have hlm : (l.map kvEnc).length = l.length := List.length_map ..
 by_cases hne : v = .nils
 ·subst hne
  have hl : l = [] := by
   rcases h.is with ⟨_, e2⟩ | h1 | ⟨a, ver, off, elems, h1, _⟩
   ·exact List.map_eq_nil_iff.1 e2
   ·cases h1
   ·cases h1
  subst hl
  have e := congrFun (congrFun sln22 lo) hi
  have hb' : bounds 0 lo hi = .ok (i, j) := hb
  rw [hb'] at e
  exact ⟨.nils, e, by simpa using Sl.nilv S 17⟩
 ·obtain ⟨u, h1, h2⟩ := cutT sl22 sli22 h (lo := lo) (hi := hi) (by rw [hlm]; exact hb) hij (by omega) hne
  exact ⟨u, h1, by rw [List.map_drop, List.map_take]; exact h2⟩
theorem push_sl {S0 S : St} {a ver n b : Nat} {es : List (List V)} (hg : S.heap.get a = some (.row ver n es)) (hes : ∀ c, c ∈ es → c.length = n ∧ allOne c = true) (x : Ext S0 S) (w : WF S0) (ha : S0.next ≤ a) {u : V} {cs : List (List V)} (hu : elemsOf S u = .ok cs) (hc : ∀ c, c ∈ cs → c.length = n ∧ allOne c = true)
  (h1 : (es.length + cs.length) * b ≤ 35184372088832) (h2 : es.length + cs.length < lim) :
  ∃ S', appW n b (.sl a ver n 0 es.length) u none S = .ok (.sl a (ver + 1) n 0 (es ++ cs).length, S') ∧ Ext S0 S' ∧ S'.heap.get a = some (.row (ver + 1) n (es ++ cs)) ∧ (∀ y, y ≠ a → S'.heap.get y = S.heap.get y) ∧ (∀ c, c ∈ es ++ cs → c.length = n ∧ allOne c = true) := by
 obtain ⟨a1, a2⟩ := allLen_of hc
 have hlt := x.wf w _ _ hg
 have hb : 0 + es.length ≤ es.length := by omega
 refine ⟨⟨S.next, S.heap.put a (.row (ver + 1) n (es ++ cs))⟩, ?_, x.set ha hlt w _, Tr.get_put_sameB _ _ _ trivial, fun y hy => Tr.get_put_neB _ _ _ _ trivial hy, fun c hm => (List.mem_append.1 hm).elim (hes c) (hc c)⟩
 simp only [appW, hu, a1, a2, and_self, if_true, row_get hg, hb, h1, h2, List.drop_zero, List.take_length, List.length_append]
theorem rep_block0 (S : St) : buildSliceW 3 [.int .i64 0,.int .i64 0,.int .i64 0] 0 [] none S = .ok (.sl S.next 0 3 0 0, ⟨S.next + 1, S.heap.put S.next (.row 0 3 [])⟩) := by
 unfold buildSliceW
 rw [if_pos (by omega)]
 simp only [newBlk_none]
 rfl
theorem playF (l : List Call) : ∀ (s : State) (a b : List Rep), l.foldl playStep (s, a ++ b) = ((l.foldl playStep (s, b)).1, a ++ (l.foldl playStep (s, b)).2) := by
 induction l with
 | nil => intro s a b; rfl
 | cons c l ih =>
  intro s a b
  simp only [List.foldl_cons, playStep]
  rw [List.append_assoc]
  exact ih _ _ _
theorem playM_append (s : State) (a b : List Call) : playM s (a ++ b) = ((playM (playM s a).1 b).1, (playM s a).2 ++ (playM (playM s a).1 b).2) := by
 unfold playM
 rw [List.foldl_append]
 have h := playF b (a.foldl playStep (s, [])).1 (a.foldl playStep (s, [])).2 []
 rw [List.append_nil] at h
 exact h
theorem playM_len (l : List Call) : ∀ (s : State) (a : List Rep), (l.foldl playStep (s, a)).2.length = a.length + l.length := by
 induction l with
 | nil => intro s a; rfl
 | cons c l ih => intro s a; simp only [List.foldl_cons, playStep, List.length_cons]; rw [ih]; simp; omega
theorem fewM_len (l : List Call) (n : Nat) : (fewM l n).length ≤ n := by simp only [fewM, List.length_map, List.length_take]; omega
theorem g11 (v : V) (l : List KV) (at' : Int) (S : St) (w : WF S) (hlo : LinesOK S l) (hs : Sl S 17 v (l.map kvEnc)) (hbl : l.length ≤ 9223372036854775807) :
  Does prog dPl dLv 11 [v, .int .i64 at'] S (fun u _ => u = .bool true) := by
 refine e11 ?_
 simp only [m11]
 refine Does.call (g13 v l 50 S w hlo hs (by omega) hbl) fun t0 S1 ⟨qs, x1, own1, lo1, hqs⟩ => ?_
 have hql : qs.length ≤ 50 := by have := congrArg List.length hqs; rw [List.length_map] at this; have := fewM_len (l.map (·.1)) 50; omega
 simp only [len22, own1.sl.lenI, dR_ok]
 refine Does.call (g26 at' 0 qs.length S1 (by omega) (by omega) (by omega)) fun u S2 ⟨hu, hS⟩ => ?_
 subst hu hS
 have hk0 := Int.emod_nonneg at' (b := (qs.length : Int) - 0 + 1) (by omega)
 have hk1 := Int.emod_lt_of_pos at' (b := (qs.length : Int) - 0 + 1) (by omega)
 obtain ⟨k, hk⟩ : ∃ k : Nat, (0 + at' % ((qs.length : Int) - 0 + 1)) = (k : Int) := ⟨(at' % ((qs.length : Int) - 0 + 1)).toNat, by omega⟩
 have hkl : k ≤ qs.length := by omega
 rw [hk]
 have w1 := x1.wf w
 refine (g14 S2 w1).call fun S3 x3 => ?_
 have x03 := x1.trans x3
 have w3 := x03.wf w
 refine Does.call (g19 SV.new State.new t0 qs S3 w3 (StOK.new _) Sml.new (lo1.ext x03) (own1.sl.ext x3) (by omega)) fun u S4 ⟨y1, rv1, hu, x4, ok4, sm4, own4⟩ => ?_
 subst hu
 have hpl := playM_append State.new ((qs.take k).map (·.1)) ((qs.drop k).map (·.1))
 rw [← List.map_append, List.take_append_drop] at hpl
 have hl1 : (playM State.new (qs.map (·.1))).2.length = qs.length := by unfold playM; rw [playM_len]; simp
 generalize playM State.new (qs.map (·.1)) = A at ok4 sm4 own4 hpl hl1 ⊢
 have x04 := x03.trans x4
 have w4 := x04.wf w
 obtain ⟨S5a, S5, hn5, hst5, x5, hg5, hnx5⟩ := vb w4 6 [.nils,.nils,.nils,.nils,.nils,.int .i64 0] (.agg (y1.cells A.1.next)) rfl rfl (ok4.one _)
 rw [agg_cells] at hg5
 have x05 := x04.trans x5
 have w5 := x05.wf w
 have x15 := x3.trans (x4.trans x5)
 obtain ⟨t13, ht13, hs13⟩ := cutKV (own1.sl.ext x15) (bounds_hi qs.length k hkl) (Nat.zero_le _) hkl
 rw [List.drop_zero] at hs13
 simp only [tupD_tup, List.getElem?_cons_zero, List.getElem?_cons_succ, dO_ok, hn5, dR_ok, st30, hst5, ht13]
 have hb5 := (Ext.refl S5).bump 11
 have hnb5 : (⟨S5.next + 11, S5.heap⟩ : St).next = S5.next + 11 := rfl
 have hD5 : ∀ {T : St}, D (⟨S5.next + 11, S5.heap⟩ : St).next (⟨S5.next + 11, S5.heap⟩ : St) T → T.heap.get (S5.next + 8) = none ∧ S5.next + 8 < T.next := fun d => told_free w5 (n := 11) d (by omega) (by omega)
 refine Does.call (Does.dead dPl_dead (g14 (⟨S5.next + 11, S5.heap⟩ : St) (hb5.wf w5))) fun u S6 ⟨⟨hu, x6⟩, d6⟩ => ?_
 subst hu
 have x56 := hb5.trans x6
 have x06 := x05.trans x56
 have w6 := x06.wf w
 refine Does.call (Does.dead dPl_dead (g19 SV.new State.new t13 (qs.take k) S6 w6 (StOK.new _) Sml.new ((lo1.ext x06).take k) (hs13.ext x56) (by rw [List.length_take]; omega))) fun u S7 ⟨⟨y2, rv2, hu, x7, ok7, sm7, own7⟩, d7⟩ => ?_
 subst hu
 have hl2 : (playM State.new ((qs.take k).map (·.1))).2.length ≤ 50 := by unfold playM; rw [playM_len]; simp only [List.length_nil, List.length_map, List.length_take]; omega
 generalize playM State.new ((qs.take k).map (·.1)) = B at ok7 sm7 own7 hpl hl2 ⊢
 have x57 := x56.trans x7
 have x07 := x06.trans x7
 have w7 := x07.wf w
 have dk7 : D (S5.next + 11) (⟨S5.next + 11, S5.heap⟩ : St) S7 := ⟨Nat.le_trans d6.next d7.next, fun a ha h => d7.dead a (Nat.lt_of_lt_of_le ha d6.next) (d6.dead a ha h)⟩
 have hk8 := told_free w5 dk7 (k := S5.next + 8) (by omega) (by omega)
 obtain ⟨S8a, S8, hn8, hst8, x8, hg8, hnx8⟩ := vbAt hk8 6 [.nils,.nils,.nils,.nils,.nils,.int .i64 0] (.agg (y2.cells B.1.next)) rfl rfl (ok7.one _)
 rw [agg_cells] at hg8
 have x58 := x57.trans x8
 have x08 := x07.trans x8
 have w8 := x08.wf w
 obtain ⟨t23, ht23, hs23⟩ := cutKV (own1.sl.ext (x15.trans x58)) (bounds_lo qs.length k hkl) hkl (Nat.le_refl _)
 rw [List.take_length] at hs23
 have hb8 := (Ext.refl S8).bump 11
 simp only [tupD_tup, List.getElem?_cons_zero, List.getElem?_cons_succ, dO_ok, hn8, dR_ok, st30, hst8, ld30 (.ptr (S5.next + 8) 0 0 0), s_all (hb8.row (row_get hg8)), ht23]
 have x08b := x08.trans hb8
 have ok8b := (ok7.ext x8).ext hb8
 refine Does.call (Does.dead dPl_dead (g19 y2 B.1 t23 (qs.drop k) (⟨S8.next + 11, S8.heap⟩ : St) (hb8.wf w8) ok8b sm7 ((lo1.ext x08b).drop k) (hs23.ext hb8) (by rw [List.length_drop]; omega))) fun u S9 ⟨⟨y3, rv3, hu, x9, ok9, sm9, own9⟩, d9⟩ => ?_
 subst hu
 have hl3 : (playM B.1 ((qs.drop k).map (·.1))).2.length ≤ 50 := by unfold playM; rw [playM_len]; simp only [List.length_nil, List.length_map, List.length_drop]; omega
 generalize playM B.1 ((qs.drop k).map (·.1)) = C at ok9 sm9 own9 hpl hl3 ⊢
 have x89 := hb8.trans x9
 have hk9 := told_free w8 d9 (k := S8.next + 8) (by omega) (by omega)
 obtain ⟨S10a, S10, hn10, hst10, x10, hg10, hnx10⟩ := vbAt hk9 6 [.nils,.nils,.nils,.nils,.nils,.int .i64 0] (.agg (y3.cells C.1.next)) rfl rfl (ok9.one _)
 rw [agg_cells] at hg10
 have x8A := x89.trans x10
 have x0A := x08.trans x8A
 have wA := x0A.wf w
 have x5A := x58.trans x8A
 have hg5A := x5A.old _ _ hg5
 simp only [tupD_tup, List.getElem?_cons_zero, List.getElem?_cons_succ, dO_ok, hn10, dR_ok, st30, hst10, ld30 (.ptr S4.next 0 0 0), s_all (row_get hg5A), ld30 (.ptr (S8.next + 8) 0 0 0), s_all (row_get hg10)]
 have ok1A := (ok4.ext x5).ext x5A
 have ok3A := ok9.ext x10
 refine (g18 y1 y3 A.1 C.1 S10 wA ok1A ok3A sm4.bnd).call fun S11 x11 => ?_
 have x0B := x0A.trans x11
 have hAC : A.1 = C.1 := by rw [hpl]
 have hAR : A.2 = B.2 ++ C.2 := by rw [hpl]
 rw [decide_eq_true hAC]
 have wB := x0B.wf w
 have e0 := rep_block0 S11
 have xn := Ext.new wB (.row 0 3 [])
 have hgn : (⟨S11.next + 1, S11.heap.put S11.next (.row 0 3 [])⟩ : St).heap.get S11.next = some (.row 0 3 []) := Tr.get_put_sameB _ _ _ trivial
 have own1B : Own S3 S11 3 rv1 (A.2.map Rep.enc) := ((own4.ext x5).ext x5A).ext x11
 have sl2B : Sl S11 3 rv2 (B.2.map Rep.enc) := ((own7.sl.ext x8).ext x8A).ext x11
 have sl3B : Sl S11 3 rv3 (C.2.map Rep.enc) := (own9.sl.ext x10).ext x11
 simp only [pickD_true, bs49, e0, dR_ok]
 obtain ⟨Sn, hSn⟩ : ∃ Sn, Sn = (⟨S11.next + 1, S11.heap.put S11.next (.row 0 3 [])⟩ : St) := ⟨_, rfl⟩
 rw [← hSn] at xn hgn ⊢
 clear hSn
 have sl2n := sl2B.ext xn
 have sl3n := sl3B.ext xn
 have own1n := own1B.ext xn
 have hBl : (B.2.map Rep.enc).length = B.2.length := List.length_map ..
 have hCl : (C.2.map Rep.enc).length = C.2.length := List.length_map ..
 obtain ⟨Sp, p1, p2, p3, p4, p5⟩ := push_sl (b := 24) hgn (fun _ h => by cases h) xn wB (Nat.le_refl _) sl2n.elems sl2n.len (by rw [hBl]; simp only [List.length_nil]; omega) (by rw [hBl]; simp only [List.length_nil]; unfold lim; omega)
 have p1' : appW 3 24 (.sl S11.next 0 3 0 0) rv2 none Sn = .ok (.sl S11.next 1 3 0 ([] ++ B.2.map Rep.enc).length, Sp) := p1
 have slk : ∀ {v : V} {es : List (List V)}, Sl S11 3 v es → Sl Sp 3 v es := fun hs => hs.ext p2
 obtain ⟨Sq, r1, r2, r3, r4, r5⟩ := push_sl (b := 24) p3 p5 p2 wB (Nat.le_refl _) (slk sl3B).elems sl3B.len (by rw [List.length_append, hBl, hCl]; simp only [List.length_nil]; omega) (by rw [List.length_append, hBl, hCl]; simp only [List.length_nil]; unfold lim; omega)
 simp only [app49, p1', r1, dR_ok]
 have hlast : Sl Sq 3 (.sl S11.next (0 + 1 + 1) 3 0 (([] ++ B.2.map Rep.enc) ++ C.2.map Rep.enc).length) ((B.2 ++ C.2).map Rep.enc) := by
  have e : ([] ++ B.2.map Rep.enc) ++ C.2.map Rep.enc = (B.2 ++ C.2).map Rep.enc := by rw [List.nil_append, List.map_append]
  rw [e] at r3 r5 ⊢
  exact ⟨.inr (.inr ⟨S11.next, 0 + 1 + 1, 0, _, rfl, row_get r3, by omega, by rw [List.drop_zero, List.take_length]⟩), r5⟩
 refine (g29 rv1 _ A.2 (B.2 ++ C.2) Sq (r2.wf wB) (own1B.sl.ext r2) hlast (by rw [hl1]; omega)).call fun S12 x12 => ?_
 rw [decide_eq_true hAR]
 simp only [pickD_true]
 exact (g20 S12 (x12.wf (r2.wf wB))).call fun _ _ => Ok.ret rfl
theorem sh_struct {P : Program} {n : Nat} {t : TypeId} {fs : Array Field} {xs : List V} (ht : P.underlying t = some (.struct fs)) (h : shapeOK P n t xs) :
  ∃ m, xs.length = P.cellsOf t ∧ ∀ (i : Nat) (f : Field), fs[i]? = some f → shapeOK P m f.type ((xs.drop f.offset).take (P.cellsOf f.type)) := by
 cases n with
 | zero => exact h.elim
 | succ m =>
  simp only [shapeOK, ht] at h
  exact ⟨m, h.1, fun i f hf => h.2 f (by rw [← Array.getElem?_toList] at hf; exact List.mem_of_getElem? hf)⟩
theorem sh_slice {P : Program} {n : Nat} {t e : TypeId} {xs : List V} (ht : P.underlying t = some (.slice e)) (h : shapeOK P n t xs) :
  ∃ m, xs = [.nils] ∨ ∃ es, xs = [.imm es] ∧ es.length ≤ maxLen ∧ ∀ c, c ∈ es → c.length = P.cellsOf e ∧ shapeOK P m e c := by
 cases n with
 | zero => exact h.elim
 | succ m =>
  simp only [shapeOK, ht] at h
  exact ⟨m, h⟩
theorem c3 : prog.cellsOf 3 = 1 := by kernel_rfl
theorem c9 : prog.cellsOf 9 = 1 := by kernel_rfl
theorem c41 : prog.cellsOf 41 = 1 := by kernel_rfl
theorem sh_int {n : Nat} {xs : List V} (h : shapeOK prog n 3 xs) : ∃ i, xs = [.int .i64 i] := by
 cases n with
 | zero => exact h.elim
 | succ m =>
  simp only [shapeOK, Tryz.underlying3] at h
  obtain ⟨i, h, _⟩ := h
  exact ⟨i, h⟩
theorem sh_str {n : Nat} {xs : List V} (h : shapeOK prog n 9 xs) : ∃ s, xs = [.str s] := by
 cases n with
 | zero => exact h.elim
 | succ m =>
  simp only [shapeOK, Tryz.underlying9] at h
  obtain ⟨s, h, _⟩ := h
  exact ⟨s, h⟩
theorem cut (xs : List V) (o k : Nat) : xs.drop o = (xs.drop o).take k ++ xs.drop (o + k) := by
 rw [← List.drop_drop, List.take_append_drop]
theorem c38 : prog.cellsOf 38 = 3 := by kernel_rfl
theorem sh_date {n : Nat} {xs : List V} (h : shapeOK prog n 38 xs) : ∃ d : Date, xs = d.enc := by
 obtain ⟨m, hl, hf⟩ := sh_struct Tryz.underlying38 h
 rw [c38] at hl
 have h0 : shapeOK prog m 3 ((xs.drop 0).take (prog.cellsOf 3)) := hf 0 _ rfl
 rw [c3] at h0
 obtain ⟨x0, e0⟩ := sh_int h0
 have q0 := cut xs 0 1
 rw [e0] at q0
 have h1 : shapeOK prog m 3 ((xs.drop 1).take (prog.cellsOf 3)) := hf 1 _ rfl
 rw [c3] at h1
 obtain ⟨x1, e1⟩ := sh_int h1
 have q1 := cut xs 1 1
 rw [e1] at q1
 have h2 : shapeOK prog m 3 ((xs.drop 2).take (prog.cellsOf 3)) := hf 2 _ rfl
 rw [c3] at h2
 obtain ⟨x2, e2⟩ := sh_int h2
 have q2 := cut xs 2 1
 rw [e2] at q2
 have hend : xs.drop 3 = [] := List.drop_eq_nil_of_le (by omega)
 have hx : xs = [.int .i64 x0] ++ ([.int .i64 x1] ++ ([.int .i64 x2] ++ [])) := by
  have z : xs = xs.drop 0 := rfl
  rw [z, q0, q1, q2]
  show _ = _
  rw [show (2 + 1 : Nat) = 3 from rfl, hend]
 rw [hx]
 exact ⟨⟨x0, x1, x2⟩, rfl⟩
theorem c43 : prog.cellsOf 43 = 2 := by kernel_rfl
theorem sh_ref {n : Nat} {xs : List V} (h : shapeOK prog n 43 xs) : ∃ d : Ref, xs = d.enc := by
 obtain ⟨m, hl, hf⟩ := sh_struct Tryz.underlying43 h
 rw [c43] at hl
 have h0 : shapeOK prog m 9 ((xs.drop 0).take (prog.cellsOf 9)) := hf 0 _ rfl
 rw [c9] at h0
 obtain ⟨x0, e0⟩ := sh_str h0
 have q0 := cut xs 0 1
 rw [e0] at q0
 have h1 : shapeOK prog m 3 ((xs.drop 1).take (prog.cellsOf 3)) := hf 1 _ rfl
 rw [c3] at h1
 obtain ⟨x1, e1⟩ := sh_int h1
 have q1 := cut xs 1 1
 rw [e1] at q1
 have hend : xs.drop 2 = [] := List.drop_eq_nil_of_le (by omega)
 have hx : xs = [.str x0] ++ ([.int .i64 x1] ++ []) := by
  have z : xs = xs.drop 0 := rfl
  rw [z, q0, q1]
  show _ = _
  rw [show (1 + 1 : Nat) = 2 from rfl, hend]
 rw [hx]
 exact ⟨⟨x0, x1⟩, rfl⟩
theorem c40 : prog.cellsOf 40 = 5 := by kernel_rfl
theorem sh_rate {n : Nat} {xs : List V} (h : shapeOK prog n 40 xs) : ∃ d : Rate, xs = d.enc := by
 obtain ⟨m, hl, hf⟩ := sh_struct Tryz.underlying40 h
 rw [c40] at hl
 have h0 : shapeOK prog m 9 ((xs.drop 0).take (prog.cellsOf 9)) := hf 0 _ rfl
 rw [c9] at h0
 obtain ⟨x0, e0⟩ := sh_str h0
 have q0 := cut xs 0 1
 rw [e0] at q0
 have h1 : shapeOK prog m 38 ((xs.drop 1).take (prog.cellsOf 38)) := hf 1 _ rfl
 rw [c38] at h1
 obtain ⟨x1, e1⟩ := sh_date h1
 have q1 := cut xs 1 3
 rw [e1] at q1
 have h2 : shapeOK prog m 3 ((xs.drop 4).take (prog.cellsOf 3)) := hf 2 _ rfl
 rw [c3] at h2
 obtain ⟨x2, e2⟩ := sh_int h2
 have q2 := cut xs 4 1
 rw [e2] at q2
 have hend : xs.drop 5 = [] := List.drop_eq_nil_of_le (by omega)
 have hx : xs = [.str x0] ++ (x1.enc ++ ([.int .i64 x2] ++ [])) := by
  have z : xs = xs.drop 0 := rfl
  rw [z, q0, q1, q2]
  show _ = _
  rw [show (4 + 1 : Nat) = 5 from rfl, hend]
 rw [hx]
 exact ⟨⟨x0, x1, x2⟩, rfl⟩
theorem c115 : prog.cellsOf 115 = 4 := by kernel_rfl
theorem sh_line {n : Nat} {xs : List V} (h : shapeOK prog n 115 xs) : ∃ d : Line, xs = d.enc := by
 obtain ⟨m, hl, hf⟩ := sh_struct Tryz.underlying115 h
 rw [c115] at hl
 have h0 : shapeOK prog m 9 ((xs.drop 0).take (prog.cellsOf 9)) := hf 0 _ rfl
 rw [c9] at h0
 obtain ⟨x0, e0⟩ := sh_str h0
 have q0 := cut xs 0 1
 rw [e0] at q0
 have h1 : shapeOK prog m 9 ((xs.drop 1).take (prog.cellsOf 9)) := hf 1 _ rfl
 rw [c9] at h1
 obtain ⟨x1, e1⟩ := sh_str h1
 have q1 := cut xs 1 1
 rw [e1] at q1
 have h2 : shapeOK prog m 3 ((xs.drop 2).take (prog.cellsOf 3)) := hf 2 _ rfl
 rw [c3] at h2
 obtain ⟨x2, e2⟩ := sh_int h2
 have q2 := cut xs 2 1
 rw [e2] at q2
 have h3 : shapeOK prog m 3 ((xs.drop 3).take (prog.cellsOf 3)) := hf 3 _ rfl
 rw [c3] at h3
 obtain ⟨x3, e3⟩ := sh_int h3
 have q3 := cut xs 3 1
 rw [e3] at q3
 have hend : xs.drop 4 = [] := List.drop_eq_nil_of_le (by omega)
 have hx : xs = [.str x0] ++ ([.str x1] ++ ([.int .i64 x2] ++ ([.int .i64 x3] ++ []))) := by
  have z : xs = xs.drop 0 := rfl
  rw [z, q0, q1, q2, q3]
  show _ = _
  rw [show (3 + 1 : Nat) = 4 from rfl, hend]
 rw [hx]
 exact ⟨⟨x0, x1, x2, x3⟩, rfl⟩
theorem list_dec {α : Type} {enc : α → List V} : ∀ {es : List (List V)}, (∀ c, c ∈ es → ∃ a : α, c = enc a) → ∃ l : List α, es = l.map enc
 | [], _ => ⟨[], rfl⟩
 | c :: es, h => by
  obtain ⟨a, ha⟩ := h c (List.mem_cons_self ..)
  obtain ⟨l, hl⟩ := list_dec fun d hd => h d (List.mem_cons_of_mem _ hd)
  exact ⟨a :: l, by rw [ha, hl]; rfl⟩
theorem sh_lines {n : Nat} {xs : List V} (h : shapeOK prog n 41 xs) : ∃ (l : List Line) (v : V), xs = [v] ∧ Sl St.empty 4 v (l.map Line.enc) := by
 obtain ⟨m, h | ⟨es, h, _, hes⟩⟩ := sh_slice Tryz.underlying41 h
 ·exact ⟨[], .nils, h, Sl.nilv _ _⟩
 ·obtain ⟨l, hl⟩ := list_dec (enc := Line.enc) fun c hc => sh_line (hes c hc).2
  subst hl
  refine ⟨l, .imm (l.map Line.enc), h, ⟨.inr (.inl rfl), fun c hc => ?_⟩⟩
  obtain ⟨a, _, rfl⟩ := List.mem_map.1 hc
  exact ⟨rfl, rfl⟩
theorem c45 : prog.cellsOf 45 = 15 := by kernel_rfl
theorem sh_cmd {n : Nat} {xs : List V} (h : shapeOK prog n 45 xs) : ∃ (c : Cmd) (lv : V), xs = c.cells lv ∧ Sl St.empty 4 lv (c.lines.map Line.enc) := by
 obtain ⟨m, hl, hf⟩ := sh_struct Tryz.underlying45 h
 rw [c45] at hl
 have h0 : shapeOK prog m 3 ((xs.drop 0).take (prog.cellsOf 3)) := hf 0 _ rfl
 rw [c3] at h0
 obtain ⟨x0, e0⟩ := sh_int h0
 have q0 := cut xs 0 1
 rw [e0] at q0
 have h1 : shapeOK prog m 9 ((xs.drop 1).take (prog.cellsOf 9)) := hf 1 _ rfl
 rw [c9] at h1
 obtain ⟨x1, e1⟩ := sh_str h1
 have q1 := cut xs 1 1
 rw [e1] at q1
 have h2 : shapeOK prog m 3 ((xs.drop 2).take (prog.cellsOf 3)) := hf 2 _ rfl
 rw [c3] at h2
 obtain ⟨x2, e2⟩ := sh_int h2
 have q2 := cut xs 2 1
 rw [e2] at q2
 have h3 : shapeOK prog m 40 ((xs.drop 3).take (prog.cellsOf 40)) := hf 3 _ rfl
 rw [c40] at h3
 obtain ⟨x3, e3⟩ := sh_rate h3
 have q3 := cut xs 3 5
 rw [e3] at q3
 have h4 : shapeOK prog m 38 ((xs.drop 8).take (prog.cellsOf 38)) := hf 4 _ rfl
 rw [c38] at h4
 obtain ⟨x4, e4⟩ := sh_date h4
 have q4 := cut xs 8 3
 rw [e4] at q4
 have h5 : shapeOK prog m 41 ((xs.drop 11).take (prog.cellsOf 41)) := hf 5 _ rfl
 rw [c41] at h5
 obtain ⟨x5, v5, e5, hs⟩ := sh_lines h5
 have q5 := cut xs 11 1
 rw [e5] at q5
 have h6 : shapeOK prog m 43 ((xs.drop 12).take (prog.cellsOf 43)) := hf 6 _ rfl
 rw [c43] at h6
 obtain ⟨x6, e6⟩ := sh_ref h6
 have q6 := cut xs 12 2
 rw [e6] at q6
 have h7 : shapeOK prog m 3 ((xs.drop 14).take (prog.cellsOf 3)) := hf 7 _ rfl
 rw [c3] at h7
 obtain ⟨x7, e7⟩ := sh_int h7
 have q7 := cut xs 14 1
 rw [e7] at q7
 have hend : xs.drop 15 = [] := List.drop_eq_nil_of_le (by omega)
 have hx : xs = [.int .i64 x0] ++ ([.str x1] ++ ([.int .i64 x2] ++ (x3.enc ++ (x4.enc ++ ([v5] ++ (x6.enc ++ ([.int .i64 x7] ++ []))))))) := by
  have z : xs = xs.drop 0 := rfl
  rw [z, q0, q1, q2, q3, q4, q5, q6, q7]
  show _ = _
  rw [show (14 + 1 : Nat) = 15 from rfl, hend]
 rw [hx]
 exact ⟨⟨x0, x1, x2, x3, x4, x5, x6, x7⟩, v5, rfl, hs⟩
theorem c47 : prog.cellsOf 47 = 17 := by kernel_rfl
theorem sh_call {n : Nat} {xs : List V} (h : shapeOK prog n 47 xs) : ∃ q : KV, xs = kvEnc q ∧ Sl St.empty 4 q.2 (q.1.cmd.lines.map Line.enc) := by
 obtain ⟨m, hl, hf⟩ := sh_struct Tryz.underlying47 h
 rw [c47] at hl
 have h0 : shapeOK prog m 3 ((xs.drop 0).take (prog.cellsOf 3)) := hf 0 _ rfl
 rw [c3] at h0
 obtain ⟨x0, e0⟩ := sh_int h0
 have q0 := cut xs 0 1
 rw [e0] at q0
 have h1 : shapeOK prog m 3 ((xs.drop 1).take (prog.cellsOf 3)) := hf 1 _ rfl
 rw [c3] at h1
 obtain ⟨x1, e1⟩ := sh_int h1
 have q1 := cut xs 1 1
 rw [e1] at q1
 have h2 : shapeOK prog m 45 ((xs.drop 2).take (prog.cellsOf 45)) := hf 2 _ rfl
 rw [c45] at h2
 obtain ⟨x2, v2, e2, hs⟩ := sh_cmd h2
 have q2 := cut xs 2 15
 rw [e2] at q2
 have hend : xs.drop 17 = [] := List.drop_eq_nil_of_le (by omega)
 have hx : xs = [.int .i64 x0] ++ ([.int .i64 x1] ++ (x2.cells v2 ++ [])) := by
  have z : xs = xs.drop 0 := rfl
  rw [z, q0, q1, q2]
  show _ = _
  rw [show (2 + 15 : Nat) = 17 from rfl, hend]
 rw [hx]
 exact ⟨(⟨x0, x1, x2⟩, v2), rfl, hs⟩
theorem sh_calls {n : Nat} {xs : List V} (h : shapeOK prog n 22 xs) : ∃ (l : List KV) (v : V), xs = [v] ∧ Sl St.empty 17 v (l.map kvEnc) ∧ LinesOK St.empty l ∧ l.length ≤ 9223372036854775807 := by
 obtain ⟨m, h | ⟨es, h, hl, hes⟩⟩ := sh_slice Tryz.underlying22 h
 ·exact ⟨[], .nils, h, Sl.nilv _ _, fun _ h => (by cases h), by simp⟩
 ·have : ∀ {es : List (List V)}, (∀ c, c ∈ es → ∃ q : KV, c = kvEnc q ∧ Sl St.empty 4 q.2 (q.1.cmd.lines.map Line.enc)) → ∃ l : List KV, es = l.map kvEnc ∧ LinesOK St.empty l := by
   intro es
   induction es with
   | nil => exact fun _ => ⟨[], rfl, fun _ h => by cases h⟩
   | cons c es ih =>
    intro h
    obtain ⟨q, hq, hs⟩ := h c (List.mem_cons_self ..)
    obtain ⟨l, hl, ho⟩ := ih fun d hd => h d (List.mem_cons_of_mem _ hd)
    refine ⟨q :: l, by rw [hq, hl]; rfl, fun a ha => ?_⟩
    rcases List.mem_cons.1 ha with rfl | ha
    ·exact hs
    ·exact ho a ha
  obtain ⟨l, hl', ho⟩ := this fun c hc => sh_call (hes c hc).2
  subst hl'
  refine ⟨l, .imm (l.map kvEnc), h, ⟨.inr (.inl rfl), fun c hc => ?_⟩, ho, by rw [List.length_map] at hl; unfold maxLen at hl; omega⟩
  obtain ⟨a, ha, rfl⟩ := List.mem_map.1 hc
  exact ⟨rfl, kvEnc_one a (ho a ha)⟩
theorem WF_empty : WF St.empty := fun a b h => by
 have : (Tr.nil : Tr Blk).get a = some b := h
 rw [Tr.get_nil] at this; cases this
end Go.Proofs.YtjbicclbalagbaaGreat
end
