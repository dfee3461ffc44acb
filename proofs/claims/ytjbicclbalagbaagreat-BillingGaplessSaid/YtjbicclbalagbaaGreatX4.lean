import Derived.ChangeArms
import Derived.ProofKit
import Derived.Test.YtjbicclbalagbaaGreatX3
set_option linter.unusedSimpArgs false
set_option linter.unusedVariables false
set_option maxRecDepth 100000
section
namespace Go.AM
theorem Sl.but {a ver m n : Nat} {el : List (List V)} {S S' : St} {v : V} {es : List (List V)} (h : Sl S n v es) (b : ∀ y c, y ≠ a → S.heap.get y = some c → S'.heap.get y = some c) (hr : S.heap.get a = some (.row ver m el)) (hne : m ≠ n) : Sl S' n v es := by
 refine ⟨?_, h.len⟩
 rcases h.is with h1 | h1 | ⟨a', ver', off, elems, h1, h2, h3⟩
 ·exact .inl h1
 ·exact .inr (.inl h1)
 ·have h4 := row_has h2
  refine .inr (.inr ⟨a', ver', off, elems, h1, row_get (b a' _ (fun e => ?_) h4), h3⟩)
  rw [e, hr] at h4
  exact hne (by cases h4; rfl)
theorem Own.but {a ver m n : Nat} {el : List (List V)} {S0 S S' : St} {v : V} {es : List (List V)} (h : Own S0 S n v es) (b : ∀ y c, y ≠ a → S.heap.get y = some c → S'.heap.get y = some c) (hn : S.next ≤ S'.next) (hr : S.heap.get a = some (.row ver m el)) (hne : m ≠ n) : Own S0 S' n v es := by
 refine ⟨?_, h.len⟩
 rcases h.is with h1 | ⟨a', ver', tl, h1, h2, h3, h4⟩
 ·exact .inl h1
 ·refine .inr ⟨a', ver', tl, h1, h2, Nat.lt_of_lt_of_le h3 hn, b a' _ (fun e => ?_) h4⟩
  rw [e, hr] at h4
  exact hne (by cases h4; rfl)
theorem Own.beq {S0 S : St} {n : Nat} {v : V} {es : List (List V)} (h : Own S0 S n v es) : beqV v v = true := by
 rcases h.is with ⟨rfl, _⟩ | ⟨a', ver', tl, rfl, _⟩
 ·rfl
 ·simp [beqV]
end Go.AM
namespace Go.Proofs.YtjbicclbalagbaaGreat
open Go.AM Tryz
set_option linter.unusedVariables false
set_option linter.unusedSimpArgs false
set_option maxRecDepth 100000
theorem PartsOK.but {a ver m : Nat} {el : List (List V)} {S S' : St} {qs : List PV} (h : PartsOK S qs) (b : But a S S') (hr : S.heap.get a = some (.row ver m el)) (hne : m ≠ 4) : PartsOK S' qs := fun q hq => (h q hq).but b.old hr hne
theorem StOK.but {a ver m : Nat} {el : List (List V)} {S S' : St} {x : SV} {s : State} (h : StOK S x s) (b : But a S S') (hr : S.heap.get a = some (.row ver m el)) (hm : m = 6 ∨ m = 3 ∨ m = 15 ∨ m = 17 ∨ m = 1) : StOK S' x s :=
 ⟨h.tt.but b.old hr (by omega), h.ss.but b.old hr (by omega), h.pp.but b.old hr (by omega), h.q, h.po.but b hr (by omega), h.bb.but b.old hr (by omega), h.ee.but b.old hr (by omega)⟩
structure Bnd (s : State) : Prop where
 bt : s.table.length ≤ 100000
 bs : s.ser.length ≤ 100000
 bp : s.posted.length ≤ 100000
 bb : s.book.length ≤ 100000
 be : s.sess.length ≤ 100000
 bq : ∀ p ∈ s.posted, p.total.parts.length ≤ 100000
def StateOut (S0 : St) (s : State) (x : SV) (S' : St) : Prop := Ext S0 S' ∧ StOK S' x s ∧ Own S0 S' 12 x.p (x.qs.map pvEnc) ∧ beqV (.agg (x.cells s.next)) (.agg (x.cells s.next)) = true
theorem cells_beq {S0 S : St} {x : SV} {n : Int} {e1 e2 e3 e4 e5 : List (List V)} (h1 : Own S0 S 5 x.t e1) (h2 : Own S0 S 4 x.s e2) (h3 : Own S0 S 12 x.p e3) (h4 : Own S0 S 2 x.b e4) (h5 : Own S0 S 5 x.e e5) : beqV (.agg (x.cells n)) (.agg (x.cells n)) = true := by
 simp only [SV.cells, beqV, beqVs, h1.beq, h2.beq, h3.beq, h4.beq, h5.beq, Bool.and_true, kindBeq_refl, decide_true]
theorem cp_field {S0 S : St} (w0 : WF S0) (x0 : Ext S0 S) {a : Nat} {cs : List V} (hg : S.heap.get a = some (.row 0 6 [cs])) (hcs : cs.length = 6) (ha : S0.next ≤ a) {n : Nat} (b : Nat) {v : V} {es : List (List V)} (hs : Sl S n v es) (hn : n ≠ 6) (h1 : es.length ≤ 100000) (hb : b ≤ 200) (j : Nat) (hj : j < 6) :
  ∃ v' S1 S2, appW n b .nils v none S = .ok (v', S1) ∧ storeW 1 (.ptr a 0 0 (0 + j)) v' S1 = .ok S2 ∧ Ext S0 S2 ∧ But a S S2 ∧ Own S0 S2 n v' es ∧ S2.heap.get a = some (.row 0 6 [splice cs (0 + j) [v']]) := by
 have w := x0.wf w0
 have hb1 : es.length * b ≤ 35184372088832 := by have := Nat.mul_le_mul h1 hb; omega
 obtain ⟨v', S1, q1, q2, q3⟩ := hs.copy (b := b) w hb1 (by unfold lim; omega)
 have hg1 := q2.old _ _ hg
 have hc := slices_cells q3.sl
 have h1' : allOne v'.cells = true := by rw [hc]; simp [allOne, q3.sl.one]
 have hv := var_set (x := v') (j := 0 + j) (m := 1) hg1 (by rw [hc]; rfl) h1' (by rw [hcs]; omega)
 rw [hc] at hv
 have hlt := q2.wf w _ _ hg1
 have hbut : But a S1 (⟨S1.next, S1.heap.put a (.row 0 6 [splice cs (0 + j) [v']])⟩ : St) := But.put hlt _
 have x01 := x0.trans q2
 exact ⟨v', S1, _, q1, hv, x01.set ha hlt w0 _, (But.of q2).trans hbut, (q3.weaken x0.next).but hbut.old (Nat.le_refl _) hg1 (Ne.symm hn), Tr.get_put_sameB _ _ _ trivial⟩
theorem part_elem {l : List PV} {i : Nat} {q : PV} (h : l[i]? = some q) (v' : V) : (l.map pvEnc).set i (splice (pvEnc q) 8 [v']) = (l.set i (q.1, v')).map pvEnc := by
 rw [List.map_set]; rfl
theorem g31 (x : SV) (s : State) (S : St) (w : WF S) (ok : StOK S x s) (bd : Bnd s) : Does prog dPl dLv 31 [.agg (x.cells s.next)] S (fun u S' => ∃ y, u = .agg (y.cells s.next) ∧ StateOut S s y S') := by
 refine e31 ?_
 have ho := ok.one s.next
 have hl : (x.cells s.next).length = 6 := rfl
 have hql : x.qs.length = s.posted.length := by rw [← ok.q, List.length_map]
 obtain ⟨S1, hn1, x1, hg1, hnx1⟩ := nb w 6 (x.cells s.next)
 obtain ⟨S2, hn2, x2, hg2, hnx2⟩ := nb (x1.wf w) 6 [.nils,.nils,.nils,.nils,.nils,.int .i64 0]
 have x02 := x1.trans x2
 have hg1' := x2.old _ _ hg1
 have ok2 := ok.ext x02
 have h0 : S.next ≤ S.next := Nat.le_refl _
 obtain ⟨tv, S3, S4, a1, a2, x4, b4, o4t, g4⟩ := cp_field w x02 hg1' rfl h0 48 ok2.tt (by omega) (by rw [List.length_map]; exact bd.bt) (by omega) 0 (by omega)
 have ok4 := ok2.but b4 hg1' (.inl rfl)
 obtain ⟨sv, S5, S6, a3, a4, x6, b6, o6s, g6⟩ := cp_field w x4 g4 rfl h0 40 ok4.ss (by omega) (by rw [List.length_map]; exact bd.bs) (by omega) 1 (by omega)
 have ok6 := ok4.but b6 g4 (.inl rfl)
 have o6t := o4t.but b6.old b6.next g4 (by omega)
 obtain ⟨bv, S7, S8, a5, a6, x8, b8, o8b, g8⟩ := cp_field w x6 g6 rfl h0 24 ok6.bb (by omega) (by rw [List.length_map]; exact bd.bb) (by omega) 3 (by omega)
 have ok8 := ok6.but b8 g6 (.inl rfl)
 have o8t := o6t.but b8.old b8.next g6 (by omega)
 have o8s := o6s.but b8.old b8.next g6 (by omega)
 obtain ⟨ev, S9, S10, a7, a8, x10, b10, o10e, g10⟩ := cp_field w x8 g8 rfl h0 40 ok8.ee (by omega) (by rw [List.length_map]; exact bd.be) (by omega) 4 (by omega)
 have ok10 := ok8.but b10 g8 (.inl rfl)
 have o10t := o8t.but b10.old b10.next g8 (by omega)
 have o10s := o8s.but b10.old b10.next g8 (by omega)
 have o10b := o8b.but b10.old b10.next g8 (by omega)
 obtain ⟨pv, S11, S12, a9, a10, x12, b12, o12p, g12⟩ := cp_field w x10 g10 rfl h0 128 ok10.pp (by omega) (by rw [List.length_map, hql]; exact bd.bp) (by omega) 2 (by omega)
 have ok12 := ok10.but b12 g10 (.inl rfl)
 have o12t := o10t.but b12.old b12.next g10 (by omega)
 have o12s := o10s.but b12.old b12.next g10 (by omega)
 have o12b := o10b.but b12.old b12.next g10 (by omega)
 have o12e := o10e.but b12.old b12.next g10 (by omega)
 have v0 := s_t (row_get hg1')
 have v1 : loadW none (.ptr S.next 0 0 (0 + 1)) S4 = .ok x.s := by rw [load_one _ _ _ _ _ (row_get g4)]; rfl
 have v3 : loadW none (.ptr S.next 0 0 (0 + 3)) S6 = .ok x.b := by rw [load_one _ _ _ _ _ (row_get g6)]; rfl
 have v4 : loadW none (.ptr S.next 0 0 (0 + 4)) S8 = .ok x.e := by rw [load_one _ _ _ _ _ (row_get g8)]; rfl
 have v2 : loadW none (.ptr S.next 0 0 (0 + 2)) S10 = .ok x.p := by rw [load_one _ _ _ _ _ (row_get g10)]; rfl
 have v2' : loadW none (.ptr S.next 0 0 (0 + 2)) S12 = .ok pv := by rw [load_one _ _ _ _ _ (row_get g12)]; rfl
 have g12 : S12.heap.get S.next = some (.row 0 6 [SV.cells ⟨tv, sv, pv, bv, ev, []⟩ s.next]) := g12
 have hr12 : S12.heap.get (S.next + 1) = some (.row 0 6 [[.nils,.nils,.nils,.nils,.nils,.int .i64 0]]) := by
  rw [hnx1] at hg2
  exact b12.old _ _ (by omega) (b10.old _ _ (by omega) (b8.old _ _ (by omega) (b6.old _ _ (by omega) (b4.old _ _ (by omega) hg2))))
 simp only [m31, agg_cells, ho, hl, dIf_true, hn1, hn2, dR_ok, hnx1, fa30_0, fa30_1, fa30_2, fa30_3, fa30_4, adv_ptr, ld24, v0, app24, a1, st24, a2, ld25, v1, app25, a3, st25, a4, ld27, v3, app27, a5, st27, a6, ld28, v4, app28, a7, st28, a8, ld26, v2, app26, a9, st26, a10, v2', len26, o12p.sl.lenI]
 have keep : ∀ {S' : St} {a ver : Nat} {el : List (List V)}, (∀ y c, y ≠ a → S12.heap.get y = some c → S'.heap.get y = some c) → True := fun _ => trivial
 refine Ok.loopL (F := fun k K => m31_l0 (callD prog dPl dLv k) k K (.ptr S.next 0 0 0) (.ptr (S.next + 1) 0 0 0) (.int .i64 x.qs.length)) (ρ := Unit) (α := PV) (X := Unit) x.qs (step := fun (_ : Unit) _ => .inr ()) (fin := id) (s := ())
  (out := fun k K _ S' => dR (loadV prog 30 (.ptr S.next 0 0 0) S') fun t46 =>
dR (storeV prog 30 (.ptr (S.next + 1) 0 0 0) t46 S') fun S47 =>
dR (loadV prog 30 (.ptr (S.next + 1) 0 0 0) S47) fun t48 =>
K t48 S47)
  (fun i _ vs S' => vs = [.int .i64 (i : Int)] ∧ Ext S S' ∧ S'.heap.get S.next = some (.row 0 6 [SV.cells ⟨tv, sv, pv, bv, ev, []⟩ s.next]) ∧ S'.heap.get (S.next + 1) = some (.row 0 6 [[.nils,.nils,.nils,.nils,.nils,.int .i64 0]]) ∧
   Own S S' 5 tv (s.table.map Rate.enc) ∧ Own S S' 4 sv (s.ser.map Ser.enc) ∧ Own S S' 2 bv (s.book.map Bal.enc) ∧ Own S S' 5 ev (s.sess.map Sess.enc) ∧ ∃ qs, qs.map (·.1) = s.posted ∧ PartsOK S' qs ∧ Own S S' 12 pv (qs.map pvEnc))
  (fun _ _ S' => Ext S S' ∧ S'.heap.get S.next = some (.row 0 6 [SV.cells ⟨tv, sv, pv, bv, ev, []⟩ s.next]) ∧ S'.heap.get (S.next + 1) = some (.row 0 6 [[.nils,.nils,.nils,.nils,.nils,.int .i64 0]]) ∧
   Own S S' 5 tv (s.table.map Rate.enc) ∧ Own S S' 4 sv (s.ser.map Ser.enc) ∧ Own S S' 2 bv (s.book.map Bal.enc) ∧ Own S S' 5 ev (s.sess.map Sess.enc) ∧ ∃ qs, qs.map (·.1) = s.posted ∧ PartsOK S' qs ∧ Own S S' 12 pv (qs.map pvEnc)) ?_ ?_ ⟨rfl, x12, g12, hr12, o12t, o12s, o12b, o12e, x.qs, ok.q, ok12.po, o12p⟩ ?_
 ·rintro i q0 _ vs T ⟨rfl, xt, gt1, gt2, ot, os, ob, oe, qs, hq, hpo, op⟩ hi
  have hqsl : qs.length = x.qs.length := by rw [hql, ← hq, List.length_map]
  have hil : i < x.qs.length := (List.getElem?_eq_some_iff.1 hi).1
  have hlt : (i : Int) < (x.qs.length : Int) := by omega
  have hbq := bd.bp
  have hw : wr .i64 ((i : Int) + 1) = ((i + 1 : Nat) : Int) := by rw [wr64 (by omega) (by omega)]; omega
  have wt := xt.wf w
  obtain ⟨q, hqi⟩ : ∃ q, qs[i]? = some q := ⟨qs[i]'(by omega), List.getElem?_eq_getElem (by omega)⟩
  have hqm := List.mem_of_getElem? hqi
  have hqp : q.1 ∈ s.posted := by rw [← hq]; exact List.mem_map_of_mem hqm
  have hge : (qs.map pvEnc)[i]? = some (pvEnc q) := by rw [List.getElem?_map, hqi]; rfl
  have hb15 := (Ext.refl T).bump 15
  have xb := xt.trans hb15
  obtain ⟨p, hp, hat, hl12, _⟩ := (op.ext hb15).sl.elem hqi
  have y1 : loadW none (adv 8 p) (⟨T.next + 15, T.heap⟩ : St) = .ok q.2 := by rw [hat.load]; rfl
  obtain ⟨v', U, c1, c2, c3, c4, c5, c6⟩ := ((hpo.ext hb15) q hqm).copyAt2 (b := 40) xb (k := T.next + 10) (by have := xt.next; omega) (by show T.next + 10 < T.next + 15; omega) (free_at wt 15 _ (by omega))
   (by rw [List.length_map]; have := bd.bq q.1 hqp; omega) (by rw [List.length_map]; have := bd.bq q.1 hqp; unfold lim; omega)
  have xu := xb.trans c2
  have gu1 := c2.old _ _ (hb15.old _ _ gt1)
  have gu2 := c2.old _ _ (hb15.old _ _ gt2)
  have ou := (op.ext hb15).ext c2
  obtain ⟨a, ver, hva, ha0, ha1, hidx, hat2, hset⟩ := ou.setK xu w hge .i64
  have hidx0 : p = .ptr a ver i 0 := by
   have e : idxW 12 pv (.int .i64 (i : Int)) = .ok (.ptr a ver i 0) := hidx
   rw [hp] at e
   cases e; rfl
  subst hidx0
  have hcv := slices_cells c3.sl
  obtain ⟨T2, d1, d2, d3, d4, d5, d6⟩ := hset 8 1 v' (by rw [hcv]; rfl) (by rw [hcv]; simp [allOne, c3.sl.one]) (by omega)
  rw [hcv, part_elem hqi] at d4
  have bt : ∀ y c, y ≠ a → U.heap.get y = some c → T2.heap.get y = some c := fun y c hy h => by rw [d5 y hy]; exact h
  have hra : ∃ el, U.heap.get a = some (.row ver 12 el) := by
   rcases ou.is with ⟨e1, _⟩ | ⟨a', ver', tl, e1, _, _, e4⟩
   ·rw [hva] at e1; cases e1
   ·rw [hva] at e1; cases e1; exact ⟨_, e4⟩
  obtain ⟨el, hra⟩ := hra
  have hbutT : But a U T2 := ⟨bt, by omega, d6⟩
  have hane : a ≠ S.next := fun e => by rw [e, gu1] at hra; cases hra
  have hane1 : a ≠ S.next + 1 := fun e => by rw [e, gu2] at hra; cases hra
  have v2t : loadW none (.ptr S.next 0 0 (0 + 2)) (⟨T.next + 15, T.heap⟩ : St) = .ok pv := by rw [load_one _ _ _ _ _ (row_get (hb15.old _ _ gt1))]; rfl
  have v2u : loadW none (.ptr S.next 0 0 (0 + 2)) U = .ok pv := by rw [load_one _ _ _ _ _ (row_get gu1)]; rfl
  have hadv : adv 8 (.ptr a ver i 0) = .ptr a ver i 8 := rfl
  rw [hadv] at y1
  have e538 : 0 + 5 + 3 = 8 := rfl
  simp only [m31_l0, unD_cons, bin_lss, dR_ok, hlt, decide_true, pickD_true, fa30_2, adv_ptr, ld26, v2t, ix26, hidx, fa62_2, fa60_3, ld58, e538, y1, app58, c1, v2u, op.beq, dIf_true, st58, d1, bin_add, hw]
  refine OkL.next ⟨(), rfl, rfl, d2, bt _ _ (Ne.symm hane) gu1, bt _ _ (Ne.symm hane1) gu2, ((ot.ext hb15).ext c2).but bt hbutT.next hra (by omega), ((os.ext hb15).ext c2).but bt hbutT.next hra (by omega), ((ob.ext hb15).ext c2).but bt hbutT.next hra (by omega), ((oe.ext hb15).ext c2).but bt hbutT.next hra (by omega), qs.set i (q.1, v'), ?_, fun r hr => ?_, d4⟩
  ·rw [List.map_set]
   rw [← hq]
   exact List.ext_getElem? fun j => by
    by_cases hj : i = j
    ·subst hj
     rw [List.getElem?_set_self (by rw [List.length_map]; omega), List.getElem?_map, hqi]; rfl
    ·rw [List.getElem?_set_ne hj]
  ·rcases List.mem_or_eq_of_mem_set hr with hr | rfl
   ·exact (((hpo.ext hb15).ext c2) r hr).but bt hra (by omega)
   ·exact c3.sl.but bt hra (by omega)
 ·rintro _ vs T ⟨rfl, xt, gt1, gt2, ot, os, ob, oe, hqs⟩
  have hlt : ¬ (x.qs.length : Int) < (x.qs.length : Int) := by omega
  refine ⟨(), ⟨xt, gt1, gt2, ot, os, ob, oe, hqs⟩, fun k K again => ?_⟩
  simp only [m31_l0, unD_cons, bin_lss, dR_ok, hlt, decide_false, pickD_false]
 ·rintro _ T ⟨xt, gt1, gt2, ot, os, ob, oe, qs, hq, hpo, op⟩
  have okT : StOK T ⟨tv, sv, pv, bv, ev, qs⟩ s := ⟨ot.sl, os.sl, op.sl, hq, hpo, ob.sl, oe.sl⟩
  obtain ⟨q1, q2⟩ := cell_put (cs := SV.cells ⟨tv, sv, pv, bv, ev, qs⟩ s.next) gt2 rfl rfl (okT.one _)
  have y := s_all (x := ⟨tv, sv, pv, bv, ev, qs⟩) (row_get gt1)
  simp only [ld30, y, dR_ok, st30, q1, q2]
  have hltT := xt.wf w _ _ gt2
  have hbut : But (S.next + 1) T (⟨T.next, T.heap.put (S.next + 1) (.row 0 6 [SV.cells ⟨tv, sv, pv, bv, ev, qs⟩ s.next])⟩ : St) := But.put hltT _
  exact Ok.ret ⟨⟨tv, sv, pv, bv, ev, qs⟩, rfl, xt.set (Nat.le_succ _) hltT w _, okT.but hbut gt2 (.inl rfl), op.but hbut.old hbut.next gt2 (by omega), cells_beq ot os op ob oe⟩
end Go.Proofs.YtjbicclbalagbaaGreat
end
section
namespace Go.Proofs.YtjbicclbalagbaaGreat
open Go.AM Tryz
section
structure Fr (sa : Nat) (pa : Option Nat) (S S' : St) : Prop where
 old : ∀ y c, y ≠ sa → pa ≠ some y → S.heap.get y = some c → S'.heap.get y = some c
 next : S.next ≤ S'.next
 wf : WF S → WF S'
section
variable {sa : Nat} {pa : Option Nat}
theorem Fr.of {S S' : St} (x : Ext S S') : Fr sa pa S S' := ⟨fun y c _ _ h => x.old y c h, x.next, x.wf⟩
theorem Fr.trans {A B C : St} (h : Fr sa pa A B) (k : Fr sa pa B C) : Fr sa pa A C := ⟨fun y c h1 h2 h3 => k.old y c h1 h2 (h.old y c h1 h2 h3), Nat.le_trans h.next k.next, fun w => k.wf (h.wf w)⟩
theorem Fr.but {S T T' : St} (w : WF S) (h : Fr sa pa S T) {a : Nat} (b : But a T T') (ha : a = sa ∨ pa = some a ∨ S.next ≤ a) : Fr sa pa S T' :=
 ⟨fun y c h1 h2 h3 => b.old y c (fun e => by
  rcases ha with rfl | rfl | ha
  ·exact h1 e
  ·exact h2 (by rw [e])
  ·have := w y c h3; omega) (h.old y c h1 h2 h3), Nat.le_trans h.next b.next, fun w => b.wf (h.wf w)⟩
theorem Fr.ext {S T T' : St} (h : Fr sa pa S T) (x : Ext T T') : Fr sa pa S T' := h.trans (Fr.of x)
theorem Fr.back {S0 S S' : St} (h : Fr sa pa S S') (w0 : WF S0) (x : Ext S0 S) (hs : S0.next ≤ sa) (hp : ∀ a, pa = some a → S0.next ≤ a) : Ext S0 S' :=
 ⟨fun y c hy => h.old y c (fun e => by have := w0 y c hy; omega) (fun e => by have := w0 y c hy; have := hp y e; omega) (x.old y c hy), Nat.le_trans x.next h.next, fun w => h.wf (x.wf w)⟩
end
theorem vb {S : St} (w : WF S) (n : Nat) (zs : List V) (x : V) (hz : zs.length = n) (hx : x.cells.length = n) (ho : allOne x.cells = true) :
  ∃ S1 S2, newBlk none S (.row 0 n [zs]) = .ok (S.next, S1) ∧ storeW n (.ptr S.next 0 0 0) x S1 = .ok S2 ∧ Ext S S2 ∧ S2.heap.get S.next = some (.row 0 n [x.cells]) ∧ S2.next = S.next + 1 :=
 ⟨_, _, newBlk_none .., store_var S n zs x hz hx ho, Ext.var w n zs x.cells, row_has (row_var S n zs x.cells), rfl⟩
theorem rep_out {S : St} {rr : Nat} {zs : List V} (hr : S.heap.get rr = some (.row 0 3 [zs])) (hz : zs.length = 3) (w : WF S) (r : Rep) {R : V → St → Prop} (hR : ∀ S', But rr S S' → R (.agg r.enc) S') :
  Ok (fun k K => dR (storeV prog 34 (.ptr rr 0 0 0) (.agg r.enc) S) fun S' => dR (loadV prog 34 (.ptr rr 0 0 0) S') fun u => K u S') R := by
 obtain ⟨q1, q2⟩ := cell_put (cs := r.enc) hr hz rfl rfl
 simp only [st34, q1, dR_ok, ld34, q2]
 exact Ok.ret (hR _ (But.put (w _ _ hr) _))
theorem why_out {S : St} {rr : Nat} {zs : List V} (hr : S.heap.get rr = some (.row 0 3 [zs])) (hz : zs.length = 3) (w : WF S) (e : Int) {R : V → St → Prop} (hR : ∀ S', But rr S S' → R (.agg (Rep.enc ⟨e, 0, 0⟩)) S') :
  Ok (fun k K => callD prog dPl dLv k 32 [.int .i64 e] S fun t S1 => dR (storeV prog 34 (.ptr rr 0 0 0) t S1) fun S' => dR (loadV prog 34 (.ptr rr 0 0 0) S') fun u => K u S') R := by
 refine (g32 e S w).call fun S1 x1 => ?_
 exact rep_out (x1.old _ _ hr) hz (x1.wf w) _ fun S' b => hR S' ((But.of x1).trans b)
structure StepIn (S0 : St) (sa : Nat) (S : St) (x : SV) (s : State) : Prop where
 w0 : WF S0
 ext : Ext S0 S
 sa0 : S0.next ≤ sa
 cell : S.heap.get sa = some (.row 0 6 [x.cells s.next])
 ok : StOK S x s
 own : Own S0 S 12 x.p (x.qs.map pvEnc)
theorem StepIn.step {S0 S S' : St} {sa : Nat} {x : SV} {s : State} (h : StepIn S0 sa S x s) (y : Ext S S') : StepIn S0 sa S' x s := ⟨h.w0, h.ext.trans y, h.sa0, y.old _ _ h.cell, h.ok.ext y, h.own.ext y⟩
theorem StepIn.wf {S0 S : St} {sa : Nat} {x : SV} {s : State} (h : StepIn S0 sa S x s) : WF S := h.ext.wf h.w0
theorem StepIn.pa {S0 S : St} {sa : Nat} {x : SV} {s : State} (h : StepIn S0 sa S x s) : ∀ a, blkOf x.p = some a → S0.next ≤ a := fun a ha => (Own_lt h.own ha).1
structure StepOut (S0 : St) (sa : Nat) (pa : Option Nat) (S : St) (s : State) (x : SV) (S' : St) : Prop where
 fr : Fr sa pa S S'
 cell : S'.heap.get sa = some (.row 0 6 [x.cells s.next])
 ok : StOK S' x s
 own : Own S0 S' 12 x.p (x.qs.map pvEnc)
 pa : ∀ a, blkOf x.p = some a → pa = some a ∨ S.next ≤ a
theorem StepOut.same {S0 S S' : St} {sa : Nat} {x : SV} {s : State} (h : StepIn S0 sa S x s) (y : Ext S S') : StepOut S0 sa (blkOf x.p) S s x S' := ⟨Fr.of y, y.old _ _ h.cell, h.ok.ext y, h.own.ext y, fun a ha => .inl ha⟩
theorem StepOut.but {S0 S T T' : St} {sa : Nat} {pa : Option Nat} {x : SV} {s : State} (h : StepOut S0 sa pa S s x T) (w : WF S) {rr ver m : Nat} {el : List (List V)} (b : But rr T T') (hr : S.next ≤ rr) (hsa : sa < S.next) (hg : T.heap.get rr = some (.row ver m el)) (hm : m = 3) : StepOut S0 sa pa S s x T' := by
 subst hm
 exact ⟨h.fr.but w b (.inr (.inr hr)), b.old _ _ (by omega) h.cell, h.ok.but b hg (.inr (.inl rfl)), h.own.but b.old b.next hg (by omega), h.pa⟩
def RepOut (S0 : St) (sa : Nat) (pa : Option Nat) (S : St) (r : State × Rep) (u : V) (S' : St) : Prop := u = .agg r.2.enc ∧ ∃ x, StepOut S0 sa pa S r.1 x S'
end
theorem g68 {S0 S : St} {sa : Nat} {x : SV} {s : State} (h : StepIn S0 sa S x s) {v : V} {l : List Ser} (hv : Sl S 4 v (l.map Ser.enc)) (e : Int) :
  Does prog dPl dLv 68 [.ptr sa 0 0 (0 + 1), v, .int .i64 e] S (RepOut S0 sa (blkOf x.p) S (if e = 0 then ({ s with ser := l }, ⟨e, 0, 0⟩) else (s, ⟨e, 0, 0⟩))) := by
 refine e68 ?_
 have w := h.wf
 have hlt := w _ _ h.cell
 obtain ⟨S1, hn1, x1, hg1, hnx1⟩ := nb w 3 [.int .i64 0,.int .i64 0,.int .i64 0]
 have h1 := h.step x1
 simp only [m68, hn1, dR_ok, guard_int, dIf_true, bin_eql]
 refine Ok.pickP (fun he => ?_) (fun he => ?_)
 ·rw [if_pos he]
  have hc := slices_cells hv
  have hb := var_set (x := v) (j := 0 + 1) (m := 1) h1.cell (by rw [hc]; rfl) (by rw [hc]; simp [allOne, hv.one]) (by show _ ≤ 6; omega)
  rw [hc] at hb
  have hbut : But sa S1 (⟨S1.next, S1.heap.put sa (.row 0 6 [splice (x.cells s.next) (0 + 1) [v]])⟩ : St) := But.put (h1.wf _ _ h1.cell) _
  have hcell : (⟨S1.next, S1.heap.put sa (.row 0 6 [splice (x.cells s.next) (0 + 1) [v]])⟩ : St).heap.get sa = some (.row 0 6 [SV.cells { x with s := v } s.next]) := Tr.get_put_sameB _ _ _ trivial
  have hrr : (⟨S1.next, S1.heap.put sa (.row 0 6 [splice (x.cells s.next) (0 + 1) [v]])⟩ : St).heap.get S.next = some (.row 0 3 [[.int .i64 0,.int .i64 0,.int .i64 0]]) := by
   rw [← hg1]; exact Tr.get_put_neB _ _ _ _ trivial (by omega)
  simp only [nilD_ptr, st25, hb, dR_ok]
  generalize (⟨S1.next, S1.heap.put sa (.row 0 6 [splice (x.cells s.next) (0 + 1) [v]])⟩ : St) = S2 at hbut hcell hrr
  have w2 := hbut.wf h1.wf
  have ok2 := h1.ok.but hbut h1.cell (.inl rfl)
  have fr2 : Fr sa (blkOf x.p) S S2 := (Fr.of x1).but w hbut (.inl rfl)
  have out2 : StepOut S0 sa (blkOf x.p) S { s with ser := l } { x with s := v } S2 :=
   ⟨fr2, hcell, { ok2 with ss := (hv.ext x1).but hbut.old h1.cell (by omega) }, h1.own.but hbut.old hbut.next h1.cell (by omega), fun a ha => .inl ha⟩
  refine why_out hrr rfl w2 e fun S' b => ⟨rfl, _, out2.but w b (Nat.le_refl _) hlt hrr rfl⟩
 ·rw [if_neg he]
  refine why_out hg1 rfl (x1.wf w) e fun S' b => ⟨rfl, _, (StepOut.same h x1).but w b (Nat.le_refl _) hlt hg1 rfl⟩
theorem g71 {S0 S : St} {sa : Nat} {x : SV} {s : State} (h : StepIn S0 sa S x s) {v : V} {l : List Rate} (hv : Sl S 5 v (l.map Rate.enc)) (e : Int) :
  Does prog dPl dLv 71 [.ptr sa 0 0 (0 + 0), v, .int .i64 e] S (RepOut S0 sa (blkOf x.p) S (if e = 0 then ({ s with table := l }, ⟨e, 0, 0⟩) else (s, ⟨e, 0, 0⟩))) := by
 refine e71 ?_
 have w := h.wf
 have hlt := w _ _ h.cell
 obtain ⟨S1, hn1, x1, hg1, hnx1⟩ := nb w 3 [.int .i64 0,.int .i64 0,.int .i64 0]
 have h1 := h.step x1
 simp only [m71, hn1, dR_ok, guard_int, dIf_true, bin_eql]
 refine Ok.pickP (fun he => ?_) (fun he => ?_)
 ·rw [if_pos he]
  have hc := slices_cells hv
  have hb := var_set (x := v) (j := 0 + 0) (m := 1) h1.cell (by rw [hc]; rfl) (by rw [hc]; simp [allOne, hv.one]) (by show _ ≤ 6; omega)
  rw [hc] at hb
  have hbut : But sa S1 (⟨S1.next, S1.heap.put sa (.row 0 6 [splice (x.cells s.next) (0 + 0) [v]])⟩ : St) := But.put (h1.wf _ _ h1.cell) _
  have hcell : (⟨S1.next, S1.heap.put sa (.row 0 6 [splice (x.cells s.next) (0 + 0) [v]])⟩ : St).heap.get sa = some (.row 0 6 [SV.cells { x with t := v } s.next]) := Tr.get_put_sameB _ _ _ trivial
  have hrr : (⟨S1.next, S1.heap.put sa (.row 0 6 [splice (x.cells s.next) (0 + 0) [v]])⟩ : St).heap.get S.next = some (.row 0 3 [[.int .i64 0,.int .i64 0,.int .i64 0]]) := by
   rw [← hg1]; exact Tr.get_put_neB _ _ _ _ trivial (by omega)
  simp only [nilD_ptr, st24, hb, dR_ok]
  generalize (⟨S1.next, S1.heap.put sa (.row 0 6 [splice (x.cells s.next) (0 + 0) [v]])⟩ : St) = S2 at hbut hcell hrr
  have w2 := hbut.wf h1.wf
  have ok2 := h1.ok.but hbut h1.cell (.inl rfl)
  have fr2 : Fr sa (blkOf x.p) S S2 := (Fr.of x1).but w hbut (.inl rfl)
  have out2 : StepOut S0 sa (blkOf x.p) S { s with table := l } { x with t := v } S2 :=
   ⟨fr2, hcell, { ok2 with tt := (hv.ext x1).but hbut.old h1.cell (by omega) }, h1.own.but hbut.old hbut.next h1.cell (by omega), fun a ha => .inl ha⟩
  refine why_out hrr rfl w2 e fun S' b => ⟨rfl, _, out2.but w b (Nat.le_refl _) hlt hrr rfl⟩
 ·rw [if_neg he]
  refine why_out hg1 rfl (x1.wf w) e fun S' b => ⟨rfl, _, (StepOut.same h x1).but w b (Nat.le_refl _) hlt hg1 rfl⟩
theorem g75 {S0 S : St} {sa : Nat} {x : SV} {s : State} (h : StepIn S0 sa S x s) {v : V} {l : List Sess} (hv : Sl S 5 v (l.map Sess.enc)) (e : Int) :
  Does prog dPl dLv 75 [.ptr sa 0 0 (0 + 4), v, .int .i64 e] S (RepOut S0 sa (blkOf x.p) S (if e = 0 then ({ s with sess := l }, ⟨e, 0, 0⟩) else (s, ⟨e, 0, 0⟩))) := by
 refine e75 ?_
 have w := h.wf
 have hlt := w _ _ h.cell
 obtain ⟨S1, hn1, x1, hg1, hnx1⟩ := nb w 3 [.int .i64 0,.int .i64 0,.int .i64 0]
 have h1 := h.step x1
 simp only [m75, hn1, dR_ok, guard_int, dIf_true, bin_eql]
 refine Ok.pickP (fun he => ?_) (fun he => ?_)
 ·rw [if_pos he]
  have hc := slices_cells hv
  have hb := var_set (x := v) (j := 0 + 4) (m := 1) h1.cell (by rw [hc]; rfl) (by rw [hc]; simp [allOne, hv.one]) (by show _ ≤ 6; omega)
  rw [hc] at hb
  have hbut : But sa S1 (⟨S1.next, S1.heap.put sa (.row 0 6 [splice (x.cells s.next) (0 + 4) [v]])⟩ : St) := But.put (h1.wf _ _ h1.cell) _
  have hcell : (⟨S1.next, S1.heap.put sa (.row 0 6 [splice (x.cells s.next) (0 + 4) [v]])⟩ : St).heap.get sa = some (.row 0 6 [SV.cells { x with e := v } s.next]) := Tr.get_put_sameB _ _ _ trivial
  have hrr : (⟨S1.next, S1.heap.put sa (.row 0 6 [splice (x.cells s.next) (0 + 4) [v]])⟩ : St).heap.get S.next = some (.row 0 3 [[.int .i64 0,.int .i64 0,.int .i64 0]]) := by
   rw [← hg1]; exact Tr.get_put_neB _ _ _ _ trivial (by omega)
  simp only [nilD_ptr, st28, hb, dR_ok]
  generalize (⟨S1.next, S1.heap.put sa (.row 0 6 [splice (x.cells s.next) (0 + 4) [v]])⟩ : St) = S2 at hbut hcell hrr
  have w2 := hbut.wf h1.wf
  have ok2 := h1.ok.but hbut h1.cell (.inl rfl)
  have fr2 : Fr sa (blkOf x.p) S S2 := (Fr.of x1).but w hbut (.inl rfl)
  have out2 : StepOut S0 sa (blkOf x.p) S { s with sess := l } { x with e := v } S2 :=
   ⟨fr2, hcell, { ok2 with ee := (hv.ext x1).but hbut.old h1.cell (by omega) }, h1.own.but hbut.old hbut.next h1.cell (by omega), fun a ha => .inl ha⟩
  refine why_out hrr rfl w2 e fun S' b => ⟨rfl, _, out2.but w b (Nat.le_refl _) hlt hrr rfl⟩
 ·rw [if_neg he]
  refine why_out hg1 rfl (x1.wf w) e fun S' b => ⟨rfl, _, (StepOut.same h x1).but w b (Nat.le_refl _) hlt hg1 rfl⟩
def owedB : List UInt8 := [111,119,101,100]
def askStep (g : Int) (b : Bal) : Int ⊕ Int := .inr (if (b.acc == owedB) = true then b.amount else g)
def askM (s : State) (name : List UInt8) : Rep := if (findSer s.ser name).2 = false then ⟨11, 0, 0⟩ else ⟨0, wr .i64 ((findSer s.ser name).1.next - 1), runL askStep id s.book 0⟩
theorem g76 {S0 S : St} {sa : Nat} {x : SV} {s : State} (h : StepIn S0 sa S x s) (name : List UInt8) (hb : s.ser.length < 1000000) (hbb : s.book.length < 1000000) : Does prog dPl dLv 76 [.ptr sa 0 0 0, .str name] S (RepOut S0 sa (blkOf x.p) S (s, askM s name)) := by
 refine e76 ?_
 have w := h.wf
 have hlt := w _ _ h.cell
 obtain ⟨S1, hn1, x1, hg1, hnx1⟩ := nb w 3 [.int .i64 0,.int .i64 0,.int .i64 0]
 have h1 := h.step x1
 simp only [m76, hn1, dR_ok, nilD_ptr, fa30_1, adv_ptr, ld25, s_s (row_get h1.cell)]
 refine (g122 x.s s.ser name S1 h1.wf h1.ok.ss hb).call fun S2 x2 => ?_
 have h2 := h1.step x2
 obtain ⟨S2a, S3, hn3, hst, hxv, hgv, _⟩ := vb h2.wf 4 [.str [],.int .i64 0,.int .i64 0,.bool false] (.agg (findSer s.ser name).1.enc) rfl rfl rfl
 have hrv := row_get hgv
 simp only [tupD_tup, List.getElem?_cons_zero, List.getElem?_cons_succ, dO_ok, hn3, dR_ok, st92, hst, un_not]
 have h3 := h2.step hxv
 have x13 := x2.trans hxv
 have x03 := x1.trans x13
 have hg3 := x13.old _ _ hg1
 unfold askM
 refine Ok.pick (fun hf => ?_) (fun hf => ?_)
 ·rw [if_pos (by simpa using hf)]
  exact why_out hg3 rfl h3.wf 11 fun S' b => ⟨rfl, _, (StepOut.same h x03).but w b (Nat.le_refl _) hlt hg3 rfl⟩
 rw [if_neg (by simpa using hf)]
 have v1 : loadW none (.ptr S2.next 0 0 (0 + 1)) S3 = .ok (.int .i64 (findSer s.ser name).1.next) := by rw [load_one _ _ _ _ _ hrv]; rfl
 generalize hnn : wr .i64 ((findSer s.ser name).1.next - 1) = nn
 have hbw : buildW [.int .i64 0,.int .i64 0,.int .i64 0] [(0, 1), (1, 1), (2, 1)] [(1, .int .i64 nn)] = .ok (.agg (Rep.enc ⟨0, nn, 0⟩)) := rfl
 obtain ⟨S4, S5, hn4, q1, x5, hg5, _⟩ := vb h3.wf 3 [.int .i64 0,.int .i64 0,.int .i64 0] (.agg (Rep.enc ⟨0, nn, 0⟩)) rfl rfl rfl
 simp only [fa92_1, adv_ptr, dR_ok, ld3, v1, bin_sub, hnn, bd34, hbw, hn4, st34, q1, nilD_ptr, fa30_3]
 have h5 := h3.step x5
 have hg15 := x5.old _ _ hg3
 have hne : S.next < S3.next := h3.wf _ _ hg3
 simp only [ld27, s_b (row_get h5.cell), dR_ok, len27, h5.ok.bb.lenI]
 have x05 := x03.trans x5
 refine Ok.loopL (F := fun k K => m76_l0 (callD prog dPl dLv k) k K (.ptr S.next 0 0 0) (.ptr S3.next 0 0 0) x.b (.int .i64 s.book.length)) (ρ := Int) (α := Bal) (X := Unit) s.book (step := askStep) (fin := id) (s := 0)
  (out := fun k K _ S' => dR (loadV prog 34 (.ptr S3.next 0 0 0) S') fun t37 => dR (storeV prog 34 (.ptr S.next 0 0 0) t37 S') fun S38 => dR (loadV prog 34 (.ptr S.next 0 0 0) S38) fun t39 => K t39 S38)
  (fun i g vs S' => vs = [.int .i64 (i : Int)] ∧ Ext S S' ∧ StepIn S0 sa S' x s ∧ S'.heap.get S.next = some (.row 0 3 [[.int .i64 0,.int .i64 0,.int .i64 0]]) ∧ S'.heap.get S3.next = some (.row 0 3 [Rep.enc ⟨0, nn, g⟩]))
  (fun g _ S' => Ext S S' ∧ StepIn S0 sa S' x s ∧ S'.heap.get S.next = some (.row 0 3 [[.int .i64 0,.int .i64 0,.int .i64 0]]) ∧ S'.heap.get S3.next = some (.row 0 3 [Rep.enc ⟨0, nn, g⟩])) ?_ ?_ ⟨rfl, x05, h5, hg15, hg5⟩ ?_
 ·rintro i b g vs T ⟨rfl, xt, ht, gt1, gt2⟩ hi
  have hil : i < s.book.length := (List.getElem?_eq_some_iff.1 hi).1
  have hlti : (i : Int) < (s.book.length : Int) := by omega
  have hw : wr .i64 ((i : Int) + 1) = ((i + 1 : Nat) : Int) := by rw [wr64 (by omega) (by omega)]; omega
  obtain ⟨p, hp, hld, hst2, hxt, hv⟩ := ht.ok.bb.var ht.wf hi [.str [],.int .i64 0] rfl
  generalize T.var 2 [.str [],.int .i64 0] b.enc = T2 at hst2 hxt hv
  have ht2 := ht.step hxt
  have xt2 := xt.trans hxt
  have v0 : loadW none (.ptr T.next 0 0 (0 + 0)) T2 = .ok (.str b.acc) := by rw [hv T2 (Ext.refl _)]; rfl
  have v1' : loadW none (.ptr T.next 0 0 (0 + 1)) T2 = .ok (.int .i64 b.amount) := by rw [hv T2 (Ext.refl _)]; rfl
  have eo : ([111,119,101,100] : List UInt8) = owedB := rfl
  simp only [m76_l0, unD_cons, bin_lss, dR_ok, hlti, decide_true, pickD_true, ix27, hp, ld96, hld, newBlk_none, st96, hst2, fa96_0, fa96_1, adv_ptr, ld9, v0, guard_str, dIf_true, str_eql, eo]
  have g1 := hxt.old _ _ gt1
  have g2 := hxt.old _ _ gt2
  refine OkL.pick (fun hq => ?_) (fun hq => ?_)
  ·have hb2 := var_set (x := .int .i64 b.amount) (j := 0 + 2) (m := 1) g2 rfl rfl (by show _ ≤ 3; omega)
   have hsp : splice (Rep.enc ⟨0, nn, g⟩) (0 + 2) (V.int .i64 b.amount).cells = Rep.enc ⟨0, nn, b.amount⟩ := rfl
   rw [hsp] at hb2
   simp only [ld3, v1', dR_ok, fa34_2, adv_ptr, st3, hb2, bin_add, hw]
   have hltT := ht2.wf _ _ g2
   have xs := xt2.set (a := S3.next) (by omega) hltT w (.row 0 3 [Rep.enc ⟨0, nn, b.amount⟩])
   have hbut : But S3.next T2 (⟨T2.next, T2.heap.put S3.next (.row 0 3 [Rep.enc ⟨0, nn, b.amount⟩])⟩ : St) := But.put hltT _
   refine OkL.next ⟨b.amount, by simp only [askStep, hq, if_true], rfl, xs, ⟨h.w0, h.ext.trans xs, h.sa0, xs.old _ _ h.cell, ht2.ok.but hbut g2 (.inr (.inl rfl)), ht2.own.but hbut.old hbut.next g2 (by omega)⟩, ?_, Tr.get_put_sameB _ _ _ trivial⟩
   rw [← g1]; exact Tr.get_put_neB _ _ _ _ trivial (by omega)
  ·simp only [bin_add, hw, dR_ok]
   exact OkL.next ⟨g, by simp only [askStep, hq, if_false, Bool.false_eq_true], rfl, xt2, ht2, g1, g2⟩
 ·rintro g vs T ⟨rfl, xt, ht, gt1, gt2⟩
  have hlti : ¬ (s.book.length : Int) < (s.book.length : Int) := by omega
  refine ⟨(), ⟨xt, ht, gt1, gt2⟩, fun k K again => ?_⟩
  simp only [m76_l0, unD_cons, bin_lss, dR_ok, hlti, decide_false, pickD_false]
 ·rintro _ T ⟨xt, ht, gt1, gt2⟩
  have y : loadW (some 3) (.ptr S3.next 0 0 0) T = .ok (.agg (Rep.enc ⟨0, nn, runL askStep id s.book 0⟩)) := by rw [load_one _ _ _ _ _ (row_get gt2)]; rfl
  simp only [ld34 (.ptr S3.next 0 0 0) T, y, dR_ok]
  exact rep_out gt1 rfl ht.wf _ fun S' b => ⟨rfl, _, (StepOut.same h xt).but w b (Nat.le_refl _) hlt gt1 rfl⟩
def why (e : Int) : Rep := ⟨e, 0, 0⟩
def issueM (s : State) (name : List UInt8) (p : Posted) : State × Rep :=
 if (takeM s.ser name).2.2 ≠ 0 then (s, why (takeM s.ser name).2.2) else if 40 ≤ s.posted.length then (s, why 14) else
  if (entM p.total).2 ≠ 0 then (s, why (entM p.total).2) else if (enterM s.book (entM p.total).1).2 ≠ 0 then (s, why (enterM s.book (entM p.total).1).2) else
   ({ s with ser := (takeM s.ser name).1, book := (enterM s.book (entM p.total).1).1, posted := s.posted ++ [{ p with ref := ⟨name, (takeM s.ser name).2.1⟩ }] }, ⟨0, (takeM s.ser name).2.1, p.total.gross⟩)
theorem field_put {S0 S : St} (w0 : WF S0) {sa : Nat} {cs : List V} (hg : S.heap.get sa = some (.row 0 6 [cs])) (hcs : cs.length = 6) (w : WF S) (j : Nat) (hj : j < 6) {v : V} (hc : v.cells = [v]) (h1 : v.one = true) :
  ∃ S', storeW 1 (.ptr sa 0 0 (0 + j)) v S = .ok S' ∧ But sa S S' ∧ S'.heap.get sa = some (.row 0 6 [splice cs (0 + j) [v]]) ∧ S'.next = S.next := by
 have hb := var_set (x := v) (j := 0 + j) (m := 1) hg (by rw [hc]; rfl) (by rw [hc]; simp [allOne, h1]) (by rw [hcs]; omega)
 rw [hc] at hb
 exact ⟨_, hb, But.put (w _ _ hg) _, Tr.get_put_sameB _ _ _ trivial, rfl⟩
theorem g118 {S0 S : St} {sa : Nat} {x : SV} {s : State} (h : StepIn S0 sa S x s) (bd : Bnd s) (name : List UInt8) (p : Posted) {pv : V} (hp : Sl S 4 pv (p.total.parts.map Part.enc)) (hfit : Fit p) :
  Does prog dPl dLv 118 [.ptr sa 0 0 0, .str name, .agg (p.cells pv)] S (RepOut S0 sa (blkOf x.p) S (issueM s name p)) := by
 refine e118 ?_
 have w := h.wf
 have hlt := w _ _ h.cell
 have hql : x.qs.length = s.posted.length := by rw [← h.ok.q, List.length_map]
 have ho : allOne (p.cells pv) = true := pvEnc_one p hp
 have hl : (p.cells pv).length = 12 := rfl
 obtain ⟨S1, hn1, x1, hg1, hnx1⟩ := nb w 12 (p.cells pv)
 obtain ⟨S2, hn2, x2, hg2, hnx2⟩ := nb (x1.wf w) 3 [.int .i64 0,.int .i64 0,.int .i64 0]
 have x02 := x1.trans x2
 have h2 := h.step x02
 have hg1' := x2.old _ _ hg1
 simp only [m118, agg_cells, ho, hl, dIf_true, hn1, hn2, dR_ok, nilD_ptr, fa30_1, adv_ptr, ld25, s_s (row_get h2.cell)]
 refine Does.call (g152 x.s s.ser name S2 h2.wf h2.ok.ss) fun u S3 ⟨lv, hu, x3, own3⟩ => ?_
 subst hu
 have x03 := x02.trans x3
 have h3 := h2.step x3
 have hg3 := x3.old _ _ hg2
 have hrr : S.next ≤ S1.next := by omega
 have hout : ∀ {T : St}, Ext S T → T.heap.get S1.next = some (.row 0 3 [[.int .i64 0,.int .i64 0,.int .i64 0]]) → ∀ (e : Int), ∀ S', But S1.next T S' → RepOut S0 sa (blkOf x.p) S (s, why e) (.agg (Rep.enc ⟨e, 0, 0⟩)) S' := fun xt gt e S' b => ⟨rfl, _, (StepOut.same h xt).but w b hrr hlt gt rfl⟩
 simp only [tupD_tup, List.getElem?_cons_zero, List.getElem?_cons_succ, dO_ok, guard_int, dIf_true, bin_neq, dR_ok]
 unfold issueM
 refine Ok.pickN (fun c1 => ?_) (fun c1 => ?_)
 ·rw [if_pos c1]
  exact why_out hg3 rfl h3.wf _ (hout x03 hg3 _)
 rw [if_neg (by omega)]
 simp only [nilD_ptr, fa30_2, adv_ptr, dR_ok, ld26, s_p (row_get h3.cell), len26, h3.ok.pp.lenI, bin_geq]
 refine Ok.pickP (fun c2 => ?_) (fun c2 => ?_)
 ·rw [if_pos (by omega)]
  exact why_out hg3 rfl h3.wf _ (hout x03 hg3 _)
 rw [if_neg (by omega)]
 have hr3 := row_get (x3.old _ _ hg1')
 simp only [fa62_2, adv_ptr, dR_ok, ld60, p_total hr3]
 refine Does.call (g95 p.total pv S3 h3.wf (hp.ext x03) (by have := hfit.1; omega) hfit.2) fun u S4 ⟨ev, hu, x4, own4⟩ => ?_
 subst hu
 have x04 := x03.trans x4
 have h4 := h3.step x4
 have hg4 := x4.old _ _ hg3
 simp only [tupD_tup, List.getElem?_cons_zero, List.getElem?_cons_succ, dO_ok, guard_int, dIf_true, bin_neq, dR_ok]
 refine Ok.pickN (fun c3 => ?_) (fun c3 => ?_)
 ·rw [if_pos c3]
  exact why_out hg4 rfl h4.wf _ (hout x04 hg4 _)
 rw [if_neg (by omega)]
 have hel := (entM_len p.total).resolve_right (by omega)
 have hf1 := hfit.1
 simp only [nilD_ptr, fa30_3, adv_ptr, dR_ok, ld27, s_b (row_get h4.cell)]
 refine Does.call (g96 x.b ev s.book (entM p.total).1 S4 h4.wf h4.ok.bb own4.sl (by have := bd.bb; omega) (by omega)) fun u S5 ⟨bv, hu, x5, own5⟩ => ?_
 subst hu
 have x05 := x04.trans x5
 have h5 := h4.step x5
 have hg5 := x5.old _ _ hg4
 simp only [tupD_tup, List.getElem?_cons_zero, List.getElem?_cons_succ, dO_ok, guard_int, dIf_true, bin_neq, dR_ok]
 refine Ok.pickN (fun c4 => ?_) (fun c4 => ?_)
 ·rw [if_pos c4]
  exact why_out hg5 rfl h5.wf _ (hout x05 hg5 _)
 rw [if_neg (by omega)]
 generalize hnum : (takeM s.ser name).2.1 = num
 have hbw : buildW [.str [],.int .i64 0] [(0, 1), (1, 1)] [(0, .str name), (1, .int .i64 num)] = .ok (.agg (Ref.enc ⟨name, num⟩)) := rfl
 have hr5 : S5.heap.get S.next = some (.row 0 12 [p.cells pv]) := (x3.trans (x4.trans x5)).old _ _ hg1'
 have hst6 := var_set (x := .agg (Ref.enc ⟨name, num⟩)) (j := 0 + 0) (m := 2) hr5 rfl rfl (by show _ ≤ 12; omega)
 have hsp6 : splice (p.cells pv) (0 + 0) (V.agg (Ref.enc ⟨name, num⟩)).cells = Posted.cells { p with ref := ⟨name, num⟩ } pv := rfl
 rw [hsp6] at hst6
 have hbut6 : But S.next S5 (⟨S5.next, S5.heap.put S.next (.row 0 12 [Posted.cells { p with ref := ⟨name, num⟩ } pv])⟩ : St) := But.put (h5.wf _ _ hr5) _
 have hr6 : (⟨S5.next, S5.heap.put S.next (.row 0 12 [Posted.cells { p with ref := ⟨name, num⟩ } pv])⟩ : St).heap.get S.next = some (.row 0 12 [Posted.cells { p with ref := ⟨name, num⟩ } pv]) := Tr.get_put_sameB _ _ _ trivial
 have hn6 : (⟨S5.next, S5.heap.put S.next (.row 0 12 [Posted.cells { p with ref := ⟨name, num⟩ } pv])⟩ : St).next = S5.next := rfl
 obtain ⟨S6, hS6⟩ : ∃ S6, S6 = (⟨S5.next, S5.heap.put S.next (.row 0 12 [Posted.cells { p with ref := ⟨name, num⟩ } pv])⟩ : St) := ⟨_, rfl⟩
 rw [← hS6] at hst6 hbut6 hr6 hn6
 simp only [bd43, hbw, dR_ok, fa62_0, adv_ptr, st43, hst6, nilD_ptr, fa30_2, ld26]
 clear hS6
 have w6 := hbut6.wf h5.wf
 have hpb : ∀ a, blkOf x.p = some a → a < S.next := fun a ha => (Own_lt h.own ha).2
 have sl6 : ∀ {n : Nat} {v : V} {es : List (List V)}, Sl S5 n v es → n ≠ 12 → Sl S6 n v es := fun hs hn => hs.but hbut6.old hr5 (Ne.symm hn)
 have own6 : Own S0 S6 12 x.p (x.qs.map pvEnc) := h5.own.same (by rw [hn6]; exact Nat.le_refl _) (fun a ha => by
  have h1 := hpb a ha
  have h2 := Own_lt h5.own ha
  rcases h5.own.is with ⟨e1, _⟩ | ⟨a', ver', tl, e1, _, _, e4⟩
  ·rw [e1] at ha; cases ha
  ·rw [e1] at ha; cases ha
   rw [e4]; exact hbut6.old _ _ (by omega) e4)
 have cell6 := hbut6.old _ _ (by omega) h5.cell
 have hg6 := hbut6.old _ _ (by omega) hg5
 have hb21 := (Ext.refl S6).bump 21
 have hx06 : Ext S0 S6 := hbut6.ext h.w0 h5.ext (by have := h.ext.next; omega)
 have own7 := own6.ext hb21
 have cell7 := hb21.old _ _ cell6
 have hr7 := hb21.old _ _ hr6
 have hfree := fun k (hk : S6.next ≤ k) => free_at w6 21 k hk
 have hn7 : (⟨S6.next + 21, S6.heap⟩ : St).next = S6.next + 21 := rfl
 have hx07 := hx06.trans hb21
 have hnew : ∀ q, q ∈ x.qs ++ [({ p with ref := ⟨name, num⟩ }, pv)] → Sl S6 4 q.2 (q.1.total.parts.map Part.enc) := fun q hq => by
  rcases List.mem_append.1 hq with hq | hq
  ·exact sl6 (h5.ok.po q hq) (by omega)
  ·rw [List.mem_singleton.1 hq]
   exact sl6 (hp.ext x05) (by omega)
 obtain ⟨S7, hS7⟩ : ∃ S7, S7 = (⟨S6.next + 21, S6.heap⟩ : St) := ⟨_, rfl⟩
 rw [← hS7] at own7 cell7 hr7 hn7 hx07 hb21 hfree
 rw [← hS7, s_p (row_get cell7)]
 simp only [dR_ok, ld62, p_all (row_get hr7)]
 have hone : allOne (Posted.cells { p with ref := ⟨name, num⟩ } pv) = true := pvEnc_one _ hp
 rw [bs26, one_blockAt S7 (S6.next + 10) 12 _ rfl hone (by omega)]
 simp only [dR_ok, app26]
 have hblk := Ext.newAt (hfree (S6.next + 10) (by omega)) (by omega) (.row 0 12 [Posted.cells { p with ref := ⟨name, num⟩ } pv])
 have hel : elemsOf (⟨S7.next, S7.heap.put (S6.next + 10) (.row 0 12 [Posted.cells { p with ref := ⟨name, num⟩ } pv])⟩ : St) (.sl (S6.next + 10) 0 12 0 1) = .ok [Posted.cells { p with ref := ⟨name, num⟩ } pv] := by
  simp only [elemsOf, getRow_put]
  rfl
 have hfr2 : (⟨S7.next, S7.heap.put (S6.next + 10) (.row 0 12 [Posted.cells { p with ref := ⟨name, num⟩ } pv])⟩ : St).heap.get (S6.next + 11) = none := by
  rw [← hfree (S6.next + 11) (by omega)]; exact Tr.get_put_neB _ _ _ _ trivial (by omega)
 have hlm : (x.qs.map pvEnc).length = x.qs.length := List.length_map ..
 have hx67 := hx06.next
 obtain ⟨pv', S8, r1, r2, r3, r4, r5, r6⟩ := (own7.ext hblk).pushAt (b := 128) (hx07.trans hblk) h.w0 hel (fun c hc => by rw [List.mem_singleton.1 hc]; exact ⟨rfl, hone⟩) (by simp) (k := S6.next + 11) (by omega) (by show S6.next + 11 < S7.next; omega) hfr2
  (by rw [hlm]; simp only [List.length_cons, List.length_nil]; have := bd.bp; omega) (by rw [hlm]; simp only [List.length_cons, List.length_nil]; have := bd.bp; unfold lim; omega)
 have hpe : x.qs.map pvEnc ++ [Posted.cells { p with ref := ⟨name, num⟩ } pv] = (x.qs ++ [({ p with ref := ⟨name, num⟩ }, pv)]).map pvEnc := by rw [List.map_append]; rfl
 rw [hpe] at r4
 have keep8 : ∀ y c, y < S6.next → blkOf x.p ≠ some y → S6.heap.get y = some c → S8.heap.get y = some c := fun y c h1 h2 h3 => by
  rw [r6 y (by omega) h2]
  exact hblk.old _ _ (hb21.old _ _ h3)
 have slk : ∀ {n : Nat} {v : V} {es : List (List V)}, Sl S6 n v es → n ≠ 12 → Sl S8 n v es := fun hs hn => by
  refine ⟨?_, hs.len⟩
  rcases hs.is with q1 | q1 | ⟨a, ver, off, elems, q1, q2, q3⟩
  ·exact .inl q1
  ·exact .inr (.inl q1)
  ·have q4 := row_has q2
   refine .inr (.inr ⟨a, ver, off, elems, q1, row_get (keep8 a _ (w6 _ _ q4) (fun e => ?_) q4), q3⟩)
   rcases own6.is with ⟨e1, _⟩ | ⟨a', ver', tl, e1, _, _, e4⟩
   ·rw [e1] at e; cases e
   ·rw [e1] at e; cases e; rw [q4] at e4; cases e4; exact hn rfl
 have hx86 : S8.next = S6.next + 21 := by rw [r3]; exact hn7
 have w8 := r2.wf h.w0
 have cell8 := keep8 sa _ (w6 _ _ cell6) (fun e => by
  rcases own6.is with ⟨e1, _⟩ | ⟨a', ver', tl, e1, _, _, e4⟩
  ·rw [e1] at e; cases e
  ·rw [e1] at e; cases e; rw [cell6] at e4; cases e4) cell6
 have hg8 := keep8 S1.next _ (w6 _ _ hg6) (fun e => by have := hpb _ e; omega) hg6
 have hr8 := keep8 S.next _ (w6 _ _ hr6) (fun e => by have := hpb _ e; omega) hr6
 have fr8 : Fr sa (blkOf x.p) S S8 := ⟨fun y c h1 h2 h3 => keep8 y c (by have := w y c h3; have := x05.next; omega) h2 (hbut6.old y c (by have := w y c h3; omega) (x05.old y c h3)), by have := x05.next; omega, fun _ => w8⟩
 have hlv := slices_cells own3.sl
 have hbvc := slices_cells own5.sl
 have hpvc := slices_cells r4.sl
 obtain ⟨S9, f1, b9, c9, n9⟩ := field_put h.w0 cell8 rfl w8 1 (by omega) hlv own3.sl.one
 have w9 := b9.wf w8
 obtain ⟨S10, f2, b10, c10, n10⟩ := field_put h.w0 c9 rfl w9 3 (by omega) hbvc own5.sl.one
 have w10 := b10.wf w9
 obtain ⟨S11, f3, b11, c11, n11⟩ := field_put h.w0 c10 rfl w10 2 (by omega) hpvc r4.sl.one
 have w11 := b11.wf w10
 have b811 : But sa S8 S11 := b9.trans (b10.trans b11)
 have hr11 := b811.old _ _ (by omega) hr8
 have hg11 := b811.old _ _ (by omega) hg8
 simp only [r1, dR_ok, nilD_ptr, fa30_1, fa30_3, fa30_2, adv_ptr, st25, f1, st27, f2, st26, f3, fa62_2, fa60_2, ld3]
 have y1 : loadW none (.ptr S.next 0 0 (0 + 5 + 2)) S11 = .ok (.int .i64 p.total.gross) := by rw [load_one _ _ _ _ _ (row_get hr11)]; rfl
 have hbw2 : buildW [.int .i64 0,.int .i64 0,.int .i64 0] [(0, 1), (1, 1), (2, 1)] [(1, .int .i64 num), (2, .int .i64 p.total.gross)] = .ok (.agg (Rep.enc ⟨0, num, p.total.gross⟩)) := rfl
 simp only [y1, dR_ok, bd34, hbw2]
 have out11 : StepOut S0 sa (blkOf x.p) S { s with ser := (takeM s.ser name).1, book := (enterM s.book (entM p.total).1).1, posted := s.posted ++ [{ p with ref := ⟨name, num⟩ }] } ⟨x.t, lv, pv', bv, x.e, x.qs ++ [({ p with ref := ⟨name, num⟩ }, pv)]⟩ S11 := by
  refine ⟨fr8.but w b811 (.inl rfl), c11, ⟨?_, ?_, ?_, ?_, ?_, ?_, ?_⟩, ?_, fun a ha => ?_⟩
  ·exact (slk (sl6 h5.ok.tt (by omega)) (by omega)).but b811.old cell8 (by omega)
  ·exact (slk (sl6 (own3.sl.ext (x4.trans x5)) (by omega)) (by omega)).but b811.old cell8 (by omega)
  ·exact r4.sl.but b811.old cell8 (by omega)
  ·show List.map (fun q : PV => q.1) (x.qs ++ [({ p with ref := ⟨name, num⟩ }, pv)]) = _
   rw [List.map_append, h.ok.q]; rfl
  ·exact fun q hq => (slk (hnew q hq) (by omega)).but b811.old cell8 (by omega)
  ·exact (slk (sl6 own5.sl (by omega)) (by omega)).but b811.old cell8 (by omega)
  ·exact (slk (sl6 h5.ok.ee (by omega)) (by omega)).but b811.old cell8 (by omega)
  ·exact r4.but b811.old b811.next cell8 (by omega)
  ·have ha : blkOf pv' = some a := ha
   rcases r5 with e | e
   ·rw [e] at ha; have := Option.some.inj ha; have := x05.next; exact .inr (by omega)
   ·rw [e] at ha; exact .inl ha
 exact rep_out hg11 rfl w11 _ fun S' b => ⟨rfl, _, out11.but w b hrr hlt hg11 rfl⟩
section
theorem putM_cats {P : List UInt8 → Prop} {l : List Part} {cat : List UInt8} {bp n : Int} (h : ∀ p ∈ l, P p.cat) (hc : P cat) : ∀ p ∈ (putM l cat bp n).1, P p.cat := by
 have hroom : ∀ p ∈ roomPart l cat bp, P p.cat := by
  unfold roomPart
  split
  ·intro p hp
   rcases List.mem_append.1 hp with hp | hp
   ·exact h p (List.mem_of_mem_take hp)
   ·rcases List.mem_cons.1 hp with rfl | hp
    ·exact hc
    ·exact h p (List.mem_of_mem_drop hp)
  ·exact h
 unfold putM
 split
 ·intro p hp; cases hp
 ·rename_i q hq
  intro p hp
  rcases List.mem_or_eq_of_mem_set hp with hp | rfl
  ·exact hroom p hp
  ·exact hroom q (List.mem_of_getElem? hq)
theorem wholeL_cats : ∀ (l : List Part) (st : Int × Int × List Part) (r : Total × Int), runL wholeStep wholeFin l st = r → r.2 = 0 → r.1.parts.map (·.cat) = st.2.2.map (·.cat) ++ l.map (·.cat)
 | [], st, r, h, h0 => by
  subst h
  simp only [runL, wholeFin] at h0 ⊢
  split at h0
  ·rename_i hc; exact absurd h0 hc
  ·rename_i hc; rw [if_neg hc]; simp
 | p :: l, st, r, h, h0 => by
  simp only [runL] at h
  split at h
  ·rename_i r' he
   unfold wholeStep at he
   split at he
   ·cases he; subst h; cases h0
   ·cases he
  ·rename_i st' he
   unfold wholeStep at he
   split at he
   ·cases he
   ·cases he
    rw [wholeL_cats l _ r h h0]
    simp
theorem totL_cats {tab : List Rate} {d : Date} : ∀ (l : List Line) (parts : List Part) (r : Total × Int), (∀ p ∈ parts, nameM p.cat = true) → runL (totStep tab d) wholeM l parts = r → r.2 = 0 → (∀ p ∈ r.1.parts, nameM p.cat = true) ∧ r.1.parts.length ≤ parts.length + l.length
 | [], parts, r, hp, h, h0 => by
  subst h
  simp only [runL] at h0 ⊢
  have := wholeL_cats parts (0, 0, []) _ rfl h0
  simp only [List.map_nil, List.nil_append] at this
  refine ⟨fun p hpm => ?_, ?_⟩
  ·have hm : p.cat ∈ parts.map (·.cat) := by rw [← this]; exact List.mem_map_of_mem hpm
   obtain ⟨q, hq, e⟩ := List.mem_map.1 hm
   rw [← e]; exact hp q hq
  ·have hl := congrArg List.length this
   rw [List.length_map, List.length_map] at hl
   exact Nat.le_of_eq hl
 | x :: l, parts, r, hp, h, h0 => by
  simp only [runL] at h
  split at h
  ·rename_i r' he
   unfold totStep at he
   split at he
   ·rename_i hc; cases he; subst h; exact absurd h0 hc
   ·split at he
    ·rename_i hc; cases he; subst h; exact absurd h0 hc
    ·cases he
  ·rename_i s' he
   unfold totStep at he
   split at he
   ·cases he
   ·rename_i hc
    split at he
    ·cases he
    ·cases he
     have hn : nameM x.cat = true := by
      have hc0 : (lineM tab d x).2.2 = 0 := by omega
      unfold lineM at hc0
      split at hc0
      ·cases hc0
      ·split at hc0
       ·cases hc0
       ·rename_i hh; simpa using hh
     have h1 := putM_len parts x.cat (lineM tab d x).1 (lineM tab d x).2.1
     obtain ⟨h2, h3⟩ := totL_cats l _ r (putM_cats (P := fun c => nameM c = true) hp hn) h h0
     refine ⟨h2, ?_⟩
     simp only [List.length_cons]
     omega
theorem totalM_fit {tab : List Rate} {d : Date} {l : List Line} (h : (totalM tab d l).2 = 0) : (totalM tab d l).1.parts.length ≤ 12 ∧ ∀ q ∈ (totalM tab d l).1.parts, q.cat.length ≤ 1000000 := by
 unfold totalM at h ⊢
 split at h
 ·cases h
 ·rename_i c1
  rw [if_neg c1]
  split at h
  ·cases h
  ·rename_i c2
   rw [if_neg c2]
   split at h
   ·cases h
   ·rename_i c3
    rw [if_neg c3]
    split at h
    ·cases h
    ·rename_i c4
     rw [if_neg c4]
     obtain ⟨h1, h2⟩ := totL_cats l [] _ (fun _ h => by cases h) rfl h
     refine ⟨by simp only [List.length_nil] at h2; omega, fun q hq => by have := nameM_len (h1 q hq); omega⟩
theorem backL_cats : ∀ (l a : List Part) (r : List Part × Int), runL backStep (fun l => (l, 0)) l a = r → r.2 = 0 → r.1.map (·.cat) = a.map (·.cat) ++ l.map (·.cat)
 | [], a, r, h, h0 => by subst h; simp [runL]
 | x :: l, a, r, h, h0 => by
  simp only [runL] at h
  split at h
  ·rename_i r' he
   subst h
   unfold backStep at he
   split at he
   ·rename_i hc; cases he; exact absurd h0 hc
   ·cases he
  ·rename_i a' he
   unfold backStep at he
   split at he
   ·cases he
   ·cases he
    rw [backL_cats l _ r h h0]
    simp
theorem backM_cats (t : Total) (h : (backM t).2 = 0) : (backM t).1.parts.map (·.cat) = t.parts.map (·.cat) := by
 unfold backM at h ⊢
 split at h
 ·rename_i c; exact absurd h c
 ·rename_i c
  rw [if_neg c]
  split at h
  ·rename_i c2; exact absurd h c2
  ·rename_i c2
   rw [if_neg c2]
   have := backL_cats t.parts [] _ rfl (by omega)
   simpa using this
theorem backM_fit {p : Posted} (hf : Fit p) (h : (backM p.total).2 = 0) : (backM p.total).1.parts.length ≤ 12 ∧ ∀ q ∈ (backM p.total).1.parts, q.cat.length ≤ 1000000 := by
 have := backM_cats p.total h
 refine ⟨by have := backM_len p.total; have := hf.1; omega, fun q hq => ?_⟩
 have hm : q.cat ∈ p.total.parts.map (·.cat) := by rw [← this]; exact List.mem_map_of_mem hq
 obtain ⟨q', hq', e⟩ := List.mem_map.1 hm
 rw [← e]; exact hf.2 q' hq'
structure Cmd where
 kind : Int
 series : List UInt8
 limit : Int
 row : Rate
 day : Date
 lines : List Line
 of : Ref
 session : Int
def Cmd.cells (c : Cmd) (lv : V) : List V := [.int .i64 c.kind, .str c.series, .int .i64 c.limit, .str c.row.cat, .int .i64 c.row.day.y, .int .i64 c.row.day.m, .int .i64 c.row.day.d, .int .i64 c.row.bp, .int .i64 c.day.y, .int .i64 c.day.m, .int .i64 c.day.d, lv, .str c.of.ser, .int .i64 c.of.num, .int .i64 c.session]
theorem Cmd.one (c : Cmd) {lv : V} (h : lv.one = true) : allOne (c.cells lv) = true := by
 simp only [Cmd.cells, allOne, List.all_cons, List.all_nil, h, Bool.and_true]
 rfl
section
variable {S : St} {a : Nat} {c : Cmd} {lv : V} (h : getRow S a 0 = .ok (15, [c.cells lv]))
include h
theorem c_kind : loadW none (.ptr a 0 0 (0 + 0)) S = .ok (.int .i64 c.kind) := by rw [load_one _ _ _ _ _ h]; rfl
theorem c_series : loadW none (.ptr a 0 0 (0 + 1)) S = .ok (.str c.series) := by rw [load_one _ _ _ _ _ h]; rfl
theorem c_limit : loadW none (.ptr a 0 0 (0 + 2)) S = .ok (.int .i64 c.limit) := by rw [load_one _ _ _ _ _ h]; rfl
theorem c_row : loadW (some 5) (.ptr a 0 0 (0 + 3)) S = .ok (.agg c.row.enc) := by rw [load_one _ _ _ _ _ h]; rfl
theorem c_day : loadW (some 3) (.ptr a 0 0 (0 + 8)) S = .ok (.agg c.day.enc) := by rw [load_one _ _ _ _ _ h]; rfl
theorem c_lines : loadW none (.ptr a 0 0 (0 + 11)) S = .ok lv := by rw [load_one _ _ _ _ _ h]; rfl
theorem c_of : loadW (some 2) (.ptr a 0 0 (0 + 12)) S = .ok (.agg c.of.enc) := by rw [load_one _ _ _ _ _ h]; rfl
theorem c_session : loadW none (.ptr a 0 0 (0 + 14)) S = .ok (.int .i64 c.session) := by rw [load_one _ _ _ _ _ h]; rfl
theorem c_all : loadW (some 15) (.ptr a 0 0 0) S = .ok (.agg (c.cells lv)) := by rw [load_one _ _ _ _ _ h]; rfl
end
def billM (s : State) (c : Cmd) : State × Rep :=
 if (totalM s.table c.day c.lines).2 ≠ 0 then (s, why (totalM s.table c.day c.lines).2) else issueM s c.series ⟨Ref.zero, c.day, (totalM s.table c.day c.lines).1, Ref.zero, false⟩
theorem StepOut.after {S0 S T U : St} {sa : Nat} {x : SV} {s s' : State} (h : StepIn S0 sa S x s) (y : Ext S T) {x' : SV} (k : StepOut S0 sa (blkOf x.p) T s' x' U) : StepOut S0 sa (blkOf x.p) S s' x' U :=
 ⟨(Fr.of y).trans k.fr, k.cell, k.ok, k.own, fun a ha => (k.pa a ha).imp id fun h => Nat.le_trans y.next h⟩
theorem g72 {S0 S : St} {sa : Nat} {x : SV} {s : State} (h : StepIn S0 sa S x s) (bd : Bnd s) (c : Cmd) {lv : V} (hl : Sl S 4 lv (c.lines.map Line.enc)) :
  Does prog dPl dLv 72 [.ptr sa 0 0 0, .agg (c.cells lv)] S (RepOut S0 sa (blkOf x.p) S (billM s c)) := by
 refine e72 ?_
 have w := h.wf
 have hlt := w _ _ h.cell
 have ho : allOne (c.cells lv) = true := c.one hl.one
 have hcl : (c.cells lv).length = 15 := rfl
 obtain ⟨S1, hn1, x1, hg1, hnx1⟩ := nb w 15 (c.cells lv)
 obtain ⟨S2, hn2, x2, hg2, hnx2⟩ := nb (x1.wf w) 3 [.int .i64 0,.int .i64 0,.int .i64 0]
 have x02 := x1.trans x2
 have h2 := h.step x02
 have hr2 := row_get (x2.old _ _ hg1)
 have hb := (Ext.refl S2).bump 15
 have hnb : (⟨S2.next + 15, S2.heap⟩ : St).next = S2.next + 15 := rfl
 have hfree := free_at h2.wf 15
 simp only [m72, agg_cells, ho, hcl, dIf_true, hn1, hn2, dR_ok, nilD_ptr, fa30_0, fa45_4, fa45_5, adv_ptr, ld24, ld38, ld41, s_t (hb.row (row_get h2.cell)), c_day (hb.row hr2), c_lines (hb.row hr2)]
 obtain ⟨Sb, hSb⟩ : ∃ Sb, Sb = (⟨S2.next + 15, S2.heap⟩ : St) := ⟨_, rfl⟩
 rw [← hSb] at hb hnb ⊢
 have hb2 := h2.step hb
 refine Does.call (g117 x.t lv s.table c.day c.lines Sb hb2.wf hb2.ok.tt (hl.ext (x02.trans hb))) fun u S3 ⟨pv, hu, x3, own3⟩ => ?_
 subst hu
 have x23 := hb.trans x3
 have hto := Total.one (totalM s.table c.day c.lines).1 own3.sl.one
 have hx3n := x3.next
 have x2n : Ext S2 (⟨S3.next, S3.heap.put (S2.next + 12) (.row 0 4 [[.int .i64 0,.int .i64 0,.int .i64 0,.nils]])⟩ : St) := x23.set (by omega) (by omega) h2.wf _
 have hgn : (⟨S3.next, S3.heap.put (S2.next + 12) (.row 0 4 [[.int .i64 0,.int .i64 0,.int .i64 0,.nils]])⟩ : St).heap.get (S2.next + 12) = some (.row 0 4 [[.int .i64 0,.int .i64 0,.int .i64 0,.nils]]) := Tr.get_put_sameB _ _ _ trivial
 obtain ⟨q1, q2⟩ := cell_put (cs := (totalM s.table c.day c.lines).1.cells pv) hgn rfl rfl hto
 have x24 : Ext S2 (⟨S3.next, (S3.heap.put (S2.next + 12) (.row 0 4 [[.int .i64 0,.int .i64 0,.int .i64 0,.nils]])).put (S2.next + 12) (.row 0 4 [(totalM s.table c.day c.lines).1.cells pv])⟩ : St) := x2n.set (by omega) (by show _ < S3.next; omega) h2.wf _
 have own4 : Own Sb (⟨S3.next, (S3.heap.put (S2.next + 12) (.row 0 4 [[.int .i64 0,.int .i64 0,.int .i64 0,.nils]])).put (S2.next + 12) (.row 0 4 [(totalM s.table c.day c.lines).1.cells pv])⟩ : St) 4 pv ((totalM s.table c.day c.lines).1.parts.map Part.enc) := own3.same (Nat.le_refl _) (fun a ha => by
  have := (Own_lt own3 ha).1
  show ((S3.heap.put _ _).put _ _).get a = _
  rw [Tr.get_put_neB _ _ _ _ trivial (by omega), Tr.get_put_neB _ _ _ _ trivial (by omega)])
 have hg4 : (⟨S3.next, (S3.heap.put (S2.next + 12) (.row 0 4 [[.int .i64 0,.int .i64 0,.int .i64 0,.nils]])).put (S2.next + 12) (.row 0 4 [(totalM s.table c.day c.lines).1.cells pv])⟩ : St).heap.get (S2.next + 12) = some (.row 0 4 [(totalM s.table c.day c.lines).1.cells pv]) := Tr.get_put_sameB _ _ _ trivial
 have q1' : storeW 4 (.ptr (S2.next + 12) 0 0 0) (.agg ((totalM s.table c.day c.lines).1.cells pv)) (⟨S3.next, S3.heap.put (S2.next + 12) (.row 0 4 [[.int .i64 0,.int .i64 0,.int .i64 0,.nils]])⟩ : St) = .ok (⟨S3.next, (S3.heap.put (S2.next + 12) (.row 0 4 [[.int .i64 0,.int .i64 0,.int .i64 0,.nils]])).put (S2.next + 12) (.row 0 4 [(totalM s.table c.day c.lines).1.cells pv])⟩ : St) := q1
 simp only [tupD_tup, List.getElem?_cons_zero, List.getElem?_cons_succ, dO_ok, newBlk_at, dR_ok, st60, q1', guard_int, dIf_true, bin_neq]
 obtain ⟨S4, hS4⟩ : ∃ S4, S4 = (⟨S3.next, (S3.heap.put (S2.next + 12) (.row 0 4 [[.int .i64 0,.int .i64 0,.int .i64 0,.nils]])).put (S2.next + 12) (.row 0 4 [(totalM s.table c.day c.lines).1.cells pv])⟩ : St) := ⟨_, rfl⟩
 rw [← hS4] at x24 own4 hg4 ⊢
 have h4 := h2.step x24
 have hgr := x24.old _ _ hg2
 have x04 := x02.trans x24
 unfold billM
 refine Ok.pickN (fun c1 => ?_) (fun c1 => ?_)
 ·rw [if_pos c1]
  exact why_out hgr rfl h4.wf _ fun S' b => ⟨rfl, _, (StepOut.same h x04).but w b (by omega) hlt hgr rfl⟩
 rw [if_neg (by omega)]
 have y1 : loadW (some 4) (.ptr (S2.next + 12) 0 0 0) S4 = .ok (.agg ((totalM s.table c.day c.lines).1.cells pv)) := by rw [load_one _ _ _ _ _ (row_get hg4)]; rfl
 have hr4 := x24.row hr2
 have hpv1 : allOne (V.agg ((totalM s.table c.day c.lines).1.cells pv)).cells = true := hto
 have hbw : buildW [.str [],.int .i64 0,.int .i64 0,.int .i64 0,.int .i64 0,.int .i64 0,.int .i64 0,.int .i64 0,.nils,.str [],.int .i64 0,.bool false] [(0, 2), (2, 3), (5, 4), (9, 2), (11, 1)] [(1, .agg c.day.enc), (2, .agg ((totalM s.table c.day c.lines).1.cells pv))] = .ok (.agg (Posted.cells ⟨Ref.zero, c.day, (totalM s.table c.day c.lines).1, Ref.zero, false⟩ pv)) := by
  simp only [buildW, fillV, hpv1, List.getElem?_cons_succ, List.getElem?_cons_zero]
  rfl
 simp only [fa45_1, fa45_4, adv_ptr, dR_ok, ld9, ld38, ld60, c_series hr4, c_day hr4, y1, bd62, hbw]
 obtain ⟨hf1, hf2⟩ := totalM_fit (by omega : (totalM s.table c.day c.lines).2 = 0)
 refine Does.call (g118 h4 bd c.series ⟨Ref.zero, c.day, (totalM s.table c.day c.lines).1, Ref.zero, false⟩ own4.sl ⟨hf1, hf2⟩) fun u S5 ⟨hu, x', out5⟩ => ?_
 subst hu
 have out5' := StepOut.after h x04 out5
 have hgr5 := out5.fr.old _ _ (by omega) (fun e => by have := (Own_lt h.own e).2; omega) hgr
 exact rep_out hgr5 rfl (out5.fr.wf h4.wf) _ fun S' b => ⟨rfl, _, out5'.but w b (by omega) hlt hgr5 rfl⟩
end
theorem pvarB {S : St} {v : V} {l : List PV} (hs : Sl S 12 v (l.map pvEnc)) (w : WF S) {i : Nat} {q : PV} (hi : l[i]? = some q) :
  ∃ p Sa S', idxW 12 v (.int .i64 (i : Int)) = .ok p ∧ loadW (some 12) p S = .ok (.agg (pvEnc q)) ∧ newBlk none S (.row 0 12 [[.str [],.int .i64 0,.int .i64 0,.int .i64 0,.int .i64 0,.int .i64 0,.int .i64 0,.int .i64 0,.nils,.str [],.int .i64 0,.bool false]]) = .ok (S.next, Sa) ∧
   storeW 12 (.ptr S.next 0 0 0) (.agg (pvEnc q)) Sa = .ok S' ∧ Ext S S' ∧ getRow S' S.next 0 = .ok (12, [q.1.cells q.2]) := by
 obtain ⟨p, S', h1, h2, h3, h4, h5⟩ := pvar hs w hi
 exact ⟨p, _, S', h1, h2, newBlk_none .., h3, h4, h5⟩
def Posted.zero : Posted := ⟨Ref.zero, ⟨0, 0, 0⟩, Total.zero, Ref.zero, false⟩
def setBack (l : List Posted) (k : Nat) : List Posted := match l[k]? with
 | none => l
 | some p => l.set k { p with back := true }
def creditAt (s : State) (c : Cmd) (k : Nat) (p : Posted) : State × Rep :=
 if p.back = true then (s, why 12) else if p.of = Ref.zero then
  (if c.day.right = false then (s, why 9) else if c.day.before p.day = true then (s, why 9) else if (backM p.total).2 ≠ 0 then (s, why (backM p.total).2) else
   if (issueM s c.series ⟨Ref.zero, c.day, (backM p.total).1, c.of, false⟩).2.why = 0 then
    ({ (issueM s c.series ⟨Ref.zero, c.day, (backM p.total).1, c.of, false⟩).1 with posted := setBack (issueM s c.series ⟨Ref.zero, c.day, (backM p.total).1, c.of, false⟩).1.posted k }, (issueM s c.series ⟨Ref.zero, c.day, (backM p.total).1, c.of, false⟩).2)
   else issueM s c.series ⟨Ref.zero, c.day, (backM p.total).1, c.of, false⟩) else (s, why 12)
def creditM (s : State) (c : Cmd) : State × Rep :=
 if postAt s.posted c.of < 0 then (s, why 11) else creditAt s c (postAt s.posted c.of).toNat (s.posted.getD (postAt s.posted c.of).toNat Posted.zero)
theorem issue_posted (s : State) (name : List UInt8) (p : Posted) : ∃ l, (issueM s name p).1.posted = s.posted ++ l := by
 unfold issueM
 repeat' split
 all_goals first | exact ⟨[], (List.append_nil _).symm⟩ | exact ⟨_, rfl⟩
theorem g73 {S0 S : St} {sa : Nat} {x : SV} {s : State} (h : StepIn S0 sa S x s) (bd : Bnd s) (hfit : ∀ p ∈ s.posted, Fit p) (c : Cmd) {lv : V} (hl : Sl S 4 lv (c.lines.map Line.enc)) :
  Does prog dPl dLv 73 [.ptr sa 0 0 0, .agg (c.cells lv)] S (RepOut S0 sa (blkOf x.p) S (creditM s c)) := by
 refine e73 ?_
 have w := h.wf
 have hlt := w _ _ h.cell
 have hql : x.qs.length = s.posted.length := by rw [← h.ok.q, List.length_map]
 have hbp := bd.bp
 have ho : allOne (c.cells lv) = true := c.one hl.one
 have hcl : (c.cells lv).length = 15 := rfl
 obtain ⟨S1, hn1, x1, hg1, hnx1⟩ := nb w 15 (c.cells lv)
 obtain ⟨S2, hn2, x2, hg2, hnx2⟩ := nb (x1.wf w) 3 [.int .i64 0,.int .i64 0,.int .i64 0]
 have x02 := x1.trans x2
 have h2 := h.step x02
 have hr2 := row_get (x2.old _ _ hg1)
 have hb := (Ext.refl S2).bump 8
 simp only [m73, agg_cells, ho, hcl, dIf_true, hn1, hn2, dR_ok, nilD_ptr, fa30_2, fa45_6, adv_ptr, ld26, ld43, s_p (hb.row (row_get h2.cell)), c_of (hb.row hr2)]
 obtain ⟨Sb, hSb⟩ : ∃ Sb, Sb = (⟨S2.next + 8, S2.heap⟩ : St) := ⟨_, rfl⟩
 rw [← hSb] at hb ⊢
 have hb2 := h2.step hb
 refine (g91 x.p x.qs c.of Sb hb2.wf hb2.ok.po hb2.ok.pp (by omega)).call fun S3 x3 => ?_
 rw [hb2.ok.q]
 have x23 := hb.trans x3
 have x03 := x02.trans x23
 have h3 := h2.step x23
 have hg3 := x23.old _ _ hg2
 have hr3 := x23.row hr2
 have hout : ∀ {T : St}, Ext S T → T.heap.get S1.next = some (.row 0 3 [[.int .i64 0,.int .i64 0,.int .i64 0]]) → ∀ (e : Int), ∀ S', But S1.next T S' → RepOut S0 sa (blkOf x.p) S (s, why e) (.agg (Rep.enc ⟨e, 0, 0⟩)) S' := fun xt gt e S' b => ⟨rfl, _, (StepOut.same h xt).but w b (by omega) hlt gt rfl⟩
 simp only [bin_lss, dR_ok]
 unfold creditM
 refine Ok.pickP (fun c1 => ?_) (fun c1 => ?_)
 ·rw [if_pos c1]
  exact why_out hg3 rfl h3.wf _ (hout x03 hg3 _)
 rw [if_neg c1]
 rcases postAt_cases s.posted c.of with hk | ⟨k, p, hk, hf, _⟩
 ·omega
 have hkn : (postAt s.posted c.of).toNat = k := by rw [hk]; rfl
 have hgd : s.posted.getD k Posted.zero = p := by rw [List.getD_eq_getElem?_getD, hf]; rfl
 rw [hkn, hgd, hk]
 have hfq := hf
 rw [← h.ok.q, List.getElem?_map] at hfq
 obtain ⟨q, hq, rfl⟩ : ∃ q, x.qs[k]? = some q ∧ q.1 = p := by
  cases hq : x.qs[k]? with
  | none => rw [hq] at hfq; cases hfq
  | some q => rw [hq] at hfq; exact ⟨q, rfl, Option.some.inj hfq⟩
 have hmem := List.mem_of_getElem? hq
 have hpm := List.mem_of_getElem? hf
 obtain ⟨p4, S4a, S4, hp4, hld, hn4, hst, x4, hr4⟩ := pvarB h3.ok.pp h3.wf hq
 simp only [nilD_ptr, fa30_2, adv_ptr, dR_ok, ld26, s_p (row_get h3.cell), ix26, hp4, ld62, hld, hn4, st62, hst, fa62_4, ld4, p_back hr4]
 have h4 := h3.step x4
 have x04 := x03.trans x4
 have hg4 := x4.old _ _ hg3
 have hr24 := x4.row hr3
 unfold creditAt
 refine Ok.pick (fun c2 => ?_) (fun c2 => ?_)
 ·rw [if_pos c2]
  exact why_out hg4 rfl h4.wf _ (hout x04 hg4 _)
 rw [if_neg (by rw [c2]; simp)]
 simp only [fa62_3, adv_ptr, dR_ok, ld43, p_of hr4, bd43, bd43z, gd43', dIf_true, ref_neq]
 refine Ok.pickN (fun c3 => ?_) (fun c3 => ?_)
 ·rw [if_neg c3]
  exact why_out hg4 rfl h4.wf _ (hout x04 hg4 _)
 rw [if_pos c3]
 simp only [fa45_4, adv_ptr, dR_ok, ld38, c_day hr24]
 refine (g89 c.day S4 h4.wf).call fun S5 x5 => ?_
 have h5 := h4.step x5
 have x05 := x04.trans x5
 have hg5 := x5.old _ _ hg4
 simp only [un_not, dR_ok]
 refine Ok.pick (fun c4 => ?_) (fun c4 => ?_)
 ·rw [if_pos (by simpa using c4)]
  exact why_out hg5 rfl h5.wf _ (hout x05 hg5 _)
 rw [if_neg (by simpa using c4)]
 simp only [fa45_4, fa62_1, adv_ptr, dR_ok, ld38, c_day (x5.row hr24), p_day (x5.row hr4)]
 refine (g119 c.day q.1.day S5 h5.wf).call fun S6 x6 => ?_
 have h6 := h5.step x6
 have x06 := x05.trans x6
 have x46 := x5.trans x6
 have hg6 := x6.old _ _ hg5
 refine Ok.pick (fun c5 => ?_) (fun c5 => ?_)
 ·rw [if_pos c5]
  exact why_out hg6 rfl h6.wf _ (hout x06 hg6 _)
 rw [if_neg (by rw [c5]; simp)]
 have hfq1 := hfit q.1 hpm
 simp only [fa62_2, adv_ptr, dR_ok, ld60, p_total (x46.row hr4)]
 refine Does.call (g120 q.1.total q.2 S6 h6.wf (h6.ok.po q hmem) (by have := hfq1.1; omega)) fun u S7 ⟨pv, hu, x7, own7⟩ => ?_
 subst hu
 have h7 := h6.step x7
 have x07 := x06.trans x7
 have hto := Total.one (backM q.1.total).1 own7.sl.one
 obtain ⟨S8a, S8, hn8, hst8, x8, hg8, hnx8⟩ := vb h7.wf 4 [.int .i64 0,.int .i64 0,.int .i64 0,.nils] (.agg ((backM q.1.total).1.cells pv)) rfl rfl hto
 rw [agg_cells] at hg8
 have h8 := h7.step x8
 have x08 := x07.trans x8
 have x48 := x46.trans (x7.trans x8)
 have hgr8 := x8.old _ _ (x7.old _ _ hg6)
 have hr28 := x48.row hr24
 simp only [tupD_tup, List.getElem?_cons_zero, List.getElem?_cons_succ, dO_ok, hn8, dR_ok, st60, hst8, guard_int, dIf_true, bin_neq]
 refine Ok.pickN (fun c6 => ?_) (fun c6 => ?_)
 ·rw [if_pos c6]
  exact why_out hgr8 rfl h8.wf _ (hout x08 hgr8 _)
 rw [if_neg (by omega)]
 have y1 : loadW (some 4) (.ptr S7.next 0 0 0) S8 = .ok (.agg ((backM q.1.total).1.cells pv)) := by rw [load_one _ _ _ _ _ (row_get hg8)]; rfl
 have hpv1 : allOne (V.agg ((backM q.1.total).1.cells pv)).cells = true := hto
 have hbw : buildW [.str [],.int .i64 0,.int .i64 0,.int .i64 0,.int .i64 0,.int .i64 0,.int .i64 0,.int .i64 0,.nils,.str [],.int .i64 0,.bool false] [(0, 2), (2, 3), (5, 4), (9, 2), (11, 1)] [(1, .agg c.day.enc), (2, .agg ((backM q.1.total).1.cells pv)), (3, .agg c.of.enc)] = .ok (.agg (Posted.cells ⟨Ref.zero, c.day, (backM q.1.total).1, c.of, false⟩ pv)) := by
  simp only [buildW, fillV, hpv1, List.getElem?_cons_succ, List.getElem?_cons_zero]
  rfl
 simp only [fa45_1, fa45_4, fa45_6, adv_ptr, dR_ok, ld9, ld38, ld43, ld60, c_series hr28, c_day hr28, c_of hr28, y1, bd62, hbw]
 obtain ⟨hf1, hf2⟩ := backM_fit hfq1 (by omega)
 obtain ⟨ls, hls⟩ := issue_posted s c.series ⟨Ref.zero, c.day, (backM q.1.total).1, c.of, false⟩
 refine Does.call (g118 h8 bd c.series ⟨Ref.zero, c.day, (backM q.1.total).1, c.of, false⟩ (own7.sl.ext x8) ⟨hf1, hf2⟩) fun u S9 ⟨hu, x', out9⟩ => ?_
 subst hu
 generalize hr : issueM s c.series ⟨Ref.zero, c.day, (backM q.1.total).1, c.of, false⟩ = r at hls out9 ⊢
 have w9 := out9.fr.wf h8.wf
 have hgr9 := out9.fr.old _ _ (by omega) (fun e => by have := (Own_lt h.own e).2; omega) hgr8
 have out9' := StepOut.after h x08 out9
 obtain ⟨S10a, S10, hn10, hst10, x10, hg10, hnx10⟩ := vb w9 3 [.int .i64 0,.int .i64 0,.int .i64 0] (.agg r.2.enc) rfl rfl rfl
 have hg10 : S10.heap.get S9.next = some (.row 0 3 [r.2.enc]) := hg10
 have out10 : StepOut S0 sa (blkOf x.p) S r.1 x' S10 := ⟨out9'.fr.ext x10, x10.old _ _ out9'.cell, out9'.ok.ext x10, out9'.own.ext x10, out9'.pa⟩
 have w10 := x10.wf w9
 have hgr10 := x10.old _ _ hgr9
 have y2 : loadW none (.ptr S9.next 0 0 (0 + 0)) S10 = .ok (.int .i64 r.2.why) := by rw [load_one _ _ _ _ _ (row_get hg10)]; rfl
 have y3 : loadW (some 3) (.ptr S9.next 0 0 0) S10 = .ok (.agg r.2.enc) := by rw [load_one _ _ _ _ _ (row_get hg10)]; rfl
 simp only [hn10, dR_ok, st34 (.ptr S9.next 0 0 0), hst10, fa34_0, adv_ptr, ld32, y2, guard_int, dIf_true, bin_eql]
 refine Ok.pickP (fun c7 => ?_) (fun c7 => ?_)
 ·rw [if_pos c7]
  have hql' : x'.qs.length = r.1.posted.length := by rw [← out10.ok.q, List.length_map]
  have hkl : k < s.posted.length := (List.getElem?_eq_some_iff.1 hf).1
  have hfr : r.1.posted[k]? = some q.1 := by rw [hls, List.getElem?_append_left hkl]; exact hf
  have hfr' := hfr
  rw [← out10.ok.q, List.getElem?_map] at hfr'
  obtain ⟨q', hq', hqe⟩ : ∃ q', x'.qs[k]? = some q' ∧ q'.1 = q.1 := by
   cases hq' : x'.qs[k]? with
   | none => rw [hq'] at hfr'; cases hfr'
   | some q' => rw [hq'] at hfr'; exact ⟨q', rfl, Option.some.inj hfr'⟩
  have hge : (x'.qs.map pvEnc)[k]? = some (pvEnc q') := by rw [List.getElem?_map, hq']; rfl
  have x0' : Ext S0 S10 := out10.fr.back h.w0 h.ext h.sa0 h.pa
  obtain ⟨a, ver, hva, ha0, ha1, hidx, hat, hset⟩ := out10.own.setK x0' h.w0 hge .i64
  obtain ⟨S11, d1, d2, d3, d4, d5, d6⟩ := hset (0 + 11) 1 (.bool true) rfl rfl (by omega)
  have hpe : (x'.qs.map pvEnc).set k (splice (pvEnc q') (0 + 11) (V.bool true).cells) = (x'.qs.set k ({ q.1 with back := true }, q'.2)).map pvEnc := by
   rw [List.map_set, ← hqe]; rfl
  rw [hpe] at d4
  have hra : ∃ el, S10.heap.get a = some (.row ver 12 el) := by
   rcases out10.own.is with ⟨e1, _⟩ | ⟨a', ver', tl, e1, _, _, e4⟩
   ·rw [hva] at e1; cases e1
   ·rw [hva] at e1; cases e1; exact ⟨_, e4⟩
  obtain ⟨el, hra⟩ := hra
  have bt : ∀ y c, y ≠ a → S10.heap.get y = some c → S11.heap.get y = some c := fun y c hy h => by rw [d5 y hy]; exact h
  have hbut : But a S10 S11 := ⟨bt, by omega, d6⟩
  have hapa : blkOf x.p = some a ∨ S.next ≤ a := out10.pa a (by rw [hva]; rfl)
  have hne1 : S1.next ≠ a := fun e => by rw [e, hra] at hgr10; cases hgr10
  have hne2 : S9.next ≠ a := fun e => by rw [e, hra] at hg10; cases hg10
  have hne3 : sa ≠ a := fun e => by have := out10.cell; rw [e, hra] at this; cases this
  have hgr11 := bt _ _ hne1 hgr10
  have y3' : loadW (some 3) (.ptr S9.next 0 0 0) S11 = .ok (.agg r.2.enc) := by rw [load_one _ _ _ _ _ (row_get (bt _ _ hne2 hg10))]; rfl
  have w11 := d6 w10
  simp only [nilD_ptr, fa30_2, adv_ptr, dR_ok, ld26, s_p (row_get out10.cell), ix26, hidx, fa62_4, st4, d1, ld34 (.ptr S9.next 0 0 0) S11, y3']
  have hsb : setBack r.1.posted k = r.1.posted.set k { q.1 with back := true } := by unfold setBack; rw [hfr]
  have out11 : StepOut S0 sa (blkOf x.p) S { r.1 with posted := setBack r.1.posted k } { x' with qs := x'.qs.set k ({ q.1 with back := true }, q'.2) } S11 := by
   refine ⟨out10.fr.but w hbut (hapa.elim (fun e => .inr (.inl e)) (fun e => .inr (.inr e))), bt _ _ hne3 out10.cell, ⟨out10.ok.tt.but bt hra (by omega), out10.ok.ss.but bt hra (by omega), d4.sl, ?_, fun q2 hq2 => ?_, out10.ok.bb.but bt hra (by omega), out10.ok.ee.but bt hra (by omega)⟩, d4, out10.pa⟩
   ·show List.map (fun q : PV => q.1) (x'.qs.set k ({ q.1 with back := true }, q'.2)) = setBack r.1.posted k
    rw [hsb, List.map_set, out10.ok.q]
   ·rcases List.mem_or_eq_of_mem_set hq2 with hq2 | rfl
    ·exact (out10.ok.po q2 hq2).but bt hra (by omega)
    ·have := (out10.ok.po q' (List.mem_of_getElem? hq')).but bt hra (by omega)
     rw [hqe] at this
     exact this
  exact rep_out hgr11 rfl w11 _ fun S' b => ⟨rfl, _, out11.but w b (by omega) hlt hgr11 rfl⟩
 ·rw [if_neg c7]
  simp only [ld34 (.ptr S9.next 0 0 0) S10, y3, dR_ok]
  exact rep_out hgr10 rfl w10 _ fun S' b => ⟨rfl, _, out10.but w b (by omega) hlt hgr10 rfl⟩
def keptSer (s : State) (r : List Ser × Int) : State × Rep := if r.2 = 0 then ({ s with ser := r.1 }, why r.2) else (s, why r.2)
def keptTab (s : State) (r : List Rate × Int) : State × Rep := if r.2 = 0 then ({ s with table := r.1 }, why r.2) else (s, why r.2)
def keptSess (s : State) (r : List Sess × Int) : State × Rep := if r.2 = 0 then ({ s with sess := r.1 }, why r.2) else (s, why r.2)
def doM (s : State) (c : Cmd) : State × Rep :=
 if c.kind = 1 then keptSer s (openSer s.ser c.series c.limit) else if c.kind = 2 then keptSer s (shutM s.ser c.series) else if c.kind = 3 then keptTab s (putRate s.table c.row) else
  if c.kind = 4 then billM s c else if c.kind = 5 then creditM s c else if c.kind = 7 then keptSess s (leaveM s.sess c.session) else (s, askM s c.series)
theorem do_out {S0 S T : St} {sa : Nat} {x : SV} {s : State} (h : StepIn S0 sa S x s) (y : Ext S T) {f : FuncId} {args : List V} {r : State × Rep} (d : Does prog dPl dLv f args T (RepOut S0 sa (blkOf x.p) T r)) {rr : Nat} {zs : List V}
  (hg : T.heap.get rr = some (.row 0 3 [zs])) (hz : zs.length = 3) (hrr : S.next ≤ rr) :
  Ok (fun k K => callD prog dPl dLv k f args T fun t S1 => dR (storeV prog 34 (.ptr rr 0 0 0) t S1) fun S' => dR (loadV prog 34 (.ptr rr 0 0 0) S') fun u => K u S') (RepOut S0 sa (blkOf x.p) S r) := by
 refine Does.call d fun u S1 ⟨hu, x', out⟩ => ?_
 subst hu
 have w := h.wf
 have hlt := w _ _ h.cell
 have hg1 := out.fr.old _ _ (by omega) (fun e => by have := (Own_lt h.own e).2; omega) hg
 have out' := StepOut.after h y out
 exact rep_out hg1 hz (out.fr.wf (y.wf w)) _ fun S' b => ⟨rfl, _, out'.but w b hrr hlt hg1 rfl⟩
theorem g35 {S0 S : St} {sa : Nat} {x : SV} {s : State} (h : StepIn S0 sa S x s) (bd : Bnd s) (hfit : ∀ p ∈ s.posted, Fit p) (c : Cmd) {lv : V} (hl : Sl S 4 lv (c.lines.map Line.enc)) :
  Does prog dPl dLv 35 [.ptr sa 0 0 0, .agg (c.cells lv)] S (RepOut S0 sa (blkOf x.p) S (doM s c)) := by
 refine e35 ?_
 have w := h.wf
 have hlt := w _ _ h.cell
 have ho : allOne (c.cells lv) = true := c.one hl.one
 have hcl : (c.cells lv).length = 15 := rfl
 obtain ⟨S1, hn1, x1, hg1, hnx1⟩ := nb w 15 (c.cells lv)
 obtain ⟨S2, hn2, x2, hg2, hnx2⟩ := nb (x1.wf w) 3 [.int .i64 0,.int .i64 0,.int .i64 0]
 have x02 := x1.trans x2
 have h2 := h.step x02
 have hr2 := row_get (x2.old _ _ hg1)
 have hrr : S.next ≤ S1.next := by omega
 have hbs := bd.bs
 have hbb := bd.bb
 simp only [m35, agg_cells, ho, hcl, dIf_true, hn1, hn2, dR_ok, nilD_ptr, fa45_0, adv_ptr, ld3 (.ptr S.next 0 0 (0 + 0)) S2, c_kind hr2, guard_int, bin_eql]
 have bump : ∀ n, Ext S2 (⟨S2.next + n, S2.heap⟩ : St) := fun n => (Ext.refl S2).bump n
 unfold doM
 refine Ok.pickP (fun c1 => ?_) (fun c1 => ?_)
 ·rw [if_pos c1]
  have hb := bump 14
  simp only [fa30_1, fa45_1, fa45_2, adv_ptr, dR_ok, ld25, ld9, ld3, s_s (hb.row (row_get h2.cell)), c_series (hb.row hr2), c_limit (hb.row hr2)]
  refine Does.call (g67 x.s s.ser c.series c.limit _ (h2.step hb).wf (h2.step hb).ok.ss) fun u S3 ⟨v, hu, x3, own3⟩ => ?_
  subst hu
  have h3 := h2.step (hb.trans x3)
  simp only [tupD_tup, List.getElem?_cons_zero, List.getElem?_cons_succ, dO_ok]
  refine do_out h (x02.trans (hb.trans x3)) ?_ ((hb.trans x3).old _ _ hg2) rfl hrr
  exact g68 h3 own3.sl _
 rw [if_neg c1]
 refine Ok.pickP (fun c2 => ?_) (fun c2 => ?_)
 ·rw [if_pos c2]
  have hb := bump 12
  simp only [fa30_1, fa45_1, fa45_2, adv_ptr, dR_ok, ld25, ld9, ld3, s_s (hb.row (row_get h2.cell)), c_series (hb.row hr2)]
  refine Does.call (g69 x.s s.ser c.series _ (h2.step hb).wf (h2.step hb).ok.ss) fun u S3 ⟨v, hu, x3, own3⟩ => ?_
  subst hu
  have h3 := h2.step (hb.trans x3)
  simp only [tupD_tup, List.getElem?_cons_zero, List.getElem?_cons_succ, dO_ok]
  refine do_out h (x02.trans (hb.trans x3)) ?_ ((hb.trans x3).old _ _ hg2) rfl hrr
  exact g68 h3 own3.sl _
 rw [if_neg c2]
 refine Ok.pickP (fun c3 => ?_) (fun c3 => ?_)
 ·rw [if_pos c3]
  have hb := bump 12
  simp only [fa30_0, fa45_3, adv_ptr, dR_ok, ld24, ld40, s_t (hb.row (row_get h2.cell)), c_row (hb.row hr2)]
  refine Does.call (g70 x.t s.table c.row _ (h2.step hb).wf (h2.step hb).ok.tt) fun u S3 ⟨v, hu, x3, own3⟩ => ?_
  subst hu
  have h3 := h2.step (hb.trans x3)
  simp only [tupD_tup, List.getElem?_cons_zero, List.getElem?_cons_succ, dO_ok]
  refine do_out h (x02.trans (hb.trans x3)) ?_ ((hb.trans x3).old _ _ hg2) rfl hrr
  exact g71 h3 own3.sl _
 rw [if_neg c3]
 refine Ok.pickP (fun c4 => ?_) (fun c4 => ?_)
 ·rw [if_pos c4]
  simp only [ld45, c_all hr2, dR_ok]
  exact do_out h x02 (g72 h2 bd c (hl.ext x02)) hg2 rfl hrr
 rw [if_neg c4]
 refine Ok.pickP (fun c5 => ?_) (fun c5 => ?_)
 ·rw [if_pos c5]
  simp only [ld45, c_all hr2, dR_ok]
  exact do_out h x02 (g73 h2 bd hfit c (hl.ext x02)) hg2 rfl hrr
 rw [if_neg c5]
 refine Ok.pickP (fun c7 => ?_) (fun c7 => ?_)
 ·rw [if_pos c7]
  have hb := bump 12
  simp only [fa30_4, fa45_7, adv_ptr, dR_ok, ld28, ld3, s_e (hb.row (row_get h2.cell)), c_session (hb.row hr2)]
  refine Does.call (g74 x.e s.sess c.session _ (h2.step hb).wf (h2.step hb).ok.ee) fun u S3 ⟨v, hu, x3, own3⟩ => ?_
  subst hu
  have h3 := h2.step (hb.trans x3)
  simp only [tupD_tup, List.getElem?_cons_zero, List.getElem?_cons_succ, dO_ok]
  refine do_out h (x02.trans (hb.trans x3)) ?_ ((hb.trans x3).old _ _ hg2) rfl hrr
  exact g75 h3 own3.sl _
 rw [if_neg c7]
 simp only [fa45_1, adv_ptr, dR_ok, ld9, c_series hr2]
 exact do_out h x02 (g76 h2 c.series (by omega) (by omega)) hg2 rfl hrr
def ApplyOut (S0 : St) (r : State × Rep) (u : V) (S' : St) : Prop := ∃ x', u = .tup [.agg (x'.cells r.1.next), .agg r.2.enc] ∧ Ext S0 S' ∧ StOK S' x' r.1
theorem two_out {S0 S : St} (w0 : WF S0) (x0 : Ext S0 S) {p4 p5 : Nat} {z4 z5 : List V} (h4 : S.heap.get p4 = some (.row 0 6 [z4])) (hz4 : z4.length = 6) (h5 : S.heap.get p5 = some (.row 0 3 [z5])) (hz5 : z5.length = 3) (h40 : S0.next ≤ p4) (h50 : S0.next ≤ p5)
  {x : SV} {s : State} (ok : StOK S x s) (r : Rep) :
  Ok (fun k K => dR (storeV prog 30 (.ptr p4 0 0 0) (.agg (x.cells s.next)) S) fun S24 => dR (storeV prog 34 (.ptr p5 0 0 0) (.agg r.enc) S24) fun S25 => dR (loadV prog 30 (.ptr p4 0 0 0) S25) fun t26 => dR (loadV prog 34 (.ptr p5 0 0 0) S25) fun t27 => K (.tup [t26, t27]) S25) (ApplyOut S0 (s, r)) := by
 have hne : p4 ≠ p5 := fun e => by rw [e, h5] at h4; cases h4
 have w := x0.wf w0
 obtain ⟨q1, _⟩ := cell_put (cs := x.cells s.next) h4 hz4 rfl (ok.one _)
 have b1 : But p4 S (⟨S.next, S.heap.put p4 (.row 0 6 [x.cells s.next])⟩ : St) := But.put (w _ _ h4) _
 have h5' := b1.old _ _ (Ne.symm hne) h5
 have h4' : (⟨S.next, S.heap.put p4 (.row 0 6 [x.cells s.next])⟩ : St).heap.get p4 = some (.row 0 6 [x.cells s.next]) := Tr.get_put_sameB _ _ _ trivial
 have ok1 := ok.but b1 h4 (.inl rfl)
 have x1 : Ext S0 (⟨S.next, S.heap.put p4 (.row 0 6 [x.cells s.next])⟩ : St) := x0.set h40 (w _ _ h4) w0 _
 simp only [st30, q1, dR_ok]
 generalize (⟨S.next, S.heap.put p4 (.row 0 6 [x.cells s.next])⟩ : St) = S1 at b1 h5' h4' ok1 x1
 obtain ⟨q2, q3⟩ := cell_put (cs := r.enc) h5' hz5 rfl rfl
 have w1 := x1.wf w0
 have b2 : But p5 S1 (⟨S1.next, S1.heap.put p5 (.row 0 3 [r.enc])⟩ : St) := But.put (w1 _ _ h5') _
 have h4'' := b2.old _ _ hne h4'
 have ok2 := ok1.but b2 h5' (.inr (.inl rfl))
 have x2 : Ext S0 (⟨S1.next, S1.heap.put p5 (.row 0 3 [r.enc])⟩ : St) := x1.set h50 (w1 _ _ h5') w0 _
 simp only [st34, q2, dR_ok, ld30, s_all (row_get h4''), ld34, q3]
 exact Ok.ret ⟨x, rfl, x2, ok2⟩
theorem why2 {S0 S : St} (w0 : WF S0) (x0 : Ext S0 S) {p2 p4 p5 : Nat} {z4 z5 : List V} {x : SV} {s : State} (h2 : S.heap.get p2 = some (.row 0 6 [x.cells s.next])) (h4 : S.heap.get p4 = some (.row 0 6 [z4])) (hz4 : z4.length = 6) (h5 : S.heap.get p5 = some (.row 0 3 [z5])) (hz5 : z5.length = 3) (h40 : S0.next ≤ p4) (h50 : S0.next ≤ p5)
  (ok : StOK S x s) (hq : beqV (.agg (x.cells s.next)) (.agg (x.cells s.next)) = true) (c : Nat) (e : Int) :
  Ok (fun k K => dR (loadV prog 30 (.ptr p2 0 0 0) (⟨S.next + c, S.heap⟩ : St)) fun t20 => callD prog dPl dLv k 32 [.int .i64 e] (⟨S.next + c, S.heap⟩ : St) fun t21 S22 => dR (loadV prog 30 (.ptr p2 0 0 0) S22) fun t23 =>
   dIf (beqV t20 t23) (dR (storeV prog 30 (.ptr p4 0 0 0) t20 S22) fun S24 => dR (storeV prog 34 (.ptr p5 0 0 0) t21 S24) fun S25 => dR (loadV prog 30 (.ptr p4 0 0 0) S25) fun t26 => dR (loadV prog 34 (.ptr p5 0 0 0) S25) fun t27 => K (.tup [t26, t27]) S25)) (ApplyOut S0 (s, why e)) := by
 have hb := (Ext.refl S).bump c
 simp only [ld30 (.ptr p2 0 0 0) (⟨S.next + c, S.heap⟩ : St), s_all (hb.row (row_get h2)), dR_ok]
 refine (g32 e _ ((x0.trans hb).wf w0)).call fun S1 x1 => ?_
 have y := hb.trans x1
 simp only [ld30 (.ptr p2 0 0 0) S1, s_all (y.row (row_get h2)), dR_ok, hq, dIf_true]
 exact two_out w0 (x0.trans y) (y.old _ _ h4) hz4 (y.old _ _ h5) hz5 h40 h50 (ok.ext y) _
theorem end2 {S0 S : St} (w0 : WF S0) (x0 : Ext S0 S) {p2 p4 p5 p9 : Nat} {z4 z5 : List V} {x : SV} {s : State} {r : Rep} (h2 : S.heap.get p2 = some (.row 0 6 [x.cells s.next])) (h4 : S.heap.get p4 = some (.row 0 6 [z4])) (hz4 : z4.length = 6) (h5 : S.heap.get p5 = some (.row 0 3 [z5])) (hz5 : z5.length = 3) (h40 : S0.next ≤ p4) (h50 : S0.next ≤ p5)
  (h9 : S.heap.get p9 = some (.row 0 3 [r.enc])) (h95 : p9 ≠ p5) (ok : StOK S x s) (c : Nat) :
  Ok (fun k K => dR (loadV prog 30 (.ptr p2 0 0 0) (⟨S.next + c, S.heap⟩ : St)) fun t76 => dR (loadV prog 34 (.ptr p9 0 0 0) (⟨S.next + c, S.heap⟩ : St)) fun t77 => dR (storeV prog 30 (.ptr p4 0 0 0) t76 (⟨S.next + c, S.heap⟩ : St)) fun S78 =>
   dR (loadV prog 34 (.ptr p9 0 0 0) S78) fun t79 => dIf (beqV t77 t79) (dR (storeV prog 34 (.ptr p5 0 0 0) t77 S78) fun S80 => dR (loadV prog 30 (.ptr p4 0 0 0) S80) fun t81 => dR (loadV prog 34 (.ptr p5 0 0 0) S80) fun t82 => K (.tup [t81, t82]) S80)) (ApplyOut S0 (s, r)) := by
 have hb := (Ext.refl S).bump c
 have xb := x0.trans hb
 have okb := ok.ext hb
 have h2b := hb.old _ _ h2
 have h4b := hb.old _ _ h4
 have h5b := hb.old _ _ h5
 have h9b := hb.old _ _ h9
 generalize (⟨S.next + c, S.heap⟩ : St) = Sb at xb okb h2b h4b h5b h9b
 have hne : p4 ≠ p5 := fun e => by rw [e, h5b] at h4b; cases h4b
 have hne9 : p9 ≠ p4 := fun e => by rw [e, h4b] at h9b; cases h9b
 have w := xb.wf w0
 obtain ⟨q1, _⟩ := cell_put (cs := x.cells s.next) h4b hz4 rfl (okb.one _)
 have b1 : But p4 Sb (⟨Sb.next, Sb.heap.put p4 (.row 0 6 [x.cells s.next])⟩ : St) := But.put (w _ _ h4b) _
 have h5' := b1.old _ _ (Ne.symm hne) h5b
 have h9' := b1.old _ _ hne9 h9b
 have h4' : (⟨Sb.next, Sb.heap.put p4 (.row 0 6 [x.cells s.next])⟩ : St).heap.get p4 = some (.row 0 6 [x.cells s.next]) := Tr.get_put_sameB _ _ _ trivial
 have ok1 := okb.but b1 h4b (.inl rfl)
 have x1 : Ext S0 (⟨Sb.next, Sb.heap.put p4 (.row 0 6 [x.cells s.next])⟩ : St) := xb.set h40 (w _ _ h4b) w0 _
 have y9 : loadW (some 3) (.ptr p9 0 0 0) Sb = .ok (.agg r.enc) := by rw [load_one _ _ _ _ _ (row_get h9b)]; rfl
 simp only [ld30 (.ptr p2 0 0 0) Sb, s_all (row_get h2b), dR_ok, ld34 (.ptr p9 0 0 0), y9, st30, q1]
 generalize (⟨Sb.next, Sb.heap.put p4 (.row 0 6 [x.cells s.next])⟩ : St) = S1 at b1 h5' h4' h9' ok1 x1
 have y9' : loadW (some 3) (.ptr p9 0 0 0) S1 = .ok (.agg r.enc) := by rw [load_one _ _ _ _ _ (row_get h9')]; rfl
 obtain ⟨q2, q3⟩ := cell_put (cs := r.enc) h5' hz5 rfl rfl
 have w1 := x1.wf w0
 have b2 : But p5 S1 (⟨S1.next, S1.heap.put p5 (.row 0 3 [r.enc])⟩ : St) := But.put (w1 _ _ h5') _
 have h4'' := b2.old _ _ hne h4'
 have ok2 := ok1.but b2 h5' (.inr (.inl rfl))
 have x2 : Ext S0 (⟨S1.next, S1.heap.put p5 (.row 0 3 [r.enc])⟩ : St) := x1.set h50 (w1 _ _ h5') w0 _
 simp only [y9', dR_ok, beqV_rep, dIf_true, st34, q2, ld30, s_all (row_get h4''), ld34, q3]
 exact Ok.ret ⟨x, rfl, x2, ok2⟩
section
def joinTop (s : State) : State × Rep :=
 if 8 ≤ s.sess.length ∨ 1099511627776 ≤ s.next then (s, why 14) else if (joinM s.sess s.next).2 ≠ 0 then (s, why (joinM s.sess s.next).2) else
  ({ s with sess := (joinM s.sess s.next).1, next := wr .i64 (s.next + 1) }, ⟨0, s.next, 0⟩)
theorem g33 (x : SV) (s : State) (S : St) (w : WF S) (ok : StOK S x s) (hq : beqV (.agg (x.cells s.next)) (.agg (x.cells s.next)) = true) : Does prog dPl dLv 33 [.agg (x.cells s.next)] S (ApplyOut S (joinTop s)) := by
 refine e33 ?_
 have ho := ok.one s.next
 have hl : (x.cells s.next).length = 6 := rfl
 obtain ⟨S1, hn1, x1, hg1, hnx1⟩ := nb w 6 (x.cells s.next)
 obtain ⟨S2, hn2, x2, hg2, hnx2⟩ := nb (x1.wf w) 6 [.nils,.nils,.nils,.nils,.nils,.int .i64 0]
 obtain ⟨S3, hn3, x3, hg3, hnx3⟩ := nb ((x1.trans x2).wf w) 3 [.int .i64 0,.int .i64 0,.int .i64 0]
 have x03 := x1.trans (x2.trans x3)
 have w3 := x03.wf w
 have ok3 := ok.ext x03
 have hg1' := (x2.trans x3).old _ _ hg1
 have hg2' := x3.old _ _ hg2
 have h1n : S.next ≤ S1.next := by omega
 have h2n : S.next ≤ S2.next := by omega
 have j0 : ∀ (p : Prop) [Decidable p] (he : (if p then (s, why 14) else if (joinM s.sess s.next).2 ≠ 0 then (s, why (joinM s.sess s.next).2) else ({ s with sess := (joinM s.sess s.next).1, next := wr .i64 (s.next + 1) }, ⟨0, s.next, 0⟩)) = joinTop s),
   Ok (fun k K => m33_j0 (callD prog dPl dLv k) k K (.ptr S.next 0 0 0) (.ptr S1.next 0 0 0) (.ptr S2.next 0 0 0) (.bool (decide p)) S3) (ApplyOut S (joinTop s)) := by
  intro p _ he
  rw [← he]
  simp only [m33_j0]
  refine Ok.pickP (fun c1 => ?_) (fun c1 => ?_)
  ·rw [if_pos c1]
   exact why2 w x03 hg1' hg2' rfl hg3 rfl h1n h2n ok3 hq 4 14
  rw [if_neg c1]
  simp only [fa30_4, fa30_5, adv_ptr, dR_ok, ld28 (.ptr S.next 0 0 (0 + 4)) S3, s_e (row_get hg1'), ld3 (.ptr S.next 0 0 (0 + 5)) S3, s_n (row_get hg1')]
  refine Does.call (g64 x.e s.sess s.next S3 w3 ok3.ee) fun u S4 ⟨ev, hu, x4, own4⟩ => ?_
  subst hu
  have x04 := x03.trans x4
  have ok4 := ok3.ext x4
  have w4 := x04.wf w
  have g1 := x4.old _ _ hg1'
  have g2 := x4.old _ _ hg2'
  have g3 := x4.old _ _ hg3
  simp only [tupD_tup, List.getElem?_cons_zero, List.getElem?_cons_succ, dO_ok, guard_int, dIf_true, bin_neq, dR_ok]
  refine Ok.pickN (fun c2 => ?_) (fun c2 => ?_)
  ·rw [if_pos c2]
   exact why2 w x04 g1 g2 rfl g3 rfl h1n h2n ok4 hq 5 _
  rw [if_neg (by omega)]
  have hbw : buildW [.int .i64 0,.int .i64 0,.int .i64 0] [(0, 1), (1, 1), (2, 1)] [(1, .int .i64 s.next)] = .ok (.agg (Rep.enc ⟨0, s.next, 0⟩)) := rfl
  obtain ⟨S5a, S5, hn5, hst5, x5, hg5, hnx5⟩ := vb w4 3 [.int .i64 0,.int .i64 0,.int .i64 0] (.agg (Rep.enc ⟨0, s.next, 0⟩)) rfl rfl rfl
  have hg5 : S5.heap.get S4.next = some (.row 0 3 [Rep.enc ⟨0, s.next, 0⟩]) := hg5
  have x05 := x04.trans x5
  have w5 := x05.wf w
  have g51 := x5.old _ _ g1
  have hec := slices_cells own4.sl
  obtain ⟨S6, f1, b6, c6, n6⟩ := field_put w g51 rfl w5 4 (by omega) hec own4.sl.one
  have w6 := b6.wf w5
  have y6 : loadW none (.ptr S.next 0 0 (0 + 5)) S6 = .ok (.int .i64 s.next) := by rw [load_one _ _ _ _ _ (row_get c6)]; rfl
  obtain ⟨S7, f2, b7, c7, n7⟩ := field_put w c6 rfl w6 5 (by omega) (v := .int .i64 (wr .i64 (s.next + 1))) rfl rfl
  have b57 : But S.next S5 S7 := b6.trans b7
  have hlt1 : S.next < S1.next := by omega
  have c7 : S7.heap.get S.next = some (.row 0 6 [SV.cells { x with e := ev } (wr .i64 (s.next + 1))]) := c7
  simp only [ld3 (.ptr S.next 0 0 (0 + 5)) S4, s_n (row_get g1), dR_ok, bd34, hbw, hn5, st34 (.ptr S4.next 0 0 0), hst5, st28, f1, ld3 (.ptr S.next 0 0 (0 + 5)) S6, y6, bin_add, st3, f2]
  have ok5 := ok4.ext x5
  have okb := ok5.but b57 g51 (.inl rfl)
  have hx4n := x4.next
  exact end2 (s := { s with sess := (joinM s.sess s.next).1, next := wr .i64 (s.next + 1) }) (x := { x with e := ev }) w (b57.ext w x05 (Nat.le_refl _)) c7 (b57.old _ _ (by omega) (x5.old _ _ g2)) rfl (b57.old _ _ (by omega) (x5.old _ _ g3)) rfl h1n h2n (b57.old _ _ (by omega) hg5) (by omega)
   { okb with ee := (own4.sl.ext x5).but b57.old g51 (by omega) } 4
 simp only [m33, agg_cells, ho, hl, dIf_true, hn1, hn2, hn3, dR_ok, fa30_4, fa30_5, adv_ptr, ld28, s_e (row_get hg1'), len28, ok3.ee.lenI, bin_geq]
 refine Ok.pickP (fun c1 => ?_) (fun c1 => ?_)
 ·have : (V.bool true) = .bool (decide True) := by simp
  rw [this]
  refine j0 True ?_
  unfold joinTop
  rw [if_pos trivial, if_pos (.inl (by omega))]
 ·simp only [ld3, s_n (row_get hg1'), dR_ok]
  refine j0 (1099511627776 ≤ s.next) ?_
  unfold joinTop
  by_cases c2 : 1099511627776 ≤ s.next
  ·rw [if_pos c2, if_pos (.inr c2)]
  ·rw [if_neg c2, if_neg (fun e : 8 ≤ s.sess.length ∨ 1099511627776 ≤ s.next => e.elim (fun h => c1 (by omega)) c2)]
structure Call where
 session : Int
 seq : Int
 cmd : Cmd
def Call.cells (c : Call) (lv : V) : List V := [.int .i64 c.session, .int .i64 c.seq] ++ c.cmd.cells lv
theorem Call.one (c : Call) {lv : V} (h : lv.one = true) : allOne (c.cells lv) = true := by
 have := c.cmd.one h
 simp only [Call.cells, allOne, List.all_append, List.all_cons, List.all_nil, Bool.and_true] at this ⊢
 rw [this]; rfl
section
variable {S : St} {a : Nat} {c : Call} {lv : V} (h : getRow S a 0 = .ok (17, [c.cells lv]))
include h
theorem k_session : loadW none (.ptr a 0 0 (0 + 0)) S = .ok (.int .i64 c.session) := by rw [load_one _ _ _ _ _ h]; rfl
theorem k_seq : loadW none (.ptr a 0 0 (0 + 1)) S = .ok (.int .i64 c.seq) := by rw [load_one _ _ _ _ _ h]; rfl
theorem k_kind : loadW none (.ptr a 0 0 (0 + 2 + 0)) S = .ok (.int .i64 c.cmd.kind) := by rw [load_one _ _ _ _ _ h]; rfl
theorem k_cmd : loadW (some 15) (.ptr a 0 0 (0 + 2)) S = .ok (.agg (c.cmd.cells lv)) := by rw [load_one _ _ _ _ _ h]; rfl
theorem k_all : loadW (some 17) (.ptr a 0 0 0) S = .ok (.agg (c.cells lv)) := by rw [load_one _ _ _ _ _ h]; rfl
end
def keepTop (r : State × Rep) (c : Call) : State × Rep := if (keepM r.1.sess c.session c.seq r.2).2 = 0 then ({ r.1 with sess := (keepM r.1.sess c.session c.seq r.2).1 }, r.2) else r
def applyM (s : State) (c : Call) : State × Rep :=
 if rightM s = false then (s, why 1) else if c.cmd.kind < 1 ∨ 8 < c.cmd.kind then (s, why 17) else if c.cmd.kind = 6 then joinTop s else
  if (lookM s.sess c.session c.seq).2.2 ≠ 0 then (s, why (lookM s.sess c.session c.seq).2.2) else if (lookM s.sess c.session c.seq).2.1 = true then (s, (lookM s.sess c.session c.seq).1) else keepTop (doM s c.cmd) c
theorem rightM_posted {s : State} (h : rightM s = true) : postedM s.posted = true := by
 unfold rightM at h
 repeat' split at h
 all_goals first | cases h | skip
 rename_i h4 _ _
 simpa using h4
theorem g16 (x : SV) (s : State) (S : St) (w : WF S) (ok : StOK S x s) (bd : Bnd s) (c : Call) {lv : V} (hl : Sl S 4 lv (c.cmd.lines.map Line.enc)) : Does prog dPl dLv 16 [.agg (x.cells s.next), .agg (c.cells lv)] S (ApplyOut S (applyM s c)) := by
 refine e16 ?_
 have ho := ok.one s.next
 have hl6 : (x.cells s.next).length = 6 := rfl
 have hoc : allOne (c.cells lv) = true := c.one hl.one
 have hl17 : (c.cells lv).length = 17 := rfl
 obtain ⟨S1, hn1, x1, hg1, hnx1⟩ := nb w 6 (x.cells s.next)
 obtain ⟨S2, hn2, x2, hg2, hnx2⟩ := nb (x1.wf w) 17 (c.cells lv)
 have x02 := x1.trans x2
 obtain ⟨S3, hn3, x3, hg3, hnx3⟩ := nb (x02.wf w) 6 [.nils,.nils,.nils,.nils,.nils,.int .i64 0]
 have x03 := x02.trans x3
 obtain ⟨S4, hn4, x4, hg4, hnx4⟩ := nb (x03.wf w) 3 [.int .i64 0,.int .i64 0,.int .i64 0]
 have x04 := x03.trans x4
 have w4 := x04.wf w
 have ok4 := ok.ext x04
 have g41 := (x2.trans (x3.trans x4)).old _ _ hg1
 have g42 := (x3.trans x4).old _ _ hg2
 have g43 := x4.old _ _ hg3
 simp only [m16, agg_cells, ho, hoc, hl6, hl17, dIf_true, hn1, hn2, hn3, hn4, dR_ok, ld30 (.ptr S.next 0 0 0) S4, s_all (row_get g41)]
 refine Does.call (g31 x s S4 w4 ok4 bd) fun u S5 ⟨y, hu, x5, ok5, own5, hq⟩ => ?_
 subst hu
 have x05 := x04.trans x5
 have w5 := x05.wf w
 have g51 := x5.old _ _ g41
 obtain ⟨q1, _⟩ := cell_put (cs := y.cells s.next) g51 rfl rfl (ok5.one _)
 have b6 : But S.next S5 (⟨S5.next, S5.heap.put S.next (.row 0 6 [y.cells s.next])⟩ : St) := But.put (w5 _ _ g51) _
 have g61 : (⟨S5.next, S5.heap.put S.next (.row 0 6 [y.cells s.next])⟩ : St).heap.get S.next = some (.row 0 6 [y.cells s.next]) := Tr.get_put_sameB _ _ _ trivial
 obtain ⟨S6, hS6⟩ : ∃ S6, S6 = (⟨S5.next, S5.heap.put S.next (.row 0 6 [y.cells s.next])⟩ : St) := ⟨_, rfl⟩
 rw [← hS6] at q1 b6 g61
 clear hS6
 have x06 : Ext S S6 := b6.ext w x05 (Nat.le_refl _)
 have w6 := x06.wf w
 have ok6 := ok5.but b6 g51 (.inl rfl)
 have own6 : Own S S6 12 y.p (y.qs.map pvEnc) := (own5.weaken x04.next).but b6.old b6.next g51 (by omega)
 have hpa : ∀ a, blkOf y.p = some a → S4.next ≤ a := fun a ha => (Own_lt own5 ha).1
 have g62 := b6.old _ _ (by omega) (x5.old _ _ g42)
 have g63 := b6.old _ _ (by omega) (x5.old _ _ g43)
 have g64 := b6.old _ _ (by omega) (x5.old _ _ hg4)
 have hl6' : Sl S6 4 lv (c.cmd.lines.map Line.enc) := hl.ext x06
 simp only [st30 (.ptr S.next 0 0 0), q1, dR_ok, ld30 (.ptr S.next 0 0 0) S6, s_all (row_get g61)]
 refine (g23 y s S6 w6 ok6).call fun S7 x7 => ?_
 have x07 := x06.trans x7
 have w7 := x07.wf w
 have ok7 := ok6.ext x7
 have g71 := x7.old _ _ g61
 have g72 := x7.old _ _ g62
 have g73 := x7.old _ _ g63
 have g74 := x7.old _ _ g64
 have h2n : S.next ≤ S2.next := by omega
 have h3n : S.next ≤ S3.next := by omega
 have in7 : StepIn S S.next S7 y s := ⟨w, x07, Nat.le_refl _, g71, ok7, own6.ext x7⟩
 simp only [un_not, dR_ok]
 unfold applyM
 refine Ok.pick (fun c1 => ?_) (fun c1 => ?_)
 ·rw [if_pos (by simpa using c1)]
  exact why2 w x07 g71 g73 rfl g74 rfl h2n h3n ok7 hq 4 1
 have hright : rightM s = true := by simpa using c1
 rw [if_neg (by rw [hright]; simp)]
 have hfit : ∀ p ∈ s.posted, Fit p := fun p hp => okTotal_Fit ((postedM_ok (rightM_posted hright)).2 p hp).2
 have j0 : ∀ (p : Prop) [Decidable p] (R : State × Rep), ((if p then (s, why 17) else if c.cmd.kind = 6 then joinTop s else
  if (lookM s.sess c.session c.seq).2.2 ≠ 0 then (s, why (lookM s.sess c.session c.seq).2.2) else if (lookM s.sess c.session c.seq).2.1 = true then (s, (lookM s.sess c.session c.seq).1) else keepTop (doM s c.cmd) c) = R) →
   Ok (fun k K => m16_j0 (callD prog dPl dLv k) k K (.ptr S.next 0 0 0) (.ptr S1.next 0 0 0) (.ptr S2.next 0 0 0) (.ptr S3.next 0 0 0) (.bool (decide p)) S7) (ApplyOut S R) := by
  intro p _ R he
  rw [← he]
  simp only [m16_j0]
  refine Ok.pickP (fun c2 => ?_) (fun c2 => ?_)
  ·rw [if_pos c2]
   exact why2 w x07 g71 g73 rfl g74 rfl h2n h3n ok7 hq 4 17
  rw [if_neg c2]
  simp only [fa47_2, fa45_0, adv_ptr, dR_ok, ld3 (.ptr S1.next 0 0 (0 + 2 + 0)) S7, k_kind (row_get g72), guard_int, dIf_true, bin_eql]
  refine Ok.pickP (fun c3 => ?_) (fun c3 => ?_)
  ·rw [if_pos c3]
   simp only [ld30 (.ptr S.next 0 0 0) S7, s_all (row_get g71), dR_ok]
   refine Does.call (g33 y s S7 w7 ok7 hq) fun u S8 ⟨z, hu, x8, ok8⟩ => ?_
   subst hu
   simp only [tupD_tup, List.getElem?_cons_zero, List.getElem?_cons_succ, dO_ok]
   exact two_out w (x07.trans x8) (x8.old _ _ g73) rfl (x8.old _ _ g74) rfl h2n h3n ok8 _
  rw [if_neg c3]
  simp only [fa30_4, fa47_0, fa47_1, adv_ptr, dR_ok, ld28 (.ptr S.next 0 0 (0 + 4)) S7, s_e (row_get g71), ld3 (.ptr S1.next 0 0 (0 + 0)) S7, ld3 (.ptr S1.next 0 0 (0 + 1)) S7, k_session (row_get g72), k_seq (row_get g72)]
  refine (g34 y.e s.sess c.session c.seq S7 w7 ok7.ee).call fun S8 x8 => ?_
  have in8 := in7.step x8
  have x08 := x07.trans x8
  obtain ⟨S9a, S9, hn9, hst9, x9, hg9, hnx9⟩ := vb in8.wf 3 [.int .i64 0,.int .i64 0,.int .i64 0] (.agg (lookM s.sess c.session c.seq).1.enc) rfl rfl rfl
  have hg9 : S9.heap.get S8.next = some (.row 0 3 [(lookM s.sess c.session c.seq).1.enc]) := hg9
  have x79 := x8.trans x9
  have in9 := in7.step x79
  have x09 := x07.trans x79
  have g92 := x79.old _ _ g72
  have g93 := x79.old _ _ g73
  have g94 := x79.old _ _ g74
  have hx8n := x8.next
  have hS78 : S3.next < S7.next := w7 _ _ g74
  simp only [lookV, tupD_tup, List.getElem?_cons_zero, List.getElem?_cons_succ, dO_ok, hn9, dR_ok, st34 (.ptr S8.next 0 0 0), hst9, guard_int, dIf_true, bin_neq]
  refine Ok.pickN (fun c4 => ?_) (fun c4 => ?_)
  ·rw [if_pos c4]
   exact why2 w x09 in9.cell g93 rfl g94 rfl h2n h3n in9.ok hq 5 _
  rw [if_neg (by omega)]
  refine Ok.pick (fun c5 => ?_) (fun c5 => ?_)
  ·rw [if_pos c5]
   exact end2 w x09 in9.cell g93 rfl g94 rfl h2n h3n hg9 (by omega) in9.ok 4
  rw [if_neg (by rw [c5]; simp)]
  simp only [ld45 (.ptr S1.next 0 0 (0 + 2)) S9, k_cmd (row_get g92), dR_ok]
  refine Does.call (g35 in9 bd hfit c.cmd (hl.ext x09)) fun u S10 ⟨hu, z, out10⟩ => ?_
  subst hu
  have w9 := in9.wf
  have w10 := out10.fr.wf w9
  have fr : ∀ y' c', y' < S4.next → y' ≠ S.next → S9.heap.get y' = some c' → S10.heap.get y' = some c' := fun y' c' h1 h2 h3 => out10.fr.old y' c' h2 (fun e => by have := hpa _ e; omega) h3
  have gA2 := fr _ _ (by omega) (by omega) g92
  have gA3 := fr _ _ (by omega) (by omega) g93
  have gA4 := fr _ _ (by omega) (by omega) g94
  have x0A : Ext S S10 := out10.fr.back w x09 (Nat.le_refl _) (fun a ha => by have := hpa a ha; omega)
  generalize hr : doM s c.cmd = r at out10 ⊢
  obtain ⟨S11a, S11, hn11, hst11, x11, hg11, hnx11⟩ := vb w10 3 [.int .i64 0,.int .i64 0,.int .i64 0] (.agg r.2.enc) rfl rfl rfl
  have hg11 : S11.heap.get S10.next = some (.row 0 3 [r.2.enc]) := hg11
  have gB1 := x11.old _ _ out10.cell
  have gB2 := x11.old _ _ gA2
  have gB3 := x11.old _ _ gA3
  have gB4 := x11.old _ _ gA4
  have okB := out10.ok.ext x11
  have x0B := x0A.trans x11
  have w11 := x0B.wf w
  have yB : loadW (some 3) (.ptr S10.next 0 0 0) S11 = .ok (.agg r.2.enc) := by rw [load_one _ _ _ _ _ (row_get hg11)]; rfl
  simp only [hn11, dR_ok, st34 (.ptr S10.next 0 0 0), hst11, fa30_4, fa47_0, fa47_1, adv_ptr, ld28 (.ptr S.next 0 0 (0 + 4)) S11, s_e (row_get gB1), ld3 (.ptr S1.next 0 0 (0 + 0)) S11, ld3 (.ptr S1.next 0 0 (0 + 1)) S11, k_session (row_get gB2), k_seq (row_get gB2), ld34 (.ptr S10.next 0 0 0) S11, yB]
  refine Does.call (g36 z.e r.1.sess c.session c.seq r.2 S11 w11 okB.ee) fun u S12 ⟨ev, hu, x12, own12⟩ => ?_
  subst hu
  have gC1 := x12.old _ _ gB1
  have gC3 := x12.old _ _ gB3
  have gC4 := x12.old _ _ gB4
  have gC9 := x12.old _ _ hg11
  have okC := okB.ext x12
  have x0C := x0B.trans x12
  have w12 := x0C.wf w
  have hxA := x0A.next
  have hxCn := x12.next
  have hne9 : S10.next ≠ S3.next := by have := w10 _ _ gA4; omega
  have hneS : S10.next ≠ S.next := by have := w10 _ _ out10.cell; omega
  simp only [tupD_tup, List.getElem?_cons_zero, List.getElem?_cons_succ, dO_ok, guard_int, dIf_true, bin_eql, dR_ok]
  unfold keepTop
  refine Ok.pickP (fun c6 => ?_) (fun c6 => ?_)
  ·rw [if_pos c6]
   have hec := slices_cells own12.sl
   obtain ⟨S13, f1, b13, c13, n13⟩ := field_put w gC1 rfl w12 4 (by omega) hec own12.sl.one
   have c13 : S13.heap.get S.next = some (.row 0 6 [SV.cells { z with e := ev } r.1.next]) := c13
   have okD := okC.but b13 gC1 (.inl rfl)
   simp only [st28, f1, dR_ok, m16_j1]
   exact end2 (s := { r.1 with sess := (keepM r.1.sess c.session c.seq r.2).1 }) (x := { z with e := ev }) w (b13.ext w x0C (Nat.le_refl _)) c13 (b13.old _ _ (by omega) gC3) rfl (b13.old _ _ (by omega) gC4) rfl h2n h3n (b13.old _ _ hneS gC9) hne9
    { okD with ee := own12.sl.but b13.old gC1 (by omega) } 4
  ·rw [if_neg c6]
   simp only [m16_j1]
   exact end2 (s := r.1) w x0C gC1 gC3 rfl gC4 rfl h2n h3n gC9 hne9 okC 4
 simp only [fa47_2, fa45_0, adv_ptr, dR_ok, ld3 (.ptr S1.next 0 0 (0 + 2 + 0)) S7, k_kind (row_get g72), bin_lss, bin_gtr]
 refine Ok.pickP (fun c2 => ?_) (fun c2 => ?_)
 ·have : (V.bool true) = .bool (decide True) := by simp
  rw [this]
  exact j0 True _ (by rw [if_pos trivial, if_pos (.inl c2)])
 ·refine j0 (8 < c.cmd.kind) _ ?_
  by_cases c8 : 8 < c.cmd.kind
  ·rw [if_pos c8, if_pos (.inr c8)]
  ·rw [if_neg c8, if_neg (fun e : c.cmd.kind < 1 ∨ 8 < c.cmd.kind => e.elim c2 c8)]
end
theorem g29 (u v : V) (l r : List Rep) (S : St) (w : WF S) (hs : Sl S 3 u (l.map Rep.enc)) (ht : Sl S 3 v (r.map Rep.enc)) (hb : l.length < 1000000) :
  Gives 29 [u, v] S (.bool (decide (l = r))) := by
 refine e29 ?_
 simp only [m29, len49, hs.lenI, ht.lenI, dR_ok, guard_int, dIf_true, bin_neq]
 refine Ok.pickN (fun h => Ok.ret ⟨?_, Ext.refl S⟩) (fun h => ?_)
 ·rw [decide_eq_false (fun e => h (by rw [e]))]
 have hlen : l.length = r.length := by omega
 refine Ok.loopL (F := fun k K => m29_l0 (callD prog dPl dLv k) k K u v) (ρ := Bool) (α := Rep) (X := Bool) l (step := eqStep r) (fin := fun _ => true) (out := fun k K x S' => K (.bool x) S') (s := 0)
  (fun i n vs S' => n = i ∧ vs = [.bool false, .int .i64 (i : Int)] ∧ Ext S S') (fun r x S' => r = x ∧ Ext S S') ?_ ?_ ⟨rfl, rfl, Ext.refl S⟩ ?_
 ·rintro i s n vs S1 ⟨rfl, rfl, x1⟩ hi
  have hil : n < l.length := (List.getElem?_eq_some_iff.1 hi).1
  have hlt : (n : Int) < (l.length : Int) := by omega
  have hw : wr .i64 ((n : Int) + 1) = ((n + 1 : Nat) : Int) := by rw [wr64 (by omega) (by omega)]; omega
  obtain ⟨s2, hi2⟩ : ∃ s2, r[n]? = some s2 := ⟨r[n]'(by omega), List.getElem?_eq_getElem (by omega)⟩
  have hb1 := (Ext.refl S1).bump 9
  obtain ⟨p, hp, hat, hl5, _⟩ := (hs.ext x1).elem hi
  obtain ⟨p2, hp2, hat2, hl52, _⟩ := (ht.ext x1).elem hi2
  have y1 := (hat.ext hb1).load0 (some 3)
  have y2 := (hat2.ext hb1).load0 (some 3)
  rw [partW_all _ _ hl5] at y1
  rw [partW_all _ _ hl52] at y2
  simp only [m29_l0, unD_cons, len49, hs.lenI, bin_lss, dR_ok, hlt, decide_true, pickD_true, ix49, hp, hp2, ld34, y1, y2, gd34', dIf_true, rep_neq, bin_add, hw]
  refine OkL.pickN (fun c => ?_) (fun c => ?_)
  ·exact OkL.stop false ⟨false, by rw [eqStep, hi2]; exact if_neg (fun e => c (Option.some.inj e).symm), rfl, x1.trans hb1⟩
  ·exact OkL.next ⟨n + 1, by rw [eqStep, hi2]; exact if_pos (by rw [c]), rfl, rfl, x1.trans hb1⟩
 ·rintro n vs S1 ⟨rfl, rfl, x1⟩
  have hlt : ¬ (l.length : Int) < (l.length : Int) := by omega
  refine ⟨true, ⟨rfl, x1⟩, fun k K again => ?_⟩
  simp only [m29_l0, unD_cons, len49, hs.lenI, bin_lss, dR_ok, hlt, decide_false, pickD_false]
 ·rintro x S1 ⟨hx, x1⟩
  rw [eqL hlen] at hx
  rw [hx]
  exact Ok.ret ⟨rfl, x1⟩
theorem At.p {S : St} {p : V} {q : PV} (h : At S p (pvEnc q)) : loadW (some 2) (adv 0 p) S = .ok (.agg q.1.ref.enc) ∧ loadW (some 3) (adv 2 p) S = .ok (.agg q.1.day.enc) ∧ loadW (some 2) (adv 9 p) S = .ok (.agg q.1.of.enc) ∧ loadW none (adv 11 p) S = .ok (.bool q.1.back) ∧ loadW (some 4) (adv 5 p) S = .ok (.agg (q.1.total.cells q.2)) :=
 ⟨by rw [h.load]; rfl, by rw [h.load]; rfl, by rw [h.load]; rfl, by rw [h.load]; rfl, by rw [h.load]; rfl⟩
structure Sml (s : State) : Prop where
 st : s.table.length ≤ 1000
 ss : s.ser.length ≤ 1000
 sp : s.posted.length ≤ 1000
 sb : s.book.length ≤ 10000
 se : s.sess.length ≤ 1000
 sq : ∀ p ∈ s.posted, p.total.parts.length ≤ 1000
theorem Sml.bnd {s : State} (h : Sml s) : Bnd s := ⟨by have := h.st; omega, by have := h.ss; omega, by have := h.sp; omega, by have := h.sb; omega, by have := h.se; omega, fun p hp => by have := h.sq p hp; omega⟩
theorem Sml.new : Sml State.new := ⟨by decide, by decide, by decide, by decide, by decide, fun p hp => by cases hp⟩
theorem right_parts {s : State} (h : rightM s = true) : s.table.length ≤ 24 ∧ s.ser.length ≤ 8 ∧ s.sess.length ≤ 8 ∧ s.posted.length ≤ 40 ∧ s.book.length ≤ 1000 ∧ (∀ p ∈ s.posted, p.total.parts.length ≤ 12) ∧ s.book = (bookedM s.posted).1 := by
 unfold rightM at h
 split at h
 ·cases h
 ·rename_i h1
  split at h
  ·cases h
  ·rename_i h2
   split at h
   ·cases h
   ·rename_i h3
    split at h
    ·cases h
    ·rename_i h4
     split at h
     ·cases h
     ·split at h
      ·have hb := of_decide_eq_true h
       have h4' : postedM s.posted = true := by simpa using h4
       obtain ⟨p1, p2⟩ := postedM_ok h4'
       have hparts : ∀ p ∈ s.posted, p.total.parts.length ≤ 12 := fun p hp => okTotal_fit (p2 p hp).2
       have hl := bookedL_len s.posted [] (bookedM s.posted) hparts rfl
       have hs : sessM s.sess = true := by
        unfold sessionsM at h3
        by_cases c : sessM s.sess = true
        ·exact c
        ·rw [if_neg c] at h3; exact absurd rfl h3
       refine ⟨tableM_len (by simpa using h1), serM_len (by simpa using h2), sessM_len hs, p1, ?_, hparts, hb.symm⟩
       rw [← hb]
       simp only [List.length_nil] at hl
       omega
      ·cases h
theorem issueM_sml {s : State} (h : Sml s) (h1 : s.ser.length ≤ 8) (h2 : s.posted.length ≤ 40) (h3 : s.book.length ≤ 1000) (name : List UInt8) (p : Posted) (hp : p.total.parts.length ≤ 12) : Sml (issueM s name p).1 := by
 unfold issueM
 split
 ·exact h
 ·split
  ·exact h
  ·split
   ·exact h
   ·rename_i c3
    split
    ·exact h
    ·refine ⟨h.st, ?_, ?_, ?_, h.se, ?_⟩
     ·show (takeM s.ser name).1.length ≤ 1000
      unfold takeM
      repeat' split
      all_goals simp
      omega
     ·show (s.posted ++ _).length ≤ 1000
      simp only [List.length_append, List.length_cons, List.length_nil]; omega
     ·show (enterM s.book (entM p.total).1).1.length ≤ 10000
      have := enterM_len s.book (entM p.total).1
      have := (entM_len p.total).resolve_right c3
      omega
     ·intro q hq
      rcases List.mem_append.1 hq with hq | hq
      ·exact h.sq q hq
      ·rw [List.mem_singleton.1 hq]
       show p.total.parts.length ≤ 1000
       omega
theorem setBack_sml (l : List Posted) (k : Nat) (h : ∀ p ∈ l, p.total.parts.length ≤ 1000) : (setBack l k).length = l.length ∧ ∀ p ∈ setBack l k, p.total.parts.length ≤ 1000 := by
 unfold setBack
 split
 ·exact ⟨rfl, h⟩
 ·rename_i p hp
  refine ⟨List.length_set .., fun q hq => ?_⟩
  rcases List.mem_or_eq_of_mem_set hq with hq | rfl
  ·exact h q hq
  ·exact h p (List.mem_of_getElem? hp)
theorem insAt_le {α : Type} (l : List α) (i : Nat) (a : α) : (insAt l i a).length ≤ l.length + 1 := by
 simp only [insAt, List.length_append, List.length_cons, List.length_take, List.length_drop]; omega
theorem doM_sml {s : State} (h : Sml s) (hr : rightM s = true) (c : Cmd) : Sml (doM s c).1 := by
 obtain ⟨r1, r2, r3, r4, r5, r6, _⟩ := right_parts hr
 unfold doM
 split
 ·unfold keptSer
  split
  ·refine ⟨h.st, ?_, h.sp, h.sb, h.se, h.sq⟩
   show (openSer s.ser c.series c.limit).1.length ≤ 1000
   unfold openSer
   repeat' split
   all_goals first | (simp; done) | (refine Nat.le_trans (insAt_le _ _ _) ?_; omega)
  ·exact h
 ·split
  ·unfold keptSer
   split
   ·refine ⟨h.st, ?_, h.sp, h.sb, h.se, h.sq⟩
    show (shutM s.ser c.series).1.length ≤ 1000
    unfold shutM
    repeat' split
    all_goals simp
    omega
   ·exact h
  ·split
   ·unfold keptTab
    split
    ·refine ⟨?_, h.ss, h.sp, h.sb, h.se, h.sq⟩
     show (putRate s.table c.row).1.length ≤ 1000
     unfold putRate
     repeat' split
     all_goals first | (simp; done) | (refine Nat.le_trans (insAt_le _ _ _) ?_; omega)
    ·exact h
   ·split
    ·unfold billM
     split
     ·exact h
     ·rename_i c1
      exact issueM_sml h r2 r4 r5 _ _ (totalM_fit (by omega)).1
    ·split
     ·unfold creditM
      split
      ·exact h
      ·rename_i c1
       unfold creditAt
       split
       ·exact h
       ·split
        ·split
         ·exact h
         ·split
          ·exact h
          ·split
           ·exact h
           ·rename_i c4
            have hpar : (s.posted.getD (postAt s.posted c.of).toNat Posted.zero).total.parts.length ≤ 12 := by
             rw [List.getD_eq_getElem?_getD]
             cases hg : s.posted[(postAt s.posted c.of).toNat]? with
             | none => exact Nat.zero_le _
             | some p => exact r6 p (List.mem_of_getElem? hg)
            have hbl := backM_len (s.posted.getD (postAt s.posted c.of).toNat Posted.zero).total
            have hi := issueM_sml h r2 r4 r5 c.series ⟨Ref.zero, c.day, (backM (s.posted.getD (postAt s.posted c.of).toNat Posted.zero).total).1, c.of, false⟩ (Nat.le_trans hbl hpar)
            split
            ·obtain ⟨e1, e2⟩ := setBack_sml _ (postAt s.posted c.of).toNat hi.sq
             exact ⟨hi.st, hi.ss, by rw [e1]; exact hi.sp, hi.sb, hi.se, e2⟩
            ·exact hi
        ·exact h
     ·split
      ·unfold keptSess
       split
       ·refine ⟨h.st, h.ss, h.sp, h.sb, ?_, h.sq⟩
        show (leaveM s.sess c.session).1.length ≤ 1000
        unfold leaveM
        repeat' split
        all_goals first | (simp; done) | (simp only [dropAt, List.length_append, List.length_take, List.length_drop]; omega)
       ·exact h
      ·exact h
theorem keepM_len (l : List Sess) (id seq : Int) (r : Rep) : (keepM l id seq r).1.length ≤ l.length := by
 unfold keepM
 repeat' split
 all_goals simp
theorem applyM_sml {s : State} (h : Sml s) (c : Call) : Sml (applyM s c).1 := by
 unfold applyM
 split
 ·exact h
 ·rename_i hr
  have hr : rightM s = true := by simpa using hr
  split
  ·exact h
  ·split
   ·unfold joinTop
    split
    ·exact h
    ·split
     ·exact h
     ·obtain ⟨_, _, r3, _⟩ := right_parts hr
      refine ⟨h.st, h.ss, h.sp, h.sb, ?_, h.sq⟩
      show (joinM s.sess s.next).1.length ≤ 1000
      unfold joinM
      repeat' split
      all_goals first | (simp; done) | (refine Nat.le_trans (insAt_le _ _ _) ?_; omega)
   ·split
    ·exact h
    ·split
     ·exact h
     ·have hd := doM_sml h hr c.cmd
      unfold keepTop
      split
      ·exact ⟨hd.st, hd.ss, hd.sp, hd.sb, by have := keepM_len (doM s c.cmd).1.sess c.session c.seq (doM s c.cmd).2; have := hd.se; show (keepM _ _ _ _).1.length ≤ 1000; omega, hd.sq⟩
      ·exact hd
abbrev KV := Call × V
def kvEnc (q : KV) : List V := q.1.cells q.2
def LinesOK (S : St) (qs : List KV) : Prop := ∀ q, q ∈ qs → Sl S 4 q.2 (q.1.cmd.lines.map Line.enc)
theorem LinesOK.ext {S S' : St} {qs : List KV} (h : LinesOK S qs) (x : Ext S S') : LinesOK S' qs := fun q hq => (h q hq).ext x
theorem LinesOK.take {S : St} {qs : List KV} (h : LinesOK S qs) (n : Nat) : LinesOK S (qs.take n) := fun q hq => h q (List.mem_of_mem_take hq)
theorem LinesOK.drop {S : St} {qs : List KV} (h : LinesOK S qs) (n : Nat) : LinesOK S (qs.drop n) := fun q hq => h q (List.mem_of_mem_drop hq)
theorem kvEnc_len (q : KV) : (kvEnc q).length = 17 := rfl
theorem kvEnc_one {S : St} {n : Nat} {es : List (List V)} (q : KV) (h : Sl S n q.2 es) : allOne (kvEnc q) = true := q.1.one h.one
theorem cutT {T n : Nat} (e1 : ∀ (a ver off len : Nat) (lo hi : Option V), sliceV prog T (.sl a ver n off len) lo hi = (match bounds len lo hi with
      | .ok (l, h) => .ok (.sl a ver n (off + l) (h - l))
      | .error e => .error e)) (e2 : ∀ (es : List (List V)), allLen n es = true → ∀ (lo hi : Option V), sliceV prog T (.imm es) lo hi = (match bounds es.length lo hi with
      | .ok (l, h) => .ok (.imm ((es.take h).drop l))
      | .error e => .error e)) {S : St} {v : V} {es : List (List V)} (h : Sl S n v es) {lo hi : Option V} {i j : Nat} (hb : bounds es.length lo hi = .ok (i, j)) (hij : i ≤ j) (hj : j ≤ es.length) (hne : v ≠ .nils) : ∃ u, sliceV prog T v lo hi = .ok u ∧ Sl S n u ((es.take j).drop i) := by
  have hlen : ∀ c, c ∈ (es.take j).drop i → c.length = n ∧ allOne c = true := fun c hc => h.len c (List.mem_of_mem_take (List.mem_of_mem_drop hc))
  have htl : ((es.take j).drop i).length = j - i := by rw [List.length_drop, List.length_take]; omega
  rcases h.is with ⟨e, _⟩ | rfl | ⟨a, ver, off, elems, rfl, h1, h2, h3⟩
  · exact absurd e hne
  · refine ⟨.imm ((es.take j).drop i), ?_, ⟨.inr (.inl rfl), hlen⟩⟩
    rw [e2 es (allLen_of h.len).1, hb]
  · refine ⟨.sl a ver n (off + i) (j - i), ?_, ⟨.inr (.inr ⟨a, ver, off + i, elems, by rw [htl], h1, by rw [htl]; omega, ?_⟩), hlen⟩⟩
    · rw [e1, hb]
    · rw [htl]
      have : (es.take j).drop i = (((elems.drop off).take es.length).take j).drop i := by rw [h3]
      rw [this, List.take_take, List.drop_take, List.drop_drop]
      congr 1
      omega
theorem bounds_hi (len i : Nat) (h : i ≤ len) : bounds len none (some (.int .i64 (i : Int))) = .ok (0, i) := by
 have : (decide ((0 : Int) ≤ (i : Int)) && decide ((i : Int) ≤ (len : Int))) = true := by simp; omega
 simp only [bounds, this, cond_true, Int.toNat_natCast]
theorem cut41 {S : St} {v : V} {l : List Line} (h : Sl S 4 v (l.map Line.enc)) {i : Nat} (hi : i < l.length) : ∃ u, sliceV prog 41 v none (some (.int .i64 (i : Int))) = .ok u ∧ Sl S 4 u ((l.take i).map Line.enc) := by
 have hlm : (l.map Line.enc).length = l.length := List.length_map ..
 have hne : v ≠ .nils := fun e => by
  rcases h.is with ⟨_, e2⟩ | h1 | ⟨a, ver, off, elems, h1, _⟩
  ·rw [List.map_eq_nil_iff] at e2; rw [e2] at hi; simp at hi
  ·rw [e] at h1; cases h1
  ·rw [e] at h1; cases h1
 obtain ⟨u, h1, h2⟩ := cutT sl41 sli41 h (bounds_hi _ i (by omega)) (Nat.zero_le _) (by omega) hne
 exact ⟨u, h1, by rw [List.map_take]; exact h2⟩
def cutCall (c : Call) : Call := { c with cmd := { c.cmd with lines := c.cmd.lines.take 15 } }
def fewM (l : List Call) (n : Nat) : List Call := (l.take n).map cutCall
def zs17 : List V := [.int .i64 0,.int .i64 0,.int .i64 0,.str [],.int .i64 0,.str [],.int .i64 0,.int .i64 0,.int .i64 0,.int .i64 0,.int .i64 0,.int .i64 0,.int .i64 0,.nils,.str [],.int .i64 0,.int .i64 0]
theorem kvarB {S : St} {v : V} {l : List KV} (hs : Sl S 17 v (l.map kvEnc)) (w : WF S) {i : Nat} {q : KV} (hi : l[i]? = some q) :
  ∃ p Sa S', idxW 17 v (.int .i64 (i : Int)) = .ok p ∧ loadW (some 17) p S = .ok (.agg (kvEnc q)) ∧ newBlk none S (.row 0 17 [[.int .i64 0,.int .i64 0,.int .i64 0,.str [],.int .i64 0,.str [],.int .i64 0,.int .i64 0,.int .i64 0,.int .i64 0,.int .i64 0,.int .i64 0,.int .i64 0,.nils,.str [],.int .i64 0,.int .i64 0]]) = .ok (S.next, Sa) ∧
   storeW 17 (.ptr S.next 0 0 0) (.agg (kvEnc q)) Sa = .ok S' ∧ Ext S S' ∧ S'.heap.get S.next = some (.row 0 17 [q.1.cells q.2]) ∧ S'.next = S.next + 1 := by
 obtain ⟨p, hp, hat, hl, ho⟩ := hs.elem hi
 obtain ⟨Sa, S', h1, h2, h3, h4, h5⟩ := vb w 17 zs17 (.agg (kvEnc q)) rfl rfl ho
 exact ⟨p, Sa, S', hp, by rw [hat.load0, partW_all _ _ hl], h1, h2, h3, h4, h5⟩
theorem g13 (v : V) (l : List KV) (n : Nat) (S : St) (w : WF S) (hlo : LinesOK S l) (hs : Sl S 17 v (l.map kvEnc)) (hn : n ≤ 1000) (hbl : l.length ≤ 9223372036854775807) :
  Does prog dPl dLv 13 [v, .int .i64 (n : Int)] S (fun u S' => ∃ qs, Ext S S' ∧ Own S S' 17 u (qs.map kvEnc) ∧ LinesOK S qs ∧ qs.map (·.1) = fewM (l.map (·.1)) n) := by
 refine e13 ?_
 simp only [m13]
 refine Ok.loopL (F := fun k K => m13_l0 (callD prog dPl dLv k) k K v (.int .i64 (n : Int))) (ρ := List KV) (α := KV) (X := V) (l.take n) (step := fun (qs : List KV) q => .inr (qs ++ [q])) (fin := id) (s := []) (out := fun k K x S' => K x S')
  (fun i qs vs S' => ∃ u, vs = [u, .int .i64 (i : Int)] ∧ Ext S S' ∧ ∃ ps, Own S S' 17 u (ps.map kvEnc) ∧ LinesOK S ps ∧ ps.map (·.1) = ((l.take i).map (·.1)).map cutCall ∧ ps.length = i)
  (fun _ x S' => ∃ ps, Ext S S' ∧ Own S S' 17 x (ps.map kvEnc) ∧ LinesOK S ps ∧ ps.map (·.1) = fewM (l.map (·.1)) n) ?_ ?_ ⟨.nils, rfl, Ext.refl S, [], Own.nil _ _ _, fun _ h => (by cases h), rfl, rfl⟩ ?_
 ·rintro i q qs vs S1 ⟨u, rfl, x1, ps, own1, lo1, hps, hpl⟩ hi
  have hi' := hi
  rw [List.getElem?_take] at hi
  split at hi
  case isFalse => cases hi
  rename_i hin
  have hil : i < l.length := (List.getElem?_eq_some_iff.1 hi).1
  have hm := List.mem_of_getElem? hi
  have hlt : (i : Int) < (l.length : Int) := by omega
  have hlt2 : (i : Int) < (n : Int) := by omega
  have hw : wr .i64 ((i : Int) + 1) = ((i + 1 : Nat) : Int) := by rw [wr64 (by omega) (by omega)]; omega
  obtain ⟨p, Sa, S2, hp, hld, hnb, hst, x2, hg2, hnx2⟩ := kvarB (hs.ext x1) (x1.wf w) hi
  have x02 := x1.trans x2
  have w2 := x02.wf w
  have lq := hlo q hm
  have v13 : loadW none (.ptr S1.next 0 0 (0 + 2 + 11)) S2 = .ok q.2 := by rw [load_one _ _ _ _ _ (row_get hg2)]; rfl
  have j0 : ∀ (S3 : St) (q' : KV), Ext S S3 → Own S S3 17 u (ps.map kvEnc) → S3.heap.get S1.next = some (.row 0 17 [kvEnc q']) → Sl S 4 q'.2 (q'.1.cmd.lines.map Line.enc) → q'.1 = cutCall q.1 →
    OkL (fun k K x S' => K x S') (fun k K again => m13_j0 (callD prog dPl dLv k) k K again v (.int .i64 (n : Int)) u (.int .i64 (i : Int)) (.ptr S1.next 0 0 0) S3)
     (Round (fun (qs : List KV) q => .inr (qs ++ [q])) (fun i qs vs S' => ∃ u, vs = [u, .int .i64 (i : Int)] ∧ Ext S S' ∧ ∃ ps, Own S S' 17 u (ps.map kvEnc) ∧ LinesOK S ps ∧ ps.map (·.1) = ((l.take i).map (·.1)).map cutCall ∧ ps.length = i)
      (fun (_ : List KV) x S' => ∃ ps, Ext S S' ∧ Own S S' 17 x (ps.map kvEnc) ∧ LinesOK S ps ∧ ps.map (·.1) = fewM (l.map (·.1)) n) i qs q) := by
   intro S3 q' x3 own3 hg3 lq' hq'
   have ho := kvEnc_one q' lq'
   have y : loadW (some 17) (.ptr S1.next 0 0 0) S3 = .ok (.agg (kvEnc q')) := by rw [load_one _ _ _ _ _ (row_get hg3)]; exact partW_all _ _ (kvEnc_len q')
   have hnew := Ext.new (x3.wf w) (.row 0 17 [kvEnc q'])
   have hel : elemsOf (⟨S3.next + 1, S3.heap.put S3.next (.row 0 17 [kvEnc q'])⟩ : St) (.sl S3.next 0 17 0 1) = .ok [kvEnc q'] := by
    simp only [elemsOf, getRow_put]
    rfl
   have hlm : (ps.map kvEnc).length = i := by rw [List.length_map, hpl]
   obtain ⟨u', S4, r1, r2, _, r4⟩ := (own3.ext hnew).push (b := 176) (x3.trans hnew) w hel (fun c hc => by rw [List.mem_singleton.1 hc]; exact ⟨rfl, ho⟩) (by simp) (by rw [hlm]; simp only [List.length_cons, List.length_nil]; omega) (by rw [hlm]; simp only [List.length_cons, List.length_nil]; unfold lim; omega)
   simp only [m13_j0, ld47, y, dR_ok, bs22, one_block S3 17 _ (kvEnc_len q') ho (by omega), app22, r1, bin_add, hw]
   refine OkL.next ⟨qs ++ [q], rfl, u', rfl, r2, ps ++ [q'], by rw [List.map_append]; exact r4, fun a ha => ?_, ?_, by simp [hpl]⟩
   ·rcases List.mem_append.1 ha with ha | ha
    ·exact lo1 a ha
    ·rw [List.mem_singleton.1 ha]; exact lq'
   ·rw [List.take_succ_eq_append_getElem hil, List.map_append, List.map_append, List.map_append, hps]
    have : l[i] = q := by have := List.getElem?_eq_getElem hil; rw [hi] at this; exact (Option.some.inj this).symm
    rw [this]
    simp [hq']
  simp only [m13_l0, unD_cons, len22, (hs.ext x1).lenI, bin_lss, dR_ok, hlt, hlt2, decide_true, pickD_true, ix22, hp, ld47 p S1, hld, hnb, st47, hst, fa47_2, fa45_5, adv_ptr, ld41, v13, len41, (lq.ext x02).lenI, bin_gtr]
  refine OkL.pickP (fun c => ?_) (fun c => ?_)
  ·have h15 : 15 < q.1.cmd.lines.length := by omega
   obtain ⟨u15, hu, hsu⟩ := cut41 lq h15
   have hcv := slices_cells hsu
   have hb := var_set (x := u15) (j := 0 + 2 + 11) (m := 1) hg2 (by rw [hcv]; rfl) (by rw [hcv]; simp [allOne, hsu.one]) (by show _ ≤ 17; omega)
   have hsp : splice (q.1.cells q.2) (0 + 2 + 11) u15.cells = kvEnc (cutCall q.1, u15) := by rw [hcv]; rfl
   rw [hsp] at hb
   have hlt2 := w2 _ _ hg2
   have hu' : sliceV prog 41 q.2 none (some (.int .i64 15)) = .ok u15 := hu
   have xs : Ext S (⟨S2.next, S2.heap.put S1.next (.row 0 17 [kvEnc (cutCall q.1, u15)])⟩ : St) := x02.set x1.next hlt2 w _
   have own2 : Own S (⟨S2.next, S2.heap.put S1.next (.row 0 17 [kvEnc (cutCall q.1, u15)])⟩ : St) 17 u (ps.map kvEnc) := (own1.ext x2).same (Nat.le_refl _) (fun a ha => Tr.get_put_neB _ _ _ _ trivial (by have := (Own_lt own1 ha).2; omega))
   simp only [hu', dR_ok, st41, hb]
   exact j0 _ (cutCall q.1, u15) xs own2 (Tr.get_put_sameB _ _ _ trivial) hsu rfl
  ·refine j0 S2 q x02 (own1.ext x2) hg2 lq ?_
   unfold cutCall
   rw [List.take_of_length_le (by omega)]
 ·rintro qs vs S1 ⟨u, rfl, x1, ps, own1, lo1, hps, hpl⟩
  have hlm : (l.take n).length = min n l.length := List.length_take ..
  have hfew : ps.map (·.1) = fewM (l.map (·.1)) n := by
   rw [hps, fewM, hlm, ← List.map_take]
   congr 2
   by_cases c : n ≤ l.length
   ·rw [Nat.min_eq_left c]
   ·rw [Nat.min_eq_right (by omega), List.take_of_length_le (Nat.le_refl _), List.take_of_length_le (by omega)]
  refine ⟨u, ⟨ps, x1, own1, lo1, hfew⟩, fun k K again => ?_⟩
  rw [hlm]
  by_cases c : ((min n l.length : Nat) : Int) < (l.length : Int)
  ·have c2 : ¬ ((min n l.length : Nat) : Int) < (n : Int) := by omega
   simp only [m13_l0, unD_cons, len22, (hs.ext x1).lenI, bin_lss, dR_ok, c, c2, decide_true, decide_false, pickD_true, pickD_false]
  ·simp only [m13_l0, unD_cons, len22, (hs.ext x1).lenI, bin_lss, dR_ok, c, decide_false, pickD_false]
 ·rintro x S1 ⟨ps, x1, own1, lo1, h⟩
  exact Ok.ret ⟨ps, x1, own1, lo1, h⟩
def playStep (st : State × List Rep) (c : Call) : State × List Rep := ((applyM st.1 c).1, st.2 ++ [(applyM st.1 c).2])
def playM (s : State) (l : List Call) : State × List Rep := l.foldl playStep (s, [])
def playL (st : State × List Rep) (c : Call) : (State × List Rep) ⊕ (State × List Rep) := .inr (playStep st c)
theorem playL_run : ∀ (l : List Call) (st : State × List Rep), runL playL id l st = l.foldl playStep st
 | [], st => rfl
 | c :: l, st => by simp only [runL, playL, List.foldl_cons]; exact playL_run l _
theorem g19 (x : SV) (s : State) (v : V) (l : List KV) (S : St) (w : WF S) (ok : StOK S x s) (sm : Sml s) (hlo : LinesOK S l) (hs : Sl S 17 v (l.map kvEnc)) (hb : l.length ≤ 1000) :
  Does prog dPl dLv 19 [.agg (x.cells s.next), v] S (fun u S' => ∃ y rv, u = .tup [.agg (y.cells (playM s (l.map (·.1))).1.next), rv] ∧ Ext S S' ∧ StOK S' y (playM s (l.map (·.1))).1 ∧ Sml (playM s (l.map (·.1))).1 ∧ Own S S' 3 rv ((playM s (l.map (·.1))).2.map Rep.enc)) := by
 refine e19 ?_
 have ho := ok.one s.next
 have hl6 : (x.cells s.next).length = 6 := rfl
 obtain ⟨S1, hn1, x1, hg1, hnx1⟩ := nb w 6 (x.cells s.next)
 obtain ⟨S2, hn2, x2, hg2, hnx2⟩ := nb (x1.wf w) 6 [.nils,.nils,.nils,.nils,.nils,.int .i64 0]
 have x02 := x1.trans x2
 have w2 := x02.wf w
 have g21 := x2.old _ _ hg1
 simp only [m19, agg_cells, ho, hl6, dIf_true, hn1, hn2, dR_ok, ld30 (.ptr S.next 0 0 0) S2, s_all (row_get g21)]
 refine Does.call (g31 x s S2 w2 (ok.ext x02) sm.bnd) fun u S3 ⟨y, hu, x3, ok3, own3, hq⟩ => ?_
 subst hu
 have x03 := x02.trans x3
 have w3 := x03.wf w
 have g31 := x3.old _ _ g21
 have g32 := x3.old _ _ hg2
 obtain ⟨q1, _⟩ := cell_put (cs := y.cells s.next) g31 rfl rfl (ok3.one _)
 have b4 : But S.next S3 (⟨S3.next, S3.heap.put S.next (.row 0 6 [y.cells s.next])⟩ : St) := But.put (w3 _ _ g31) _
 have g41 : (⟨S3.next, S3.heap.put S.next (.row 0 6 [y.cells s.next])⟩ : St).heap.get S.next = some (.row 0 6 [y.cells s.next]) := Tr.get_put_sameB _ _ _ trivial
 obtain ⟨S4, hS4⟩ : ∃ S4, S4 = (⟨S3.next, S3.heap.put S.next (.row 0 6 [y.cells s.next])⟩ : St) := ⟨_, rfl⟩
 rw [← hS4] at q1 b4 g41
 clear hS4
 have x04 : Ext S S4 := b4.ext w x03 (Nat.le_refl _)
 have ok4 := ok3.but b4 g31 (.inl rfl)
 have g42 := b4.old _ _ (by omega) g32
 simp only [st30 (.ptr S.next 0 0 0), q1, dR_ok, len22, hs.lenI]
 have hall : playM s (l.map (·.1)) = runL playL id (l.map (·.1)) (s, []) := (playL_run _ _).symm
 rw [hall, ← runL_map]
 refine Ok.loopL (F := fun k K => m19_l0 (callD prog dPl dLv k) k K (.ptr S.next 0 0 0) (.ptr S1.next 0 0 0) v (.int .i64 l.length)) (ρ := State × List Rep) (α := KV) (X := V) l (step := fun st q => playL st q.1) (fin := id) (s := (s, []))
  (out := fun k K x6 S' => dR (loadV prog 30 (.ptr S.next 0 0 0) S') fun t25 =>
dR (storeV prog 30 (.ptr S1.next 0 0 0) t25 S') fun S26 =>
dR (loadV prog 30 (.ptr S1.next 0 0 0) S26) fun t27 =>
K (.tup [t27, x6]) S26)
  (fun i st vs S' => ∃ rv z, vs = [rv, .int .i64 (i : Int)] ∧ Ext S S' ∧ S'.heap.get S.next = some (.row 0 6 [z.cells st.1.next]) ∧ S'.heap.get S1.next = some (.row 0 6 [[.nils,.nils,.nils,.nils,.nils,.int .i64 0]]) ∧ StOK S' z st.1 ∧ Sml st.1 ∧ Own S S' 3 rv (st.2.map Rep.enc) ∧ st.2.length = i)
  (fun st rv S' => ∃ z, Ext S S' ∧ S'.heap.get S.next = some (.row 0 6 [z.cells st.1.next]) ∧ S'.heap.get S1.next = some (.row 0 6 [[.nils,.nils,.nils,.nils,.nils,.int .i64 0]]) ∧ StOK S' z st.1 ∧ Sml st.1 ∧ Own S S' 3 rv (st.2.map Rep.enc)) ?_ ?_ ⟨.nils, y, rfl, x04, g41, g42, ok4, sm, Own.nil _ _ _, rfl⟩ ?_
 ·rintro i q ⟨st, rs⟩ vs T ⟨rv, z, rfl, xt, gt1, gt2, okt, smt, ownt, hrl⟩ hi
  simp only at gt1 okt smt ownt hrl
  have hil : i < l.length := (List.getElem?_eq_some_iff.1 hi).1
  have hm := List.mem_of_getElem? hi
  have hlt : (i : Int) < (l.length : Int) := by omega
  have hw : wr .i64 ((i : Int) + 1) = ((i + 1 : Nat) : Int) := by rw [wr64 (by omega) (by omega)]; omega
  have wt := xt.wf w
  obtain ⟨p, Ta, T2, hp, hld, hnb, hst, xt2, ht2, hnx⟩ := kvarB (hs.ext xt) wt hi
  have x0t2 := xt.trans xt2
  obtain ⟨T3, hn3, xt3, ht3, hnx3⟩ := nb (x0t2.wf w) 3 [.int .i64 0,.int .i64 0,.int .i64 0]
  have x0t3 := x0t2.trans xt3
  have w3 := x0t3.wf w
  have xtt3 := xt2.trans xt3
  have g31 := xtt3.old _ _ gt1
  have g33 := xt3.old _ _ ht2
  simp only [m19_l0, unD_cons, bin_lss, dR_ok, hlt, decide_true, pickD_true, ix22, hp, ld47 p T, hld, hnb, st47, hst, hn3, ld30 (.ptr S.next 0 0 0) T3, s_all (row_get g31), ld47 (.ptr T.next 0 0 0) T3, k_all (row_get g33)]
  refine OkL.call (g16 z st T3 w3 (okt.ext xtt3) smt.bnd q.1 ((hlo q hm).ext x0t3)) fun u T4 ⟨z', hu, xt4, ok4'⟩ => ?_
  subst hu
  have x0t4 := x0t3.trans xt4
  have w4 := x0t4.wf w
  have k41 := xt4.old _ _ g31
  have k42 := xt4.old _ _ (xtt3.old _ _ gt2)
  have k43 := xt4.old _ _ ht3
  have own4 := (ownt.ext xtt3).ext xt4
  generalize hap : applyM st q.1 = ap at ok4'
  obtain ⟨q1, _⟩ := cell_put (cs := z'.cells ap.1.next) k41 rfl rfl (ok4'.one _)
  have b5 : But S.next T4 (⟨T4.next, T4.heap.put S.next (.row 0 6 [z'.cells ap.1.next])⟩ : St) := But.put (w4 _ _ k41) _
  have k51 : (⟨T4.next, T4.heap.put S.next (.row 0 6 [z'.cells ap.1.next])⟩ : St).heap.get S.next = some (.row 0 6 [z'.cells ap.1.next]) := Tr.get_put_sameB _ _ _ trivial
  obtain ⟨T5, hT5⟩ : ∃ T5, T5 = (⟨T4.next, T4.heap.put S.next (.row 0 6 [z'.cells ap.1.next])⟩ : St) := ⟨_, rfl⟩
  rw [← hT5] at q1 b5 k51
  clear hT5
  have x0t5 : Ext S T5 := b5.ext w x0t4 (Nat.le_refl _)
  have w5 := x0t5.wf w
  have ok5 := ok4'.but b5 k41 (.inl rfl)
  have own5 := own4.but b5.old b5.next k41 (by omega)
  have hST : S.next < T2.next := by have := wt _ _ gt1; have := xt2.next; omega
  have hS1T : S1.next < T2.next := by have := wt _ _ gt2; have := xt2.next; omega
  have k52 := b5.old _ _ (by omega) k42
  have k53 := b5.old _ _ (by omega) k43
  obtain ⟨q2, _⟩ := cell_put (cs := ap.2.enc) k53 rfl rfl rfl
  have b6 : But T2.next T5 (⟨T5.next, T5.heap.put T2.next (.row 0 3 [ap.2.enc])⟩ : St) := But.put (w5 _ _ k53) _
  have k63 : (⟨T5.next, T5.heap.put T2.next (.row 0 3 [ap.2.enc])⟩ : St).heap.get T2.next = some (.row 0 3 [ap.2.enc]) := Tr.get_put_sameB _ _ _ trivial
  obtain ⟨T6, hT6⟩ : ∃ T6, T6 = (⟨T5.next, T5.heap.put T2.next (.row 0 3 [ap.2.enc])⟩ : St) := ⟨_, rfl⟩
  rw [← hT6] at q2 b6 k63
  clear hT6
  have hx0t2 := x0t2.next
  have x0t6 : Ext S T6 := b6.ext w x0t5 (by omega)
  have w6 := x0t6.wf w
  have ok6 := ok5.but b6 k53 (.inr (.inl rfl))
  have k61 := b6.old _ _ (by omega) k51
  have k62 := b6.old _ _ (by omega) k52
  have own6 : Own S T6 3 rv (rs.map Rep.enc) := own5.same b6.next (fun a ha => by
   have h1 := (Own_lt ownt ha).2
   rcases own5.is with ⟨e1, _⟩ | ⟨a', ver', tl, e1, _, _, e4⟩
   ·rw [e1] at ha; cases ha
   ·rw [e1] at ha; cases ha
    have := xt2.next
    rw [e4]; exact b6.old _ _ (by omega) e4)
  have y6 : loadW (some 3) (.ptr T2.next 0 0 0) T6 = .ok (.agg ap.2.enc) := by rw [load_one _ _ _ _ _ (row_get k63)]; rfl
  have hnew := Ext.new w6 (.row 0 3 [ap.2.enc])
  have hel : elemsOf (⟨T6.next + 1, T6.heap.put T6.next (.row 0 3 [ap.2.enc])⟩ : St) (.sl T6.next 0 3 0 1) = .ok [ap.2.enc] := by
   simp only [elemsOf, getRow_put]
   rfl
  have hlm : (rs.map Rep.enc).length = i := by rw [List.length_map, hrl]
  obtain ⟨rv', T7, r1, r2, r3, r4, r5⟩ := (own6.ext hnew).pushK (b := 24) (x0t6.trans hnew) w hel (fun c hc => by rw [List.mem_singleton.1 hc]; exact ⟨rfl, rfl⟩) (by simp) (by rw [hlm]; simp only [List.length_cons, List.length_nil]; omega) (by rw [hlm]; simp only [List.length_cons, List.length_nil]; unfold lim; omega)
  simp only [tupD_tup, List.getElem?_cons_zero, List.getElem?_cons_succ, dO_ok, st30 (.ptr S.next 0 0 0), q1, dR_ok, st34 (.ptr T2.next 0 0 0), q2, ld34 (.ptr T2.next 0 0 0) T6, y6, bs49, one_block T6 3 ap.2.enc rfl rfl (by omega), app49, r1, bin_add, hw]
  have hra : ∀ a, blkOf rv = some a → ∃ ver el, (⟨T6.next + 1, T6.heap.put T6.next (.row 0 3 [ap.2.enc])⟩ : St).heap.get a = some (.row ver 3 el) := fun a ha => by
   rcases (own6.ext hnew).is with ⟨e1, _⟩ | ⟨a', ver', tl, e1, _, _, e4⟩
   ·rw [e1] at ha; cases ha
   ·rw [e1] at ha; cases ha; exact ⟨_, _, e4⟩
  have keep : ∀ y c, (∀ ver el, c ≠ .row ver 3 el) → T6.heap.get y = some c → T7.heap.get y = some c := fun y c hc h => by
   have h' := hnew.old _ _ h
   rw [r5 y (by have := w6 _ _ h; show y < T6.next + 1; omega) (fun a ver m hv e => ?_)]
   ·exact h'
   ·subst e
    obtain ⟨ver, el, hh⟩ := hra y (by rw [hv]; rfl)
    rw [h'] at hh
    exact hc _ _ (Option.some.inj hh)
  have slk : ∀ {n : Nat} {v : V} {es : List (List V)}, Sl T6 n v es → n ≠ 3 → Sl T7 n v es := fun hs hn => by
   refine ⟨?_, hs.len⟩
   rcases hs.is with q1 | q1 | ⟨a, ver, off, elems, q1, q2, q3⟩
   ·exact .inl q1
   ·exact .inr (.inl q1)
   ·exact .inr (.inr ⟨a, ver, off, elems, q1, row_get (keep a _ (fun _ _ e => by cases e; exact hn rfl) (row_has q2)), q3⟩)
  refine OkL.next ⟨(ap.1, rs ++ [ap.2]), ?_, rv', z', rfl, r2, keep _ _ (fun _ _ e => by cases e) k61, keep _ _ (fun _ _ e => by cases e) k62, ⟨slk ok6.tt (by omega), slk ok6.ss (by omega), slk ok6.pp (by omega), ok6.q, fun q hq => slk (ok6.po q hq) (by omega), slk ok6.bb (by omega), slk ok6.ee (by omega)⟩, ?_, by rw [List.map_append]; exact r4, by simp [hrl]⟩
  ·simp only [playL, playStep]
   rw [hap]
  ·show Sml ap.1
   rw [← hap]; exact applyM_sml smt q.1
 ·rintro ⟨st, rs⟩ vs T ⟨rv, z, rfl, xt, gt1, gt2, okt, smt, ownt, hrl⟩
  have hlt : ¬ (l.length : Int) < (l.length : Int) := by omega
  refine ⟨rv, ⟨z, xt, gt1, gt2, okt, smt, ownt⟩, fun k K again => ?_⟩
  simp only [m19_l0, unD_cons, bin_lss, dR_ok, hlt, decide_false, pickD_false]
 ·rintro rv T ⟨z, xt, gt1, gt2, okt, smt, ownt⟩
  generalize runL (fun st (q : KV) => playL st q.1) id l (s, []) = R at gt1 okt smt ownt ⊢
  have wt := xt.wf w
  obtain ⟨q1, q2⟩ := cell_put (cs := z.cells R.1.next) gt2 rfl rfl (okt.one _)
  have b : But S1.next T (⟨T.next, T.heap.put S1.next (.row 0 6 [z.cells R.1.next])⟩ : St) := But.put (wt _ _ gt2) _
  simp only [ld30 (.ptr S.next 0 0 0) T, s_all (row_get gt1), dR_ok, st30, q1, ld30, q2]
  exact Ok.ret ⟨z, rv, rfl, b.ext w xt (by omega), okt.but b gt2 (.inl rfl), smt, ownt.but b.old b.next gt2 (by omega)⟩
def numV : Nat → List (List V) → List (Nat × V)
 | _, [] => []
 | i, c :: l => (i, .agg c) :: numV (i + 1) l
theorem layV_all (n : Nat) (z : List V) : ∀ (todo pre : List (List V)), (∀ c, c ∈ todo → c.length = n ∧ allOne c = true) → layV n (pre ++ List.replicate todo.length z) (numV pre.length todo) = .ok (pre ++ todo)
 | [], pre, _ => by simp [numV, layV]
 | c :: l, pre, h => by
  obtain ⟨h1, h2⟩ := h c (List.mem_cons_self ..)
  have ih := layV_all n z l (pre ++ [c]) (fun x hx => h x (List.mem_cons_of_mem _ hx))
  have e : (pre ++ List.replicate (l.length + 1) z).set pre.length c = (pre ++ [c]) ++ List.replicate l.length z := by simp [List.replicate_succ]
  have e2 : (pre ++ [c]).length = pre.length + 1 := by simp
  have hb : Nat.blt pre.length (pre ++ List.replicate (l.length + 1) z).length = true := by simp [Nat.blt_eq]
  have hq : Nat.beq c.length n = true := by rw [Nat.beq_eq]; exact h1
  rw [e2] at ih
  simp only [List.append_assoc, List.singleton_append] at ih
  simp only [numV, layV, agg_cells, List.length_cons, h2, hb, hq, Bool.and_self, cond_true, e, ih, List.append_assoc, List.singleton_append]
theorem many_block (S : St) (n : Nat) (z : List V) (cs : List (List V)) (hc : ∀ c, c ∈ cs → c.length = n ∧ allOne c = true) (hn : cs.length * n ≤ 16777216) :
  buildSliceW n z cs.length (numV 0 cs) none S = .ok (.sl S.next 0 n 0 cs.length, ⟨S.next + 1, S.heap.put S.next (.row 0 n cs)⟩) := by
 have h := layV_all n z cs [] hc
 simp only [List.nil_append, List.length_nil] at h
 unfold buildSliceW
 rw [if_pos hn, h]
 simp only [newBlk_none]
theorem Sl.many {S : St} {n a : Nat} {cs : List (List V)} (h : S.heap.get a = some (.row 0 n cs)) (hc : ∀ c, c ∈ cs → c.length = n ∧ allOne c = true) : Sl S n (.sl a 0 n 0 cs.length) cs :=
 ⟨.inr (.inr ⟨a, 0, 0, cs, rfl, row_get h, by simp, by simp⟩), hc⟩
def Rate.zero : Rate := ⟨[], ⟨0, 0, 0⟩, 0⟩
def Cmd.zero : Cmd := ⟨0, [], 0, Rate.zero, ⟨0, 0, 0⟩, [], Ref.zero, 0⟩
def dayC : Date := ⟨2026, 11, 15⟩
def lineC : Line := ⟨[], [115,116,100], 1, 100⟩
def oneC (n : Int) : Call := ⟨1, n, { Cmd.zero with kind := 4, series := [97], day := dayC, lines := [lineC] }⟩
def joinC : Call := ⟨0, 0, { Cmd.zero with kind := 6 }⟩
def levyC : Call := ⟨1, 1, { Cmd.zero with kind := 3, row := ⟨[115,116,100], ⟨2000, 1, 1⟩, 1900⟩ }⟩
def openC (n : Int) : Call := ⟨1, 2, { Cmd.zero with kind := 1, series := [97], limit := n }⟩
def creditC (n : Int) : Call := ⟨1, n, { Cmd.zero with kind := 5, series := [98], day := dayC, of := ⟨[97], 1⟩ }⟩
def runsC : List Call := [joinC, levyC, openC 2, oneC 3, oneC 3, oneC 4, oneC 5, ⟨1, 6, { Cmd.zero with kind := 1, series := [98], limit := 9 }⟩, creditC 7, creditC 8, ⟨1, 9, { Cmd.zero with kind := 8, series := [98] }⟩]
def runsR : List Rep := [⟨0,1,0⟩, ⟨0,0,0⟩, ⟨0,0,0⟩, ⟨0,1,119⟩, ⟨0,1,119⟩, ⟨0,2,119⟩, ⟨14,0,0⟩, ⟨0,0,0⟩, ⟨0,1,-119⟩, ⟨12,0,0⟩, ⟨0,1,119⟩]
theorem runs_law : (playM State.new runsC).2 = runsR ∧ rightM (playM State.new runsC).1 = true ∧ (playM State.new runsC).1.posted.length = 3 := by decide +kernel
theorem g46 (S : St) (w : WF S) : Gives 46 [] S (.agg dayC.enc) := by
 refine e46 ?_
 obtain ⟨S1, hn1, x1, hg1, _⟩ := nb w 3 [.int .i64 0,.int .i64 0,.int .i64 0]
 obtain ⟨q1, q2⟩ := cell_put (cs := dayC.enc) hg1 rfl rfl rfl
 have hb : buildW [.int .i64 0,.int .i64 0,.int .i64 0] [(0, 1), (1, 1), (2, 1)] [(0, .int .i64 2026), (1, .int .i64 11), (2, .int .i64 15)] = .ok (.agg dayC.enc) := rfl
 simp only [m46, hn1, dR_ok, bd38, hb, st38, q1, ld38, q2]
 exact Ok.ret ⟨rfl, x1.set (Nat.le_refl _) (x1.wf w _ _ hg1) w _⟩
theorem g28 (n : Int) (S : St) (w : WF S) : Does prog dPl dLv 28 [.int .i64 n] S (fun u S' => Ext S S' ∧ ∃ a, u = .agg (kvEnc (oneC n, .sl a 0 4 0 1)) ∧ Sl S' 4 (.sl a 0 4 0 1) ((oneC n).cmd.lines.map Line.enc)) := by
 refine e28 ?_
 obtain ⟨S1, hn1, x1, hg1, _⟩ := nb w 17 [.int .i64 0,.int .i64 0,.int .i64 0,.str [],.int .i64 0,.str [],.int .i64 0,.int .i64 0,.int .i64 0,.int .i64 0,.int .i64 0,.int .i64 0,.int .i64 0,.nils,.str [],.int .i64 0,.int .i64 0]
 simp only [m28, hn1, dR_ok]
 refine (g46 S1 (x1.wf w)).call fun S2 x2 => ?_
 have x02 := x1.trans x2
 have w2 := x02.wf w
 have hb1 : buildW [.str [],.str [],.int .i64 0,.int .i64 0] [(0, 1), (1, 1), (2, 1), (3, 1)] [(1, .str [115,116,100]), (2, .int .i64 1), (3, .int .i64 100)] = .ok (.agg lineC.enc) := rfl
 have x3 := Ext.new w2 (.row 0 4 [lineC.enc])
 have hg3 : (⟨S2.next + 1, S2.heap.put S2.next (.row 0 4 [lineC.enc])⟩ : St).heap.get S2.next = some (.row 0 4 [lineC.enc]) := Tr.get_put_sameB _ _ _ trivial
 simp only [bd115, hb1, dR_ok, bs41, one_block S2 4 lineC.enc rfl rfl (by omega)]
 obtain ⟨S3, hS3⟩ : ∃ S3, S3 = (⟨S2.next + 1, S2.heap.put S2.next (.row 0 4 [lineC.enc])⟩ : St) := ⟨_, rfl⟩
 rw [← hS3] at x3 hg3 ⊢
 clear hS3
 have hb2 : buildW [.int .i64 0,.str [],.int .i64 0,.str [],.int .i64 0,.int .i64 0,.int .i64 0,.int .i64 0,.int .i64 0,.int .i64 0,.int .i64 0,.nils,.str [],.int .i64 0,.int .i64 0] [(0, 1), (1, 1), (2, 1), (3, 5), (8, 3), (11, 1), (12, 2), (14, 1)] [(0, .int .i64 4), (1, .str [97]), (4, .agg dayC.enc), (5, .sl S2.next 0 4 0 1)] = .ok (.agg ((oneC n).cmd.cells (.sl S2.next 0 4 0 1))) := rfl
 have hb3 : buildW [.int .i64 0,.int .i64 0,.int .i64 0,.str [],.int .i64 0,.str [],.int .i64 0,.int .i64 0,.int .i64 0,.int .i64 0,.int .i64 0,.int .i64 0,.int .i64 0,.nils,.str [],.int .i64 0,.int .i64 0] [(0, 1), (1, 1), (2, 15)] [(0, .int .i64 1), (1, .int .i64 n), (2, .agg ((oneC n).cmd.cells (.sl S2.next 0 4 0 1)))] = .ok (.agg (kvEnc (oneC n, .sl S2.next 0 4 0 1))) := rfl
 obtain ⟨q1, q2⟩ := cell_put (cs := kvEnc (oneC n, .sl S2.next 0 4 0 1)) (x3.old _ _ (x2.old _ _ hg1)) rfl rfl rfl
 have x03 := x02.trans x3
 have sl := Sl.many (cs := [lineC.enc]) hg3 (fun x hx => by rw [List.mem_singleton.1 hx]; exact ⟨rfl, rfl⟩)
 have hlt : S.next < S3.next := x03.wf w _ _ (x3.old _ _ (x2.old _ _ hg1))
 have b : But S.next S3 (⟨S3.next, S3.heap.put S.next (.row 0 17 [kvEnc (oneC n, .sl S2.next 0 4 0 1)])⟩ : St) := But.put hlt _
 simp only [bd45, hb2, dR_ok, bd47, hb3, st47, q1, ld47, q2]
 refine Ok.ret ⟨x03.set (Nat.le_refl _) hlt w _, S2.next, rfl, ?_⟩
 exact sl.but b.old (x3.old _ _ (x2.old _ _ hg1)) (by decide)
def z47 : List V := [.int .i64 0,.int .i64 0,.int .i64 0,.str [],.int .i64 0,.str [],.int .i64 0,.int .i64 0,.int .i64 0,.int .i64 0,.int .i64 0,.int .i64 0,.int .i64 0,.nils,.str [],.int .i64 0,.int .i64 0]
def z45 : List V := z47.drop 2
theorem cd45 (parts : List (Nat × V)) : buildV prog 45 parts = buildW z45 [(0, 1), (1, 1), (2, 1), (3, 5), (8, 3), (11, 1), (12, 2), (14, 1)] parts := bd45 parts
theorem cd47 (parts : List (Nat × V)) : buildV prog 47 parts = buildW z47 [(0, 1), (1, 1), (2, 15)] parts := bd47 parts
theorem cs22 (len : Nat) (parts : List (Nat × V)) (S : St) : buildSliceV prog 22 len parts none S = buildSliceW 17 z47 len parts none S := bs22 len parts none S
def seriesK (k : Int) (n : List UInt8) (l : Int) : Cmd := { Cmd.zero with kind := k, series := n, limit := l }
theorem k6 : buildW z45 [(0, 1), (1, 1), (2, 1), (3, 5), (8, 3), (11, 1), (12, 2), (14, 1)] [(0, .int .i64 6)] = .ok (.agg (joinC.cmd.cells .nils)) := rfl
theorem k6' : buildW z47 [(0, 1), (1, 1), (2, 15)] [(2, .agg (joinC.cmd.cells .nils))] = .ok (.agg (kvEnc (joinC, .nils))) := rfl
theorem kd : buildW [.int .i64 0,.int .i64 0,.int .i64 0] [(0, 1), (1, 1), (2, 1)] [(0, .int .i64 2000), (1, .int .i64 1), (2, .int .i64 1)] = .ok (.agg (Date.enc ⟨2000, 1, 1⟩)) := rfl
theorem kr : buildW [.str [],.int .i64 0,.int .i64 0,.int .i64 0,.int .i64 0] [(0, 1), (1, 3), (4, 1)] [(0, .str [115,116,100]), (1, .agg (Date.enc ⟨2000, 1, 1⟩)), (2, .int .i64 1900)] = .ok (.agg levyC.cmd.row.enc) := rfl
theorem k3 : buildW z45 [(0, 1), (1, 1), (2, 1), (3, 5), (8, 3), (11, 1), (12, 2), (14, 1)] [(0, .int .i64 3), (3, .agg levyC.cmd.row.enc)] = .ok (.agg (levyC.cmd.cells .nils)) := rfl
theorem k1 (n : List UInt8) (l : Int) : buildW z45 [(0, 1), (1, 1), (2, 1), (3, 5), (8, 3), (11, 1), (12, 2), (14, 1)] [(0, .int .i64 1), (1, .str n), (2, .int .i64 l)] = .ok (.agg ((seriesK 1 n l).cells .nils)) := rfl
theorem k8 (n : List UInt8) : buildW z45 [(0, 1), (1, 1), (2, 1), (3, 5), (8, 3), (11, 1), (12, 2), (14, 1)] [(0, .int .i64 8), (1, .str n)] = .ok (.agg ((seriesK 8 n 0).cells .nils)) := rfl
theorem ko : buildW [.str [],.int .i64 0] [(0, 1), (1, 1)] [(0, .str [97]), (1, .int .i64 1)] = .ok (.agg (Ref.enc ⟨[97], 1⟩)) := rfl
theorem k5 : buildW z45 [(0, 1), (1, 1), (2, 1), (3, 5), (8, 3), (11, 1), (12, 2), (14, 1)] [(0, .int .i64 5), (1, .str [98]), (4, .agg dayC.enc), (6, .agg (Ref.enc ⟨[97], 1⟩))] = .ok (.agg ((creditC 7).cmd.cells .nils)) := rfl
theorem kk (c : Cmd) (n : Int) : buildW z47 [(0, 1), (1, 1), (2, 15)] [(0, .int .i64 1), (1, .int .i64 n), (2, .agg (c.cells .nils))] = .ok (.agg (kvEnc (⟨1, n, c⟩, .nils))) := rfl
theorem g20 (S : St) (w : WF S) : Gives 20 [] S (.bool true) := by
 refine e20 ?_
 simp only [m20, cd45, cd47, k6, k6', dR_ok, bd38, kd, bd40, kr, k3, k1, kk]
 refine Does.call (g28 3 S w) fun u S1 ⟨x1, a1, hu, l1⟩ => ?_
 subst hu
 refine Does.call (g28 3 S1 (x1.wf w)) fun u S2 ⟨x2, a2, hu, l2⟩ => ?_
 subst hu
 have x02 := x1.trans x2
 refine Does.call (g28 4 S2 (x02.wf w)) fun u S3 ⟨x3, a3, hu, l3⟩ => ?_
 subst hu
 have x03 := x02.trans x3
 refine Does.call (g28 5 S3 (x03.wf w)) fun u S4 ⟨x4, a4, hu, l4⟩ => ?_
 subst hu
 have x04 := x03.trans x4
 refine (g46 S4 (x04.wf w)).call fun S5 x5 => ?_
 have x05 := x04.trans x5
 simp only [bd43, ko, dR_ok, k5, kk]
 refine (g46 S5 (x05.wf w)).call fun S6 x6 => ?_
 have x06 := x05.trans x6
 have w6 := x06.wf w
 obtain ⟨qs, hqs⟩ : ∃ qs : List KV, qs = [(joinC, .nils), (levyC, .nils), (openC 2, .nils), (oneC 3, .sl a1 0 4 0 1), (oneC 3, .sl a2 0 4 0 1), (oneC 4, .sl a3 0 4 0 1), (oneC 5, .sl a4 0 4 0 1), (⟨1, 6, seriesK 1 [98] 9⟩, .nils), (creditC 7, .nils), (creditC 8, .nils), (⟨1, 9, seriesK 8 [98] 0⟩, .nils)] := ⟨_, rfl⟩
 have hlo : LinesOK S6 qs := by
  intro q hq
  rw [hqs] at hq
  simp only [List.mem_cons, List.not_mem_nil, or_false] at hq
  rcases hq with rfl | rfl | rfl | rfl | rfl | rfl | rfl | rfl | rfl | rfl | rfl
  ·exact Sl.nilv _ _
  ·exact Sl.nilv _ _
  ·exact Sl.nilv _ _
  ·exact l1.ext (x2.trans (x3.trans (x4.trans (x5.trans x6))))
  ·exact l2.ext (x3.trans (x4.trans (x5.trans x6)))
  ·exact l3.ext (x4.trans (x5.trans x6))
  ·exact l4.ext (x5.trans x6)
  ·exact Sl.nilv _ _
  ·exact Sl.nilv _ _
  ·exact Sl.nilv _ _
  ·exact Sl.nilv _ _
 have hcs : ∀ c, c ∈ qs.map kvEnc → c.length = 17 ∧ allOne c = true := by
  intro c hc
  obtain ⟨q, hq, rfl⟩ := List.mem_map.1 hc
  exact ⟨rfl, kvEnc_one q (hlo q hq)⟩
 have hmb := many_block S6 17 z47 (qs.map kvEnc) hcs (by rw [List.length_map, hqs]; show 11 * 17 ≤ 16777216; omega)
 have x7 := Ext.new w6 (.row 0 17 (qs.map kvEnc))
 have hg7 : (⟨S6.next + 1, S6.heap.put S6.next (.row 0 17 (qs.map kvEnc))⟩ : St).heap.get S6.next = some (.row 0 17 (qs.map kvEnc)) := Tr.get_put_sameB _ _ _ trivial
 have hmb' : buildSliceW 17 z47 11 [(0, .agg (kvEnc (joinC, .nils))), (1, .agg (kvEnc (⟨1, 1, levyC.cmd⟩, .nils))), (2, .agg (kvEnc (⟨1, 2, seriesK 1 [97] 2⟩, .nils))), (3, .agg (kvEnc (oneC 3, .sl a1 0 4 0 1))), (4, .agg (kvEnc (oneC 3, .sl a2 0 4 0 1))), (5, .agg (kvEnc (oneC 4, .sl a3 0 4 0 1))), (6, .agg (kvEnc (oneC 5, .sl a4 0 4 0 1))), (7, .agg (kvEnc (⟨1, 6, seriesK 1 [98] 9⟩, .nils))), (8, .agg (kvEnc (⟨1, 7, (creditC 7).cmd⟩, .nils))), (9, .agg (kvEnc (⟨1, 8, (creditC 7).cmd⟩, .nils))), (10, .agg (kvEnc (⟨1, 9, seriesK 8 [98] 0⟩, .nils)))] none S6 = .ok (.sl S6.next 0 17 0 (qs.map kvEnc).length, (⟨S6.next + 1, S6.heap.put S6.next (.row 0 17 (qs.map kvEnc))⟩ : St)) := by rw [hqs] at hmb ⊢; exact hmb
 have hql : qs.map (·.1) = runsC := by rw [hqs]; rfl
 have hqn : qs.length = 11 := by rw [hqs]; rfl
 simp only [k5, k8, kk, dR_ok, cs22, hmb']
 obtain ⟨S7, hS7⟩ : ∃ S7, S7 = (⟨S6.next + 1, S6.heap.put S6.next (.row 0 17 (qs.map kvEnc))⟩ : St) := ⟨_, rfl⟩
 rw [← hS7] at x7 hg7 ⊢
 clear hS7 hmb hmb' hqs
 have x07 := x06.trans x7
 have w7 := x07.wf w
 have sl7 := Sl.many hg7 hcs
 refine (g14 S7 w7).call fun S8 x8 => ?_
 have x08 := x07.trans x8
 have x68 := x7.trans x8
 rw [List.length_map] at sl7 ⊢
 refine Does.call (g19 SV.new State.new _ qs S8 (x08.wf w) (StOK.new _) Sml.new (hlo.ext x68) (sl7.ext x8) (by omega)) fun u S9 ⟨y1, rv1, hu, x9, ok9, sm9, own9⟩ => ?_
 subst hu
 rw [hql] at ok9 own9 ⊢
 obtain ⟨rl1, rl2, rl3⟩ := runs_law
 generalize playM State.new runsC = A at ok9 own9 rl1 rl2 rl3 ⊢
 have x09 := x08.trans x9
 have w9 := x09.wf w
 obtain ⟨SAa, SA, hnA, hstA, xA, hgA, hnxA⟩ := vb w9 6 [.nils,.nils,.nils,.nils,.nils,.int .i64 0] (.agg (y1.cells A.1.next)) rfl rfl (ok9.one _)
 rw [agg_cells] at hgA
 have x0A := x09.trans xA
 have wA := x0A.wf w
 have hmr := many_block SA 3 [.int .i64 0,.int .i64 0,.int .i64 0] (runsR.map Rep.enc) (fun c hc => by obtain ⟨r, _, rfl⟩ := List.mem_map.1 hc; exact ⟨rfl, rfl⟩) (by decide)
 have hmr' : buildSliceW 3 [.int .i64 0,.int .i64 0,.int .i64 0] 11 [(0, .agg (Rep.enc ⟨0, 1, 0⟩)), (1, .agg (Rep.enc ⟨0, 0, 0⟩)), (2, .agg (Rep.enc ⟨0, 0, 0⟩)), (3, .agg (Rep.enc ⟨0, 1, 119⟩)), (4, .agg (Rep.enc ⟨0, 1, 119⟩)), (5, .agg (Rep.enc ⟨0, 2, 119⟩)), (6, .agg (Rep.enc ⟨14, 0, 0⟩)), (7, .agg (Rep.enc ⟨0, 0, 0⟩)), (8, .agg (Rep.enc ⟨0, 1, -119⟩)), (9, .agg (Rep.enc ⟨12, 0, 0⟩)), (10, .agg (Rep.enc ⟨0, 1, 119⟩))] none SA = .ok (.sl SA.next 0 3 0 (runsR.map Rep.enc).length, (⟨SA.next + 1, SA.heap.put SA.next (.row 0 3 (runsR.map Rep.enc))⟩ : St)) := hmr
 have r0 : buildW [.int .i64 0,.int .i64 0,.int .i64 0] [(0, 1), (1, 1), (2, 1)] [] = .ok (.agg (Rep.enc ⟨0, 0, 0⟩)) := rfl
 have r1 : ∀ n : Int, buildW [.int .i64 0,.int .i64 0,.int .i64 0] [(0, 1), (1, 1), (2, 1)] [(1, .int .i64 n)] = .ok (.agg (Rep.enc ⟨0, n, 0⟩)) := fun _ => rfl
 have r2 : ∀ n g : Int, buildW [.int .i64 0,.int .i64 0,.int .i64 0] [(0, 1), (1, 1), (2, 1)] [(1, .int .i64 n), (2, .int .i64 g)] = .ok (.agg (Rep.enc ⟨0, n, g⟩)) := fun _ _ => rfl
 have r3 : ∀ n : Int, buildW [.int .i64 0,.int .i64 0,.int .i64 0] [(0, 1), (1, 1), (2, 1)] [(0, .int .i64 n)] = .ok (.agg (Rep.enc ⟨n, 0, 0⟩)) := fun _ => rfl
 simp only [tupD_tup, List.getElem?_cons_zero, List.getElem?_cons_succ, dO_ok, hnA, dR_ok, st30, hstA, bd34, r0, r1, r2, r3, bs49, hmr']
 have xB := Ext.new wA (.row 0 3 (runsR.map Rep.enc))
 have hgB : (⟨SA.next + 1, SA.heap.put SA.next (.row 0 3 (runsR.map Rep.enc))⟩ : St).heap.get SA.next = some (.row 0 3 (runsR.map Rep.enc)) := Tr.get_put_sameB _ _ _ trivial
 obtain ⟨SB, hSB⟩ : ∃ SB, SB = (⟨SA.next + 1, SA.heap.put SA.next (.row 0 3 (runsR.map Rep.enc))⟩ : St) := ⟨_, rfl⟩
 rw [← hSB] at xB hgB ⊢
 clear hSB
 have x0B := x0A.trans xB
 refine (g29 rv1 _ A.2 runsR SB (x0B.wf w) ((own9.sl.ext xA).ext xB) (Sl.many hgB (fun c hc => by obtain ⟨r, _, rfl⟩ := List.mem_map.1 hc; exact ⟨rfl, rfl⟩)) (by rw [rl1]; decide)).call fun SC xC => ?_
 have x0C := x0B.trans xC
 have xAC := xB.trans xC
 rw [decide_eq_true rl1]
 simp only [pickD_true, ld30, dR_ok, s_all (xAC.row (row_get hgA))]
 refine (g23 y1 A.1 SC (x0C.wf w) ((ok9.ext xA).ext xAC)).call fun SD xD => ?_
 have x0D := x0C.trans xD
 have hql2 : y1.qs.length = A.1.posted.length := by rw [← ok9.q, List.length_map]
 rw [rl2]
 simp only [pickD_true, fa30_2, adv_ptr, ld26, dR_ok, s_p ((xAC.trans xD).row (row_get hgA)), len26, ok9.pp.lenI, List.length_map, hql2, rl3, guard_int, dIf_true, bin_eql]
 exact Ok.ret ⟨rfl, x0D⟩
end Go.Proofs.YtjbicclbalagbaaGreat
end
section
set_option linter.unusedSimpArgs false
set_option linter.unusedVariables false
namespace Go.AM
structure D (b : Nat) (S S' : St) : Prop where
 next : S.next ≤ S'.next
 dead : ∀ a, a < b → S.heap.get a = none → S'.heap.get a = none
theorem D.refl {b : Nat} (S : St) : D b S S := ⟨Nat.le_refl _, fun _ _ h => h⟩
theorem D.trans {b : Nat} {A B C : St} (h : D b A B) (k : D b B C) : D b A C := ⟨Nat.le_trans h.next k.next, fun a ha h1 => k.dead a ha (h.dead a ha h1)⟩
theorem D.put {b : Nat} {S : St} {a : Nat} {x y : Blk} (h : S.heap.get a = some x) : D b S ⟨S.next, S.heap.put a y⟩ := by
 refine ⟨Nat.le_refl _, fun c _ hc => ?_⟩
 show (S.heap.put a y).get c = none
 rw [Tr.get_put_neB _ _ _ _ trivial (fun e => by rw [e, h] at hc; cases hc)]; exact hc
def FrB (b : Nat) (fr : Option Nat) : Prop := ∀ k, fr = some k → b ≤ k
theorem D.new {b : Nat} {S S' : St} {fr : Option Nat} {x : Blk} {a : Nat} (hb : b ≤ S.next) (hf : FrB b fr) (h : newBlk fr S x = .ok (a, S')) : D b S S' := by
 cases fr with
 | none =>
  rw [newBlk_none] at h
  cases h
  refine ⟨Nat.le_succ _, fun c hc hn => ?_⟩
  show (S.heap.put S.next x).get c = none
  rw [Tr.get_put_neB _ _ _ _ trivial (by omega)]; exact hn
 | some k =>
  rw [newBlk_at] at h
  cases h
  have := hf _ rfl
  refine ⟨Nat.le_refl _, fun c hc hn => ?_⟩
  show (S.heap.put a x).get c = none
  rw [Tr.get_put_neB _ _ _ _ trivial (by omega)]; exact hn
section
variable {P : Program} {b : Nat} {S S' : St} {fr : Option Nat}
theorem storeV_D {t : TypeId} {p x : V} (h : storeV P t p x S = .ok S') : D b S S' := by
 unfold storeV at h
 split at h
 ·split at h
  ·cases h
  ·rename_i hg
   split at h
   ·rw [cond_eq_ite] at h
    split at h
    ·cases h; exact D.put (row_has hg)
    ·cases h
   ·cases h
 ·cases h
theorem appendV_D {t : TypeId} {s x v : V} (hb : b ≤ S.next) (hf : FrB b fr) (h : appendV P t s x fr S = .ok (v, S')) : D b S S' := by
 unfold appendV at h
 split at h
 ·cases h
 ·split at h
  ·cases h
  ·rw [cond_eq_ite] at h
   split at h
   ·cases h
   ·split at h
    ·split at h
     ·cases h; exact D.refl S
     ·rw [cond_eq_ite] at h
      split at h
      ·split at h
       ·cases h
       ·rename_i hn; cases h; exact D.new hb hf hn
      ·cases h
    ·split at h
     ·cases h
     ·rename_i hg
      rw [cond_eq_ite] at h
      split at h
      ·cases h; exact D.put (row_has hg)
      ·cases h
    ·cases h
theorem insertV_D {t : TypeId} {s i x v : V} (hb : b ≤ S.next) (h : insertV P t s i x S = .ok (v, S')) : D b S S' := by
 have hf : FrB b none := fun _ h => by cases h
 unfold insertV at h
 split at h
 ·split at h
  ·cases h
  ·rw [cond_eq_ite] at h
   split at h
   ·cases h
   ·split at h
    ·rw [cond_eq_ite] at h
     split at h
     ·exact appendV_D hb hf h
     ·cases h
    ·rw [cond_eq_ite] at h
     split at h
     ·exact appendV_D hb hf h
     ·rw [cond_eq_ite] at h
      split at h
      ·cases h
      ·split at h
       ·cases h
       ·rename_i hg
        rw [cond_eq_ite] at h
        split at h
        ·cases h; exact D.put (row_has hg)
        ·cases h
    ·cases h
 ·cases h
theorem deleteV_D {t : TypeId} {s i j v : V} (h : deleteV P t s i j S = .ok (v, S')) : D b S S' := by
 unfold deleteV at h
 split at h
 ·rw [cond_eq_ite] at h
  split at h
  ·cases h
  ·rw [cond_eq_ite] at h
   split at h
   ·split at h
    ·cases h; exact D.refl S
    ·cases h
   ·split at h
    ·rename_i hg
     rw [cond_eq_ite] at h
     split at h
     ·cases h; exact D.put (row_has hg)
     ·cases h
    ·cases h
 ·cases h
theorem clearV_D {t : TypeId} {x v : V} (h : clearV P t x S = .ok (v, S')) : D b S S' := by
 unfold clearV at h
 split at h
 ·cases h; exact D.refl S
 ·rw [cond_eq_ite] at h
  split at h
  ·cases h; exact D.refl S
  ·split at h
   ·rename_i hg
    rw [cond_eq_ite] at h
    split at h
    ·cases h; exact D.put (row_has hg)
    ·cases h
   ·cases h
 ·cases h
theorem buildSliceV_D {t : TypeId} {n : Nat} {ps : List (Nat × V)} {v : V} (hb : b ≤ S.next) (hf : FrB b fr) (h : buildSliceV P t n ps fr S = .ok (v, S')) : D b S S' := by
 unfold buildSliceV at h
 split at h
 ·cases h
 ·split at h
  ·cases h
  ·rw [cond_eq_ite] at h
   split at h
   ·split at h
    ·cases h
    ·split at h
     ·cases h
     ·rename_i hn; cases h; exact D.new hb hf hn
   ·cases h
theorem makeSliceV_D {t : TypeId} {l c v : V} (hb : b ≤ S.next) (hf : FrB b fr) (h : makeSliceV P t l c fr S = .ok (v, S')) : D b S S' := by
 unfold makeSliceV at h
 split at h
 ·split at h
  ·cases h
  ·rw [cond_eq_ite] at h
   split at h
   ·split at h
    ·cases h
    ·rename_i hn; cases h; exact D.new hb hf hn
   ·cases h
 ·cases h
theorem convertV_D {s d : TypeId} {x v : V} (hb : b ≤ S.next) (hf : FrB b fr) (h : convertV P s d x fr S = .ok (v, S')) : D b S S' := by
  unfold convertV at h
  split at h
  · split at h
    · cases h; exact D.refl S
    · cases h
  · split at h
    · cases h; exact D.refl S
    · split at h
      · split at h
        · split at h
          all_goals first
            | cases h; done
            | (split at h
               · cases h
               · split at h
                 · cases h; exact D.refl S
                 · cases h)
        · cases h
      · cases h
  · split at h
    · rw [cond_eq_ite] at h
      split at h
      · split at h
        · cases h
        · rename_i hn; cases h; exact D.new hb hf hn
      · cases h
    · cases h
  · cases h
theorem mapUpdateV_D {t : TypeId} {m k v : V} (h : mapUpdateV P t m k v S = .ok S') : D b S S' := by
 unfold mapUpdateV at h
 split at h
 ·split at h
  ·rename_i hg
   split at h
   ·cases h; exact D.put hg
   ·cases h; exact D.put hg
   ·cases h
  ·cases h
 ·cases h
theorem pureR_D {r : R V} {v : V} (h : pureR S r = .ok (.val v S')) : S' = S := by
 unfold pureR at h
 split at h <;> cases h; rfl
theorem pureR_skip {r : R V} (h : pureR S r = .ok (.skip S')) : False := by
 unfold pureR at h
 split at h <;> cases h
theorem pairR_D {r : R (V × St)} {v : V} (h : pairR r = .ok (.val v S')) : r = .ok (v, S') := by
 unfold pairR at h
 split at h <;> cases h; rfl
theorem pairR_skip {r : R (V × St)} (h : pairR r = .ok (.skip S')) : False := by
 unfold pairR at h
 split at h <;> cases h
def Out.left : Out → Option St
 | .val _ S => some S
 | .skip S => some S
 | .call _ _ => none
theorem pureR_left {r : R V} {o : Out} (h : pureR S r = .ok o) (hl : o.left = some S') : D b S S' := by
 cases o with
 | val v S1 => cases hl; rw [pureR_D h]; exact D.refl S
 | skip S1 => exact (pureR_skip h).elim
 | call f a => cases hl
theorem pairR_left {r : R (V × St)} {o : Out} (h : pairR r = .ok o) (hl : o.left = some S') (hd : ∀ v S1, r = .ok (v, S1) → D b S S1) : D b S S' := by
 cases o with
 | val v S1 => cases hl; exact hd _ _ (pairR_D h)
 | skip S1 => exact (pairR_skip h).elim
 | call f a => cases hl
theorem callOr_left {g : FuncId} {args : List V} {o : Out} (h : callOr P S g args = .ok o) (hl : o.left = some S') : D b S S' := by
 unfold callOr at h
 split at h
 ·cases h
 ·split at h
  ·cases h; cases hl
  ·exact pureR_left h hl
theorem builtinV_left {B : Builtin} {ts : Array TypeId} {args : List V} {o : Out} (hb : b ≤ S.next) (hf : FrB b fr) (h : builtinV P B ts args fr S = .ok o) (hl : o.left = some S') : D b S S' := by
 unfold builtinV at h
 split at h
 ·split at h
  ·exact pureR_left h hl
  ·cases h
 ·exact pureR_left h hl
 ·exact pureR_left h hl
 ·split at h
  ·split at h
   ·exact pairR_left h hl fun v S1 e => appendV_D hb hf e
   ·exact pairR_left h hl fun v S1 e => appendV_D hb hf e
   ·cases h
  ·cases h
 ·split at h
  ·exact pairR_left h hl fun v S1 e => clearV_D e
  ·cases h
 ·cases h
theorem evalOp_left {ρ : Operand → Option V} {o : Oper} {u : Out} (hb : b ≤ S.next) (hf : FrB b fr) (h : evalOp P ρ o fr S = .ok u) (hl : u.left = some S') : D b S S' := by
 unfold evalOp at h
 split at h
 all_goals try (cases h; done)
 all_goals try (exact callOr_left h hl)
 all_goals repeat' split at h
 all_goals try (cases h; done)
 all_goals try (exact pureR_left h hl)
 all_goals try (exact callOr_left h hl)
 all_goals try (exact builtinV_left hb hf h hl)
 all_goals try (cases h; cases hl; exact D.refl S)
 all_goals try (rename_i hn; cases h; cases hl; exact D.new hb hf hn)
 all_goals try (rename_i hn; cases h; cases hl; exact storeV_D hn)
 all_goals try (rename_i hn; cases h; cases hl; exact mapUpdateV_D hn)
 all_goals try (exact pairR_left h hl fun v S1 e => buildSliceV_D hb hf e)
 all_goals try (exact pairR_left h hl fun v S1 e => convertV_D hb hf e)
 all_goals try (exact pairR_left h hl fun v S1 e => makeSliceV_D hb hf e)
 all_goals simp only [cond_eq_ite] at h
 all_goals repeat' split at h
 all_goals try (cases h; done)
 all_goals try (exact pureR_left h hl)
 all_goals try (cases h; cases hl; exact D.refl S)
 all_goals try (cases h; cases hl; exact D.new hb hf (by assumption))
 all_goals (cases h; cases hl; exact D.put (by assumption))
def CallDead (C : Call) : Prop := ∀ f args S v S', C f args S = .ok (v, S') → ∀ b, b ≤ S.next → D b S S'
theorem stepOp_D {C : Call} (hC : CallDead C) {n : Nat} {ops : Array Oper} {o : Oper} {e e' : Env} (hb : b ≤ S.next) (hf : FrB b fr) (h : stepOp P C n ops o fr e S = .ok (e', S')) : D b S S' := by
 unfold stepOp at h
 split at h
 ·cases h
 ·split at h
  ·cases h; exact D.refl S
  ·cases h
 ·split at h
  ·cases h
  ·rename_i hv
   split at h
   ·cases h; exact evalOp_left hb hf hv rfl
   ·cases h
  ·rename_i hv
   split at h
   ·cases h; exact evalOp_left hb hf hv rfl
   ·cases h
  ·split at h
   ·cases h
   ·rename_i hc
    split at h
    ·cases h; exact hC _ _ _ _ _ hc b hb
    ·cases h
theorem runOps_D {C : Call} (hC : CallDead C) {n : Nat} {ops : Array Oper} : ∀ (l : List Oper) {e e' : Env} {S S' : St}, b ≤ S.next → runOps P C n ops l e S = .ok (e', S') → D b S S'
 | [], e, e', S, S', hb, h => by cases h; exact D.refl S
 | o :: l, e, e', S, S', hb, h => by
  simp only [runOps] at h
  split at h
  ·rename_i hs
   have h1 := stepOp_D hC hb (fun _ h => by cases h) hs
   exact h1.trans (runOps_D hC l (Nat.le_trans hb h1.next) h)
  ·cases h
theorem drawGo_D {C : Call} (hC : CallDead C) {n : Nat} {ops : Array Oper} {base : Nat} (hbb : b ≤ base) : ∀ (l : List Step) {recs : List Rec} {e e' : Env} {S S' : St}, b ≤ S.next → drawGo P C n ops base l recs e S = .ok (e', S') → D b S S'
 | [], recs, e, e', S, S', hb, h => by cases h; exact D.refl S
 | (i, re) :: l, recs, e, e', S, S', hb, h => by
  simp only [drawGo] at h
  split at h
  ·cases h
  ·split at h
   ·cases h
   ·rename_i hs
    have h1 := stepOp_D hC hb (fun k hk => by cases hk; omega) hs
    rw [cond_eq_ite] at h
    split at h
    ·exact h1.trans (drawGo_D hC hbb l (Nat.le_trans hb h1.next) h)
    ·cases h
theorem draw_D {C : Call} (hC : CallDead C) {n : Nat} {ops : Array Oper} {l : List Step} {e e' : Env} (hb : b ≤ S.next) (h : draw P C n ops l e S = .ok (e', S')) : D b S S' := by
 unfold draw at h
 have := drawGo_D hC hb l (S := ⟨S.next + ops.size, S.heap⟩) (Nat.le_trans hb (Nat.le_add_right _ _)) h
 exact ⟨Nat.le_trans (Nat.le_add_right _ _) this.next, this.dead⟩
theorem exec_D {C : Call} (hC : CallDead C) {pl : Nat → Option (List Step)} {k n : Nat} : ∀ (c : Code) {e e' : Env} {x : Ex} {S S' : St}, b ≤ S.next → exec P pl C k n c e S = .ok (x, e', S') → D b S S'
 | .skip, e, e', x, S, S', hb, h => by cases h; exact D.refl S
 | .label _, e, e', x, S, S', hb, h => by cases h; exact D.refl S
 | .exit id, e, e', x, S, S', hb, h => by cases h; exact D.refl S
 | .ret, e, e', x, S, S', hb, h => by cases h; exact D.refl S
 | .region id ops d, e, e', x, S, S', hb, h => by
  simp only [exec] at h
  split at h
  ·rename_i hr
   cases h
   cases d with
   | true => exact draw_D hC hb hr
   | false => exact runOps_D hC _ hb hr
  ·cases h
 | .seq a c, e, e', x, S, S', hb, h => by
  simp only [exec] at h
  split at h
  ·rename_i h1
   have d1 := exec_D hC a hb h1
   exact d1.trans (exec_D hC c (Nat.le_trans hb d1.next) h)
  ·exact exec_D hC a hb h
 | .cond q a c, e, e', x, S, S', hb, h => by
  simp only [exec] at h
  split at h
  ·exact exec_D hC a hb h
  ·exact exec_D hC c hb h
  ·cases h
 | .block id a, e, e', x, S, S', hb, h => by
  simp only [exec] at h
  split at h
  ·rename_i h1
   have d1 := exec_D hC a hb h1
   rw [cond_eq_ite] at h
   split at h
   ·cases h; exact d1
   ·cases h; exact d1
  ·exact exec_D hC a hb h
 | .loop a, e, e', x, S, S', hb, h => by
  simp only [exec] at h
  have : ∀ (m : Nat) (e : Env) (S : St), b ≤ S.next → iter (exec P pl C k n a) m e S = .ok (x, e', S') → D b S S' := by
   intro m
   induction m with
   | zero => intro e S _ h; cases h
   | succ m ih =>
    intro e S hb h
    simp only [iter] at h
    split at h
    ·rename_i h1
     have d1 := exec_D hC a hb h1
     exact d1.trans (ih _ _ (Nat.le_trans hb d1.next) h)
    ·exact exec_D hC a hb h
  exact this k e S hb h
 | .scope _, e, e', x, S, S', hb, h => by cases h
 | .rangeFunc .., e, e', x, S, S', hb, h => by cases h
 | .goto _, e, e', x, S, S', hb, h => by cases h
 | .refuse _, e, e', x, S, S', hb, h => by cases h
def StepsDead (pl : Plans) : Prop := ∀ f g, pl f = some (.spec g) → ∀ args S v S', g args S = .ok (v, S') → ∀ b, b ≤ S.next → D b S S'
theorem callF_D {pl : Plans} (hp : StepsDead pl) : ∀ k, CallDead (callF P pl k)
 | 0 => fun _ _ _ _ _ h => by cases h
 | k + 1 => by
  intro f args S v S' h b hb
  simp only [callF] at h
  split at h
  ·cases h
  ·rename_i g hg
   exact hp f g hg args S v S' h b hb
  ·split at h
   ·cases h
   ·split at h
    ·cases h
    ·rw [cond_eq_ite] at h
     split at h
     ·split at h
      ·cases h
      ·cases h
      ·rename_i he
       split at h
       ·cases h; exact exec_D (callF_D hp k) _ hb he
       ·cases h
     ·cases h
theorem Sp_D {s : Sp} {args : List V} {v : V} (hb : b ≤ S.next) (h : s.run P args S = .ok (v, S')) : D b S S' := by
 unfold Sp.run at h
 split at h
 ·exact insertV_D hb h
 ·exact deleteV_D h
 ·rw [cond_eq_ite] at h
  split at h
  ·split at h
   ·rw [cond_eq_ite] at h
    split at h
    ·cases h; exact D.refl S
    ·cases h
   ·cases h; exact D.refl S
   ·cases h
  ·cases h
 ·split at h
  ·rw [cond_eq_ite] at h
   split at h
   ·cases h; exact D.refl S
   ·cases h
  ·rw [cond_eq_ite] at h
   split at h
   ·cases h; exact D.refl S
   ·cases h
  ·cases h
 ·cases h; exact D.refl S
 ·cases h
end
theorem plansOf_dead (P : Program) (sp : SpTab) (t : PlTab) : StepsDead (plansOf P sp t) := by
 intro f g hg args S v S' h b hb
 unfold plansOf at hg
 split at hg
 ·cases hg; exact Sp_D hb h
 ·split at hg
  ·cases hg
  ·cases hg
end Go.AM
namespace Go.AM
theorem Does.dead {P : Program} {pl : Plans} {lv : Lives} (hp : StepsDead pl) {f : FuncId} {args : List V} {S : St} {Q : V → St → Prop} (h : Does P pl lv f args S Q) : Does P pl lv f args S fun v S' => Q v S' ∧ D S.next S S' := by
 obtain ⟨v, S', N, q, h⟩ := h
 obtain ⟨v1, S1, h1, h2⟩ := callD_some N f args S (fun v S => some (v, S)) (v, S') (h N _ (Nat.le_refl _))
 cases h2
 exact ⟨v, S', N, ⟨q, callF_D hp N f args S v S' h1 S.next (Nat.le_refl _)⟩, h⟩
end Go.AM
end
section
namespace Go.AM
open Go.RowKit Go.ChangeShapes
section
def Gh.all (W : World) : Gh := { Gh.none with pr := fun b => W.heap[b]? }
theorem rel_all (W : World) : Rel (fun i => W.heap[i]?) (Gh.all W) St.empty W.heap :=
 ⟨fun _ _ => ⟨rfl, rfl⟩, fun _ _ h => (by cases h), fun a b h => (by cases h), fun a a' b b' i h => (by cases h), fun i o h => h, fun i o h => h, fun a b i h => (by cases h),
  fun a i h => (by rcases h with ⟨L, h, _⟩ | h <;> cases h), fun a b h => (by cases h)⟩
theorem callsF_true {P : Program} {pl : Plans} (hp : PlansOK P pl) {k : Nat} {f : FuncId} {args : List V} {S' : St} (h : callF P pl k f args St.empty = .ok (.bool true, S')) (W : World) {cs : List Value} (hc : VRs (Gh.all W) args cs) :
  Calls P f cs.toArray W fun e W' => e = .returned (.bool true) ∧ Below W.heap.size W W' := by
 refine ((callF_sound hp k).calls h (rel_all W) hc).mono ?_
 rintro e W' ⟨G', w, rfl, q1, q2⟩
 cases q2
 refine ⟨rfl, q1.same.os, q1.same.tape, q1.same.output, q1.same.size, fun i hi => ?_⟩
 have := Array.getElem?_eq_getElem hi
 rw [this]
 exact q1.rel.fr i _ this
def shapeOK (P : Program) : Nat → TypeId → List V → Prop
 | 0, _, _ => False
 | n + 1, t, xs => match P.underlying t with
  | some .bool => ∃ b, xs = [.bool b]
  | some (.int k) => ∃ i, xs = [.int k i] ∧ (Lit.int k i).wf = true
  | some .string => ∃ s, xs = [.str s] ∧ s.length ≤ maxLen
  | some (.slice e) => xs = [.nils] ∨ ∃ es, xs = [.imm es] ∧ es.length ≤ maxLen ∧ ∀ c, c ∈ es → c.length = P.cellsOf e ∧ shapeOK P n e c
  | some (.struct fs) => xs.length = P.cellsOf t ∧ ∀ f, f ∈ fs.toList → shapeOK P n f.type ((xs.drop f.offset).take (P.cellsOf f.type))
  | _ => False
def tileB (P : Program) : List Field → Nat → Nat → Bool
 | [], o, e => Nat.beq o e
 | f :: l, o, e => Nat.beq f.offset o && tileB P l (o + P.cellsOf f.type) e
def plainB (P : Program) : Nat → TypeId → Bool
 | 0, _ => false
 | d + 1, t => match P.underlying t with
  | some .bool => true
  | some (.int _) => true
  | some .string => true
  | some (.slice e) => Nat.blt 0 (P.cellsOf e) && plainB P d e
  | some (.struct fs) => tileB P fs.toList 0 (P.cellsOf t) && fs.toList.all fun f => plainB P d f.type
  | _ => false
theorem list_of {α : Type} {Q : Nat → α → Prop} : ∀ n, (∀ i, i < n → ∃ a, Q i a) → ∃ l : List α, l.length = n ∧ ∀ i a, l[i]? = some a → Q i a
 | 0, _ => ⟨[], rfl, fun i a h => by simp at h⟩
 | n + 1, h => by
  obtain ⟨l, h1, h2⟩ := list_of n fun i hi => h i (by omega)
  obtain ⟨a, ha⟩ := h n (by omega)
  refine ⟨l ++ [a], by simp [h1], fun i x hx => ?_⟩
  by_cases c : i < n
  ·rw [List.getElem?_append_left (by omega)] at hx; exact h2 i x hx
  ·have hi : i < (l ++ [a]).length := (List.getElem?_eq_some_iff.1 hx).1
   simp only [List.length_append, List.length_cons, List.length_nil] at hi
   have : i = n := by omega
   subst this
   rw [List.getElem?_append_right (by omega), h1, Nat.sub_self] at hx
   cases hx; exact ha
theorem VRss.of {G : Gh} : ∀ {l : List (List V × List Value)}, (∀ x, x ∈ l → VRs G x.1 x.2) → VRss G (l.map (·.1)) (l.map (·.2))
 | [], _ => .nil
 | x :: l, h => .cons _ _ _ _ (h x (List.mem_cons_self ..)) (VRss.of fun y hy => h y (List.mem_cons_of_mem _ hy))
section
variable {H : Type} {enc : TypeId × Value → H} {P : Program} {W : World} {sp : Nat → Bool} {held : Bool}
theorem tiles {n : Nat} {cs : List Value} (ih : ∀ (t : TypeId) (cs : List Value) (x : DataW H × List MemPlace) (d : Nat), plainB P d t = true → DataW.trod enc P W 0 sp held n t cs = some x → ∃ xs, VRs (Gh.all W) xs cs ∧ shapeOK P n t xs) {d : Nat} :
  ∀ (l : List Field) (o e : Nat), tileB P l o e = true → e ≤ cs.length → (∀ f, f ∈ l → plainB P d f.type = true ∧ ∃ x, DataW.trod enc P W 0 sp held n f.type ((cs.drop f.offset).take (P.cellsOf f.type)) = some x) →
   o ≤ e ∧ ∃ xs, VRs (Gh.all W) xs ((cs.drop o).take (e - o)) ∧ ∀ f, f ∈ l → o ≤ f.offset ∧ shapeOK P n f.type ((xs.drop (f.offset - o)).take (P.cellsOf f.type))
 | [], o, e, h, he, _ => by
  have : o = e := Nat.eq_of_beq_eq_true h
  subst this
  exact ⟨Nat.le_refl _, [], by rw [Nat.sub_self]; exact .nil, fun _ h => by cases h⟩
 | f :: l, o, e, h, he, hf => by
  simp only [tileB, Bool.and_eq_true] at h
  have h0 : f.offset = o := Nat.eq_of_beq_eq_true h.1
  obtain ⟨hle, xs, hv, hs⟩ := tiles ih l (o + P.cellsOf f.type) e h.2 he (fun g hg => hf g (List.mem_cons_of_mem _ hg))
  obtain ⟨hpl, x, hx⟩ := hf f (List.mem_cons_self ..)
  obtain ⟨ys, hy, hsy⟩ := ih _ _ _ d hpl hx
  rw [h0] at hy
  have hyl : ys.length = P.cellsOf f.type := by rw [hy.length, List.length_take, List.length_drop]; omega
  refine ⟨by omega, ys ++ xs, ?_, fun g hg => ?_⟩
  ·have : (cs.drop o).take (e - o) = (cs.drop o).take (P.cellsOf f.type) ++ (cs.drop (o + P.cellsOf f.type)).take (e - (o + P.cellsOf f.type)) := by
    rw [← List.drop_drop, ← List.take_add]
    congr 1
    omega
   rw [this]
   exact hy.append hv
  ·rcases List.mem_cons.1 hg with rfl | hg
   ·refine ⟨by omega, ?_⟩
    rw [h0, Nat.sub_self, List.drop_zero, List.take_append_of_le_length (by omega), List.take_of_length_le (by omega)]
    exact hsy
   ·obtain ⟨h1, h2⟩ := hs g hg
    refine ⟨by omega, ?_⟩
    rw [List.drop_append, List.drop_eq_nil_of_le (by omega), List.nil_append, hyl]
    have : g.offset - o - P.cellsOf f.type = g.offset - (o + P.cellsOf f.type) := by omega
    rw [this]
    exact h2
theorem cells_get {a : Addr} {n : Nat} {r : List Value} (h : W.cells? 0 a n = some r) : r.length = n ∧ ∀ k v, r[k]? = some v → W.cell? (a.add k) = some v := by
 unfold World.cells? at h
 rw [if_pos (Nat.zero_le _)] at h
 have hl := mapM_some_length h
 rw [List.length_range] at hl
 refine ⟨hl, fun k v hk => ?_⟩
 have hkn : k < n := by have := (List.getElem?_eq_some_iff.1 hk).1; omega
 have := mapM_some_get h k k (by rw [List.getElem?_range hkn])
 rw [this, hk]
theorem cell_at {a : Addr} {v : Value} (h : W.cell? a = some v) : ∃ c ty fr, W.heap[a.block]? = some (.cells c ty fr) ∧ a.spot = none ∧ c[a.off]? = some v := by
 unfold World.cell? at h
 split at h
 ·rename_i c ty fr hc
  split at h
  ·cases h
  ·rename_i hs
   exact ⟨c, ty, fr, hc, by simpa using hs, h⟩
 ·cases h
theorem add_block (a : Addr) (n : Nat) : (a.add n).block = a.block := by
 unfold Addr.add
 split <;> rfl
theorem add_off (a : Addr) (n : Nat) : (a.add n).off = a.off + n := by
 unfold Addr.add
 split
 ·rename_i h; rw [h, Nat.add_zero]
 ·rfl
theorem add_zero' (a : Addr) : a.add 0 = a := by unfold Addr.add; rw [if_pos rfl]
theorem arg_VR : ∀ (n : Nat) (t : TypeId) (cs : List Value) (x : DataW H × List MemPlace) (d : Nat), plainB P d t = true → DataW.trod enc P W 0 sp held n t cs = some x → ∃ xs, VRs (Gh.all W) xs cs ∧ shapeOK P n t xs
 | 0, t, cs, x, d, _, h => by simp [DataW.trod] at h
 | n + 1, t, cs, x, 0, hp, h => by cases hp
 | n + 1, t, cs, x, d + 1, hp, h => by
  simp only [plainB] at hp
  split at hp
  ·rename_i ht
   obtain ⟨b, rfl, _⟩ := DataW.trod_bool ht h
   exact ⟨[.bool b], .cons _ _ _ _ (.bool b) .nil, by simp only [shapeOK, ht]; exact ⟨b, rfl⟩⟩
  ·rename_i k ht
   obtain ⟨i, rfl, _, hw⟩ := DataW.trod_int ht h
   exact ⟨[.int k i], .cons _ _ _ _ (.int k i) .nil, by simp only [shapeOK, ht]; exact ⟨i, rfl, hw⟩⟩
  ·rename_i ht
   obtain ⟨s, rfl, _, hs⟩ := DataW.trod_string ht h
   refine ⟨[.str s.data.toList], .cons _ _ _ _ (.str s.data.toList) .nil, ?_⟩
   simp only [shapeOK, ht]
   exact ⟨_, rfl, hs⟩
  ·rename_i e ht
   simp only [Bool.and_eq_true, Nat.blt_eq] at hp
   rcases DataW.trod_slice ht h with ⟨rfl, _⟩ | ⟨a, len, cap, elems, rest, m, hm, rfl, _, _, hlc, hcap, hel, hget, _, _⟩
   ·exact ⟨[.nils], .cons _ _ _ _ .nils .nil, by simp only [shapeOK, ht]; exact .inl trivial⟩
   ·have hm : m = n := by omega
    subst hm
    obtain ⟨l, hl, hq⟩ := list_of (Q := fun i (y : List V × List Value) => W.cells? 0 (a.add (i * P.cellsOf e)) (P.cellsOf e) = some y.2 ∧ VRs (Gh.all W) y.1 y.2 ∧ shapeOK P m e y.1) len (fun i hi => by
     have h1 := hget i hi
     rw [List.getElem?_eq_getElem (by omega : i < elems.length)] at h1
     rw [Option.bind_eq_some_iff] at h1
     obtain ⟨r, h2, h3⟩ := h1
     obtain ⟨c, h4, h5⟩ := arg_VR m e r _ d hp.2 h3
     exact ⟨(c, r), h2, h4, h5⟩)
    have hlen : ∀ y, y ∈ l → y.1.length = P.cellsOf e ∧ y.2.length = P.cellsOf e := fun y hy => by
     obtain ⟨i, hi⟩ := List.mem_iff_getElem?.1 hy
     obtain ⟨h1, h2, _⟩ := hq i y hi
     have := (cells_get h1).1
     exact ⟨by rw [h2.length]; exact this, this⟩
    refine ⟨[.imm (l.map (·.1))], .cons _ _ _ _ (.imm _ a len cap (P.cellsOf e) (by rw [List.length_map, hl]) hlc (l.map (·.2)) (VRss.of fun y hy => ?_) (fun c hc => ?_) ?_) .nil, ?_⟩
    ·obtain ⟨i, hi⟩ := List.mem_iff_getElem?.1 hy
     exact (hq i y hi).2.1
    ·obtain ⟨y, hy, rfl⟩ := List.mem_map.1 hc
     exact (hlen y hy).1
    ·by_cases h0 : len = 0
     ·exact .inl h0
     ·right
      obtain ⟨y0, hy0⟩ : ∃ y0, l[0]? = some y0 := ⟨l[0]'(by omega), List.getElem?_eq_getElem (by omega)⟩
      obtain ⟨h1, _, _⟩ := hq 0 y0 hy0
      rw [Nat.zero_mul, add_zero'] at h1
      obtain ⟨hyl, hcell⟩ := cells_get h1
      obtain ⟨v0, hv0⟩ : ∃ v0, y0.2[0]? = some v0 := ⟨y0.2[0]'(by omega), List.getElem?_eq_getElem (by omega)⟩
      have hc0 := hcell 0 v0 hv0
      rw [add_zero'] at hc0
      obtain ⟨c, ty, fr, hh, hs, _⟩ := cell_at hc0
      refine ⟨c, ty, fr, hh, hs, fun i r hr k v hk => ?_⟩
      rw [List.getElem?_map] at hr
      obtain ⟨y, hy, rfl⟩ : ∃ y, l[i]? = some y ∧ y.2 = r := by
       cases hy : l[i]? with
       | none => rw [hy] at hr; cases hr
       | some y => rw [hy] at hr; exact ⟨y, rfl, Option.some.inj hr⟩
      obtain ⟨h2, _, _⟩ := hq i y hy
      obtain ⟨c', ty', fr', hh', _, hv⟩ := cell_at ((cells_get h2).2 k v hk)
      rw [add_block, add_block, hh] at hh'
      rw [add_off, add_off] at hv
      cases hh'
      exact hv
    ·simp only [shapeOK, ht]
     refine .inr ⟨_, rfl, by rw [List.length_map, hl]; omega, fun c hc => ?_⟩
     obtain ⟨y, hy, rfl⟩ := List.mem_map.1 hc
     obtain ⟨i, hi⟩ := List.mem_iff_getElem?.1 hy
     exact ⟨(hlen y hy).1, (hq i y hi).2.2⟩
  ·rename_i fs ht
   simp only [Bool.and_eq_true, List.all_eq_true] at hp
   obtain ⟨xs, m, hm, _, hcl, hxl, hf⟩ := DataW.trod_struct ht h
   have hm : m = n := by omega
   subst hm
   obtain ⟨_, ys, h1, h2⟩ := tiles (enc := enc) (sp := sp) (held := held) (cs := cs) (fun t cs x d => arg_VR m t cs x d) fs.toList 0 (P.cellsOf t) hp.1 (Nat.le_of_eq hcl.symm) (fun f hfm => by
    refine ⟨hp.2 f hfm, ?_⟩
    obtain ⟨i, hi⟩ := List.mem_iff_getElem?.1 hfm
    have hi' : fs[i]? = some f := by simpa using hi
    rw [hf i f hi']
    have : i < xs.length := by
     rw [hxl]
     by_cases c : i < fs.size
     ·exact c
     ·rw [Array.getElem?_eq_none (by omega)] at hi'; cases hi'
    exact ⟨_, List.getElem?_eq_getElem this⟩)
   rw [Nat.sub_zero, List.drop_zero, List.take_of_length_le (by omega)] at h1
   refine ⟨ys, h1, ?_⟩
   simp only [shapeOK, ht]
   refine ⟨by rw [h1.length, hcl], fun f hfm => ?_⟩
   have := (h2 f hfm).2
   rwa [Nat.sub_zero] at this
  ·cases hp
end
end
end Go.AM
end
section
namespace Go.AM
open Go.ChangeShapes Go.WideShapes Go.ChangeAt Go.RowKit
theorem post_of_below {H : Type} {enc : TypeId × Value → H} {P : Program} {f : Func} {s : ChangeSpec} {apart fresh handsOn : Bool} {W W' : World} {args : Array Value} {v : Value} {ds gs : List (DataW H)} {before pa pv : List MemPlace}
  (hW : DataW.Whole enc P f.params.toList s.vars apart W args.toList ds gs before)
  (hres : ∀ (b : Nat) (sp : Nat → Bool) (hd : Bool), DataW.TrodAll enc P W' b sp hd f.resultTypes.toList (v.resultList f.resultTypes.size) (s.fn H (ds ++ gs)).results [])
  (hargs : ∀ sp : Nat → Bool, (∀ p ∈ before, sp p.block = true) → DataW.TrodAll enc P W' 0 sp true f.params.toList args.toList (s.fn H (ds ++ gs)).args pa)
  (hvars : ∀ sp : Nat → Bool, (∀ p ∈ before, sp p.block = true) → DataW.TrodVars enc P W' sp s.vars (s.fn H (ds ++ gs)).vars pv)
  (hps : before = pa ++ pv) (hk : W.keptBut W' (· ∈ before)) :
  s.post enc P f apart fresh handsOn false W args v W' := by
 have hold : ∀ p ∈ before, (fun b => decide (b < W.heap.size)) p.block = true := fun p hp => by simpa using hW.lt p hp
 refine ⟨ds, gs, before, [], pa, pv, hW, hres _ _ _, hargs _ hold, hvars _ hold, World.keptBut_mono (fun p hp => ⟨hp, ?_⟩) hk, fun h => by cases h⟩
 rw [hps, List.mem_append] at hp
 exact Or.inr hp
theorem kept_of_below {W W' : World} (h : Below W.heap.size W W') (S : MemPlace → Prop) : W.keptBut W' S := Below.frame h S
theorem true_trod {H : Type} {enc : TypeId × Value → H} {P : Program} {W : World} {t : TypeId} (ht : P.underlying t = some .bool) (b : Nat) (sp : Nat → Bool) (hd : Bool) :
  DataW.TrodAll enc P W b sp hd [t] ((Value.bool true).resultList 1) [.lit (.bool true)] [] :=
 trodAll_mk1 ⟨1, by simp [DataW.trod, Value.cells, ht]⟩
end Go.AM
end
section
namespace Go.AM
open Go.RowKit Go.ChangeShapes
section
theorem Does.calls {P : Program} {pl : Plans} {lv : Lives} (hp : PlansOK P pl) {f : FuncId} {args : List V} (h : Does P pl lv f args St.empty fun u _ => u = .bool true) (W : World) {cs : List Value} (hc : VRs (Gh.all W) args cs) :
  Calls P f cs.toArray W fun e W' => e = .returned (.bool true) ∧ Below W.heap.size W W' := by
 obtain ⟨k, v, S', hv, hk⟩ := h.says
 subst hv
 exact callsF_true hp hk W hc
section
variable {H : Type} {enc : TypeId × Value → H} {P : Program} {W : World} {sp : Nat → Bool} {held : Bool}
theorem okWide_slice' {r : Reach} {b0 : Nat} {t e : TypeId} {v : Value} (ht : P.underlying t = some (.slice e)) (hval : Value.okWide P W r b0 t v) : v.cells.toList = [v] := by
 cases v with
 | agg cs => simp [Value.okWide, ht, Cell.okWide, Cell.ok] at hval
 | _ => rfl
theorem open_slice_arg {r : Reach} {b0 d : Nat} {t e : TypeId} {v : Value} {dd : DataW H} {ps : List MemPlace} (ht : P.underlying t = some (.slice e)) (hpl : plainB P d t = true) (hval : Value.okWide P W r b0 t v) (hd : DataW.Trod enc P W 0 sp held t v dd ps) :
  ∃ x n, VR (Gh.all W) x v ∧ shapeOK P n t [x] := by
 obtain ⟨fuel, hf⟩ := hd
 obtain ⟨xs, h1, h2⟩ := arg_VR fuel t _ _ d hpl hf
 rw [okWide_slice' ht hval] at h1
 cases h1 with
 | cons x _ vs _ hx t' =>
  cases t'
  exact ⟨x, fuel, hx, h2⟩
theorem again_arg {t : TypeId} (hl : laidOutB P = true) (hr : P.readableRec t = true) (hrow : t < P.types.size) {W' : World} {v : Value} {d : DataW H} {ps : List MemPlace} (h : DataW.Trod enc P W 0 (fun _ => true) true t v d ps) (hb : Below W.heap.size W W')
  (hlt : ∀ x ∈ ps, x.block < W.heap.size) {sp' : Nat → Bool} (hs : ∀ x ∈ ps, sp' x.block = true) : DataW.Trod enc P W' 0 sp' true t v d ps :=
 WideElems.Trod_stays hl hr hrow h (fun x hx => hb.same (hlt x hx)) hs
end
end
end Go.AM
end
