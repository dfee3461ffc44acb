import Derived.Test.YtjbicclbalagbaaGreatX2
set_option linter.unusedSimpArgs false
set_option linter.unusedVariables false
set_option maxRecDepth 100000
section
namespace Go.Proofs.YtjbicclbalagbaaGreat
open Go.AM Tryz
def lookM (l : List Sess) (id seq : Int) : Rep × Bool × Int :=
 if sessM l = false then (Rep.zero, false, 1) else if sessAt l id < 0 then (Rep.zero, false, 15) else if seq < 1 ∨ 1099511627776 < seq then (Rep.zero, false, 1) else
  match l[(sessAt l id).toNat]? with
  | none => (Rep.zero, false, 1)
  | some s => if seq = s.last then (s.reply, true, 0) else if seq < s.last then (Rep.zero, false, 16) else (Rep.zero, false, 0)
def lookV (r : Rep × Bool × Int) : V := .tup [.agg r.1.enc, .bool r.2.1, .int .i64 r.2.2]
theorem sessM_len {l : List Sess} (h : sessM l = true) : l.length ≤ 8 := by
 unfold sessM at h
 split at h
 ·cases h
 ·omega
theorem sessAt_cases (l : List Sess) (id : Int) : sessAt l id = -1 ∨ ∃ (i : Nat) (s : Sess), sessAt l id = (i : Int) ∧ l[i]? = some s ∧ s.id = id := by
 rcases ixM_cases (fun s : Sess => decide (s.id = id)) l with h | ⟨i, s, h1, h2, h3⟩
 ·exact .inl h
 ·exact .inr ⟨i, s, h1, h2, of_decide_eq_true h3⟩
theorem g34 (v : V) (l : List Sess) (id seq : Int) (S : St) (w : WF S) (hs : Sl S 5 v (l.map Sess.enc)) : Gives 34 [v, .int .i64 id, .int .i64 seq] S (lookV (lookM l id seq)) := by
 refine e34 ?_
 have hx := Ext.new w (.row 0 3 [[.int .i64 0,.int .i64 0,.int .i64 0]])
 have out : ∀ (r : Rep) (b : Bool) (e : Int) (S1 : St), Ext (⟨S.next + 1, S.heap.put S.next (.row 0 3 [[.int .i64 0,.int .i64 0,.int .i64 0]])⟩ : St) S1 → lookM l id seq = (r, b, e) →
   Ok (fun k K => dR (storeW 3 (.ptr S.next 0 0 0) (.agg r.enc) S1) fun S2 => dR (loadW (some 3) (.ptr S.next 0 0 0) S2) fun t => K (.tup [t, .bool b, .int .i64 e]) S2) (fun w S' => w = lookV (lookM l id seq) ∧ Ext S S') := by
  intro r b e S1 x he
  obtain ⟨S2, q1, q2, q3⟩ := cell_out w x rfl r.enc rfl rfl
  simp only [q1, q2, dR_ok]
  exact Ok.ret ⟨by rw [he]; rfl, q3⟩
 simp only [m34, newBlk_none, dR_ok]
 refine (g65 v l _ (hx.wf w) (hs.ext hx)).call fun S1 x1 => ?_
 simp only [un_not, dR_ok, bd34, bd34z, st34, ld34]
 refine Ok.pick (fun h => out _ _ _ S1 x1 ?_) (fun h => ?_)
 ·have : sessM l = false := by simpa using h
  simp [lookM, this]
 ·have hr : sessM l = true := by simpa using h
  have hb := sessM_len hr
  refine (g66 v l id S1 ((hx.trans x1).wf w) (hs.ext (hx.trans x1)) (by omega)).call fun S2 x2 => ?_
  simp only [bin_lss, dR_ok]
  refine Ok.pickP (fun h => out _ _ _ S2 (x1.trans x2) (by simp [lookM, hr, h])) (fun h15 => ?_)
  rcases sessAt_cases l id with h | ⟨i, s, hi, hg, _⟩
  ·omega
  obtain ⟨p, hp, hat, hl5, _⟩ := (hs.ext ((hx.trans x1).trans x2)).elem hg
  have v1 : loadW none (adv 1 p) S2 = .ok (.int .i64 s.last) := by rw [hat.load]; rfl
  have v2 : loadW (some 3) (adv 2 p) S2 = .ok (.agg s.reply.enc) := by rw [hat.load]; rfl
  have hlook : ¬ (seq < 1 ∨ 1099511627776 < seq) → lookM l id seq = if seq = s.last then (s.reply, true, 0) else if seq < s.last then (Rep.zero, false, 16) else (Rep.zero, false, 0) := by
   intro hq
   unfold lookM
   rw [if_neg (by rw [hr]; simp), if_neg h15, if_neg hq, hi]
   simp only [Int.toNat_natCast, hg]
  have hj : ∀ b : Bool, (b = true → seq < 1 ∨ 1099511627776 < seq) → (b = false → ¬ (seq < 1 ∨ 1099511627776 < seq)) →
    Ok (fun k K => m34_j0 (callD prog dPl dLv k) k K v (.int .i64 seq) (.ptr S.next 0 0 0) (.int .i64 (sessAt l id)) (.bool b) S2) (fun w S' => w = lookV (lookM l id seq) ∧ Ext S S') := by
   intro b h1 h2
   simp only [m34_j0, bd34, bd34z, st34, ld34, ld3, dR_ok, ix28, hi, hp, fa84_1, fa84_2, hat.advW, v1, v2, guard_int, dIf_true, bin_eql, bin_lss]
   refine Ok.pick (fun h => out _ _ _ S2 (x1.trans x2) ?_) (fun h => ?_)
   ·unfold lookM
    rw [if_neg (by rw [hr]; simp), if_neg h15, if_pos (h1 h)]
   ·have hq := hlook (h2 h)
    refine Ok.pickP (fun c => out _ _ _ S2 (x1.trans x2) (by rw [hq, if_pos c])) (fun c => ?_)
    refine Ok.pickP (fun c' => out _ _ _ S2 (x1.trans x2) (by rw [hq, if_neg c, if_pos c'])) (fun c' => out _ _ _ S2 (x1.trans x2) (by rw [hq, if_neg c, if_neg c']))
  refine Ok.pickP (fun h => hj true (fun _ => .inl h) (fun h => by cases h)) (fun h => ?_)
  simp only [bin_gtr, dR_ok]
  by_cases h' : 1099511627776 < seq
  ·simp only [h', decide_true]
   exact hj true (fun _ => .inr h') (fun h => by cases h)
  ·simp only [h', decide_false]
   exact hj false (fun h => by cases h) (fun _ => by omega)
def lowStep {α : Type} (p : α → Bool) (n : Nat) (a : α) : Nat ⊕ Nat := if p a = true then .inr (n + 1) else .inl n
def lowM {α : Type} (p : α → Bool) (l : List α) : Nat := runL (lowStep p) id l 0
theorem lowM_from {α : Type} (p : α → Bool) : ∀ (l : List α) (n : Nat), runL (lowStep p) id l n ≤ n + l.length
 | [], n => by simp [runL]
 | a :: l, n => by
  have ih := lowM_from p l (n + 1)
  by_cases h : p a = true
  ·simp only [runL, lowStep, h, if_true, List.length_cons]; omega
  ·simp only [runL, lowStep, h, if_false, List.length_cons, Bool.false_eq_true]; omega
theorem lowM_le {α : Type} (p : α → Bool) (l : List α) : lowM p l ≤ l.length := by have := lowM_from p l 0; simp only [lowM]; omega
def insAt {α : Type} (l : List α) (i : Nat) (a : α) : List α := l.take i ++ a :: l.drop i
theorem map_insAt {α β : Type} (f : α → β) (l : List α) (i : Nat) (a : α) : (insAt l i a).map f = (l.map f).take i ++ f a :: (l.map f).drop i := by simp [insAt, List.map_take, List.map_drop]
def ListOut {α : Type} (S : St) (n : Nat) (enc : α → List V) (r : List α × Int) (w : V) (S' : St) : Prop := ∃ v, w = .tup [v, .int .i64 r.2] ∧ Ext S S' ∧ Own S S' n v (r.1.map enc)
theorem ListOut.none {α : Type} {S S' : St} {n : Nat} {enc : α → List V} {e : Int} (x : Ext S S') : ListOut S n enc ([], e) (.tup [.nils, .int .i64 e]) S' := ⟨.nils, rfl, x, Own.nil _ _ _⟩
def joinM (l : List Sess) (id : Int) : List Sess × Int :=
 if sessM l = false ∨ id < 1 then ([], 1) else if 0 ≤ sessAt l id then ([], 12) else if 8 ≤ l.length then ([], 14) else (insAt l (lowM (fun s => decide (s.id < id)) l) ⟨id, 0, Rep.zero⟩, 0)
theorem ap28 : apT prog 28 = some (5, 40) := by kernel_rfl
theorem pl109 : dPl 109 = some (.spec ((Sp.ins 28).run prog)) := by kernel_rfl
theorem doesIns {f : FuncId} {T : TypeId} (hf : dPl f = some (.spec ((Sp.ins T).run prog))) {s i x v : V} {S S' : St} (h : insertV prog T s i x S = .ok (v, S')) : Does prog dPl dLv f [s, i, x] S (fun u S6 => u = v ∧ S6 = S') :=
 Does.step hf (show (Sp.ins T).run prog [s, i, x] S = .ok (v, S') from h) ⟨rfl, rfl⟩
theorem doesDel {f : FuncId} {T : TypeId} (hf : dPl f = some (.spec ((Sp.del T).run prog))) {s i x v : V} {S S' : St} (h : deleteV prog T s i x S = .ok (v, S')) : Does prog dPl dLv f [s, i, x] S (fun u S6 => u = v ∧ S6 = S') :=
 Does.step hf (show (Sp.del T).run prog [s, i, x] S = .ok (v, S') from h) ⟨rfl, rfl⟩
theorem g64 (v : V) (l : List Sess) (id : Int) (S : St) (w : WF S) (hs : Sl S 5 v (l.map Sess.enc)) : Does prog dPl dLv 64 [v, .int .i64 id] S (ListOut S 5 Sess.enc (joinM l id)) := by
 refine e64 ?_
 simp only [m64]
 refine (g65 v l S w hs).call fun S1 x1 => ?_
 simp only [un_not, dR_ok, bin_lss]
 have hj : ∀ b : Bool, (b = true → sessM l = false ∨ id < 1) → (b = false → ¬ (sessM l = false ∨ id < 1)) →
   Ok (fun k K => m64_j0 (callD prog dPl dLv k) k K v (.int .i64 id) (.bool b) S1) (ListOut S 5 Sess.enc (joinM l id)) := by
  intro b h1 h2
  simp only [m64_j0]
  refine Ok.pick (fun h => Ok.ret ?_) (fun h => ?_)
  ·unfold joinM
   rw [if_pos (h1 h)]
   exact ListOut.none x1
  ·have hn := h2 h
   have hr : sessM l = true := by
    cases hq : sessM l with
    | true => rfl
    | false => exact absurd (.inl hq) hn
   have hb := sessM_len hr
   refine (g66 v l id S1 (x1.wf w) (hs.ext x1) (by omega)).call fun S2 x2 => ?_
   simp only [bin_geq, dR_ok, len28, hs.lenI]
   refine Ok.pickP (fun h => Ok.ret ?_) (fun h12 => ?_)
   ·unfold joinM
    rw [if_neg hn, if_pos h]
    exact ListOut.none (x1.trans x2)
   ·refine Ok.pickP (fun h => Ok.ret ?_) (fun h14 => ?_)
    ·unfold joinM
     rw [if_neg hn, if_neg h12, if_pos (by omega)]
     exact ListOut.none (x1.trans x2)
    ·have h14' : ¬ 8 ≤ l.length := by omega
     have x12 := x1.trans x2
     refine Ok.loop (F := fun k K => m64_l0 (callD prog dPl dLv k) k K v (.int .i64 id)) (ρ := Nat) (α := Sess) (X := Nat) l (step := lowStep fun s : Sess => decide (s.id < id)) (fin := _root_.id)
      (out := fun k K x S' => m64_j1 (callD prog dPl dLv k) k K v (.int .i64 id) (.int .i64 (x : Int)) S') (s := 0)
      (fun i n vs S' => n = i ∧ vs = [.int .i64 (i : Int)] ∧ S' = S2) (fun r x S' => r = x ∧ S' = S2) ?_ ?_ ⟨rfl, rfl, rfl⟩ ?_
     ·rintro i s n vs S3 ⟨rfl, rfl, rfl⟩ hi
      have hil : n < l.length := (List.getElem?_eq_some_iff.1 hi).1
      have hlt : (n : Int) < (l.length : Int) := by omega
      have hw : wr .i64 ((n : Int) + 1) = ((n + 1 : Nat) : Int) := by rw [wr64 (by omega) (by omega)]; omega
      obtain ⟨p, hp, hat, hl5, _⟩ := (hs.ext x12).elem hi
      have v0 : loadW none (adv 0 p) S3 = .ok (.int .i64 s.id) := by rw [hat.load]; rfl
      have pre : ∀ (K : KS) (again : List V → St → An) (k : Nat), m64_l0 (callD prog dPl dLv k) k K v (.int .i64 id) [.int .i64 (n : Int)] S3 again =
        if s.id < id then again [.int .i64 ((n + 1 : Nat) : Int)] S3 else m64_j1 (callD prog dPl dLv k) k K v (.int .i64 id) (.int .i64 (n : Int)) S3 := by
       intro K again k
       simp only [m64_l0, unD_cons, len28, hs.lenI, bin_lss, dR_ok, hlt, decide_true, pickD_true, ix28, hp, fa84_0, hat.advW, ld3, v0, bin_add, hw, pickD_bool, decide_eq_true_eq, if_true]
      by_cases c : s.id < id
      ·exact ⟨0, .inr ⟨n + 1, _, S3, by simp [lowStep, c], ⟨rfl, rfl, rfl⟩, fun k K again _ => by rw [pre, if_pos c]⟩⟩
      ·exact ⟨0, .inl ⟨n, n, S3, by simp [lowStep, c], ⟨rfl, rfl⟩, fun k K again _ => by rw [pre, if_neg c]⟩⟩
     ·rintro n vs S3 ⟨rfl, rfl, rfl⟩
      have hlt : ¬ (l.length : Int) < (l.length : Int) := by omega
      refine ⟨0, l.length, S3, ⟨rfl, rfl⟩, fun k K again _ => ?_⟩
      simp only [m64_l0, unD_cons, len28, hs.lenI, bin_lss, dR_ok, hlt, decide_false, pickD_false]
     ·rintro x S3 ⟨rfl, rfl⟩
      show Ok (fun k K => m64_j1 (callD prog dPl dLv k) k K v (.int .i64 id) (.int .i64 ((lowM (fun s : Sess => decide (s.id < id)) l : Nat) : Int)) S3) _
      have hle := lowM_le (fun s : Sess => decide (s.id < id)) l
      generalize hi : lowM (fun s : Sess => decide (s.id < id)) l = i at hle
      have hjoin : joinM l id = (insAt l i ⟨id, 0, Rep.zero⟩, 0) := by
       unfold joinM
       rw [if_neg hn, if_neg h12, if_neg h14', hi]
      have hlm : (l.map Sess.enc).length = l.length := List.length_map ..
      obtain ⟨v', S4, q1, q2, q3⟩ := (hs.ext x12).copy (b := 40) (x12.wf w) (by rw [hlm]; omega) (by rw [hlm]; unfold lim; omega)
      have hbld : buildW [.int .i64 0,.int .i64 0,.int .i64 0,.int .i64 0,.int .i64 0] [(0, 1), (1, 1), (2, 3)] [(0, .int .i64 id)] = .ok (.agg (Sess.enc ⟨id, 0, Rep.zero⟩)) := rfl
      simp only [m64_j1, app28, q1, dR_ok, bd84, hbld, bs28, one_block S4 5 (Sess.enc ⟨id, 0, Rep.zero⟩) rfl rfl (by omega)]
      have x4 : Ext S S4 := x12.trans q2
      have hnew := Ext.new (x4.wf w) (.row 0 5 [Sess.enc ⟨id, 0, Rep.zero⟩])
      have hown := (q3.weaken x12.next).ext hnew
      obtain ⟨v5, S5, r1, r2, r3⟩ := hown.insert ap28 (by omega) (x4.trans hnew) w (bx := S4.next) (c := Sess.enc ⟨id, 0, Rep.zero⟩) (getRow_put _ _ _ _ _ _)
       (fun a ver m hv => by
        rcases q3.is with ⟨e1, _⟩ | ⟨a', ver', tl, e1, _, e2, _⟩
        ·rw [hv] at e1; cases e1
        ·rw [hv] at e1; cases e1; omega)
       ⟨rfl, rfl⟩ (by rw [hlm]; omega) (by rw [hlm]; unfold lim; omega) (i := i) (by rw [hlm]; exact hle)
      refine Does.call (doesIns pl109 r1) fun u S6 ⟨e1, e2⟩ => ?_
      subst e1 e2
      rw [hjoin]
      exact Ok.ret ⟨_, rfl, r2, by rw [map_insAt]; exact r3⟩
 refine Ok.pick (fun h => hj true (fun _ => .inl (by simpa using h)) (fun h => by cases h)) (fun h => ?_)
 have hr : sessM l = true := by simpa using h
 by_cases h' : id < 1
 ·simp only [h', decide_true]
  exact hj true (fun _ => .inr h') (fun h => by cases h)
 ·simp only [h', decide_false]
  exact hj false (fun h => by cases h) (fun _ hq => hq.elim (fun hq => by rw [hr] at hq; cases hq) h')
def dropAt {α : Type} (l : List α) (i : Nat) : List α := l.take i ++ l.drop (i + 1)
theorem map_dropAt {α β : Type} (f : α → β) (l : List α) (i : Nat) : (dropAt l i).map f = (l.map f).take i ++ (l.map f).drop (i + 1) := by simp [dropAt, List.map_take, List.map_drop]
def leaveM (l : List Sess) (id : Int) : List Sess × Int :=
 if sessM l = false then ([], 1) else if sessAt l id < 0 then ([], 11) else (dropAt l (sessAt l id).toNat, 0)
theorem pl121 : dPl 121 = some (.spec ((Sp.del 28).run prog)) := by kernel_rfl
theorem el28 : elemT prog 28 = some 84 := by kernel_rfl
theorem zo84 : zeroOne prog 84 = some [.int .i64 0,.int .i64 0,.int .i64 0,.int .i64 0,.int .i64 0] := by kernel_rfl
theorem sz84 : sz prog 84 = 5 := by kernel_rfl
theorem g74 (v : V) (l : List Sess) (id : Int) (S : St) (w : WF S) (hs : Sl S 5 v (l.map Sess.enc)) : Does prog dPl dLv 74 [v, .int .i64 id] S (ListOut S 5 Sess.enc (leaveM l id)) := by
 refine e74 ?_
 simp only [m74]
 refine (g65 v l S w hs).call fun S1 x1 => ?_
 simp only [un_not, dR_ok]
 refine Ok.pick (fun h => Ok.ret ?_) (fun h => ?_)
 ·have hr : sessM l = false := by simpa using h
  simp only [leaveM, hr, if_true]
  exact ListOut.none x1
 ·have hr : sessM l = true := by simpa using h
  have hb := sessM_len hr
  refine (g66 v l id S1 (x1.wf w) (hs.ext x1) (by omega)).call fun S2 x2 => ?_
  simp only [bin_lss, dR_ok]
  refine Ok.pickP (fun h => Ok.ret ?_) (fun h11 => ?_)
  ·simp only [leaveM, hr, h, if_true, if_false, Bool.true_eq_false]
   exact ListOut.none (x1.trans x2)
  ·rcases sessAt_cases l id with h | ⟨i, s, hi, hg, _⟩
   ·omega
   have hil : i < l.length := (List.getElem?_eq_some_iff.1 hg).1
   have hlm : (l.map Sess.enc).length = l.length := List.length_map ..
   have x12 := x1.trans x2
   obtain ⟨v', S4, q1, q2, q3⟩ := (hs.ext x12).copy (b := 40) (x12.wf w) (by rw [hlm]; omega) (by rw [hlm]; unfold lim; omega)
   have hw : wr .i64 ((i : Int) + 1) = (i : Int) + 1 := wr64 (by omega) (by omega)
   obtain ⟨v5, S5, r1, r2, r3⟩ := (q3.weaken x12.next).delete el28 zo84 sz84 (x12.trans q2) w (by rw [hlm]; unfold lim; omega) (i := i) (by rw [hlm]; exact hil)
   simp only [app28, q1, dR_ok, hi, bin_add, hw]
   refine Does.call (doesDel pl121 r1) fun u S6 ⟨e1, e2⟩ => ?_
   subst e1 e2
   have hle : leaveM l id = (dropAt l i, 0) := by
    unfold leaveM
    rw [if_neg (by rw [hr]; simp), if_neg h11, hi]
    rfl
   rw [hle]
   exact Ok.ret ⟨u, rfl, r2, by rw [map_dropAt]; exact r3⟩
def keepM (l : List Sess) (id seq : Int) (r : Rep) : List Sess × Int :=
 if (lookM l id seq).2.2 ≠ 0 then ([], (lookM l id seq).2.2) else if (lookM l id seq).2.1 = true then ([], 12) else
  match l[(sessAt l id).toNat]? with
  | none => ([], 0)
  | some s => (l.set (sessAt l id).toNat ⟨s.id, seq, r⟩, 0)
theorem lookM_ok {l : List Sess} {id seq : Int} (h : (lookM l id seq).2.2 = 0) : sessM l = true ∧ ∃ (i : Nat) (s : Sess), sessAt l id = (i : Int) ∧ l[i]? = some s := by
 unfold lookM at h
 split at h
 ·cases h
 ·rename_i hr
  have hr : sessM l = true := by simpa using hr
  split at h
  ·cases h
  ·rcases sessAt_cases l id with h' | ⟨i, s, h1, h2, _⟩
   ·omega
   ·exact ⟨hr, i, s, h1, h2⟩
theorem beqV_rep (r : Rep) : beqV (.agg r.enc) (.agg r.enc) = true := by simp [beqV, beqVs, Rep.enc, kindBeq_refl]
theorem g36 (v : V) (l : List Sess) (id seq : Int) (r : Rep) (S : St) (w : WF S) (hs : Sl S 5 v (l.map Sess.enc)) : Does prog dPl dLv 36 [v, .int .i64 id, .int .i64 seq, .agg r.enc] S (ListOut S 5 Sess.enc (keepM l id seq r)) := by
 refine e36 ?_
 have ho : allOne r.enc = true := rfl
 have hl : r.enc.length = 3 := rfl
 have hx := Ext.new w (.row 0 3 [r.enc])
 have hrow : getRow (⟨S.next + 1, S.heap.put S.next (.row 0 3 [r.enc])⟩ : St) S.next 0 = .ok (3, [r.enc]) := getRow_put _ _ _ _ _ _
 simp only [m36, agg_cells, ho, hl, dIf_true, newBlk_none, dR_ok]
 refine (g34 v l id seq _ (hx.wf w) (hs.ext hx)).call fun S2 x2 => ?_
 have x02 := hx.trans x2
 have hst := store_var S2 3 [.int .i64 0,.int .i64 0,.int .i64 0] (.agg (lookM l id seq).1.enc) rfl rfl rfl
 have hxv := Ext.var (x02.wf w) 3 [.int .i64 0,.int .i64 0,.int .i64 0] (lookM l id seq).1.enc
 rw [agg_cells] at hst
 simp only [lookV, tupD_tup, List.getElem?_cons_zero, List.getElem?_cons_succ, dO_ok, st34, hst, dR_ok, guard_int, dIf_true, bin_neq]
 generalize S2.var 3 [.int .i64 0,.int .i64 0,.int .i64 0] (lookM l id seq).1.enc = S7 at hxv
 have x07 := x02.trans hxv
 refine Ok.pickN (fun h => Ok.ret ?_) (fun h0 => ?_)
 ·unfold keepM
  rw [if_pos h]
  exact ListOut.none x07
 ·obtain ⟨hr, i, s, hi, hg⟩ := lookM_ok h0
  refine Ok.pick (fun h => Ok.ret ?_) (fun hhad => ?_)
  ·unfold keepM
   rw [if_neg (by omega), if_pos h]
   exact ListOut.none x07
  ·have hb := sessM_len hr
   have hlm : (l.map Sess.enc).length = l.length := List.length_map ..
   have w7 := x07.wf w
   obtain ⟨v', S8, q1, q2, q3⟩ := (hs.ext x07).copy (b := 40) w7 (by rw [hlm]; omega) (by rw [hlm]; unfold lim; omega)
   simp only [app28, q1, dR_ok]
   refine (g66 v' l id S8 (q2.wf w7) q3.sl (by omega)).call fun S11 x11 => ?_
   have hbump : Ext S11 ⟨S11.next + 12, S11.heap⟩ := (Ext.refl S11).bump 12
   have x7b : Ext S7 ⟨S11.next + 12, S11.heap⟩ := q2.trans (x11.trans hbump)
   have hown := (q3.ext x11).ext hbump
   have hge : (l.map Sess.enc)[i]? = some s.enc := by simp [hg]
   obtain ⟨p, hp, hat, hset⟩ := hown.set x7b w7 hge .i64
   obtain ⟨S15, t1, t2, t3, t4, _⟩ := hset 1 1 (.int .i64 seq) rfl rfl (by omega)
   have hcs2 : ((l.map Sess.enc).set i (splice s.enc 1 [.int .i64 seq]))[i]? = some (Sess.enc ⟨s.id, seq, s.reply⟩) := by
    rw [List.getElem?_set_self (by rw [hlm]; exact (List.getElem?_eq_some_iff.1 hg).1)]
    rfl
   obtain ⟨p2, hp2, hat2, hset2⟩ := t4.set t2 w7 hcs2 .i64
   have hpp : p2 = p := by rw [hp] at hp2; cases hp2; rfl
   subst hpp
   obtain ⟨S19, u1, u2, u3, u4, _⟩ := hset2 2 3 (.agg r.enc) rfl rfl (by omega)
   have ld1 : loadW (some 3) (.ptr S.next 0 0 0) (⟨S11.next + 12, S11.heap⟩ : St) = .ok (.agg r.enc) := by rw [load_one _ _ _ _ _ ((x2.trans (hxv.trans x7b)).row hrow)]; rfl
   have ld2 : loadW (some 3) (.ptr S.next 0 0 0) S15 = .ok (.agg r.enc) := by rw [load_one _ _ _ _ _ ((x2.trans (hxv.trans t2)).row hrow)]; rfl
   simp only [ld34, ld1, dR_ok, ix28, hi, hp, fa84_1, hat.advW, st3, t1, ld2, beqV_rep, dIf_true, hp2, fa84_2, hat2.advW, st34, u1]
   refine Ok.ret ⟨v', ?_, x07.trans u2, ?_⟩
   ·unfold keepM
    rw [if_neg (by omega), if_neg (by rw [hhad]; simp), hi]
    simp only [Int.toNat_natCast, hg]
   ·unfold keepM
    rw [if_neg (by omega), if_neg (by rw [hhad]; simp), hi]
    simp only [Int.toNat_natCast, hg]
    have : ((l.map Sess.enc).set i (splice s.enc 1 [.int .i64 seq])).set i (splice (Sess.enc ⟨s.id, seq, s.reply⟩) 2 r.enc) = (l.set i ⟨s.id, seq, r⟩).map Sess.enc := by
     rw [List.set_set, List.map_set]
     rfl
    have h4 : Own S7 S19 5 v' (((l.map Sess.enc).set i (splice s.enc 1 [.int .i64 seq])).set i (splice (Sess.enc ⟨s.id, seq, s.reply⟩) 2 r.enc)) := u4
    rw [this] at h4
    exact h4.weaken x07.next
structure Ser where
 name : List UInt8
 next : Int
 limit : Int
 shut : Bool
deriving DecidableEq
def Ser.enc (s : Ser) : List V := [.str s.name, .int .i64 s.next, .int .i64 s.limit, .bool s.shut]
theorem ht144 : hasText prog 144 = some none := by kernel_rfl
theorem g144 (s : Ser) (name : List UInt8) (q : Nat) (S : St) (w : WF S) (hq : getRow S q 0 = .ok (1, [[.str name]])) : Gives 144 [.agg s.enc, .ptr q 0 0 0] S (.bool (s.name == name)) := by
 refine e144 ?_
 have ho : allOne s.enc = true := rfl
 have hl : s.enc.length = 4 := rfl
 have hx := Ext.new w (.row 0 4 [s.enc])
 have h0 : loadW none (.ptr S.next 0 0 (0 + 0)) (⟨S.next + 1, S.heap.put S.next (.row 0 4 [s.enc])⟩ : St) = .ok (.str s.name) := by rw [load_put]; rfl
 have h1 : loadW none (.ptr q 0 0 0) (⟨S.next + 1, S.heap.put S.next (.row 0 4 [s.enc])⟩ : St) = .ok (.str name) := by rw [load_one _ _ _ _ _ (hx.row hq)]; rfl
 simp only [m144, agg_cells, ho, dIf_true, newBlk_none, dR_ok, hl, fa92_0, adv_ptr, ld9, h0, h1, guard_str, str_eql]
 exact Ok.ret ⟨rfl, hx⟩
def serAt (l : List Ser) (name : List UInt8) : Int := ixM (fun s : Ser => s.name == name) l
theorem g93 (v : V) (l : List Ser) (name : List UInt8) (q : Nat) (S : St) (w : WF S) (hs : Sl S 4 v (l.map Ser.enc)) (hb : l.length < 1000000) (hq : getRow S q 0 = .ok (1, [[.str name]])) :
  Gives 93 [v, .func 144 [] [.ptr q 0 0 0]] S (.int .i64 (serAt l name)) := by
 refine e93 ?_
 simp only [m93, len25, hs.lenI, dR_ok]
 refine Ok.loop (F := fun k K => m93_l0 (callD prog dPl dLv k) k K v (.func 144 [] [.ptr q 0 0 0]) (.int .i64 l.length)) (ρ := Int) (α := Ser) (X := Int) l (step := ixStep fun s : Ser => s.name == name) (fin := fun _ => -1) (out := fun k K x S' => K (.int .i64 x) S') (s := 0)
  (fun i n vs S' => n = i ∧ vs = [.int .i64 0, .int .i64 (i : Int)] ∧ Ext S S') (fun r x S' => r = x ∧ Ext S S') ?_ ?_ ⟨rfl, rfl, Ext.refl S⟩ ?_
 ·rintro i s n vs S1 ⟨rfl, rfl, x1⟩ hi
  have hil : n < l.length := (List.getElem?_eq_some_iff.1 hi).1
  have hlt : (n : Int) < (l.length : Int) := by omega
  have hw : wr .i64 ((n : Int) + 1) = ((n + 1 : Nat) : Int) := by rw [wr64 (by omega) (by omega)]; omega
  obtain ⟨p, hp, hat, hl5, _⟩ := (hs.ext x1).elem hi
  obtain ⟨N, S2, x2, h⟩ := (g144 s name q S1 (x1.wf w) (x1.row hq)).get
  have pre : ∀ (K : KS) (again : List V → St → An) (k : Nat), N ≤ k → m93_l0 (callD prog dPl dLv k) k K v (.func 144 [] [.ptr q 0 0 0]) (.int .i64 l.length) [.int .i64 0, .int .i64 (n : Int)] S1 again =
    if (s.name == name) = true then K (.int .i64 n) S2 else again [.int .i64 0, .int .i64 ((n + 1 : Nat) : Int)] S2 := by
   intro K again k hk
   simp only [m93_l0, unD_cons, bin_lss, dR_ok, hlt, decide_true, pickD_true, ix25, hp, ld92, hat.load0, partW_all _ _ hl5, funD_func _ _ _ _ _ _ _ _ ht144, List.nil_append, List.cons_append]
   rw [h k _ hk]
   simp only [bin_add, dR_ok, hw, pickD_bool]
  by_cases c : (s.name == name) = true
  ·exact ⟨N, .inl ⟨(n : Int), (n : Int), S2, by simp only [ixStep, c, if_true], ⟨rfl, x1.trans x2⟩, fun k K again hk => by rw [pre K again k hk, if_pos c]⟩⟩
  ·exact ⟨N, .inr ⟨n + 1, _, S2, by simp only [ixStep, c, if_false]; rfl, ⟨rfl, rfl, x1.trans x2⟩, fun k K again hk => by rw [pre K again k hk, if_neg c]⟩⟩
 ·rintro n vs S1 ⟨rfl, rfl, x1⟩
  have hlt : ¬ (l.length : Int) < (l.length : Int) := by omega
  refine ⟨0, -1, S1, ⟨rfl, x1⟩, fun k K again _ => ?_⟩
  simp only [m93_l0, unD_cons, bin_lss, dR_ok, hlt, decide_false, pickD_false]
 ·rintro x S1 ⟨rfl, x1⟩
  exact Ok.ret ⟨rfl, x1⟩
theorem g112 (v : V) (l : List Ser) (name : List UInt8) (S : St) (w : WF S) (hs : Sl S 4 v (l.map Ser.enc)) (hb : l.length < 1000000) : Gives 112 [v, .str name] S (.int .i64 (serAt l name)) := by
 refine e112 ?_
 have hx := Ext.new w (.row 0 1 [[.str name]])
 have ho : allOne (V.str name).cells = true := rfl
 have hl : (V.str name).cells.length = 1 := rfl
 have hc : (V.str name).cells = [.str name] := rfl
 have hq : getRow (⟨S.next + 1, S.heap.put S.next (.row 0 1 [[.str name]])⟩ : St) S.next 0 = .ok (1, [[.str name]]) := getRow_put _ _ _ _ _ _
 simp only [m112, ho, hl, hc, dIf_true, newBlk_none, dR_ok]
 refine (g93 v l name S.next _ (hx.wf w) (hs.ext hx) hb hq).call fun S1 x1 => ?_
 exact Ok.ret ⟨rfl, hx.trans x1⟩
theorem serAt_cases (l : List Ser) (name : List UInt8) : serAt l name = -1 ∨ ∃ (i : Nat) (s : Ser), serAt l name = (i : Int) ∧ l[i]? = some s ∧ s.name = name := by
 rcases ixM_cases (fun s : Ser => s.name == name) l with h | ⟨i, s, h1, h2, h3⟩
 ·exact .inl h
 ·exact .inr ⟨i, s, h1, h2, by simpa using h3⟩
theorem g114 (v : V) (es : List (List V)) (S : St) (w : WF S) (hs : Sl S 4 v es) (hb : es.length ≤ 1000000) : Does prog dPl dLv 114 [v] S (fun u S' => Ext S S' ∧ Own S S' 4 u es) := by
 refine e114 ?_
 obtain ⟨v', S4, q1, q2, q3⟩ := hs.copy (b := 40) w (by omega) (by unfold lim; omega)
 simp only [m114, app25, q1, dR_ok]
 exact Ok.ret ⟨q2, q3⟩
def serBad (s : Ser) : Bool := decide (s.limit < 1) || (decide (1099511627776 < s.limit) || (decide (s.next < 1) || decide (wr .i64 (s.limit + 1) < s.next)))
def serAfter (prev : Option Ser) (s : Ser) : Bool := match prev with
 | none => false
 | some p => !ltB p.name s.name
def serStep (prev : Option Ser) (s : Ser) : Bool ⊕ Option Ser :=
 if nameM s.name = false then .inl false else if serAfter prev s = true then .inl false else if serBad s = true then .inl false else .inr (some s)
def serM (l : List Ser) : Bool := if 8 < l.length then false else runL serStep (fun _ => true) l none
theorem g48 (v : V) (l : List Ser) (S : St) (w : WF S) (hs : Sl S 4 v (l.map Ser.enc)) : Gives 48 [v] S (.bool (serM l)) := by
 refine e48 ?_
 simp only [m48, len25, hs.lenI, dR_ok, bin_gtr]
 refine Ok.pickP (fun h => Ok.ret ⟨by simp [serM, show 8 < l.length by omega], Ext.refl S⟩) (fun h8 => ?_)
 have h8' : ¬ 8 < l.length := by omega
 refine Ok.loop (F := fun k K => m48_l0 (callD prog dPl dLv k) k K v v (.int .i64 l.length)) (ρ := Bool) (α := Ser) (X := Bool) l (step := serStep) (fin := fun _ => true) (out := fun k K x S' => K (.bool x) S') (s := none)
  (fun i prev vs S' => vs = [.bool false, .int .i64 (i : Int)] ∧ Ext S S' ∧ prev = prevAt l i) (fun r x S' => r = x ∧ Ext S S') ?_ ?_ ⟨rfl, Ext.refl S, rfl⟩ ?_
 ·rintro i s prev vs S1 ⟨rfl, x1, hprev⟩ hi
  have hil : i < l.length := (List.getElem?_eq_some_iff.1 hi).1
  have hlt : (i : Int) < (l.length : Int) := by omega
  have hw : wr .i64 ((i : Int) + 1) = ((i + 1 : Nat) : Int) := by rw [wr64 (by omega) (by omega)]; omega
  obtain ⟨p, hp, hld, hst, hxv, hv⟩ := (hs.ext x1).var (x1.wf w) hi [.str [],.int .i64 0,.int .i64 0,.bool false] rfl
  generalize S1.var 4 [.str [],.int .i64 0,.int .i64 0,.bool false] s.enc = S2 at hst hxv hv
  have hb : Ext S2 ⟨S2.next + 19, S2.heap⟩ := (Ext.refl S2).bump 19
  obtain ⟨N1, S3, x3, h3⟩ := (g88 s.name (⟨S2.next + 19, S2.heap⟩ : St) ((x1.trans (hxv.trans hb)).wf w)).get
  have x13 := x1.trans (hxv.trans (hb.trans x3))
  have v0' : loadW none (.ptr S1.next 0 0 (0 + 0)) (⟨S2.next + 19, S2.heap⟩ : St) = .ok (.str s.name) := by rw [hv _ hb]; rfl
  have v0 : loadW none (.ptr S1.next 0 0 (0 + 0)) S3 = .ok (.str s.name) := by rw [hv _ (hb.trans x3)]; rfl
  have v1 : loadW none (.ptr S1.next 0 0 (0 + 1)) S3 = .ok (.int .i64 s.next) := by rw [hv _ (hb.trans x3)]; rfl
  have v2 : loadW none (.ptr S1.next 0 0 (0 + 2)) S3 = .ok (.int .i64 s.limit) := by rw [hv _ (hb.trans x3)]; rfl
  have hj : ∀ (K : KS) (again : List V → St → An) (k : Nat), m48_j0 (callD prog dPl dLv k) k K again v (.bool false) (.ptr S1.next 0 0 0) v (.int .i64 l.length) (.int .i64 (i : Int)) S3 =
    if serBad s = true then K (.bool false) S3 else again [.bool false, .int .i64 ((i + 1 : Nat) : Int)] S3 := by
   intro K again k
   simp only [m48_j0, fa92_1, fa92_2, adv_ptr, dR_ok, ld3, v1, v2, bin_lss, bin_gtr, bin_add, hw, serBad]
   by_cases c1 : s.limit < 1
   ·simp only [c1, decide_true, pickD_true, Bool.true_or, if_true]
   ·by_cases c2 : 1099511627776 < s.limit
    ·simp only [c1, c2, decide_true, decide_false, pickD_true, pickD_false, Bool.true_or, Bool.false_or, if_true]
    ·by_cases c3 : s.next < 1
     ·simp only [c1, c2, c3, decide_true, decide_false, pickD_true, pickD_false, Bool.true_or, Bool.false_or, if_true]
     ·by_cases c4 : wr .i64 (s.limit + 1) < s.next
      ·simp only [c1, c2, c3, c4, decide_true, decide_false, pickD_true, pickD_false, Bool.true_or, Bool.false_or, if_true]
      ·simp only [c1, c2, c3, c4, decide_false, pickD_false, Bool.false_or, Bool.false_eq_true, if_false]
  have pre : ∀ (K : KS) (again : List V → St → An) (k : Nat), N1 ≤ k → m48_l0 (callD prog dPl dLv k) k K v v (.int .i64 l.length) [.bool false, .int .i64 (i : Int)] S1 again =
    if nameM s.name = false then K (.bool false) S3 else if serAfter prev s = true then K (.bool false) S3 else if serBad s = true then K (.bool false) S3 else again [.bool false, .int .i64 ((i + 1 : Nat) : Int)] S3 := by
   intro K again k hk
   simp only [m48_l0, unD_cons, bin_lss, dR_ok, hlt, decide_true, pickD_true, ix25, hp, ld92, hld, newBlk_none, st92, hst, fa92_0, adv_ptr, ld9, v0']
   rw [h3 k _ hk]
   cases hn : nameM s.name with
   | false => simp only [un_not, dR_ok, Bool.not_false, pickD_true, if_true]
   | true =>
    simp only [un_not, dR_ok, Bool.not_true, pickD_false, Bool.true_eq_false, if_false, bin_gtr, v0, hj]
    by_cases h0 : i = 0
    ·subst h0
     have : prev = none := by rw [hprev]; rfl
     subst this
     have : ¬ (0 : Int) < ((0 : Nat) : Int) := by omega
     simp only [this, decide_false, pickD_false, serAfter, Bool.false_eq_true, if_false]
    ·have hpos : (0 : Int) < (i : Int) := by omega
     have hm1 : wr .i64 ((i : Int) - 1) = ((i - 1 : Nat) : Int) := by rw [wr64 (by omega) (by omega)]; omega
     have hi1 : i - 1 < l.length := by omega
     have hq : l[i - 1]? = some l[i - 1] := List.getElem?_eq_getElem hi1
     obtain ⟨p2, hp2, hat2, hl2, _⟩ := (hs.ext x13).elem hq
     have hpv : prev = some l[i - 1] := by rw [hprev]; simp [prevAt, h0, hq]
     have v3 : loadW none (adv 0 p2) S3 = .ok (.str l[i - 1].name) := by rw [hat2.load]; rfl
     subst hpv
     simp only [hpos, decide_true, pickD_true, bin_sub, hm1, dR_ok, ix25, hp2, fa92_0, hat2.advW, ld9, v3, str_geq, pickD_bool, serAfter, if_true]
     first | rfl | (split <;> rfl)
  by_cases hn : nameM s.name = false
  ·exact ⟨N1, .inl ⟨false, false, S3, by simp only [serStep, hn, if_true], ⟨rfl, x13⟩, fun k K again hk => by rw [pre K again k hk, if_pos hn]⟩⟩
  ·by_cases hp : serAfter prev s = true
   ·exact ⟨N1, .inl ⟨false, false, S3, by unfold serStep; rw [if_neg hn, if_pos hp], ⟨rfl, x13⟩, fun k K again hk => by rw [pre K again k hk, if_neg hn, if_pos hp]⟩⟩
   ·by_cases hbad : serBad s = true
    ·exact ⟨N1, .inl ⟨false, false, S3, by unfold serStep; rw [if_neg hn, if_neg hp, if_pos hbad], ⟨rfl, x13⟩, fun k K again hk => by rw [pre K again k hk, if_neg hn, if_neg hp, if_pos hbad]⟩⟩
    ·exact ⟨N1, .inr ⟨some s, _, S3, by unfold serStep; rw [if_neg hn, if_neg hp, if_neg hbad], ⟨rfl, x13, by simp [prevAt, hi]⟩, fun k K again hk => by rw [pre K again k hk, if_neg hn, if_neg hp, if_neg hbad]⟩⟩
 ·rintro prev vs S1 ⟨rfl, x1, _⟩
  have hlt : ¬ (l.length : Int) < (l.length : Int) := by omega
  refine ⟨0, true, S1, ⟨rfl, x1⟩, fun k K again _ => ?_⟩
  simp only [m48_l0, unD_cons, bin_lss, dR_ok, hlt, decide_false, pickD_false]
 ·rintro x S1 ⟨rfl, x1⟩
  exact Ok.ret ⟨by simp only [serM, h8', if_false], x1⟩
theorem serM_len {l : List Ser} (h : serM l = true) : l.length ≤ 8 := by
 unfold serM at h
 split at h
 ·cases h
 ·omega
def openM (l : List Ser) (name : List UInt8) : Int × Int :=
 if serM l = false then (0, 1) else if serAt l name < 0 then (0, 11) else match l[(serAt l name).toNat]? with
  | none => (0, 1)
  | some s => if s.shut = true then (0, 13) else (serAt l name, 0)
theorem g115 (v : V) (l : List Ser) (name : List UInt8) (S : St) (w : WF S) (hs : Sl S 4 v (l.map Ser.enc)) : Gives 115 [v, .str name] S (pairV (openM l name)) := by
 refine e115 ?_
 simp only [m115]
 refine (g48 v l S w hs).call fun S1 x1 => ?_
 simp only [un_not, dR_ok]
 refine Ok.pick (fun h => Ok.ret ⟨?_, x1⟩) (fun h => ?_)
 ·have hr : serM l = false := by simpa using h
  simp [openM, hr, pairV]
 ·have hr : serM l = true := by simpa using h
  have hb := serM_len hr
  refine (g112 v l name S1 (x1.wf w) (hs.ext x1) (by omega)).call fun S2 x2 => ?_
  simp only [bin_lss, dR_ok]
  refine Ok.pickP (fun h => Ok.ret ⟨by simp [openM, hr, h, pairV], x1.trans x2⟩) (fun h11 => ?_)
  rcases serAt_cases l name with h | ⟨i, s, hi, hg, _⟩
  ·omega
  obtain ⟨p, hp, hat, hl4, _⟩ := (hs.ext (x1.trans x2)).elem hg
  have v3 : loadW none (adv 3 p) S2 = .ok (.bool s.shut) := by rw [hat.load]; rfl
  have ho : openM l name = if s.shut = true then (0, 13) else ((i : Int), 0) := by
   unfold openM
   rw [if_neg (by rw [hr]; simp), if_neg h11, hi]
   simp only [Int.toNat_natCast, hg]
  simp only [hi, ix25, hp, fa92_3, hat.advW, ld4, v3, dR_ok]
  refine Ok.pick (fun h => Ok.ret ⟨by rw [ho, if_pos h]; rfl, x1.trans x2⟩) (fun h => Ok.ret ⟨by rw [ho, if_neg (by rw [h]; simp)]; rfl, x1.trans x2⟩)
theorem openM_ok {l : List Ser} {name : List UInt8} (h : (openM l name).2 = 0) : serM l = true ∧ ∃ (i : Nat) (s : Ser), openM l name = ((i : Int), 0) ∧ serAt l name = (i : Int) ∧ l[i]? = some s ∧ s.name = name ∧ s.shut = false := by
 unfold openM at h
 split at h
 ·cases h
 ·rename_i hr
  have hr : serM l = true := by simpa using hr
  split at h
  ·cases h
  ·rename_i h11
   rcases serAt_cases l name with h' | ⟨i, s, h1, h2, h3⟩
   ·omega
   ·rw [h1] at h
    simp only [Int.toNat_natCast, h2] at h
    split at h
    ·cases h
    ·rename_i hsh
     refine ⟨hr, i, s, ?_, h1, h2, h3, by simpa using hsh⟩
     unfold openM
     rw [if_neg (by rw [hr]; simp), if_neg h11, h1]
     simp only [Int.toNat_natCast, h2, if_neg hsh]
def shutM (l : List Ser) (name : List UInt8) : List Ser × Int :=
 if (openM l name).2 ≠ 0 then ([], (openM l name).2) else match l[(openM l name).1.toNat]? with
  | none => ([], 0)
  | some s => (l.set (openM l name).1.toNat { s with shut := true }, 0)
theorem g69 (v : V) (l : List Ser) (name : List UInt8) (S : St) (w : WF S) (hs : Sl S 4 v (l.map Ser.enc)) : Does prog dPl dLv 69 [v, .str name] S (ListOut S 4 Ser.enc (shutM l name)) := by
 refine e69 ?_
 simp only [m69]
 refine (g115 v l name S w hs).call fun S1 x1 => ?_
 simp only [pairV, tupD_tup, List.getElem?_cons_zero, List.getElem?_cons_succ, dO_ok, guard_int, dIf_true, bin_neq, dR_ok]
 refine Ok.pickN (fun h => Ok.ret ?_) (fun h0 => ?_)
 ·unfold shutM
  rw [if_pos h]
  exact ListOut.none x1
 ·obtain ⟨hr, i, s, ho, hi, hg, _, _⟩ := openM_ok h0
  have hb := serM_len hr
  have hlm : (l.map Ser.enc).length = l.length := List.length_map ..
  have w1 := x1.wf w
  refine Does.call (g114 v (l.map Ser.enc) S1 w1 (hs.ext x1) (by rw [hlm]; omega)) fun v' S4 ⟨x4, hown⟩ => ?_
  have hge : (l.map Ser.enc)[i]? = some s.enc := by simp [hg]
  obtain ⟨p, hp, hat, hset⟩ := hown.set x4 w1 hge .i64
  obtain ⟨S5, t1, t2, t3, t4, _⟩ := hset 3 1 (.bool true) rfl rfl (by omega)
  simp only [ho, ix25, hp, fa92_3, hat.advW, st4, t1, dR_ok]
  have hsh : shutM l name = (l.set i { s with shut := true }, 0) := by
   unfold shutM
   rw [if_neg (by rw [ho]; simp), ho]
   simp only [Int.toNat_natCast, hg]
  rw [hsh]
  refine Ok.ret ⟨v', rfl, x1.trans t2, ?_⟩
  have : (l.set i { s with shut := true }).map Ser.enc = (l.map Ser.enc).set i (splice s.enc 3 [.bool true]) := by rw [List.map_set]; rfl
  rw [this]
  exact (t4 : Own S1 S5 4 v' ((l.map Ser.enc).set i (splice s.enc 3 [.bool true]))).weaken x1.next
def takeM (l : List Ser) (name : List UInt8) : List Ser × Int × Int :=
 if (openM l name).2 ≠ 0 then ([], 0, (openM l name).2) else match l[(openM l name).1.toNat]? with
  | none => ([], 0, 0)
  | some s => if s.limit < s.next then ([], 0, 14) else (l.set (openM l name).1.toNat { s with next := wr .i64 (s.next + 1) }, s.next, 0)
theorem g152 (v : V) (l : List Ser) (name : List UInt8) (S : St) (w : WF S) (hs : Sl S 4 v (l.map Ser.enc)) :
  Does prog dPl dLv 152 [v, .str name] S (fun u S' => ∃ v', u = .tup [v', .int .i64 (takeM l name).2.1, .int .i64 (takeM l name).2.2] ∧ Ext S S' ∧ Own S S' 4 v' ((takeM l name).1.map Ser.enc)) := by
 refine e152 ?_
 simp only [m152]
 refine (g115 v l name S w hs).call fun S1 x1 => ?_
 simp only [pairV, tupD_tup, List.getElem?_cons_zero, List.getElem?_cons_succ, dO_ok, guard_int, dIf_true, bin_neq, dR_ok]
 refine Ok.pickN (fun h => Ok.ret ?_) (fun h0 => ?_)
 ·unfold takeM
  rw [if_pos h]
  exact ⟨.nils, rfl, x1, Own.nil _ _ _⟩
 ·obtain ⟨hr, i, s, ho, hi, hg, _, _⟩ := openM_ok h0
  have hb := serM_len hr
  have hlm : (l.map Ser.enc).length = l.length := List.length_map ..
  have w1 := x1.wf w
  obtain ⟨p, hp, hat, hl4, _⟩ := (hs.ext x1).elem hg
  have v1 : loadW none (adv 1 p) S1 = .ok (.int .i64 s.next) := by rw [hat.load]; rfl
  have v2 : loadW none (adv 2 p) S1 = .ok (.int .i64 s.limit) := by rw [hat.load]; rfl
  have htk : takeM l name = if s.limit < s.next then ([], 0, 14) else (l.set i { s with next := wr .i64 (s.next + 1) }, s.next, 0) := by
   unfold takeM
   rw [if_neg (by rw [ho]; simp), ho]
   simp only [Int.toNat_natCast, hg]
  simp only [ho, ix25, hp, fa92_1, fa92_2, hat.advW, ld3, v1, v2, dR_ok, bin_gtr]
  refine Ok.pickP (fun h => Ok.ret ?_) (fun h => ?_)
  ·rw [htk, if_pos h]
   exact ⟨.nils, rfl, x1, Own.nil _ _ _⟩
  ·rw [htk, if_neg h]
   refine Does.call (g114 v (l.map Ser.enc) S1 w1 (hs.ext x1) (by rw [hlm]; omega)) fun v' S4 ⟨x4, hown⟩ => ?_
   have hge : (l.map Ser.enc)[i]? = some s.enc := by simp [hg]
   obtain ⟨q, hq, hatq, hset⟩ := hown.set x4 w1 hge .i64
   obtain ⟨S5, t1, t2, t3, t4, _⟩ := hset 1 1 (.int .i64 (wr .i64 (s.next + 1))) rfl rfl (by omega)
   have v3 : loadW none (adv 1 q) S4 = .ok (.int .i64 s.next) := by rw [hatq.load]; rfl
   simp only [hq, hatq.advW, v3, dR_ok, bin_add, st3, t1]
   refine Ok.ret ⟨v', rfl, x1.trans t2, ?_⟩
   have : (l.set i { s with next := wr .i64 (s.next + 1) }).map Ser.enc = (l.map Ser.enc).set i (splice s.enc 1 [.int .i64 (wr .i64 (s.next + 1))]) := by rw [List.map_set]; rfl
   show Own S S5 4 v' ((l.set i { s with next := wr .i64 (s.next + 1) }).map Ser.enc)
   rw [this]
   exact (t4 : Own S1 S5 4 v' ((l.map Ser.enc).set i (splice s.enc 1 [.int .i64 (wr .i64 (s.next + 1))]))).weaken x1.next
def openSer (l : List Ser) (name : List UInt8) (limit : Int) : List Ser × Int :=
 if serM l = false then ([], 1) else if nameM name = false then ([], 8) else if limit < 1 ∨ 1099511627776 < limit then ([], 1) else if 0 ≤ serAt l name then ([], 12) else if 8 ≤ l.length then ([], 14) else
  (insAt l (lowM (fun s => ltB s.name name) l) ⟨name, 1, limit, false⟩, 0)
theorem ap25 : apT prog 25 = some (4, 40) := by kernel_rfl
theorem pl113 : dPl 113 = some (.spec ((Sp.ins 25).run prog)) := by kernel_rfl
theorem g67 (v : V) (l : List Ser) (name : List UInt8) (limit : Int) (S : St) (w : WF S) (hs : Sl S 4 v (l.map Ser.enc)) : Does prog dPl dLv 67 [v, .str name, .int .i64 limit] S (ListOut S 4 Ser.enc (openSer l name limit)) := by
 refine e67 ?_
 simp only [m67]
 refine (g48 v l S w hs).call fun S1 x1 => ?_
 simp only [un_not, dR_ok, bin_lss]
 refine Ok.pick (fun h => Ok.ret ?_) (fun h => ?_)
 ·have hr : serM l = false := by simpa using h
  simp only [openSer, hr, if_true]
  exact ListOut.none x1
 have hr : serM l = true := by simpa using h
 have hb := serM_len hr
 refine (g88 name S1 (x1.wf w)).call fun S2 x2 => ?_
 simp only [un_not, dR_ok]
 refine Ok.pick (fun h => Ok.ret ?_) (fun h => ?_)
 ·have hn : nameM name = false := by simpa using h
  simp only [openSer, hr, hn, if_true, if_false, Bool.true_eq_false]
  exact ListOut.none (x1.trans x2)
 have hn : nameM name = true := by simpa using h
 have xa := x1.trans x2
 have hj : ∀ b : Bool, (b = true → limit < 1 ∨ 1099511627776 < limit) → (b = false → ¬ (limit < 1 ∨ 1099511627776 < limit)) →
   Ok (fun k K => m67_j0 (callD prog dPl dLv k) k K v (.str name) (.int .i64 limit) (.bool b) S2) (ListOut S 4 Ser.enc (openSer l name limit)) := by
  intro b h1 h2
  simp only [m67_j0]
  refine Ok.pick (fun h => Ok.ret ?_) (fun h => ?_)
  ·simp only [openSer, hr, hn, h1 h, if_true, if_false, Bool.true_eq_false]
   exact ListOut.none xa
  ·have hlim := h2 h
   refine (g112 v l name S2 (xa.wf w) (hs.ext xa) (by omega)).call fun S3 x3 => ?_
   simp only [bin_geq, dR_ok, len25, hs.lenI]
   refine Ok.pickP (fun h => Ok.ret ?_) (fun h12 => ?_)
   ·unfold openSer
    rw [if_neg (by rw [hr]; simp), if_neg (by rw [hn]; simp), if_neg hlim, if_pos h]
    exact ListOut.none (xa.trans x3)
   refine Ok.pickP (fun h => Ok.ret ?_) (fun h14 => ?_)
   ·unfold openSer
    rw [if_neg (by rw [hr]; simp), if_neg (by rw [hn]; simp), if_neg hlim, if_neg h12, if_pos (by omega)]
    exact ListOut.none (xa.trans x3)
   have x13 := xa.trans x3
   refine Ok.loop (F := fun k K => m67_l0 (callD prog dPl dLv k) k K v (.str name) (.int .i64 limit)) (ρ := Nat) (α := Ser) (X := Nat) l (step := lowStep fun s : Ser => ltB s.name name) (fin := _root_.id)
    (out := fun k K x S' => m67_j1 (callD prog dPl dLv k) k K v (.str name) (.int .i64 limit) (.int .i64 (x : Int)) S') (s := 0)
    (fun i n vs S' => n = i ∧ vs = [.int .i64 (i : Int)] ∧ S' = S3) (fun r x S' => r = x ∧ S' = S3) ?_ ?_ ⟨rfl, rfl, rfl⟩ ?_
   ·rintro i s n vs S4 ⟨rfl, rfl, rfl⟩ hi
    have hil : n < l.length := (List.getElem?_eq_some_iff.1 hi).1
    have hlt : (n : Int) < (l.length : Int) := by omega
    have hw : wr .i64 ((n : Int) + 1) = ((n + 1 : Nat) : Int) := by rw [wr64 (by omega) (by omega)]; omega
    obtain ⟨p, hp, hat, hl5, _⟩ := (hs.ext x13).elem hi
    have v0 : loadW none (adv 0 p) S4 = .ok (.str s.name) := by rw [hat.load]; rfl
    have pre : ∀ (K : KS) (again : List V → St → An) (k : Nat), m67_l0 (callD prog dPl dLv k) k K v (.str name) (.int .i64 limit) [.int .i64 (n : Int)] S4 again =
      if ltB s.name name = true then again [.int .i64 ((n + 1 : Nat) : Int)] S4 else m67_j1 (callD prog dPl dLv k) k K v (.str name) (.int .i64 limit) (.int .i64 (n : Int)) S4 := by
     intro K again k
     simp only [m67_l0, unD_cons, len25, hs.lenI, bin_lss, dR_ok, hlt, decide_true, pickD_true, ix25, hp, fa92_0, hat.advW, ld9, v0, str_lss, bin_add, hw, pickD_bool, if_true]
    by_cases c : ltB s.name name = true
    ·exact ⟨0, .inr ⟨n + 1, _, S4, by simp only [lowStep, c, if_true], ⟨rfl, rfl, rfl⟩, fun k K again _ => by rw [pre, if_pos c]⟩⟩
    ·exact ⟨0, .inl ⟨n, n, S4, by simp only [lowStep, c, if_false]; rfl, ⟨rfl, rfl⟩, fun k K again _ => by rw [pre, if_neg c]⟩⟩
   ·rintro n vs S4 ⟨rfl, rfl, rfl⟩
    have hlt : ¬ (l.length : Int) < (l.length : Int) := by omega
    refine ⟨0, l.length, S4, ⟨rfl, rfl⟩, fun k K again _ => ?_⟩
    simp only [m67_l0, unD_cons, len25, hs.lenI, bin_lss, dR_ok, hlt, decide_false, pickD_false]
   ·rintro x S4 ⟨rfl, rfl⟩
    show Ok (fun k K => m67_j1 (callD prog dPl dLv k) k K v (.str name) (.int .i64 limit) (.int .i64 ((lowM (fun s : Ser => ltB s.name name) l : Nat) : Int)) S4) _
    have hle := lowM_le (fun s : Ser => ltB s.name name) l
    generalize hi : lowM (fun s : Ser => ltB s.name name) l = i at hle
    have hopen : openSer l name limit = (insAt l i ⟨name, 1, limit, false⟩, 0) := by
     unfold openSer
     rw [if_neg (by rw [hr]; simp), if_neg (by rw [hn]; simp), if_neg hlim, if_neg h12, if_neg (by omega), hi]
    have hlm : (l.map Ser.enc).length = l.length := List.length_map ..
    simp only [m67_j1]
    refine Does.call (g114 v (l.map Ser.enc) S4 (x13.wf w) (hs.ext x13) (by rw [hlm]; omega)) fun v' S5 ⟨q2, q3⟩ => ?_
    have hbld : buildW [.str [],.int .i64 0,.int .i64 0,.bool false] [(0, 1), (1, 1), (2, 1), (3, 1)] [(0, .str name), (1, .int .i64 1), (2, .int .i64 limit)] = .ok (.agg (Ser.enc ⟨name, 1, limit, false⟩)) := rfl
    simp only [bd92, hbld, bs25, one_block S5 4 (Ser.enc ⟨name, 1, limit, false⟩) rfl rfl (by omega), dR_ok]
    have x5 : Ext S S5 := x13.trans q2
    have hnew := Ext.new (x5.wf w) (.row 0 4 [Ser.enc ⟨name, 1, limit, false⟩])
    have hown := (q3.weaken x13.next).ext hnew
    obtain ⟨v6, S6, r1, r2, r3⟩ := hown.insert ap25 (by omega) (x5.trans hnew) w (bx := S5.next) (c := Ser.enc ⟨name, 1, limit, false⟩) (getRow_put _ _ _ _ _ _)
     (fun a ver m hv => by
      rcases q3.is with ⟨e1, _⟩ | ⟨a', ver', tl, e1, _, e2, _⟩
      ·rw [hv] at e1; cases e1
      ·rw [hv] at e1; cases e1; omega)
     ⟨rfl, rfl⟩ (by rw [hlm]; omega) (by rw [hlm]; unfold lim; omega) (i := i) (by rw [hlm]; exact hle)
    refine Does.call (doesIns pl113 r1) fun u S7 ⟨e1, e2⟩ => ?_
    subst e1 e2
    rw [hopen]
    exact Ok.ret ⟨_, rfl, r2, by rw [map_insAt]; exact r3⟩
 refine Ok.pickP (fun h => hj true (fun _ => .inl h) (fun h => by cases h)) (fun h => ?_)
 simp only [bin_gtr, dR_ok]
 by_cases h' : 1099511627776 < limit
 ·simp only [h', decide_true]
  exact hj true (fun _ => .inr h') (fun h => by cases h)
 ·simp only [h', decide_false]
  exact hj false (fun h => by cases h) (fun _ => by omega)
def Ser.zero : Ser := ⟨[], 0, 0, false⟩
def findSer (l : List Ser) (name : List UInt8) : Ser × Bool := match (if serAt l name < 0 then none else l[(serAt l name).toNat]?) with
 | none => (Ser.zero, false)
 | some s => (s, true)
theorem g122 (v : V) (l : List Ser) (name : List UInt8) (S : St) (w : WF S) (hs : Sl S 4 v (l.map Ser.enc)) (hb : l.length < 1000000) : Gives 122 [v, .str name] S (.tup [.agg (findSer l name).1.enc, .bool (findSer l name).2]) := by
 refine e122 ?_
 have hx := Ext.new w (.row 0 4 [[.str [],.int .i64 0,.int .i64 0,.bool false]])
 have hz : buildW [.str [],.int .i64 0,.int .i64 0,.bool false] [(0, 1), (1, 1), (2, 1), (3, 1)] [] = .ok (.agg Ser.zero.enc) := rfl
 simp only [m122, newBlk_none, dR_ok]
 refine (g112 v l name _ (hx.wf w) (hs.ext hx) hb).call fun S2 x2 => ?_
 simp only [bin_lss, dR_ok]
 refine Ok.pickP (fun h => ?_) (fun h => ?_)
 ·obtain ⟨S3, q1, q2, q3⟩ := cell_out w x2 rfl Ser.zero.enc rfl rfl
  simp only [bd92, hz, dR_ok, st92, q1, ld92, q2]
  exact Ok.ret ⟨by simp [findSer, h], q3⟩
 ·rcases serAt_cases l name with h' | ⟨i, s, hi, hg, _⟩
  ·omega
  obtain ⟨p, hp, hat, hl4, _⟩ := (hs.ext (hx.trans x2)).elem hg
  obtain ⟨S3, q1, q2, q3⟩ := cell_out w x2 rfl s.enc rfl rfl
  simp only [hi, ix25, hp, dR_ok, ld92, hat.load0, partW_all _ _ hl4, st92, q1, q2]
  refine Ok.ret ⟨?_, q3⟩
  have : findSer l name = (s, true) := by
   unfold findSer
   rw [if_neg h, hi]
   simp only [Int.toNat_natCast, hg]
  rw [this]
def findStep (cat : List UInt8) (d : Date) (st : Int × Bool) (r : Rate) : (Int × Bool) ⊕ (Int × Bool) := .inr (if (r.cat == cat) = true ∧ d.before r.day = false then (r.bp, true) else st)
def findRate (l : List Rate) (cat : List UInt8) (d : Date) : Int × Bool := if tableM l = false then (0, false) else if d.right = false then (0, false) else runL (findStep cat d) id l (0, false)
theorem tableM_len {l : List Rate} (h : tableM l = true) : l.length ≤ 24 := by
 unfold tableM at h
 split at h
 ·cases h
 ·omega
theorem g164 (v : V) (l : List Rate) (cat : List UInt8) (d : Date) (S : St) (w : WF S) (hs : Sl S 5 v (l.map Rate.enc)) : Gives 164 [v, .str cat, .agg d.enc] S (.tup [.int .i64 (findRate l cat d).1, .bool (findRate l cat d).2]) := by
 refine e164 ?_
 have ho : allOne d.enc = true := rfl
 have hl : d.enc.length = 3 := rfl
 have hx := Ext.new w (.row 0 3 [d.enc])
 have hrow : getRow (⟨S.next + 1, S.heap.put S.next (.row 0 3 [d.enc])⟩ : St) S.next 0 = .ok (3, [d.enc]) := getRow_put _ _ _ _ _ _
 have ldd : ∀ {S'}, Ext (⟨S.next + 1, S.heap.put S.next (.row 0 3 [d.enc])⟩ : St) S' → loadW (some 3) (.ptr S.next 0 0 0) S' = .ok (.agg d.enc) := fun x => by rw [load_one _ _ _ _ _ (x.row hrow)]; rfl
 simp only [m164, agg_cells, ho, hl, dIf_true, newBlk_none, dR_ok]
 refine (g47 v l _ (hx.wf w) (hs.ext hx)).call fun S1 x1 => ?_
 simp only [un_not, dR_ok]
 refine Ok.pick (fun h => Ok.ret ⟨?_, hx.trans x1⟩) (fun h => ?_)
 ·have hr : tableM l = false := by simpa using h
  simp [findRate, hr]
 have hr : tableM l = true := by simpa using h
 have hb := tableM_len hr
 simp only [ld38, ldd x1, dR_ok]
 refine (g89 d S1 ((hx.trans x1).wf w)).call fun S2 x2 => ?_
 simp only [un_not, dR_ok]
 refine Ok.pick (fun h => Ok.ret ⟨?_, (hx.trans x1).trans x2⟩) (fun h => ?_)
 ·have hd : d.right = false := by simpa using h
  simp [findRate, hr, hd]
 have hd : d.right = true := by simpa using h
 simp only [len24, hs.lenI, dR_ok]
 have x02 := (hx.trans x1).trans x2
 refine Ok.loop (F := fun k K => m164_l0 (callD prog dPl dLv k) k K (.str cat) (.ptr S.next 0 0 0) v (.int .i64 l.length)) (ρ := Int × Bool) (α := Rate) (X := Int × Bool) l (step := findStep cat d) (fin := id)
  (out := fun k K x S' => K (.tup [.int .i64 x.1, .bool x.2]) S') (s := (0, false))
  (fun i st vs S' => vs = [.int .i64 st.1, .bool st.2, .int .i64 (i : Int)] ∧ Ext S2 S') (fun r x S' => r = x ∧ Ext S2 S') ?_ ?_ ⟨rfl, Ext.refl S2⟩ ?_
 ·rintro i r st vs S3 ⟨rfl, x3⟩ hi
  have hil : i < l.length := (List.getElem?_eq_some_iff.1 hi).1
  have hlt : (i : Int) < (l.length : Int) := by omega
  have hw : wr .i64 ((i : Int) + 1) = ((i + 1 : Nat) : Int) := by rw [wr64 (by omega) (by omega)]; omega
  have x03 := x02.trans x3
  obtain ⟨p, hp, hld, hst, hxv, hv⟩ := (hs.ext x03).var (x03.wf w) hi [.str [],.int .i64 0,.int .i64 0,.int .i64 0,.int .i64 0] rfl
  generalize S3.var 5 [.str [],.int .i64 0,.int .i64 0,.int .i64 0,.int .i64 0] r.enc = S4 at hst hxv hv
  have v0 : loadW none (.ptr S3.next 0 0 (0 + 0)) S4 = .ok (.str r.cat) := by rw [hv S4 (Ext.refl _)]; rfl
  have v1 : loadW (some 3) (.ptr S3.next 0 0 (0 + 1)) S4 = .ok (.agg r.day.enc) := by rw [hv S4 (Ext.refl _)]; rfl
  have hdd := ldd ((x1.trans x2).trans (x3.trans hxv))
  by_cases c : (r.cat == cat) = true
  ·obtain ⟨N, S5, x5, h5⟩ := (g119 d r.day S4 ((x03.trans hxv).wf w)).get
   have v4 : loadW none (.ptr S3.next 0 0 (0 + 4)) S5 = .ok (.int .i64 r.bp) := by rw [hv S5 x5]; rfl
   refine ⟨N, .inr ⟨_, [.int .i64 (if (r.cat == cat) = true ∧ d.before r.day = false then (r.bp, true) else st).1, .bool (if (r.cat == cat) = true ∧ d.before r.day = false then (r.bp, true) else st).2, .int .i64 ((i + 1 : Nat) : Int)], S5, rfl, ⟨rfl, x3.trans (hxv.trans x5)⟩, fun k K again hk => ?_⟩⟩
   simp only [m164_l0, unD_cons, bin_lss, dR_ok, hlt, decide_true, pickD_true, ix24, hp, ld40, hld, newBlk_none, st40, hst, fa40_0, fa40_1, adv_ptr, ld9, v0, guard_str, dIf_true, str_eql, c, ld38, hdd, v1]
   rw [h5 k _ hk]
   simp only [un_not, dR_ok, m164_j0, fa40_2, adv_ptr, ld3, v4, bin_add, hw, true_and]
   cases d.before r.day <;> rfl
  ·have c' : (r.cat == cat) = false := by simpa using c
   refine ⟨0, .inr ⟨_, [.int .i64 (if (r.cat == cat) = true ∧ d.before r.day = false then (r.bp, true) else st).1, .bool (if (r.cat == cat) = true ∧ d.before r.day = false then (r.bp, true) else st).2, .int .i64 ((i + 1 : Nat) : Int)], S4, rfl, ⟨rfl, x3.trans hxv⟩, fun k K again hk => ?_⟩⟩
   simp only [m164_l0, unD_cons, bin_lss, dR_ok, hlt, decide_true, pickD_true, ix24, hp, ld40, hld, newBlk_none, st40, hst, fa40_0, adv_ptr, ld9, v0, guard_str, dIf_true, str_eql, c', pickD_false, m164_j0, bin_add, hw, Bool.false_eq_true, false_and, if_false]
 ·rintro st vs S3 ⟨rfl, x3⟩
  have hlt : ¬ (l.length : Int) < (l.length : Int) := by omega
  refine ⟨0, st, S3, ⟨rfl, x3⟩, fun k K again _ => ?_⟩
  simp only [m164_l0, unD_cons, bin_lss, dR_ok, hlt, decide_false, pickD_false]
 ·rintro x S3 ⟨rfl, x3⟩
  exact Ok.ret ⟨by simp only [findRate, hr, hd, if_false, Bool.true_eq_false], x02.trans x3⟩
theorem date_eql (a b : Date) : binV prog .eql 38 (.agg a.enc) (.agg b.enc) = .ok (.bool (decide (a = b))) := by
 have h := eq38 a.y a.m a.d b.y b.m b.d
 simp only [binV, Date.enc, h]
 congr 2
 obtain ⟨x, y, z⟩ := a
 obtain ⟨x', y', z'⟩ := b
 simp only [Date.mk.injEq]
 by_cases h1 : x = x' <;> by_cases h2 : y = y' <;> by_cases h3 : z = z' <;> simp [h1, h2, h3]
theorem gd38' (a b : Date) : guardP prog 38 (.agg a.enc) (.agg b.enc) = true := congrFun (congrFun gd38 a.enc) b.enc
def putStep (r : Rate) (k : Nat) (x : Rate) : Option Nat ⊕ Nat :=
 if (x.cat == r.cat) = true ∧ x.day = r.day then .inl none else .inr (if aheadR x r = true then k + 1 else k)
def putRate (l : List Rate) (r : Rate) : List Rate × Int :=
 if tableM l = false then ([], 1) else if rowM r ≠ 0 then ([], rowM r) else match runL (putStep r) some l 0 with
  | none => ([], 12)
  | some k => if 24 ≤ l.length then ([], 2) else (insAt l k r, 0)
theorem putStep_le (r : Rate) : ∀ (l : List Rate) (k n : Nat), runL (putStep r) some l k = some n → n ≤ k + l.length
 | [], k, n, h => by simp [runL] at h; simp; omega
 | x :: l, k, n, h => by
  simp only [runL, putStep] at h
  by_cases c : (x.cat == r.cat) = true ∧ x.day = r.day
  ·rw [if_pos c] at h; cases h
  ·rw [if_neg c] at h
   have := putStep_le r l _ n h
   simp only [List.length_cons]
   split at this <;> omega
theorem beqV_rate (r : Rate) : beqV (.agg r.enc) (.agg r.enc) = true := by simp [beqV, beqVs, Rate.enc, kindBeq_refl, beqB_eq]
theorem ap24 : apT prog 24 = some (5, 48) := by kernel_rfl
theorem pl116 : dPl 116 = some (.spec ((Sp.ins 24).run prog)) := by kernel_rfl
theorem g70 (v : V) (l : List Rate) (r : Rate) (S : St) (w : WF S) (hs : Sl S 5 v (l.map Rate.enc)) : Does prog dPl dLv 70 [v, .agg r.enc] S (ListOut S 5 Rate.enc (putRate l r)) := by
 refine e70 ?_
 have ho : ∀ r : Rate, allOne r.enc = true := fun _ => rfl
 have hl : ∀ r : Rate, r.enc.length = 5 := fun _ => rfl
 have hx := Ext.new w (.row 0 5 [r.enc])
 have hrow : getRow (⟨S.next + 1, S.heap.put S.next (.row 0 5 [r.enc])⟩ : St) S.next 0 = .ok (5, [r.enc]) := getRow_put _ _ _ _ _ _
 have ldr : ∀ {S'} k j v, Ext (⟨S.next + 1, S.heap.put S.next (.row 0 5 [r.enc])⟩ : St) S' → partW k r.enc j = .ok v → loadW k (.ptr S.next 0 0 j) S' = .ok v := fun k j v x h => by rw [load_one _ _ _ _ _ (x.row hrow)]; exact h
 simp only [m70, agg_cells, ho, hl, dIf_true, newBlk_none, dR_ok]
 refine (g47 v l _ (hx.wf w) (hs.ext hx)).call fun S1 x1 => ?_
 simp only [un_not, dR_ok]
 refine Ok.pick (fun h => Ok.ret ?_) (fun h => ?_)
 ·have hr : tableM l = false := by simpa using h
  simp only [putRate, hr, if_true]
  exact ListOut.none (hx.trans x1)
 have hr : tableM l = true := by simpa using h
 have hb := tableM_len hr
 simp only [ld40, ldr (some 5) 0 (.agg r.enc) x1 rfl, dR_ok]
 refine (g86 r S1 ((hx.trans x1).wf w)).call fun S2 x2 => ?_
 simp only [guard_int, dIf_true, bin_neq, dR_ok]
 refine Ok.pickN (fun h => Ok.ret ?_) (fun h0 => ?_)
 ·unfold putRate
  rw [if_neg (by rw [hr]; simp), if_pos h]
  exact ListOut.none ((hx.trans x1).trans x2)
 have x12 := x1.trans x2
 have x02 := hx.trans x12
 simp only [len24, hs.lenI, dR_ok]
 refine Ok.loop (F := fun k K => m70_l0 (callD prog dPl dLv k) k K v (.ptr S.next 0 0 0) v (.int .i64 l.length)) (ρ := Option Nat) (α := Rate) (X := Option Nat) l (step := putStep r) (fin := some) (s := 0)
  (out := fun k K x S' => match x with
   | none => K (.tup [.nils, .int .i64 12]) S'
   | some n => dR (lenV prog 24 v S') fun t31 => dR (binV prog .geq 3 t31 (.int .i64 24)) fun t32 =>
    pickD t32 (K (.tup [(.nils), (.int .i64 2)]) S') (dR (loadV prog 40 (.ptr S.next 0 0 0) (⟨S'.next + 8, S'.heap⟩ : St)) fun t33 =>
    dR (appendV prog 24 (.nils) v (some (S'.next + 1)) (⟨S'.next + 8, S'.heap⟩ : St)) fun r34 =>
    dR (loadV prog 40 (.ptr S.next 0 0 0) r34.2) fun t35 =>
    dIf (beqV t33 t35) (dR (buildSliceV prog 24 1 [(0, t33)] (some (S'.next + 4)) r34.2) fun r36 =>
    callD prog dPl dLv k 116 [r34.1, .int .i64 (n : Int), r36.1] r36.2 fun t37 S38 =>
    K (.tup [t37, (.int .i64 0)]) S38)))
  (fun i n vs S' => vs = [.nils, .int .i64 0, .int .i64 (n : Int), .int .i64 (i : Int)] ∧ Ext S2 S' ∧ n ≤ i) (fun r x S' => r = x ∧ Ext S2 S') ?_ ?_ ⟨rfl, Ext.refl S2, Nat.le_refl _⟩ ?_
 ·rintro i x n vs S3 ⟨rfl, x3, hni⟩ hi
  have hil : i < l.length := (List.getElem?_eq_some_iff.1 hi).1
  have hlt : (i : Int) < (l.length : Int) := by omega
  have hw : wr .i64 ((i : Int) + 1) = ((i + 1 : Nat) : Int) := by rw [wr64 (by omega) (by omega)]; omega
  have hwn : wr .i64 ((n : Int) + 1) = ((n + 1 : Nat) : Int) := by rw [wr64 (by omega) (by omega)]; omega
  have x03 := x02.trans x3
  obtain ⟨p, hp, hld, hst, hxv, hv⟩ := (hs.ext x03).var (x03.wf w) hi [.str [],.int .i64 0,.int .i64 0,.int .i64 0,.int .i64 0] rfl
  generalize S3.var 5 [.str [],.int .i64 0,.int .i64 0,.int .i64 0,.int .i64 0] x.enc = S4 at hst hxv hv
  have v0 : loadW none (.ptr S3.next 0 0 (0 + 0)) S4 = .ok (.str x.cat) := by rw [hv S4 (Ext.refl _)]; rfl
  have v1 : loadW (some 3) (.ptr S3.next 0 0 (0 + 1)) S4 = .ok (.agg x.day.enc) := by rw [hv S4 (Ext.refl _)]; rfl
  have va : loadW (some 5) (.ptr S3.next 0 0 0) S4 = .ok (.agg x.enc) := by rw [hv S4 (Ext.refl _)]; rfl
  have x14 := x12.trans (x3.trans hxv)
  obtain ⟨N, S5, x5, h5⟩ := (g87 x r S4 ((x03.trans hxv).wf w)).get
  have hj : ∀ (K : KS) (again : List V → St → An) (k : Nat), N ≤ k → m70_j0 (callD prog dPl dLv k) k K again v (.ptr S.next 0 0 0) .nils (.int .i64 0) (.int .i64 (n : Int)) (.ptr S3.next 0 0 0) v (.int .i64 l.length) (.int .i64 (i : Int)) S4 =
    again [.nils, .int .i64 0, .int .i64 ((if aheadR x r = true then n + 1 else n : Nat) : Int), .int .i64 ((i + 1 : Nat) : Int)] S5 := by
   intro K again k hk
   simp only [m70_j0, ld40, va, ldr (some 5) 0 (.agg r.enc) x14 rfl, dR_ok]
   rw [h5 k _ hk]
   simp only [bin_add, hw, hwn, dR_ok]
   cases aheadR x r <;> rfl
  have pre : ∀ (K : KS) (again : List V → St → An) (k : Nat), N ≤ k → m70_l0 (callD prog dPl dLv k) k K v (.ptr S.next 0 0 0) v (.int .i64 l.length) [.nils, .int .i64 0, .int .i64 (n : Int), .int .i64 (i : Int)] S3 again =
    if (x.cat == r.cat) = true ∧ x.day = r.day then K (.tup [.nils, .int .i64 12]) S4 else again [.nils, .int .i64 0, .int .i64 ((if aheadR x r = true then n + 1 else n : Nat) : Int), .int .i64 ((i + 1 : Nat) : Int)] S5 := by
   intro K again k hk
   simp only [m70_l0, unD_cons, bin_lss, dR_ok, hlt, decide_true, pickD_true, ix24, hp, ld40, hld, newBlk_none, st40, hst, fa40_0, fa40_1, adv_ptr, ld9, v0, ldr none (0 + 0) (.str r.cat) x14 rfl, guard_str, dIf_true, str_eql, ld38, v1, ldr (some 3) (0 + 1) (.agg r.day.enc) x14 rfl, gd38', date_eql, hj K again k hk]
   by_cases c : (x.cat == r.cat) = true
   ·by_cases c2 : x.day = r.day
    ·simp only [c, c2, decide_true, pickD_true, and_self, if_true]
    ·simp only [c, c2, decide_false, pickD_true, pickD_false, and_false, if_false]
   ·have c' : (x.cat == r.cat) = false := by simpa using c
    simp only [c', pickD_false, Bool.false_eq_true, false_and, if_false]
  by_cases c : (x.cat == r.cat) = true ∧ x.day = r.day
  ·exact ⟨N, .inl ⟨none, none, S4, by simp only [putStep, if_pos c], ⟨rfl, x3.trans hxv⟩, fun k K again hk => by rw [pre K again k hk, if_pos c]⟩⟩
  ·refine ⟨N, .inr ⟨if aheadR x r = true then n + 1 else n, _, S5, by simp only [putStep, if_neg c], ⟨rfl, x3.trans (hxv.trans x5), ?_⟩, fun k K again hk => by rw [pre K again k hk, if_neg c]⟩⟩
   split <;> omega
 ·rintro n vs S3 ⟨rfl, x3, _⟩
  have hlt : ¬ (l.length : Int) < (l.length : Int) := by omega
  refine ⟨0, some n, S3, ⟨rfl, x3⟩, fun k K again _ => ?_⟩
  simp only [m70_l0, unD_cons, bin_lss, dR_ok, hlt, decide_false, pickD_false]
 ·rintro x S3 ⟨hx3, x3⟩
  have x03 := x02.trans x3
  cases x with
  | none =>
   refine Ok.ret ?_
   unfold putRate
   rw [if_neg (by rw [hr]; simp), if_neg (fun h => h h0), hx3]
   exact ListOut.none x03
  | some k =>
   have hk := putStep_le r l 0 k hx3
   simp only [len24, hs.lenI, dR_ok, bin_geq]
   refine Ok.pickP (fun h => Ok.ret ?_) (fun h24 => ?_)
   ·unfold putRate
    rw [if_neg (by rw [hr]; simp), if_neg (fun h => h h0), hx3]
    simp only
    rw [if_pos (by omega)]
    exact ListOut.none x03
   have hlm : (l.map Rate.enc).length = l.length := List.length_map ..
   have hb8 : Ext S3 ⟨S3.next + 8, S3.heap⟩ := (Ext.refl S3).bump 8
   have w3 := x03.wf w
   have free : ∀ y, S3.next ≤ y → S3.heap.get y = none := fun y hy => by
    cases hq : S3.heap.get y with
    | none => rfl
    | some b => have := w3 y b hq; omega
   obtain ⟨v', S4, q1, q2, q3, q4, q5, q6⟩ := ((hs.ext x03).ext hb8).copyAt2 (b := 48) hb8 (k := S3.next + 1) (Nat.le_succ _) (by show S3.next + 1 < S3.next + 8; omega) (free _ (by omega)) (by rw [hlm]; omega) (by rw [hlm]; unfold lim; omega)
   have hk4 : S4.heap.get (S3.next + 4) = none := by rw [q5 _ (by omega)]; exact free _ (by omega)
   have hn4 : S3.next + 4 < S4.next := by rw [q4]; show S3.next + 4 < S3.next + 8; omega
   have hnew := Ext.newAt hk4 hn4 (.row 0 5 [r.enc])
   have x34 := hb8.trans q2
   have hown := (q3.weaken x03.next).ext hnew
   obtain ⟨v6, S6, r1, r2, r3⟩ := hown.insert ap24 (by omega) ((x03.trans x34).trans hnew) w (bx := S3.next + 4) (c := r.enc) (getRow_put _ _ _ _ _ _)
    (fun a ver m hv => by have := q6 a ver m hv; omega) ⟨rfl, rfl⟩ (by rw [hlm]; omega) (by rw [hlm]; unfold lim; omega) (i := k) (by rw [hlm]; omega)
   have l1 := ldr (some 5) 0 (.agg r.enc) ((x12.trans x3).trans hb8) rfl
   have l2 := ldr (some 5) 0 (.agg r.enc) ((x12.trans x3).trans x34) rfl
   simp only [ld40, l1, dR_ok, app24, q1, l2, beqV_rate, dIf_true, bs24, one_blockAt S4 (S3.next + 4) 5 r.enc rfl rfl (by omega)]
   refine Does.call (doesIns pl116 r1) fun u S7 ⟨e1, e2⟩ => ?_
   subst e1 e2
   have hput : putRate l r = (insAt l k r, 0) := by
    unfold putRate
    rw [if_neg (by rw [hr]; simp), if_neg (fun h => h h0), hx3]
    simp only
    rw [if_neg (by omega)]
   rw [hput]
   exact Ok.ret ⟨_, rfl, r2, by rw [map_insAt]; exact r3⟩
structure Bal where
 acc : List UInt8
 amount : Int
deriving DecidableEq
def Bal.enc (b : Bal) : List V := [.str b.acc, .int .i64 b.amount]
structure Part where
 cat : List UInt8
 bp : Int
 net : Int
 tax : Int
deriving DecidableEq
def Part.enc (p : Part) : List V := [.str p.cat, .int .i64 p.bp, .int .i64 p.net, .int .i64 p.tax]
structure Total where
 net : Int
 tax : Int
 gross : Int
 parts : List Part
deriving DecidableEq
def Total.cells (t : Total) (pv : V) : List V := [.int .i64 t.net, .int .i64 t.tax, .int .i64 t.gross, pv]
def bookStep (prev : Option Bal) (b : Bal) : Bool ⊕ Option Bal := match prev with
 | none => .inl false
 | some p => if ltB p.acc b.acc = true then .inr (some b) else .inl false
def bookM (l : List Bal) : Bool := runL bookStep (fun _ => true) (l.drop 1) l[0]?
theorem g135 (v : V) (l : List Bal) (S : St) (w : WF S) (hs : Sl S 2 v (l.map Bal.enc)) (hb : l.length < 1000000) : Gives 135 [v] S (.bool (bookM l)) := by
 refine e135 ?_
 simp only [m135]
 refine Ok.loop (F := fun k K => m135_l0 (callD prog dPl dLv k) k K v) (ρ := Bool) (α := Bal) (X := Bool) (l.drop 1) (step := bookStep) (fin := fun _ => true) (s := l[0]?)
  (out := fun k K x S' => K (.bool x) S')
  (fun i prev vs S' => vs = [.bool false, .int .i64 ((i : Int) + 1)] ∧ Ext S S' ∧ prev = l[i]?) (fun r x S' => r = x ∧ Ext S S') ?_ ?_ ⟨rfl, Ext.refl S, rfl⟩ ?_
 ·rintro i b prev vs S1 ⟨rfl, x1, rfl⟩ hi
  rw [List.getElem?_drop, Nat.add_comm] at hi
  have hil : i + 1 < l.length := (List.getElem?_eq_some_iff.1 hi).1
  have hq : l[i]? = some l[i] := List.getElem?_eq_getElem (by omega)
  have hlt : (i : Int) + 1 < (l.length : Int) := by omega
  have hw : wr .i64 ((i : Int) + 1 + 1) = ((i + 1 : Nat) : Int) + 1 := by rw [wr64 (by omega) (by omega)]; omega
  have hm : wr .i64 ((i : Int) + 1 - 1) = ((i : Nat) : Int) := by rw [wr64 (by omega) (by omega)]; omega
  have hc1 : ((i : Int) + 1) = ((i + 1 : Nat) : Int) := by omega
  have hbmp := (Ext.refl S1).bump 12
  obtain ⟨p, hp, hat, _, _⟩ := (hs.ext x1).elem hq
  obtain ⟨p2, hp2, hat2, _, _⟩ := (hs.ext x1).elem hi
  have v1 : loadW none (adv 0 p) (⟨S1.next + 12, S1.heap⟩ : St) = .ok (.str l[i].acc) := by rw [(hat.ext hbmp).load]; rfl
  have v2 : loadW none (adv 0 p2) (⟨S1.next + 12, S1.heap⟩ : St) = .ok (.str b.acc) := by rw [(hat2.ext hbmp).load]; rfl
  have pre : ∀ (K : KS) (again : List V → St → An) (k : Nat), m135_l0 (callD prog dPl dLv k) k K v [.bool false, .int .i64 ((i : Int) + 1)] S1 again =
    if ltB l[i].acc b.acc = true then again [.bool false, .int .i64 (((i + 1 : Nat) : Int) + 1)] (⟨S1.next + 12, S1.heap⟩ : St) else K (.bool false) (⟨S1.next + 12, S1.heap⟩ : St) := by
   intro K again k
   simp only [m135_l0, unD_cons, len27, hs.lenI, bin_lss, dR_ok, hlt, decide_true, pickD_true, bin_sub, hm, ix27, hp, fa96_0, hat.advW, ld9, v1]
   rw [hc1]
   simp only [hp2, hat2.advW, dR_ok, v2, str_geq]
   rw [← hc1]
   simp only [bin_add, hw, dR_ok]
   cases ltB l[i].acc b.acc <;> rfl
  by_cases c : ltB l[i].acc b.acc = true
  ·refine ⟨0, .inr ⟨some b, _, _, ?_, ⟨rfl, x1.trans hbmp, hi.symm⟩, fun k K again _ => by rw [pre, if_pos c]⟩⟩
   rw [hq]; simp only [bookStep, c, if_true]
  ·refine ⟨0, .inl ⟨false, false, _, ?_, ⟨rfl, x1.trans hbmp⟩, fun k K again _ => by rw [pre, if_neg c]⟩⟩
   rw [hq]; simp only [bookStep, c, if_false, Bool.false_eq_true]
 ·rintro prev vs S1 ⟨rfl, x1, _⟩
  have hlt : ¬ (((l.drop 1).length : Int) + 1 < (l.length : Int)) := by simp only [List.length_drop]; omega
  refine ⟨0, true, S1, ⟨rfl, x1⟩, fun k K again _ => ?_⟩
  simp only [m135_l0, unD_cons, len27, hs.lenI, bin_lss, dR_ok, hlt, decide_false, pickD_false]
 ·rintro x S1 ⟨rfl, x1⟩
  exact Ok.ret ⟨rfl, x1⟩
def netB : List UInt8 := [110,101,116,47]
def taxB : List UInt8 := [116,97,120,47]
def entStep (l : List Bal) (p : Part) : (List Bal × Int) ⊕ List Bal :=
 if (subM 0 p.net).2 ≠ 0 then .inl ([], 7) else if (subM 0 p.tax).2 ≠ 0 then .inl ([], 7) else .inr (l ++ [⟨netB ++ p.cat, (subM 0 p.net).1⟩, ⟨taxB ++ p.cat, (subM 0 p.tax).1⟩])
def entM (t : Total) : List Bal × Int := runL entStep (fun l => (l, 0)) t.parts [⟨[111,119,101,100], t.gross⟩]
theorem ap27 : apT prog 27 = some (2, 24) := by kernel_rfl
theorem two_block (S : St) (n : Nat) (c d : List V) (hc : c.length = n) (ho : allOne c = true) (hc2 : d.length = n) (ho2 : allOne d = true) (hn : 2 * n ≤ 16777216) (z : List V) : buildSliceW n z 2 [(0, .agg c), (1, .agg d)] none S = .ok (.sl S.next 0 n 0 2, ⟨S.next + 1, S.heap.put S.next (.row 0 n [c, d])⟩) := by
 unfold buildSliceW
 rw [if_pos (by omega)]
 have h1 : Nat.beq c.length n = true := by rw [hc]; exact Nat.beq_refl n
 have h1' : Nat.beq d.length n = true := by rw [hc2]; exact Nat.beq_refl n
 have h2 : Nat.blt 0 (List.replicate 2 z).length = true := rfl
 have h2' : Nat.blt 1 ((List.replicate 2 z).set 0 c).length = true := rfl
 simp only [layV, agg_cells, h1, h2, ho, h1', h2', ho2, Bool.and_self, cond_true, newBlk_none]
 rfl
theorem str_add (P : Program) (t : TypeId) (x y : List UInt8) (h : x.length + y.length < lim) : binV P .add t (.str x) (.str y) = .ok (.str (x ++ y)) := by
 have : Nat.blt (x.length + y.length) lim = true := Nat.ble_eq_true_of_le h
 simp only [binV, strOp, this, cond_true]
theorem entL_len : ∀ (l : List Part) (a : List Bal) (r : List Bal × Int), runL entStep (fun l => (l, 0)) l a = r → r.2 = 0 → r.1.length = a.length + 2 * l.length
 | [], a, r, h, _ => by subst h; simp [runL]
 | p :: l, a, r, h, h0 => by
  simp only [runL, entStep] at h
  split at h
  ·rename_i r' he
   split at he
   ·cases he; subst h; cases h0
   ·split at he
    ·cases he; subst h; cases h0
    ·cases he
  ·rename_i s' he
   split at he
   ·cases he
   ·split at he
    ·cases he
    ·cases he
     have := entL_len l _ r h h0
     simp only [List.length_append, List.length_cons, List.length_nil] at this ⊢
     omega
theorem _root_.Go.AM.Sl.one {S : St} {n : Nat} {v : V} {es : List (List V)} (h : Sl S n v es) : v.one = true := by
 rcases h.is with ⟨rfl, _⟩ | rfl | ⟨a, ver, off, elems, rfl, _⟩ <;> rfl
theorem g95 (t : Total) (pv : V) (S : St) (w : WF S) (hs : Sl S 4 pv (t.parts.map Part.enc)) (hb : t.parts.length ≤ 100000) (hc : ∀ p ∈ t.parts, p.cat.length ≤ 1000000):
  Does prog dPl dLv 95 [.agg (t.cells pv)] S (ListOut S 2 Bal.enc (entM t)) := by
 refine e95 ?_
 have hpv := hs.one
 have ho : allOne (t.cells pv) = true := by
  simp only [Total.cells, allOne, List.all_cons, List.all_nil, hpv, Bool.and_true]
  rfl
 have hl : (t.cells pv).length = 4 := rfl
 have hx := Ext.new w (.row 0 4 [t.cells pv])
 have v2 : loadW none (.ptr S.next 0 0 (0 + 2)) (⟨S.next + 1, S.heap.put S.next (.row 0 4 [t.cells pv])⟩ : St) = .ok (.int .i64 t.gross) := by rw [load_put]; rfl
 have v3 : loadW none (.ptr S.next 0 0 (0 + 3)) (⟨S.next + 1, S.heap.put S.next (.row 0 4 [t.cells pv])⟩ : St) = .ok pv := by rw [load_put]; rfl
 simp only [m95, agg_cells, ho, hl, dIf_true, newBlk_none, dR_ok, fa60_2, fa60_3, adv_ptr, ld3, v2]
 generalize (⟨S.next + 1, S.heap.put S.next (.row 0 4 [t.cells pv])⟩ : St) = S1 at hx v2 v3
 have hb1 : buildW [.str [],.int .i64 0] [(0, 1), (1, 1)] [(0, .str [111,119,101,100]), (1, .int .i64 t.gross)] = .ok (.agg (Bal.enc ⟨[111,119,101,100], t.gross⟩)) := rfl
 simp only [bd96, hb1, dR_ok, bs27, one_block S1 2 (Bal.enc ⟨[111,119,101,100], t.gross⟩) rfl rfl (by omega)]
 have hx2 := Ext.new (hx.wf w) (.row 0 2 [Bal.enc ⟨[111,119,101,100], t.gross⟩])
 have v3' : loadW none (.ptr S.next 0 0 (0 + 3)) (⟨S1.next + 1, S1.heap.put S1.next (.row 0 2 [Bal.enc ⟨[111,119,101,100], t.gross⟩])⟩ : St) = .ok pv := load_ext hx2 v3
 have hown0 : Own S (⟨S1.next + 1, S1.heap.put S1.next (.row 0 2 [Bal.enc ⟨[111,119,101,100], t.gross⟩])⟩ : St) 2 (.sl S1.next 0 2 0 1) ([⟨[111,119,101,100], t.gross⟩].map Bal.enc) :=
  ⟨.inr ⟨S1.next, 0, [], rfl, hx.next, Nat.lt_succ_self _, Tr.get_put_sameB _ _ _ trivial⟩, fun cs h => by cases h with
   | head => exact ⟨rfl, rfl⟩
   | tail _ h => cases h⟩
 generalize (⟨S1.next + 1, S1.heap.put S1.next (.row 0 2 [Bal.enc ⟨[111,119,101,100], t.gross⟩])⟩ : St) = S2 at hx2 v3' hown0
 have x02 := hx.trans hx2
 simp only [ld58, v3', dR_ok, len58, hs.lenI]
 refine Ok.loop (F := fun k K => m95_l0 (callD prog dPl dLv k) k K pv (.int .i64 t.parts.length)) (ρ := List Bal × Int) (α := Part) (X := V × Int) t.parts (step := entStep) (fin := fun l => (l, 0)) (s := [⟨[111,119,101,100], t.gross⟩])
  (out := fun k K x S' => K (.tup [x.1, .int .i64 x.2]) S')
  (fun i l vs S' => ∃ lv, vs = [.nils, .int .i64 0, lv, .int .i64 (i : Int)] ∧ Ext S S' ∧ Own S S' 2 lv (l.map Bal.enc) ∧ l.length = 1 + 2 * i) (fun r x S' => x.2 = r.2 ∧ Ext S S' ∧ Own S S' 2 x.1 (r.1.map Bal.enc)) ?_ ?_ ⟨_, rfl, x02, hown0, rfl⟩ ?_
 ·rintro i p l vs S3 ⟨lv, rfl, x3, hown, hlen⟩ hi
  have hil : i < t.parts.length := (List.getElem?_eq_some_iff.1 hi).1
  have hcp := hc p (List.mem_of_getElem? hi)
  have hlt : (i : Int) < (t.parts.length : Int) := by omega
  have hw : wr .i64 ((i : Int) + 1) = ((i + 1 : Nat) : Int) := by rw [wr64 (by omega) (by omega)]; omega
  obtain ⟨q, hp, hld, hst, hxv, hv⟩ := (hs.ext x3).var (x3.wf w) hi [.str [],.int .i64 0,.int .i64 0,.int .i64 0] rfl
  generalize S3.var 4 [.str [],.int .i64 0,.int .i64 0,.int .i64 0] p.enc = S4 at hst hxv hv
  have u2 : loadW none (.ptr S3.next 0 0 (0 + 2)) S4 = .ok (.int .i64 p.net) := by rw [hv S4 (Ext.refl _)]; rfl
  obtain ⟨N1, S5, x5, h5⟩ := (g134 0 p.net S4).get
  have u3 : loadW none (.ptr S3.next 0 0 (0 + 3)) S5 = .ok (.int .i64 p.tax) := by rw [hv S5 x5]; rfl
  obtain ⟨N2, S6, x6, h6⟩ := (g134 0 p.tax S5).get
  have u0 : loadW none (.ptr S3.next 0 0 (0 + 0)) S6 = .ok (.str p.cat) := by rw [hv S6 (x5.trans x6)]; rfl
  have x06 := x3.trans (hxv.trans (x5.trans x6))
  have hlim : ∀ m, m ≤ 1000004 → m < lim := fun m h => by unfold lim; omega
  have hbn : buildW [.str [],.int .i64 0] [(0, 1), (1, 1)] [(0, .str (netB ++ p.cat)), (1, .int .i64 (subM 0 p.net).1)] = .ok (.agg (Bal.enc ⟨netB ++ p.cat, (subM 0 p.net).1⟩)) := rfl
  have hbt : buildW [.str [],.int .i64 0] [(0, 1), (1, 1)] [(0, .str (taxB ++ p.cat)), (1, .int .i64 (subM 0 p.tax).1)] = .ok (.agg (Bal.enc ⟨taxB ++ p.cat, (subM 0 p.tax).1⟩)) := rfl
  have hnew := Ext.new (x06.wf w) (.row 0 2 [Bal.enc ⟨netB ++ p.cat, (subM 0 p.net).1⟩, Bal.enc ⟨taxB ++ p.cat, (subM 0 p.tax).1⟩])
  have hel : elemsOf (⟨S6.next + 1, S6.heap.put S6.next (.row 0 2 [Bal.enc ⟨netB ++ p.cat, (subM 0 p.net).1⟩, Bal.enc ⟨taxB ++ p.cat, (subM 0 p.tax).1⟩])⟩ : St) (.sl S6.next 0 2 0 2) = .ok [Bal.enc ⟨netB ++ p.cat, (subM 0 p.net).1⟩, Bal.enc ⟨taxB ++ p.cat, (subM 0 p.tax).1⟩] := by
   simp only [elemsOf, getRow_put]
   rfl
  have hlm : (l.map Bal.enc).length = l.length := List.length_map ..
  obtain ⟨v7, S7, q1, q2, _, q3⟩ := ((hown.ext (hxv.trans (x5.trans x6))).ext hnew).push (b := 24) (x06.trans hnew) w hel (fun c h => by
    rcases List.mem_cons.1 h with rfl | h
    ·exact ⟨rfl, rfl⟩
    ·rcases List.mem_cons.1 h with rfl | h
     ·exact ⟨rfl, rfl⟩
     ·cases h) (by simp) (by rw [hlm]; simp only [List.length_cons, List.length_nil]; omega) (by rw [hlm]; simp only [List.length_cons, List.length_nil]; unfold lim; omega)
  have pre : ∀ (K : KS) (again : List V → St → An) (k : Nat), max N1 N2 ≤ k → m95_l0 (callD prog dPl dLv k) k K pv (.int .i64 t.parts.length) [.nils, .int .i64 0, lv, .int .i64 (i : Int)] S3 again =
    if (subM 0 p.net).2 ≠ 0 then K (.tup [.nils, .int .i64 7]) S6 else if (subM 0 p.tax).2 ≠ 0 then K (.tup [.nils, .int .i64 7]) S6 else again [.nils, .int .i64 0, v7, .int .i64 ((i + 1 : Nat) : Int)] S7 := by
   intro K again k hk
   simp only [m95_l0, unD_cons, bin_lss, dR_ok, hlt, decide_true, pickD_true, ix58, hp, ld113, hld, newBlk_none, st113, hst, fa113_0, fa113_2, fa113_3, adv_ptr, ld3, u2]
   rw [h5 k _ (by omega)]
   simp only [pairV, tupD_tup, List.getElem?_cons_zero, List.getElem?_cons_succ, dO_ok, u3, dR_ok]
   rw [h6 k _ (by omega)]
   simp only [pairV, tupD_tup, List.getElem?_cons_zero, List.getElem?_cons_succ, dO_ok, guard_int, dIf_true, bin_neq, dR_ok]
   by_cases c1 : (subM 0 p.net).2 = 0
   ·by_cases c2 : (subM 0 p.tax).2 = 0
    ·simp only [c1, c2, decide_true, Bool.not_true, pickD_false, ld9, u0, dR_ok, ne_eq, not_true_eq_false, if_false]
     rw [str_add _ _ [110,101,116,47] p.cat (hlim _ (by simp only [List.length_cons, List.length_nil]; omega)), str_add _ _ [116,97,120,47] p.cat (hlim _ (by simp only [List.length_cons, List.length_nil]; omega))]
     have e1 : ([110,101,116,47] : List UInt8) = netB := rfl
     have e2 : ([116,97,120,47] : List UInt8) = taxB := rfl
     rw [e1, e2]
     simp only [dR_ok, bd96, hbn, hbt, bs27, two_block S6 2 (Bal.enc ⟨netB ++ p.cat, (subM 0 p.net).1⟩) (Bal.enc ⟨taxB ++ p.cat, (subM 0 p.tax).1⟩) rfl rfl rfl rfl (by omega), app27, q1, bin_add, hw]
    ·simp only [c1, c2, decide_true, decide_false, Bool.not_true, Bool.not_false, pickD_false, pickD_true, ne_eq, not_true_eq_false, not_false_eq_true, if_false, if_true]
   ·simp only [c1, decide_false, Bool.not_false, pickD_true, ne_eq, not_false_eq_true, if_true]
  by_cases c1 : (subM 0 p.net).2 ≠ 0
  ·exact ⟨max N1 N2, .inl ⟨([], 7), (.nils, 7), S6, by simp only [entStep, if_pos c1], ⟨rfl, x06, Own.nil _ _ _⟩, fun k K again hk => by rw [pre K again k hk, if_pos c1]⟩⟩
  ·by_cases c2 : (subM 0 p.tax).2 ≠ 0
   ·exact ⟨max N1 N2, .inl ⟨([], 7), (.nils, 7), S6, by simp only [entStep, if_neg c1, if_pos c2], ⟨rfl, x06, Own.nil _ _ _⟩, fun k K again hk => by rw [pre K again k hk, if_neg c1, if_pos c2]⟩⟩
   ·refine ⟨max N1 N2, .inr ⟨l ++ [⟨netB ++ p.cat, (subM 0 p.net).1⟩, ⟨taxB ++ p.cat, (subM 0 p.tax).1⟩], _, S7, by simp only [entStep, if_neg c1, if_neg c2], ⟨v7, rfl, q2, ?_, ?_⟩, fun k K again hk => by rw [pre K again k hk, if_neg c1, if_neg c2]⟩⟩
    ·rw [List.map_append]; exact q3
    ·simp only [List.length_append, List.length_cons, List.length_nil]; omega
 ·rintro l vs S3 ⟨lv, rfl, x3, hown, _⟩
  have hlt : ¬ (t.parts.length : Int) < (t.parts.length : Int) := by omega
  refine ⟨0, (lv, 0), S3, ⟨rfl, x3, hown⟩, fun k K again _ => ?_⟩
  simp only [m95_l0, unD_cons, bin_lss, dR_ok, hlt, decide_false, pickD_false]
 ·rintro ⟨lv, e⟩ S3 ⟨h2, x3, hown⟩
  have h2 : e = _ := h2
  subst h2
  exact Ok.ret ⟨lv, rfl, x3, hown⟩
theorem insAt_get {α : Type} (l : List α) (i : Nat) (a : α) (h : i ≤ l.length) : (insAt l i a)[i]? = some a := by
 unfold insAt
 rw [List.getElem?_append_right (by rw [List.length_take]; omega), List.length_take, Nat.min_eq_left h, Nat.sub_self]
 rfl
theorem insAt_len {α : Type} (l : List α) (i : Nat) (a : α) (h : i ≤ l.length) : (insAt l i a).length = l.length + 1 := by
 simp only [insAt, List.length_append, List.length_take, List.length_cons, List.length_drop]; omega
def placeBal (l : List Bal) (acc : List UInt8) : Nat := lowM (fun b => ltB b.acc acc) l
def missBal (l : List Bal) (acc : List UInt8) : Bool := match l[placeBal l acc]? with
 | none => true
 | some b => !(b.acc == acc)
def roomBal (l : List Bal) (acc : List UInt8) : List Bal := if missBal l acc = true then insAt l (placeBal l acc) ⟨acc, 0⟩ else l
def enterStep (l : List Bal) (x : Bal) : (List Bal × Int) ⊕ List Bal := match (roomBal l x.acc)[placeBal l x.acc]? with
 | none => .inl ([], 0)
 | some b => if (addM b.amount x.amount).2 ≠ 0 then .inl ([], (addM b.amount x.amount).2) else .inr ((roomBal l x.acc).set (placeBal l x.acc) ⟨b.acc, (addM b.amount x.amount).1⟩)
def enterM (book l : List Bal) : List Bal × Int := if bookM book = false then ([], 1) else runL enterStep (fun l => (l, 0)) l book
theorem placeBal_le (l : List Bal) (acc : List UInt8) : placeBal l acc ≤ l.length := lowM_le _ _
theorem roomBal_get (l : List Bal) (acc : List UInt8) : ∃ b, (roomBal l acc)[placeBal l acc]? = some b := by
 unfold roomBal
 split
 ·exact ⟨_, insAt_get _ _ _ (placeBal_le l acc)⟩
 ·rename_i h
  unfold missBal at h
  split at h
  ·exact absurd rfl h
  ·rename_i b hb; exact ⟨b, hb⟩
theorem roomBal_len (l : List Bal) (acc : List UInt8) : (roomBal l acc).length ≤ l.length + 1 := by
 unfold roomBal
 split
 ·rw [insAt_len _ _ _ (placeBal_le l acc)]; exact Nat.le_refl _
 ·omega
theorem pl136 : dPl 136 = some (.spec ((Sp.ins 27).run prog)) := by kernel_rfl
theorem enter_one {S0 S : St} (w : WF S0) (x0 : Ext S0 S) {v : V} {l : List Bal} (hown : Own S0 S 2 v (l.map Bal.enc)) (hb : l.length ≤ 1000000) {x : Bal} {q : Nat} (hq : getRow S q 0 = .ok (2, [x.enc])) (hqa : ∀ a ver m, v = .sl a ver 2 0 m → a ≠ q) (p17 p18 p19 : V) :
  ∃ N S', Ext S0 S' ∧ ((addM ((roomBal l x.acc)[placeBal l x.acc]?.map (·.amount) |>.getD 0) x.amount).2 ≠ 0 → ∀ k K (again0 : List V → St → An), N ≤ k → m96_j0 (callD prog dPl dLv k) k K again0 .nils (.int .i64 0) v (.ptr q 0 0 0) (.int .i64 (placeBal l x.acc : Nat)) p17 p18 p19 S =
    K (.tup [.nils, .int .i64 (addM ((roomBal l x.acc)[placeBal l x.acc]?.map (·.amount) |>.getD 0) x.amount).2]) S') ∧
   ((addM ((roomBal l x.acc)[placeBal l x.acc]?.map (·.amount) |>.getD 0) x.amount).2 = 0 → ∃ v', Own S0 S' 2 v' (((roomBal l x.acc).set (placeBal l x.acc) ⟨((roomBal l x.acc)[placeBal l x.acc]?.map (·.acc) |>.getD []), (addM ((roomBal l x.acc)[placeBal l x.acc]?.map (·.amount) |>.getD 0) x.amount).1⟩).map Bal.enc) ∧
    ∀ k K (again0 : List V → St → An), N ≤ k → m96_j0 (callD prog dPl dLv k) k K again0 .nils (.int .i64 0) v (.ptr q 0 0 0) (.int .i64 (placeBal l x.acc : Nat)) p17 p18 p19 S =
     dR (binV prog .add 3 p19 (.int .i64 1)) fun t23 => again0 [.nils, .int .i64 0, v', t23] S') := by
 have hb14 := (Ext.refl S).bump 14
 have hle := placeBal_le l x.acc
 obtain ⟨b, hbg⟩ := roomBal_get l x.acc
 have hlm : (l.map Bal.enc).length = l.length := List.length_map ..
 have xq0 : loadW none (.ptr q 0 0 (0 + 0)) (⟨S.next + 14, S.heap⟩ : St) = .ok (.str x.acc) := by rw [load_one _ _ _ _ _ (hb14.row hq)]; rfl
 have tail : ∀ (S1 : St) (v1 : V), Ext S0 S1 → Own S0 S1 2 v1 ((roomBal l x.acc).map Bal.enc) → getRow S1 q 0 = .ok (2, [x.enc]) →
   ∃ N S', Ext S0 S' ∧ ((addM b.amount x.amount).2 ≠ 0 → ∀ k K (again0 : List V → St → An), N ≤ k → m96_j1 (callD prog dPl dLv k) k K again0 .nils (.int .i64 0) v1 (.ptr q 0 0 0) (.int .i64 (placeBal l x.acc : Nat)) p17 p18 p19 S1 = K (.tup [.nils, .int .i64 (addM b.amount x.amount).2]) S') ∧
    ((addM b.amount x.amount).2 = 0 → Own S0 S' 2 v1 (((roomBal l x.acc).set (placeBal l x.acc) ⟨b.acc, (addM b.amount x.amount).1⟩).map Bal.enc) ∧ ∀ k K (again0 : List V → St → An), N ≤ k → m96_j1 (callD prog dPl dLv k) k K again0 .nils (.int .i64 0) v1 (.ptr q 0 0 0) (.int .i64 (placeBal l x.acc : Nat)) p17 p18 p19 S1 =
     dR (binV prog .add 3 p19 (.int .i64 1)) fun t23 => again0 [.nils, .int .i64 0, v1, t23] S') := by
  intro S1 v1 x1 hown1 hq1
  have hb13 := (Ext.refl S1).bump 13
  have hge : ((roomBal l x.acc).map Bal.enc)[placeBal l x.acc]? = some b.enc := by simp [hbg]
  obtain ⟨p, hp, hat, _, _⟩ := hown1.sl.elem hbg
  have y1 : loadW none (adv 1 p) (⟨S1.next + 13, S1.heap⟩ : St) = .ok (.int .i64 b.amount) := by rw [(hat.ext hb13).load]; rfl
  have y2 : loadW none (.ptr q 0 0 (0 + 1)) (⟨S1.next + 13, S1.heap⟩ : St) = .ok (.int .i64 x.amount) := by rw [load_one _ _ _ _ _ (hb13.row hq1)]; rfl
  obtain ⟨N, S2, x2, h2⟩ := (g137 b.amount x.amount (⟨S1.next + 13, S1.heap⟩ : St)).get
  have x02 := x1.trans (hb13.trans x2)
  have hown2 := (hown1.ext hb13).ext x2
  obtain ⟨p', hp', hat', hset⟩ := hown2.set x02 w hge .i64
  have hpp : p' = p := by rw [hp] at hp'; cases hp'; rfl
  subst hpp
  obtain ⟨S3, t1, t2, t3, t4, _⟩ := hset 1 1 (.int .i64 (addM b.amount x.amount).1) rfl rfl (by omega)
  by_cases c : (addM b.amount x.amount).2 = 0
  ·refine ⟨N, S3, t2, fun h => absurd c h, fun _ => ⟨?_, fun k K again0 hk => ?_⟩⟩
   ·have : ((roomBal l x.acc).set (placeBal l x.acc) ⟨b.acc, (addM b.amount x.amount).1⟩).map Bal.enc = ((roomBal l x.acc).map Bal.enc).set (placeBal l x.acc) (splice b.enc 1 [.int .i64 (addM b.amount x.amount).1]) := by rw [List.map_set]; rfl
    rw [this]; exact t4
   ·simp only [m96_j1, ix27, hp, fa96_1, hat.advW, dR_ok, ld3, y1, adv_ptr, y2]
    rw [h2 k _ hk]
    simp only [pairV, tupD_tup, List.getElem?_cons_zero, List.getElem?_cons_succ, dO_ok, guard_int, dIf_true, bin_neq, c, decide_true, Bool.not_true, dR_ok, pickD_false, st3, t1]
  ·refine ⟨N, S2, x02, fun _ k K again0 hk => ?_, fun h => absurd h c⟩
   simp only [m96_j1, ix27, hp, fa96_1, hat.advW, dR_ok, ld3, y1, adv_ptr, y2]
   rw [h2 k _ hk]
   simp only [pairV, tupD_tup, List.getElem?_cons_zero, List.getElem?_cons_succ, dO_ok, guard_int, dIf_true, bin_neq, c, decide_false, Bool.not_false, dR_ok, pickD_true]
 have j2 : ∀ bb : Bool, missBal l x.acc = bb → ∃ (S1 : St) (v1 : V), Ext S0 S1 ∧ Own S0 S1 2 v1 ((roomBal l x.acc).map Bal.enc) ∧ getRow S1 q 0 = .ok (2, [x.enc]) ∧ ∃ N, ∀ k K (again0 : List V → St → An), N ≤ k →
   m96_j2 (callD prog dPl dLv k) k K again0 .nils (.int .i64 0) v (.ptr q 0 0 0) (.int .i64 (placeBal l x.acc : Nat)) p17 p18 p19 (.bool bb) (⟨S.next + 14, S.heap⟩ : St) =
    m96_j1 (callD prog dPl dLv k) k K again0 .nils (.int .i64 0) v1 (.ptr q 0 0 0) (.int .i64 (placeBal l x.acc : Nat)) p17 p18 p19 S1 := by
  intro bb hm
  cases bb with
  | false =>
   have hroom : roomBal l x.acc = l := by unfold roomBal; rw [if_neg (by rw [hm]; simp)]
   rw [hroom]
   refine ⟨⟨S.next + 14, S.heap⟩, v, x0.trans hb14, hown.ext hb14, hb14.row hq, 0, fun k K again0 _ => ?_⟩
   simp only [m96_j2, pickD_false]
  | true =>
   have hroom : roomBal l x.acc = insAt l (placeBal l x.acc) ⟨x.acc, 0⟩ := by unfold roomBal; rw [if_pos hm]
   rw [hroom]
   have hbld : buildW [.str [],.int .i64 0] [(0, 1), (1, 1)] [(0, .str x.acc)] = .ok (.agg (Bal.enc ⟨x.acc, 0⟩)) := rfl
   have x14 := x0.trans hb14
   have hnew := Ext.new (x14.wf w) (.row 0 2 [Bal.enc ⟨x.acc, 0⟩])
   have hown' := (hown.ext hb14).ext hnew
   obtain ⟨v6, S6, r1, r2, r3, r4⟩ := hown'.insertK ap27 (by omega) (x14.trans hnew) w (bx := S.next + 14) (c := Bal.enc ⟨x.acc, 0⟩) (getRow_put _ _ _ _ _ _)
    (fun a ver m hv => by
     rcases hown.is with ⟨e1, _⟩ | ⟨a', ver', tl, e1, _, e2, _⟩
     ·rw [hv] at e1; cases e1
     ·rw [hv] at e1; cases e1; omega)
    ⟨rfl, rfl⟩ (by rw [hlm]; omega) (by rw [hlm]; unfold lim; omega) (i := placeBal l x.acc) (by rw [hlm]; exact hle)
   have hq6 : getRow S6 q 0 = .ok (2, [x.enc]) := by
    have hq5 : getRow (⟨S.next + 14 + 1, S.heap.put (S.next + 14) (.row 0 2 [Bal.enc ⟨x.acc, 0⟩])⟩ : St) q 0 = .ok (2, [x.enc]) := (hb14.trans hnew).row hq
    have hqlt : q < S.next + 14 + 1 := by
     unfold getRow at hq
     split at hq
     ·rename_i hg; have := x0.wf w q _ hg; omega
     ·cases hq
    rw [row_same (r4 q hqlt (fun a ver m hv e => hqa a ver m hv e.symm))]
    exact hq5
   refine ⟨S6, v6, r2, by rw [map_insAt]; exact r3, hq6, ?_⟩
   obtain ⟨u, S7, N, ⟨e1, e2⟩, hins⟩ := doesIns pl136 r1
   subst e1 e2
   refine ⟨N, fun k K again0 hk => ?_⟩
   simp only [m96_j2, pickD_true, fa96_0, adv_ptr, dR_ok, ld9, xq0, bd96, hbld, bs27, one_block (⟨S.next + 14, S.heap⟩ : St) 2 (Bal.enc ⟨x.acc, 0⟩) rfl rfl (by omega)]
   exact hins k _ hk
 obtain ⟨S1, v1, x1, ho1, hq1, N1, hj2⟩ := j2 (missBal l x.acc) rfl
 obtain ⟨N2, S', x2, hbad, hgood⟩ := tail S1 v1 x1 ho1 hq1
 have hj0 : ∀ k K (again0 : List V → St → An), max N1 N2 ≤ k → m96_j0 (callD prog dPl dLv k) k K again0 .nils (.int .i64 0) v (.ptr q 0 0 0) (.int .i64 (placeBal l x.acc : Nat)) p17 p18 p19 S =
   m96_j1 (callD prog dPl dLv k) k K again0 .nils (.int .i64 0) v1 (.ptr q 0 0 0) (.int .i64 (placeBal l x.acc : Nat)) p17 p18 p19 S1 := by
  intro k K again0 hk
  rw [← hj2 k K again0 (by omega)]
  simp only [m96_j0, len27, hown.sl.lenI, dR_ok, guard_int, dIf_true, bin_eql]
  by_cases hend : placeBal l x.acc = l.length
  ·have h1 : ((placeBal l x.acc : Nat) : Int) = (l.length : Int) := by omega
   have h2 : missBal l x.acc = true := by
    unfold missBal
    rw [List.getElem?_eq_none (by omega)]
   simp only [h1, decide_true, pickD_true, h2]
  ·have h1 : ¬ ((placeBal l x.acc : Nat) : Int) = (l.length : Int) := by omega
   have hpg : l[placeBal l x.acc]? = some (l[placeBal l x.acc]'(by omega)) := List.getElem?_eq_getElem _
   obtain ⟨p, hp, hat, _, _⟩ := hown.sl.elem hpg
   have y0 : loadW none (adv 0 p) (⟨S.next + 14, S.heap⟩ : St) = .ok (.str (l[placeBal l x.acc]'(by omega)).acc) := by rw [(hat.ext hb14).load]; rfl
   have h2 : missBal l x.acc = !((l[placeBal l x.acc]'(by omega)).acc == x.acc) := by
    unfold missBal
    rw [hpg]
   simp only [h1, decide_false, pickD_false, ix27, hp, fa96_0, hat.advW, dR_ok, ld9, y0, adv_ptr, xq0, guard_str, dIf_true, str_neq, ← h2]
 refine ⟨max N1 N2, S', x2, ?_, ?_⟩
 ·simp only [hbg, Option.map_some, Option.getD_some]
  intro h k K again0 hk
  rw [hj0 k K again0 hk, hbad h k K again0 (by omega)]
 ·simp only [hbg, Option.map_some, Option.getD_some]
  intro h
  obtain ⟨o, hk⟩ := hgood h
  exact ⟨v1, o, fun k K again0 hk' => by rw [hj0 k K again0 hk', hk k K again0 (by omega)]⟩
theorem enterStep_eq (l : List Bal) (x : Bal) : enterStep l x = if (addM ((roomBal l x.acc)[placeBal l x.acc]?.map (·.amount) |>.getD 0) x.amount).2 ≠ 0 then .inl ([], (addM ((roomBal l x.acc)[placeBal l x.acc]?.map (·.amount) |>.getD 0) x.amount).2)
  else .inr ((roomBal l x.acc).set (placeBal l x.acc) ⟨((roomBal l x.acc)[placeBal l x.acc]?.map (·.acc) |>.getD []), (addM ((roomBal l x.acc)[placeBal l x.acc]?.map (·.amount) |>.getD 0) x.amount).1⟩) := by
 obtain ⟨b, hb⟩ := roomBal_get l x.acc
 unfold enterStep
 simp only [hb, Option.map_some, Option.getD_some]
theorem enterStep_len {l l' : List Bal} {x : Bal} (h : enterStep l x = .inr l') : l'.length ≤ l.length + 1 := by
 rw [enterStep_eq] at h
 split at h
 ·cases h
 ·cases h
  rw [List.length_set]
  exact roomBal_len l x.acc
theorem search_one {S0 S : St} (w : WF S0) (x0 : Ext S0 S) {v : V} {l : List Bal} (hs : Sl S 2 v (l.map Bal.enc)) (hb : l.length ≤ 1000000) {x : Bal} {q : Nat} (hq : getRow S q 0 = .ok (2, [x.enc])) (p17 p18 p19 : V) :
  ∃ N S', Ext S S' ∧ S'.heap = S.heap ∧ ∀ k m K (again0 : List V → St → An), N ≤ k → l.length < m → loopD m [.int .i64 0] S (m96_l1 (callD prog dPl dLv k) k K again0 .nils (.int .i64 0) v (.ptr q 0 0 0) p17 p18 p19) =
   m96_j0 (callD prog dPl dLv k) k K again0 .nils (.int .i64 0) v (.ptr q 0 0 0) (.int .i64 (placeBal l x.acc : Nat)) p17 p18 p19 S' := by
 obtain ⟨N, n, S', ⟨hn, hx, hh⟩, h⟩ := loop_rule (κ := KS × (List V → St → An)) (F := fun k Ka => m96_l1 (callD prog dPl dLv k) k Ka.1 Ka.2 .nils (.int .i64 0) v (.ptr q 0 0 0) p17 p18 p19) (ρ := Nat) (α := Bal) (X := Nat) l
  (step := lowStep fun b : Bal => ltB b.acc x.acc) (fin := id) (out := fun k Ka n S' => m96_j0 (callD prog dPl dLv k) k Ka.1 Ka.2 .nils (.int .i64 0) v (.ptr q 0 0 0) (.int .i64 (n : Int)) p17 p18 p19 S')
  (fun i n vs S' => n = i ∧ vs = [.int .i64 (i : Int)] ∧ Ext S S' ∧ S'.heap = S.heap) (fun r n S' => r = n ∧ Ext S S' ∧ S'.heap = S.heap) (by
   rintro i b n vs S1 ⟨rfl, rfl, x1, hh⟩ hi
   have hil : n < l.length := (List.getElem?_eq_some_iff.1 hi).1
   have hlt : (n : Int) < (l.length : Int) := by omega
   have hw : wr .i64 ((n : Int) + 1) = ((n + 1 : Nat) : Int) := by rw [wr64 (by omega) (by omega)]; omega
   have hb14 := (Ext.refl S1).bump 14
   obtain ⟨p, hp, hat, _, _⟩ := (hs.ext x1).elem hi
   have y1 : loadW none (adv 0 p) (⟨S1.next + 14, S1.heap⟩ : St) = .ok (.str b.acc) := by rw [(hat.ext hb14).load]; rfl
   have y2 : loadW none (.ptr q 0 0 (0 + 0)) (⟨S1.next + 14, S1.heap⟩ : St) = .ok (.str x.acc) := by rw [load_one _ _ _ _ _ ((x1.trans hb14).row hq)]; rfl
   have pre : ∀ (Ka : KS × (List V → St → An)) (again : List V → St → An) (k : Nat), m96_l1 (callD prog dPl dLv k) k Ka.1 Ka.2 .nils (.int .i64 0) v (.ptr q 0 0 0) p17 p18 p19 [.int .i64 (n : Int)] S1 again =
     if ltB b.acc x.acc = true then again [.int .i64 ((n + 1 : Nat) : Int)] (⟨S1.next + 14, S1.heap⟩ : St) else m96_j0 (callD prog dPl dLv k) k Ka.1 Ka.2 .nils (.int .i64 0) v (.ptr q 0 0 0) (.int .i64 (n : Int)) p17 p18 p19 (⟨S1.next + 14, S1.heap⟩ : St) := by
    intro Ka again k
    simp only [m96_l1, unD_cons, len27, hs.lenI, bin_lss, dR_ok, hlt, decide_true, pickD_true, ix27, hp, fa96_0, hat.advW, ld9, y1, adv_ptr, y2, str_lss, bin_add, hw, pickD_bool, if_true]
   by_cases c : ltB b.acc x.acc = true
   ·exact ⟨0, .inr ⟨n + 1, _, _, by simp only [lowStep, c, if_true], ⟨rfl, rfl, x1.trans hb14, hh⟩, fun k K again _ => by rw [pre, if_pos c]⟩⟩
   ·exact ⟨0, .inl ⟨n, n, _, by simp only [lowStep, c, if_false]; rfl, ⟨rfl, x1.trans hb14, hh⟩, fun k K again _ => by rw [pre, if_neg c]⟩⟩)
  (by
   rintro n vs S1 ⟨rfl, rfl, x1, hh⟩
   have hlt : ¬ (l.length : Int) < (l.length : Int) := by omega
   refine ⟨0, l.length, (⟨S1.next + 14, S1.heap⟩ : St), ⟨rfl, x1.bump 14, hh⟩, fun k K again _ => ?_⟩
   simp only [m96_l1, unD_cons, len27, hs.lenI, bin_lss, dR_ok, hlt, decide_false, pickD_false])
  l 0 0 [.int .i64 0] S rfl (Nat.zero_le _) ⟨rfl, rfl, Ext.refl S, rfl⟩
 refine ⟨N, S', hx, hh, fun k m K again0 hk hm => ?_⟩
 have := h k m (K, again0) hk hm
 have hn' : n = placeBal l x.acc := hn.symm
 rw [hn'] at this
 exact this
theorem enterL_len : ∀ (l : List Bal) (a : List Bal) (r : List Bal × Int), runL enterStep (fun l => (l, 0)) l a = r → r.1.length ≤ a.length + l.length
 | [], a, r, h => by subst h; simp [runL]
 | x :: l, a, r, h => by
  simp only [runL] at h
  split at h
  ·rename_i r' he
   subst h
   rw [enterStep_eq] at he
   split at he
   ·cases he; simp
   ·cases he
  ·rename_i s' he
   have h1 := enterStep_len he
   have := enterL_len l _ r h
   simp only [List.length_cons]
   omega
theorem g96 (bv lv : V) (book l : List Bal) (S : St) (w : WF S) (hs : Sl S 2 bv (book.map Bal.enc)) (hl : Sl S 2 lv (l.map Bal.enc)) (hb : book.length ≤ 400000) (hbl : l.length ≤ 400000) :
  Does prog dPl dLv 96 [bv, lv] S (ListOut S 2 Bal.enc (enterM book l)) := by
 refine e96 ?_
 simp only [m96]
 refine (g135 bv book S w hs (by omega)).call fun S1 x1 => ?_
 simp only [un_not, dR_ok]
 refine Ok.pick (fun h => Ok.ret ?_) (fun h => ?_)
 ·have hr : bookM book = false := by simpa using h
  simp only [enterM, hr, if_true]
  exact ListOut.none x1
 have hr : bookM book = true := by simpa using h
 have hlm : (book.map Bal.enc).length = book.length := List.length_map ..
 obtain ⟨v', S2, q1, q2, q3⟩ := (hs.ext x1).copy (b := 24) (x1.wf w) (by rw [hlm]; omega) (by rw [hlm]; unfold lim; omega)
 simp only [app27, q1, dR_ok, len27, hl.lenI]
 have x02 := x1.trans q2
 refine Ok.loop (F := fun k K => m96_l0 (callD prog dPl dLv k) k K lv (.int .i64 l.length)) (ρ := List Bal × Int) (α := Bal) (X := V × Int) l (step := enterStep) (fin := fun l => (l, 0)) (s := book)
  (out := fun k K x S' => K (.tup [x.1, .int .i64 x.2]) S')
  (fun i b vs S' => ∃ ov, vs = [.nils, .int .i64 0, ov, .int .i64 (i : Int)] ∧ Ext S S' ∧ Own S S' 2 ov (b.map Bal.enc) ∧ b.length ≤ book.length + i) (fun r x S' => x.2 = r.2 ∧ Ext S S' ∧ Own S S' 2 x.1 (r.1.map Bal.enc)) ?_ ?_ ⟨v', rfl, x02, q3.weaken x1.next, by omega⟩ ?_
 ·rintro i x b vs S3 ⟨ov, rfl, x3, hown, hlen⟩ hi
  have hil : i < l.length := (List.getElem?_eq_some_iff.1 hi).1
  have hlt : (i : Int) < (l.length : Int) := by omega
  have hw : wr .i64 ((i : Int) + 1) = ((i + 1 : Nat) : Int) := by rw [wr64 (by omega) (by omega)]; omega
  obtain ⟨p, hp, hld, hst, hxv, hv⟩ := (hl.ext x3).var (x3.wf w) hi [.str [],.int .i64 0] rfl
  have hrow : getRow (S3.var 2 [.str [],.int .i64 0] x.enc) S3.next 0 = .ok (2, [x.enc]) := row_var _ _ _ _
  generalize S3.var 2 [.str [],.int .i64 0] x.enc = S4 at hst hxv hv hrow
  have x4 := x3.trans hxv
  have hown4 := hown.ext hxv
  have hqa : ∀ a ver m, ov = .sl a ver 2 0 m → a ≠ S3.next := fun a ver m hv2 => by
   rcases hown.is with ⟨e1, _⟩ | ⟨a', ver', tl, e1, _, e2, _⟩
   ·rw [hv2] at e1; cases e1
   ·rw [hv2] at e1; cases e1; omega
  obtain ⟨N1, S5, x5, hh5, hsearch⟩ := search_one w x4 hown4.sl (by omega) hrow lv (.int .i64 l.length) (.int .i64 (i : Int))
  obtain ⟨N2, S6, x6, hbad, hgood⟩ := enter_one w (x4.trans x5) (hown4.ext x5) (by omega) (x := x) (q := S3.next) (x5.row hrow) hqa lv (.int .i64 l.length) (.int .i64 (i : Int))
  have pre : ∀ (K : KS) (again : List V → St → An) (k : Nat), max N1 (b.length + 1) ≤ k → m96_l0 (callD prog dPl dLv k) k K lv (.int .i64 l.length) [.nils, .int .i64 0, ov, .int .i64 (i : Int)] S3 again =
    m96_j0 (callD prog dPl dLv k) k K again .nils (.int .i64 0) ov (.ptr S3.next 0 0 0) (.int .i64 (placeBal b x.acc : Nat)) lv (.int .i64 l.length) (.int .i64 (i : Int)) S5 := by
   intro K again k hk
   simp only [m96_l0, unD_cons, bin_lss, dR_ok, hlt, decide_true, pickD_true, ix27, hp, ld96, hld, newBlk_none, st96, hst]
   exact hsearch k k K again (by omega) (by omega)
  by_cases c : (addM ((roomBal b x.acc)[placeBal b x.acc]?.map (·.amount) |>.getD 0) x.amount).2 = 0
  ·obtain ⟨v6, o6, h6⟩ := hgood c
   have hst2 : enterStep b x = .inr ((roomBal b x.acc).set (placeBal b x.acc) ⟨((roomBal b x.acc)[placeBal b x.acc]?.map (·.acc) |>.getD []), (addM ((roomBal b x.acc)[placeBal b x.acc]?.map (·.amount) |>.getD 0) x.amount).1⟩) := by
    rw [enterStep_eq, if_neg (fun h => h c)]
   have hln := enterStep_len hst2
   refine ⟨max N2 (max N1 (b.length + 1)), .inr ⟨_, [.nils, .int .i64 0, v6, .int .i64 ((i + 1 : Nat) : Int)], S6, hst2, ⟨v6, rfl, x6, o6, by omega⟩, fun k K again hk => ?_⟩⟩
   rw [pre K again k (by omega), h6 k K again (by omega)]
   simp only [bin_add, dR_ok, hw]
  ·refine ⟨max N2 (max N1 (b.length + 1)), .inl ⟨([], (addM ((roomBal b x.acc)[placeBal b x.acc]?.map (·.amount) |>.getD 0) x.amount).2), (.nils, (addM ((roomBal b x.acc)[placeBal b x.acc]?.map (·.amount) |>.getD 0) x.amount).2), S6, by rw [enterStep_eq, if_pos c], ⟨rfl, x6, Own.nil _ _ _⟩, fun k K again hk => ?_⟩⟩
   rw [pre K again k (by omega), hbad c k K again (by omega)]
 ·rintro b vs S3 ⟨ov, rfl, x3, hown, _⟩
  have hlt : ¬ (l.length : Int) < (l.length : Int) := by omega
  refine ⟨0, (ov, 0), S3, ⟨rfl, x3, hown⟩, fun k K again _ => ?_⟩
  simp only [m96_l0, unD_cons, bin_lss, dR_ok, hlt, decide_false, pickD_false]
 ·rintro ⟨ov, e⟩ S3 ⟨h2, x3, hown⟩
  have h2 : e = _ := h2
  subst h2
  refine Ok.ret ⟨ov, ?_, x3, ?_⟩
  ·simp only [enterM, hr, if_false, Bool.true_eq_false]
  ·simp only [enterM, hr, if_false, Bool.true_eq_false]
   exact hown
def intEnc (n : Int) : List V := [.int .i64 n]
theorem ext108 : (fun (a b c : Int) => externV Tryz.f108 [.int .u64 a, .int .u64 b, .int .u64 c]) = fun a b c =>
  bif decide (0 ≤ a) && decide (0 ≤ b) && decide (0 ≤ c) && decide (c ≤ 1) then .ok (.tup [.int .u64 ((a + b + c) % 18446744073709551616), .int .u64 ((a + b + c) / 18446744073709551616)]) else .error "Add64" := by kernel_rfl
theorem add64 {a b c : Int} (ha : 0 ≤ a) (hb : 0 ≤ b) (hc : 0 ≤ c) (hc1 : c ≤ 1) : externV Tryz.f108 [.int .u64 a, .int .u64 b, .int .u64 c] = .ok (.tup [.int .u64 ((a + b + c) % 18446744073709551616), .int .u64 ((a + b + c) / 18446744073709551616)]) := by
 refine (congrFun (congrFun (congrFun ext108 a) b) c).trans ?_
 simp only [ha, hb, hc, hc1, decide_true, Bool.and_self, cond_true]
theorem wru_range (n : Int) : 0 ≤ wr .u64 n ∧ wr .u64 n < 18446744073709551616 := by
 unfold wr lo hi
 simp only
 split
 ·omega
 ·show 0 ≤ n % 18446744073709551616 ∧ n % 18446744073709551616 < 18446744073709551616
  omega
theorem notU0 : notU 0 = 18446744073709551615 := by decide
def exactStep (st : Int × Int) (n : Int) : (Int × Bool) ⊕ (Int × Int) :=
 .inr ((st.1 + (if n < 0 then 18446744073709551615 else 0) + (st.2 + wr .u64 n + 0) / 18446744073709551616) % 18446744073709551616, (st.2 + wr .u64 n + 0) % 18446744073709551616)
def exactFin (st : Int × Int) : Int × Bool := (wr .i64 st.2, if st.2.fdiv (2 ^ 63) = 0 then decide (st.1 = 0) else decide (st.1 = 18446744073709551615))
def exactM (l : List Int) : Int × Bool := runL exactStep exactFin l (0, 0)
theorem bin_shr63 (P : Program) (t : TypeId) (a : Int) : binV P .shr t (.int .u64 a) (.int .u64 63) = .ok (.int .u64 (a.fdiv (2 ^ 63))) := rfl
theorem g63 (v : V) (l : List Int) (S : St) (w : WF S) (hs : Sl S 1 v (l.map intEnc)) (hb : l.length < 1000000) : Gives 63 [v] S (.tup [.int .i64 (exactM l).1, .bool (exactM l).2]) := by
 refine e63 ?_
 simp only [m63, len64, hs.lenI, dR_ok]
 refine Ok.loop (F := fun k K => m63_l0 (callD prog dPl dLv k) k K v (.int .i64 l.length)) (ρ := Int × Bool) (α := Int) (X := Int × Bool) l (step := exactStep) (fin := exactFin) (s := (0, 0))
  (out := fun k K x S' => K (.tup [.int .i64 x.1, .bool x.2]) S')
  (fun i st vs S' => vs = [.int .u64 st.1, .int .u64 st.2, .int .i64 (i : Int)] ∧ Ext S S' ∧ 0 ≤ st.1 ∧ st.1 < 18446744073709551616 ∧ 0 ≤ st.2 ∧ st.2 < 18446744073709551616) (fun r x S' => r = x ∧ Ext S S') ?_ ?_ ⟨rfl, Ext.refl S, by decide, by decide, by decide, by decide⟩ ?_
 ·rintro i n ⟨h, lo⟩ vs S1 ⟨rfl, x1, r1, r2, r3, r4⟩ hi
  have hil : i < l.length := (List.getElem?_eq_some_iff.1 hi).1
  have hlt : (i : Int) < (l.length : Int) := by omega
  have hw : wr .i64 ((i : Int) + 1) = ((i + 1 : Nat) : Int) := by rw [wr64 (by omega) (by omega)]; omega
  obtain ⟨p, hp, hat, _, _⟩ := (hs.ext x1).elem hi
  have v0 : loadW none p S1 = .ok (.int .i64 n) := by rw [hat.load0]; rfl
  have hr := wru_range n
  simp only at r1 r2 r3 r4
  have hc1 : (lo + wr .u64 n + 0) / 18446744073709551616 ≤ 1 := by omega
  have hc0 : 0 ≤ (lo + wr .u64 n + 0) / 18446744073709551616 := by omega
  have hj : ∀ (e : Int) (K : KS) (again : List V → St → An) (k : Nat), 0 ≤ e → m63_j0 (callD prog dPl dLv k) k K again (.int .u64 h) (.int .u64 lo) (.int .i64 n) (.int .u64 e) v (.int .i64 l.length) (.int .i64 (i : Int)) S1 =
    again [.int .u64 ((h + e + (lo + wr .u64 n + 0) / 18446744073709551616) % 18446744073709551616), .int .u64 ((lo + wr .u64 n + 0) % 18446744073709551616), .int .i64 ((i + 1 : Nat) : Int)] S1 := by
   intro e K again k he
   simp only [m63_j0, cv3_161, dR_ok, add64 (c := 0) r3 hr.1 (by decide) (by decide), tupD_tup, List.getElem?_cons_zero, List.getElem?_cons_succ, dO_ok, add64 r1 he hc0 hc1, bin_add, hw]
  refine ⟨0, .inr ⟨_, [.int .u64 ((h + (if n < 0 then 18446744073709551615 else 0) + (lo + wr .u64 n + 0) / 18446744073709551616) % 18446744073709551616), .int .u64 ((lo + wr .u64 n + 0) % 18446744073709551616), .int .i64 ((i + 1 : Nat) : Int)], S1, rfl, ⟨rfl, x1, ?_, ?_, ?_, ?_⟩, fun k K again _ => ?_⟩⟩
  ·simp only; omega
  ·simp only; omega
  ·simp only; omega
  ·simp only; omega
  ·simp only [m63_l0, unD_cons, bin_lss, dR_ok, hlt, decide_true, pickD_true, ix64, hp, ld3, v0, un_xorU, notU0]
   by_cases c : n < 0
   ·simp only [c, decide_true, pickD_true, if_true, hj 18446744073709551615 K again k (by omega)]
   ·simp only [c, decide_false, pickD_false, if_false, hj 0 K again k (by omega)]
 ·rintro ⟨h, lo⟩ vs S1 ⟨rfl, x1, r1, r2, r3, r4⟩
  have hlt : ¬ (l.length : Int) < (l.length : Int) := by omega
  refine ⟨0, exactFin (h, lo), S1, ⟨rfl, x1⟩, fun k K again _ => ?_⟩
  simp only [m63_l0, unD_cons, bin_lss, dR_ok, hlt, decide_false, pickD_false, bin_shr63, guard_int, dIf_true, bin_eql, cv161_3, exactFin]
  by_cases c : lo.fdiv (2 ^ 63) = 0
  ·simp only [c, decide_true, pickD_true, if_true]
  ·simp only [c, decide_false, pickD_false, if_false]
 ·rintro x S1 ⟨rfl, x1⟩
  exact Ok.ret ⟨rfl, x1⟩
theorem ap58 : apT prog 58 = some (4, 40) := by kernel_rfl
theorem pl166 : dPl 166 = some (.spec ((Sp.ins 58).run prog)) := by kernel_rfl
structure Line where
 text : List UInt8
 cat : List UInt8
 count : Int
 price : Int
deriving DecidableEq
def Line.enc (l : Line) : List V := [.str l.text, .str l.cat, .int .i64 l.count, .int .i64 l.price]
def lineM (tab : List Rate) (d : Date) (l : Line) : Int × Int × Int :=
 if 64 < l.text.length then (0, 0, 2) else if nameM l.cat = false then (0, 0, 8) else if l.count < 1 ∨ 1048576 < l.count then (0, 0, 1) else
  if (findRate tab l.cat d).2 = false then (0, 0, 10) else ((findRate tab l.cat d).1, (mulM l.count l.price).1, (mulM l.count l.price).2)
def tripV (r : Int × Int × Int) : V := .tup [.int .i64 r.1, .int .i64 r.2.1, .int .i64 r.2.2]
theorem g149 (tv : V) (tab : List Rate) (d : Date) (l : Line) (S : St) (w : WF S) (hs : Sl S 5 tv (tab.map Rate.enc)) : Gives 149 [tv, .agg d.enc, .agg l.enc] S (tripV (lineM tab d l)) := by
 refine e149 ?_
 have ho1 : allOne d.enc = true := rfl
 have hl1 : d.enc.length = 3 := rfl
 have ho2 : allOne l.enc = true := rfl
 have hl2 : l.enc.length = 4 := rfl
 have hx1 := Ext.new w (.row 0 3 [d.enc])
 have hx2 := Ext.new (hx1.wf w) (.row 0 4 [l.enc])
 have hx := hx1.trans hx2
 have hr1 : getRow (⟨S.next + 1, S.heap.put S.next (.row 0 3 [d.enc])⟩ : St) S.next 0 = .ok (3, [d.enc]) := getRow_put _ _ _ _ _ _
 have hr2 : getRow (⟨S.next + 1 + 1, (S.heap.put S.next (.row 0 3 [d.enc])).put (S.next + 1) (.row 0 4 [l.enc])⟩ : St) (S.next + 1) 0 = .ok (4, [l.enc]) := getRow_put _ _ _ _ _ _
 have hrd := hx2.row hr1
 simp only [m149, agg_cells, ho1, hl1, ho2, hl2, dIf_true, newBlk_none, dR_ok]
 have hx' : Ext S (⟨S.next + 1 + 1, (S.heap.put S.next (.row 0 3 [d.enc])).put (S.next + 1) (.row 0 4 [l.enc])⟩ : St) := hx
 have hrd' : getRow (⟨S.next + 1 + 1, (S.heap.put S.next (.row 0 3 [d.enc])).put (S.next + 1) (.row 0 4 [l.enc])⟩ : St) S.next 0 = .ok (3, [d.enc]) := hrd
 generalize (⟨S.next + 1 + 1, (S.heap.put S.next (.row 0 3 [d.enc])).put (S.next + 1) (.row 0 4 [l.enc])⟩ : St) = S1 at hr2 hrd' hx'
 have ll : ∀ {S'} k j v, Ext S1 S' → partW k l.enc j = .ok v → loadW k (.ptr (S.next + 1) 0 0 j) S' = .ok v := fun k j v x h => by rw [load_one _ _ _ _ _ (x.row hr2)]; exact h
 have ldd : ∀ {S'}, Ext S1 S' → loadW (some 3) (.ptr S.next 0 0 0) S' = .ok (.agg d.enc) := fun x => by rw [load_one _ _ _ _ _ (x.row hrd')]; rfl
 simp only [fa115_0, fa115_1, fa115_2, fa115_3, adv_ptr, dR_ok, ld9, ll none (0 + 0) (.str l.text) (Ext.refl S1) rfl, len9, bin_gtr]
 refine Ok.pickP (fun h => Ok.ret ⟨by simp [lineM, show 64 < l.text.length by omega, tripV], hx'⟩) (fun h64 => ?_)
 have h64' : ¬ 64 < l.text.length := by omega
 simp only [ll none (0 + 1) (.str l.cat) (Ext.refl S1) rfl, dR_ok]
 refine (g88 l.cat S1 (hx'.wf w)).call fun S2 x2 => ?_
 simp only [un_not, dR_ok]
 refine Ok.pick (fun h => Ok.ret ⟨?_, hx'.trans x2⟩) (fun h => ?_)
 ·have hn : nameM l.cat = false := by simpa using h
  simp [lineM, h64', hn, tripV]
 have hn : nameM l.cat = true := by simpa using h
 simp only [ld3, ll none (0 + 2) (.int .i64 l.count) x2 rfl, dR_ok, bin_lss]
 have hj : ∀ b : Bool, (b = true → l.count < 1 ∨ 1048576 < l.count) → (b = false → ¬ (l.count < 1 ∨ 1048576 < l.count)) →
   Ok (fun k K => m149_j0 (callD prog dPl dLv k) k K tv (.ptr S.next 0 0 0) (.ptr (S.next + 1) 0 0 0) (.bool b) S2) (fun w S' => w = tripV (lineM tab d l) ∧ Ext S S') := by
  intro b h1 h2
  simp only [m149_j0, fa115_1, fa115_2, fa115_3, adv_ptr, dR_ok, ld9, ll none (0 + 1) (.str l.cat) x2 rfl, ld38, ldd x2]
  refine Ok.pick (fun h => Ok.ret ⟨by simp [lineM, h64', hn, h1 h, tripV], hx'.trans x2⟩) (fun h => ?_)
  have hc := h2 h
  refine (g164 tv tab l.cat d S2 ((hx'.trans x2).wf w) (hs.ext (hx'.trans x2))).call fun S3 x3 => ?_
  simp only [tupD_tup, List.getElem?_cons_zero, List.getElem?_cons_succ, dO_ok, un_not, dR_ok]
  refine Ok.pick (fun h => Ok.ret ⟨?_, (hx'.trans x2).trans x3⟩) (fun h => ?_)
  ·have hf : (findRate tab l.cat d).2 = false := by simpa using h
   simp [lineM, h64', hn, hc, hf, tripV]
  have hf : (findRate tab l.cat d).2 = true := by simpa using h
  simp only [ld3, ll none (0 + 2) (.int .i64 l.count) (x2.trans x3) rfl, ll none (0 + 3) (.int .i64 l.price) (x2.trans x3) rfl, dR_ok]
  refine (g165 l.count l.price S3).call fun S4 x4 => ?_
  simp only [pairV, tupD_tup, List.getElem?_cons_zero, List.getElem?_cons_succ, dO_ok]
  refine Ok.ret ⟨?_, ((hx'.trans x2).trans x3).trans x4⟩
  unfold lineM
  rw [if_neg h64', if_neg (by rw [hn]; simp), if_neg hc, if_neg (by rw [hf]; simp)]
  rfl
 refine Ok.pickP (fun h => hj true (fun _ => .inl h) (fun h => by cases h)) (fun h => ?_)
 simp only [bin_gtr, dR_ok]
 by_cases h' : 1048576 < l.count
 ·simp only [h', decide_true]
  exact hj true (fun _ => .inr h') (fun h => by cases h)
 ·simp only [h', decide_false]
  exact hj false (fun h => by cases h) (fun _ => by omega)
def placePart (l : List Part) (cat : List UInt8) : Nat := lowM (fun p => ltB p.cat cat) l
def missPart (l : List Part) (cat : List UInt8) : Bool := match l[placePart l cat]? with
 | none => true
 | some b => !(b.cat == cat)
def roomPart (l : List Part) (cat : List UInt8) (bp : Int) : List Part := if missPart l cat = true then insAt l (placePart l cat) ⟨cat, bp, 0, 0⟩ else l
def putM (l : List Part) (cat : List UInt8) (bp n : Int) : List Part × Int := match (roomPart l cat bp)[placePart l cat]? with
 | none => ([], 0)
 | some p => ((roomPart l cat bp).set (placePart l cat) { p with net := (addM p.net n).1 }, (addM p.net n).2)
theorem placePart_le (l : List Part) (cat : List UInt8) : placePart l cat ≤ l.length := lowM_le _ _
theorem roomPart_get (l : List Part) (cat : List UInt8) (bp : Int) : ∃ b, (roomPart l cat bp)[placePart l cat]? = some b := by
 unfold roomPart
 split
 ·exact ⟨_, insAt_get _ _ _ (placePart_le l cat)⟩
 ·rename_i h
  unfold missPart at h
  split at h
  ·exact absurd rfl h
  ·rename_i b hb; exact ⟨b, hb⟩
theorem roomPart_len (l : List Part) (cat : List UInt8) (bp : Int) : (roomPart l cat bp).length ≤ l.length + 1 := by
 unfold roomPart
 split
 ·rw [insAt_len _ _ _ (placePart_le l cat)]; exact Nat.le_refl _
 ·omega
theorem putM_len (l : List Part) (cat : List UInt8) (bp n : Int) : (putM l cat bp n).1.length ≤ l.length + 1 := by
 obtain ⟨b, hb⟩ := roomPart_get l cat bp
 unfold putM
 rw [hb]
 simp only [List.length_set]
 exact roomPart_len l cat bp
theorem g150 {S0 S : St} (w : WF S0) (x0 : Ext S0 S) {v : V} {l : List Part} (hown : Own S0 S 4 v (l.map Part.enc)) (hb : l.length ≤ 1000000) (cat : List UInt8) (bp n : Int) :
  Does prog dPl dLv 150 [v, .str cat, .int .i64 bp, .int .i64 n] S (fun u S' => ∃ v', u = .tup [v', .int .i64 (putM l cat bp n).2] ∧ Ext S0 S' ∧ Own S0 S' 4 v' ((putM l cat bp n).1.map Part.enc)) := by
 refine e150 ?_
 have hle := placePart_le l cat
 obtain ⟨b, hbg⟩ := roomPart_get l cat bp
 have hlm : (l.map Part.enc).length = l.length := List.length_map ..
 have hput : putM l cat bp n = ((roomPart l cat bp).set (placePart l cat) { b with net := (addM b.net n).1 }, (addM b.net n).2) := by
  unfold putM
  rw [hbg]
 have tail : ∀ (S1 : St) (v1 : V), Ext S0 S1 → Own S0 S1 4 v1 ((roomPart l cat bp).map Part.enc) →
   Ok (fun k K => m150_j1 (callD prog dPl dLv k) k K v1 (.int .i64 n) (.int .i64 (placePart l cat : Nat)) S1) (fun u S' => ∃ v', u = .tup [v', .int .i64 (putM l cat bp n).2] ∧ Ext S0 S' ∧ Own S0 S' 4 v' ((putM l cat bp n).1.map Part.enc)) := by
  intro S1 v1 x1 hown1
  have hge : ((roomPart l cat bp).map Part.enc)[placePart l cat]? = some b.enc := by simp [hbg]
  obtain ⟨p, hp, hat, _, _⟩ := hown1.sl.elem hbg
  have y1 : loadW none (adv 2 p) S1 = .ok (.int .i64 b.net) := by rw [hat.load]; rfl
  simp only [m150_j1, ix58, hp, fa113_2, hat.advW, dR_ok, ld3, y1]
  refine (g137 b.net n S1).call fun S2 x2 => ?_
  have x02 := x1.trans x2
  obtain ⟨p', hp', hat', hset⟩ := (hown1.ext x2).set x02 w hge .i64
  have hpp : p' = p := by rw [hp] at hp'; cases hp'; rfl
  subst hpp
  obtain ⟨S3, t1, t2, t3, t4, _⟩ := hset 2 1 (.int .i64 (addM b.net n).1) rfl rfl (by omega)
  simp only [pairV, tupD_tup, List.getElem?_cons_zero, List.getElem?_cons_succ, dO_ok, st3, t1, dR_ok]
  refine Ok.ret ⟨v1, by rw [hput], t2, ?_⟩
  rw [hput]
  have : ((roomPart l cat bp).set (placePart l cat) { b with net := (addM b.net n).1 }).map Part.enc = ((roomPart l cat bp).map Part.enc).set (placePart l cat) (splice b.enc 2 [.int .i64 (addM b.net n).1]) := by rw [List.map_set]; rfl
  show Own S0 S3 4 v1 (((roomPart l cat bp).set (placePart l cat) { b with net := (addM b.net n).1 }).map Part.enc)
  rw [this]; exact t4
 have j2 : ∀ bb : Bool, missPart l cat = bb → Ok (fun k K => m150_j2 (callD prog dPl dLv k) k K v (.str cat) (.int .i64 bp) (.int .i64 n) (.int .i64 (placePart l cat : Nat)) (.bool bb) S) (fun u S' => ∃ v', u = .tup [v', .int .i64 (putM l cat bp n).2] ∧ Ext S0 S' ∧ Own S0 S' 4 v' ((putM l cat bp n).1.map Part.enc)) := by
  intro bb hm
  simp only [m150_j2]
  cases bb with
  | false =>
   have hroom : roomPart l cat bp = l := by unfold roomPart; rw [if_neg (by rw [hm]; simp)]
   simp only [pickD_false]
   exact tail S v x0 (by rw [hroom]; exact hown)
  | true =>
   have hroom : roomPart l cat bp = insAt l (placePart l cat) ⟨cat, bp, 0, 0⟩ := by unfold roomPart; rw [if_pos hm]
   have hbld : buildW [.str [],.int .i64 0,.int .i64 0,.int .i64 0] [(0, 1), (1, 1), (2, 1), (3, 1)] [(0, .str cat), (1, .int .i64 bp)] = .ok (.agg (Part.enc ⟨cat, bp, 0, 0⟩)) := rfl
   have hnew := Ext.new (x0.wf w) (.row 0 4 [Part.enc ⟨cat, bp, 0, 0⟩])
   obtain ⟨v6, S6, r1, r2, r3⟩ := (hown.ext hnew).insert ap58 (by omega) (x0.trans hnew) w (bx := S.next) (c := Part.enc ⟨cat, bp, 0, 0⟩) (getRow_put _ _ _ _ _ _)
    (fun a ver m hv => by
     rcases hown.is with ⟨e1, _⟩ | ⟨a', ver', tl, e1, _, e2, _⟩
     ·rw [hv] at e1; cases e1
     ·rw [hv] at e1; cases e1; omega)
    ⟨rfl, rfl⟩ (by rw [hlm]; omega) (by rw [hlm]; unfold lim; omega) (i := placePart l cat) (by rw [hlm]; exact hle)
   simp only [pickD_true, bd113, hbld, dR_ok, bs58, one_block S 4 (Part.enc ⟨cat, bp, 0, 0⟩) rfl rfl (by omega)]
   refine Does.call (doesIns pl166 r1) fun u S7 ⟨e1, e2⟩ => ?_
   subst e1 e2
   exact tail _ _ r2 (by rw [hroom, map_insAt]; exact r3)
 have hs := hown.sl
 simp only [m150]
 refine Ok.loop (F := fun k K => m150_l0 (callD prog dPl dLv k) k K v (.str cat) (.int .i64 bp) (.int .i64 n)) (ρ := Nat) (α := Part) (X := Nat) l (step := lowStep fun p : Part => ltB p.cat cat) (fin := id) (s := 0)
  (out := fun k K x S' => m150_j0 (callD prog dPl dLv k) k K v (.str cat) (.int .i64 bp) (.int .i64 n) (.int .i64 (x : Int)) S')
  (fun i m vs S' => m = i ∧ vs = [.int .i64 (i : Int)] ∧ S' = S) (fun r x S' => r = x ∧ S' = S) ?_ ?_ ⟨rfl, rfl, rfl⟩ ?_
 ·rintro i p m vs S3 ⟨rfl, rfl, rfl⟩ hi
  have hil : m < l.length := (List.getElem?_eq_some_iff.1 hi).1
  have hlt : (m : Int) < (l.length : Int) := by omega
  have hw : wr .i64 ((m : Int) + 1) = ((m + 1 : Nat) : Int) := by rw [wr64 (by omega) (by omega)]; omega
  obtain ⟨q, hp, hat, _, _⟩ := hs.elem hi
  have v0 : loadW none (adv 0 q) S3 = .ok (.str p.cat) := by rw [hat.load]; rfl
  have pre : ∀ (K : KS) (again : List V → St → An) (k : Nat), m150_l0 (callD prog dPl dLv k) k K v (.str cat) (.int .i64 bp) (.int .i64 n) [.int .i64 (m : Int)] S3 again =
    if ltB p.cat cat = true then again [.int .i64 ((m + 1 : Nat) : Int)] S3 else m150_j0 (callD prog dPl dLv k) k K v (.str cat) (.int .i64 bp) (.int .i64 n) (.int .i64 (m : Int)) S3 := by
   intro K again k
   simp only [m150_l0, unD_cons, len58, hs.lenI, bin_lss, dR_ok, hlt, decide_true, pickD_true, ix58, hp, fa113_0, hat.advW, ld9, v0, str_lss, bin_add, hw, pickD_bool, if_true]
  by_cases c : ltB p.cat cat = true
  ·exact ⟨0, .inr ⟨m + 1, _, S3, by simp only [lowStep, c, if_true], ⟨rfl, rfl, rfl⟩, fun k K again _ => by rw [pre, if_pos c]⟩⟩
  ·exact ⟨0, .inl ⟨m, m, S3, by simp only [lowStep, c, if_false]; rfl, ⟨rfl, rfl⟩, fun k K again _ => by rw [pre, if_neg c]⟩⟩
 ·rintro m vs S3 ⟨rfl, rfl, rfl⟩
  have hlt : ¬ (l.length : Int) < (l.length : Int) := by omega
  refine ⟨0, l.length, S3, ⟨rfl, rfl⟩, fun k K again _ => ?_⟩
  simp only [m150_l0, unD_cons, len58, hs.lenI, bin_lss, dR_ok, hlt, decide_false, pickD_false]
 ·rintro x S3 ⟨rfl, rfl⟩
  show Ok (fun k K => m150_j0 (callD prog dPl dLv k) k K v (.str cat) (.int .i64 bp) (.int .i64 n) (.int .i64 (placePart l cat : Nat)) S3) _
  simp only [m150_j0, len58, hs.lenI, dR_ok, guard_int, dIf_true, bin_eql]
  by_cases hend : placePart l cat = l.length
  ·have h1 : ((placePart l cat : Nat) : Int) = (l.length : Int) := by omega
   have h2 : missPart l cat = true := by
    unfold missPart
    rw [List.getElem?_eq_none (by omega)]
   simp only [h1, decide_true, pickD_true]
   rw [← h1]
   exact j2 true h2
  ·have h1 : ¬ ((placePart l cat : Nat) : Int) = (l.length : Int) := by omega
   have hpg : l[placePart l cat]? = some (l[placePart l cat]'(by omega)) := List.getElem?_eq_getElem _
   obtain ⟨q, hp, hat, _, _⟩ := hs.elem hpg
   have y0 : loadW none (adv 0 q) S3 = .ok (.str (l[placePart l cat]'(by omega)).cat) := by rw [hat.load]; rfl
   have h2 : missPart l cat = !((l[placePart l cat]'(by omega)).cat == cat) := by
    unfold missPart
    rw [hpg]
   simp only [h1, decide_false, pickD_false, ix58, hp, fa113_0, hat.advW, dR_ok, ld9, y0, guard_str, dIf_true, str_neq, ← h2]
   exact j2 _ rfl
def Total.zero : Total := ⟨0, 0, 0, []⟩
def wholeStep (st : Int × Int × List Part) (p : Part) : (Total × Int) ⊕ (Int × Int × List Part) :=
 if (shareM p.net p.bp).2 ≠ 0 ∨ (addM st.1 p.net).2 ≠ 0 ∨ (addM st.2.1 (shareM p.net p.bp).1).2 ≠ 0 then .inl (Total.zero, 7) else
  .inr ((addM st.1 p.net).1, (addM st.2.1 (shareM p.net p.bp).1).1, st.2.2 ++ [{ p with tax := (shareM p.net p.bp).1 }])
def wholeFin (st : Int × Int × List Part) : Total × Int :=
 if (addM st.1 st.2.1).2 ≠ 0 then (Total.zero, (addM st.1 st.2.1).2) else (⟨st.1, st.2.1, (addM st.1 st.2.1).1, st.2.2⟩, 0)
def wholeM (l : List Part) : Total × Int := runL wholeStep wholeFin l (0, 0, [])
def TotOut (S0 : St) (r : Total × Int) (u : V) (S' : St) : Prop := ∃ pv, u = .tup [.agg (r.1.cells pv), .int .i64 r.2] ∧ Ext S0 S' ∧ Own S0 S' 4 pv (r.1.parts.map Part.enc)
theorem bd60z : buildW [.int .i64 0,.int .i64 0,.int .i64 0,.nils] [(0, 1), (1, 1), (2, 1), (3, 1)] [] = .ok (.agg (Total.zero.cells .nils)) := rfl
theorem cell_put {S : St} {a n : Nat} {zs cs : List V} (h : S.heap.get a = some (.row 0 n [zs])) (hz : zs.length = n) (hc : cs.length = n) (ho : allOne cs = true) :
  storeW n (.ptr a 0 0 0) (.agg cs) S = .ok ⟨S.next, S.heap.put a (.row 0 n [cs])⟩ ∧ loadW (some n) (.ptr a 0 0 0) (⟨S.next, S.heap.put a (.row 0 n [cs])⟩ : St) = .ok (.agg cs) := by
 constructor
 ·have := var_set (x := .agg cs) (j := 0) (m := n) h hc ho (by omega)
  rw [this]
  simp only [agg_cells, splice_all zs cs (by rw [hc, hz])]
 ·rw [load_put, partW_all _ _ hc]
theorem Total.one (t : Total) {pv : V} (h : pv.one = true) : allOne (t.cells pv) = true := by
 simp only [Total.cells, allOne, List.all_cons, List.all_nil, h, Bool.and_true]
 rfl
theorem nil_out {S0 S : St} (w : WF S0) (x0 : Ext S0 S) {rb : Nat} {zs : List V} (hrb : S.heap.get rb = some (.row 0 4 [zs])) (hz : zs.length = 4) (hr0 : S0.next ≤ rb) (e : Int) {R : V → St → Prop} (hR : ∀ u S', TotOut S0 (Total.zero, e) u S' → R u S') :
  Ok (fun k K => dR (buildV prog 60 []) fun t => dR (storeV prog 60 (.ptr rb 0 0 0) t S) fun S' => dR (loadV prog 60 (.ptr rb 0 0 0) S') fun u => K (.tup [u, .int .i64 e]) S') R := by
 have hlt := x0.wf w rb _ hrb
 obtain ⟨q1, q2⟩ := cell_put (cs := Total.zero.cells .nils) hrb hz rfl rfl
 simp only [bd60, bd60z, dR_ok, st60, q1, ld60, q2]
 exact Ok.ret (hR _ _ ⟨.nils, rfl, x0.set hr0 hlt w _, Own.nil _ _ _⟩)
theorem g151 {S0 S : St} (w : WF S0) (x0 : Ext S0 S) {v : V} {l : List Part} (hown : Own S0 S 4 v (l.map Part.enc)) (hb : l.length ≤ 1000000) : Does prog dPl dLv 151 [v] S (TotOut S0 (wholeM l)) := by
 refine e151 ?_
 have hv1 := hown.sl.one
 have hlt : ∀ a ver m, v = .sl a ver 4 0 m → a < S.next := fun a ver m hv => by
  rcases hown.is with ⟨e1, _⟩ | ⟨a', ver', tl, e1, _, e2, _⟩
  ·rw [hv] at e1; cases e1
  ·rw [hv] at e1; cases e1; exact e2
 have hx1 := Ext.new (x0.wf w) (.row 0 4 [[.int .i64 0,.int .i64 0,.int .i64 0,.nils]])
 have hb0 : buildW [.int .i64 0,.int .i64 0,.int .i64 0,.nils] [(0, 1), (1, 1), (2, 1), (3, 1)] [(3, v)] = .ok (.agg [.int .i64 0,.int .i64 0,.int .i64 0,v]) := by
  have hc : v.cells = [v] := by rcases hown.sl.is with ⟨rfl, _⟩ | rfl | ⟨a, ver, off, elems, rfl, _⟩ <;> rfl
  have ha : allOne v.cells = true := by rw [hc]; simp [allOne, hv1]
  simp only [buildW, fillV, hc, ha, List.getElem?_cons_succ, List.getElem?_cons_zero]
  have h2 : allOne [v] = true := by rw [← hc]; exact ha
  simp only [h2]
  rfl
 simp only [m151, newBlk_none, dR_ok, bd60, hb0]
 have hst := store_var (⟨S.next + 1, S.heap.put S.next (.row 0 4 [[.int .i64 0,.int .i64 0,.int .i64 0,.nils]])⟩ : St) 4 [.int .i64 0,.int .i64 0,.int .i64 0,.nils] (.agg [.int .i64 0,.int .i64 0,.int .i64 0,v]) rfl rfl (by simp [allOne, hv1, agg_cells]; rfl)
 have hx2 := Ext.var ((x0.trans hx1).wf w) 4 [.int .i64 0,.int .i64 0,.int .i64 0,.nils] [.int .i64 0,.int .i64 0,.int .i64 0,v]
 have hrow2 := row_has (row_var (⟨S.next + 1, S.heap.put S.next (.row 0 4 [[.int .i64 0,.int .i64 0,.int .i64 0,.nils]])⟩ : St) 4 [.int .i64 0,.int .i64 0,.int .i64 0,.nils] [.int .i64 0,.int .i64 0,.int .i64 0,v])
 have hrow1 : (⟨S.next + 1, S.heap.put S.next (.row 0 4 [[.int .i64 0,.int .i64 0,.int .i64 0,.nils]])⟩ : St).heap.get S.next = some (.row 0 4 [[.int .i64 0,.int .i64 0,.int .i64 0,.nils]]) := Tr.get_put_sameB _ _ _ trivial
 rw [agg_cells] at hst
 simp only [st60, hst, dR_ok]
 have hrow1' := hx2.old _ _ hrow1
 have hown2 := (hown.ext hx1).ext hx2
 generalize (⟨S.next + 1, S.heap.put S.next (.row 0 4 [[.int .i64 0,.int .i64 0,.int .i64 0,.nils]])⟩ : St).var 4 [.int .i64 0,.int .i64 0,.int .i64 0,.nils] [.int .i64 0,.int .i64 0,.int .i64 0,v] = S2 at hx2 hrow2 hrow1' hown2
 have hrow2 : S2.heap.get (S.next + 1) = some (.row 0 4 [[.int .i64 0,.int .i64 0,.int .i64 0,v]]) := hrow2
 have x02 : Ext S0 S2 := (x0.trans hx1).trans hx2
 have hr0 : S0.next ≤ S.next := x0.next
 simp only [len58, hown.sl.lenI, dR_ok]
 refine Ok.loop (F := fun k K => m151_l0 (callD prog dPl dLv k) k K v (.ptr S.next 0 0 0) (.ptr (S.next + 1) 0 0 0) (.int .i64 l.length)) (ρ := Total × Int) (α := Part) (X := (Int × Int × List Part) ⊕ Unit) l (step := wholeStep) (fin := wholeFin) (s := (0, 0, []))
  (out := fun k K x S' => match x with
   | .inr _ => dR (buildV prog 60 []) fun t => dR (storeV prog 60 (.ptr S.next 0 0 0) t S') fun S2 => dR (loadV prog 60 (.ptr S.next 0 0 0) S2) fun u => K (.tup [u, .int .i64 7]) S2
   | .inl st => callD prog dPl dLv k 137 [.int .i64 st.1, .int .i64 st.2.1] S' fun t48 S49 =>
     tupD t48 0 fun t50 => tupD t48 1 fun t51 => dIf (guardP prog 32 t51 (.int .i64 0)) (dR (binV prog .neq 32 t51 (.int .i64 0)) fun t52 =>
     pickD t52 (dR (buildV prog 60 []) fun t53 => dR (storeV prog 60 (.ptr S.next 0 0 0) t53 S49) fun S54 => dR (loadV prog 60 (.ptr S.next 0 0 0) S54) fun t55 => K (.tup [t55, t51]) S54)
      (dR (fieldAddrV prog 60 (.ptr (S.next + 1) 0 0 0) 2) fun t56 => dR (storeV prog 3 t56 t50 S49) fun S57 => dR (loadV prog 60 (.ptr (S.next + 1) 0 0 0) S57) fun t58 =>
       dR (storeV prog 60 (.ptr S.next 0 0 0) t58 S57) fun S59 => dR (loadV prog 60 (.ptr S.next 0 0 0) S59) fun t60 => K (.tup [t60, (.int .i64 0)]) S59)))
  (fun i st vs S' => vs = [.int .i64 0, .int .i64 (i : Int)] ∧ Ext S0 S' ∧ S'.heap.get S.next = some (.row 0 4 [[.int .i64 0,.int .i64 0,.int .i64 0,.nils]]) ∧ S'.heap.get (S.next + 1) = some (.row 0 4 [[.int .i64 st.1,.int .i64 st.2.1,.int .i64 0,v]]) ∧
   Own S0 S' 4 v ((st.2.2 ++ l.drop i).map Part.enc) ∧ st.2.2.length = i)
  (fun r x S' => Ext S0 S' ∧ S'.heap.get S.next = some (.row 0 4 [[.int .i64 0,.int .i64 0,.int .i64 0,.nils]]) ∧ (match x with
   | .inr _ => r = (Total.zero, 7)
   | .inl st => r = wholeFin st ∧ S'.heap.get (S.next + 1) = some (.row 0 4 [[.int .i64 st.1,.int .i64 st.2.1,.int .i64 0,v]]) ∧ Own S0 S' 4 v (st.2.2.map Part.enc)))
  ?_ ?_ ⟨rfl, x02, hrow1', hrow2, hown2, rfl⟩ ?_
 ·rintro i p ⟨net, tax, acc⟩ vs S3 ⟨rfl, x3, hc1, hc2, ho3, hlen⟩ hi
  simp only at hc2 ho3 hlen
  have hil : i < l.length := (List.getElem?_eq_some_iff.1 hi).1
  have hlti : (i : Int) < (l.length : Int) := by omega
  have hw : wr .i64 ((i : Int) + 1) = ((i + 1 : Nat) : Int) := by rw [wr64 (by omega) (by omega)]; omega
  have hdrop : l.drop i = p :: l.drop (i + 1) := by
   rw [List.drop_eq_getElem_cons hil]
   have : l[i] = p := by have := List.getElem?_eq_getElem hil; rw [hi] at this; exact (Option.some.inj this).symm
   rw [this]
  have hcur : (acc ++ l.drop i)[i]? = some p := by
   rw [List.getElem?_append_right (by omega), hlen, Nat.sub_self, hdrop]; rfl
  have hge : ((acc ++ l.drop i).map Part.enc)[i]? = some p.enc := by rw [List.getElem?_map, hcur]; rfl
  have hb17 := (Ext.refl S3).bump 17
  obtain ⟨a, ver, hva, ha0, ha1, hidx, hat, _⟩ := ho3.setK x3 w hge .i64
  have haS : a < S.next := hlt a ver _ hva
  have hat17 := hat.ext hb17
  have y1 : loadW none (.ptr a ver i (0 + 2)) (⟨S3.next + 17, S3.heap⟩ : St) = .ok (.int .i64 p.net) := by
   have := hat17.load none 2; simp only [adv] at this; rw [this]; rfl
  have y2 : loadW none (.ptr a ver i (0 + 1)) (⟨S3.next + 17, S3.heap⟩ : St) = .ok (.int .i64 p.bp) := by
   have := hat17.load none 1; simp only [adv] at this; rw [this]; rfl
  obtain ⟨N1, S4, x4, h4⟩ := (g129 p.net p.bp (⟨S3.next + 17, S3.heap⟩ : St) ((x3.trans hb17).wf w)).get
  have x34 := hb17.trans x4
  obtain ⟨a', ver', hva', _, _, _, _, hset⟩ := (ho3.ext x34).setK (x3.trans x34) w hge .i64
  have haa : a' = a ∧ ver' = ver := by rw [hva] at hva'; simp only [V.sl.injEq] at hva'; exact ⟨hva'.1.symm, hva'.2.1.symm⟩
  obtain ⟨rfl, rfl⟩ := haa
  obtain ⟨S5, s1, s2, s3, s4, s5, s6⟩ := hset (0 + 3) 1 (.int .i64 (shareM p.net p.bp).1) rfl rfl (by omega)
  have hc1' := x34.old _ _ hc1
  have hc2' := x34.old _ _ hc2
  rw [← s5 S.next (by omega)] at hc1'
  rw [← s5 (S.next + 1) (by omega)] at hc2'
  have hp' : splice p.enc (0 + 3) (V.int .i64 (shareM p.net p.bp).1).cells = Part.enc { p with tax := (shareM p.net p.bp).1 } := rfl
  rw [hp'] at s4
  have hlm : ((acc ++ l.drop i).map Part.enc).length = l.length := by rw [List.length_map, List.length_append, List.length_drop]; omega
  have hge5 : (((acc ++ l.drop i).map Part.enc).set i (Part.enc { p with tax := (shareM p.net p.bp).1 }))[i]? = some (Part.enc { p with tax := (shareM p.net p.bp).1 }) := List.getElem?_set_self (by rw [hlm]; exact hil)
  have hb13 := (Ext.refl S5).bump 13
  obtain ⟨a2, ver2, hva2, _, _, hidx5, hat5, _⟩ := s4.setK s2 w hge5 .i64
  have haa : a2 = a' ∧ ver2 = ver' := by rw [hva] at hva2; simp only [V.sl.injEq] at hva2; exact ⟨hva2.1.symm, hva2.2.1.symm⟩
  obtain ⟨rfl, rfl⟩ := haa
  have y3 : loadW none (.ptr (S.next + 1) 0 0 (0 + 0)) (⟨S5.next + 13, S5.heap⟩ : St) = .ok (.int .i64 net) := by rw [load_one _ _ _ _ _ (hb13.row (row_get hc2'))]; rfl
  have y4 : loadW none (.ptr a2 ver2 i (0 + 2)) (⟨S5.next + 13, S5.heap⟩ : St) = .ok (.int .i64 p.net) := by
   have := (hat5.ext hb13).load none 2; simp only [adv] at this; rw [this]; rfl
  obtain ⟨N2, S6, x6, h6⟩ := (g137 net p.net (⟨S5.next + 13, S5.heap⟩ : St)).get
  have x56 := hb13.trans x6
  have hd2 := x56.old _ _ hc2'
  have hd1 := x56.old _ _ hc1'
  have v6 := var_set (x := .int .i64 (addM net p.net).1) (j := 0 + 0) (m := 1) hd2 rfl rfl (by show _ ≤ 4; omega)
  have hsp6 : splice [V.int .i64 net,.int .i64 tax,.int .i64 0,v] (0 + 0) (V.int .i64 (addM net p.net).1).cells = [.int .i64 (addM net p.net).1,.int .i64 tax,.int .i64 0,v] := rfl
  rw [hsp6] at v6
  have x06 := s2.trans x56
  have hl6 := x06.wf w _ _ hd2
  have x07 : Ext S0 (⟨S6.next, S6.heap.put (S.next + 1) (.row 0 4 [[.int .i64 (addM net p.net).1,.int .i64 tax,.int .i64 0,v]])⟩ : St) := x06.set (by omega) hl6 w _
  have ho7 : Own S0 (⟨S6.next, S6.heap.put (S.next + 1) (.row 0 4 [[.int .i64 (addM net p.net).1,.int .i64 tax,.int .i64 0,v]])⟩ : St) 4 v (((acc ++ l.drop i).map Part.enc).set i (Part.enc { p with tax := (shareM p.net p.bp).1 })) :=
   (s4.ext x56).other (Nat.le_refl _) (fun a ver m hv => Tr.get_put_neB _ _ _ _ trivial (by have := hlt a ver m hv; omega))
  have he2 : (⟨S6.next, S6.heap.put (S.next + 1) (.row 0 4 [[.int .i64 (addM net p.net).1,.int .i64 tax,.int .i64 0,v]])⟩ : St).heap.get (S.next + 1) = some (.row 0 4 [[.int .i64 (addM net p.net).1,.int .i64 tax,.int .i64 0,v]]) := Tr.get_put_sameB _ _ _ trivial
  have he1 : (⟨S6.next, S6.heap.put (S.next + 1) (.row 0 4 [[.int .i64 (addM net p.net).1,.int .i64 tax,.int .i64 0,v]])⟩ : St).heap.get S.next = some (.row 0 4 [[.int .i64 0,.int .i64 0,.int .i64 0,.nils]]) := by
   rw [← hd1]; exact Tr.get_put_neB _ _ _ _ trivial (by omega)
  generalize (⟨S6.next, S6.heap.put (S.next + 1) (.row 0 4 [[.int .i64 (addM net p.net).1,.int .i64 tax,.int .i64 0,v]])⟩ : St) = S7 at v6 x07 ho7 he1 he2
  have hb13' := (Ext.refl S7).bump 13
  obtain ⟨a3, ver3, hva3, _, _, hidx7, hat7, _⟩ := ho7.setK x07 w hge5 .i64
  have haa : a3 = a2 ∧ ver3 = ver2 := by rw [hva] at hva3; simp only [V.sl.injEq] at hva3; exact ⟨hva3.1.symm, hva3.2.1.symm⟩
  obtain ⟨rfl, rfl⟩ := haa
  have y5 : loadW none (.ptr (S.next + 1) 0 0 (0 + 1)) (⟨S7.next + 13, S7.heap⟩ : St) = .ok (.int .i64 tax) := by rw [load_one _ _ _ _ _ (hb13'.row (row_get he2))]; rfl
  have y6 : loadW none (.ptr a3 ver3 i (0 + 3)) (⟨S7.next + 13, S7.heap⟩ : St) = .ok (.int .i64 (shareM p.net p.bp).1) := by
   have := (hat7.ext hb13').load none 3; simp only [adv] at this; rw [this]; rfl
  obtain ⟨N3, S8, x8, h8⟩ := (g137 tax (shareM p.net p.bp).1 (⟨S7.next + 13, S7.heap⟩ : St)).get
  have x78 := hb13'.trans x8
  have hf2 := x78.old _ _ he2
  have hf1 := x78.old _ _ he1
  have v8 := var_set (x := .int .i64 (addM tax (shareM p.net p.bp).1).1) (j := 0 + 1) (m := 1) hf2 rfl rfl (by show _ ≤ 4; omega)
  have hsp8 : splice [V.int .i64 (addM net p.net).1,.int .i64 tax,.int .i64 0,v] (0 + 1) (V.int .i64 (addM tax (shareM p.net p.bp).1).1).cells = [.int .i64 (addM net p.net).1,.int .i64 (addM tax (shareM p.net p.bp).1).1,.int .i64 0,v] := rfl
  rw [hsp8] at v8
  have x08 := x07.trans x78
  have hl8 := x08.wf w _ _ hf2
  have x09 : Ext S0 (⟨S8.next, S8.heap.put (S.next + 1) (.row 0 4 [[.int .i64 (addM net p.net).1,.int .i64 (addM tax (shareM p.net p.bp).1).1,.int .i64 0,v]])⟩ : St) := x08.set (by omega) hl8 w _
  have ho9 : Own S0 (⟨S8.next, S8.heap.put (S.next + 1) (.row 0 4 [[.int .i64 (addM net p.net).1,.int .i64 (addM tax (shareM p.net p.bp).1).1,.int .i64 0,v]])⟩ : St) 4 v (((acc ++ l.drop i).map Part.enc).set i (Part.enc { p with tax := (shareM p.net p.bp).1 })) :=
   (ho7.ext x78).other (Nat.le_refl _) (fun a ver m hv => Tr.get_put_neB _ _ _ _ trivial (by have := hlt a ver m hv; omega))
  have hk2 : (⟨S8.next, S8.heap.put (S.next + 1) (.row 0 4 [[.int .i64 (addM net p.net).1,.int .i64 (addM tax (shareM p.net p.bp).1).1,.int .i64 0,v]])⟩ : St).heap.get (S.next + 1) = some (.row 0 4 [[.int .i64 (addM net p.net).1,.int .i64 (addM tax (shareM p.net p.bp).1).1,.int .i64 0,v]]) := Tr.get_put_sameB _ _ _ trivial
  have hk1 : (⟨S8.next, S8.heap.put (S.next + 1) (.row 0 4 [[.int .i64 (addM net p.net).1,.int .i64 (addM tax (shareM p.net p.bp).1).1,.int .i64 0,v]])⟩ : St).heap.get S.next = some (.row 0 4 [[.int .i64 0,.int .i64 0,.int .i64 0,.nils]]) := by
   rw [← hf1]; exact Tr.get_put_neB _ _ _ _ trivial (by omega)
  generalize (⟨S8.next, S8.heap.put (S.next + 1) (.row 0 4 [[.int .i64 (addM net p.net).1,.int .i64 (addM tax (shareM p.net p.bp).1).1,.int .i64 0,v]])⟩ : St) = S9 at v8 x09 ho9 hk1 hk2
  have hlist : ((acc ++ l.drop i).map Part.enc).set i (Part.enc { p with tax := (shareM p.net p.bp).1 }) = ((acc ++ [{ p with tax := (shareM p.net p.bp).1 }]) ++ l.drop (i + 1)).map Part.enc := by
   rw [← List.map_set, hdrop, List.set_append_right _ _ (by omega), hlen, Nat.sub_self]
   simp
  rw [hlist] at ho9
  have pre : ∀ (K : KS) (again : List V → St → An) (k : Nat), max N1 (max N2 N3) ≤ k → m151_l0 (callD prog dPl dLv k) k K v (.ptr S.next 0 0 0) (.ptr (S.next + 1) 0 0 0) (.int .i64 l.length) [.int .i64 0, .int .i64 (i : Int)] S3 again =
    if (shareM p.net p.bp).2 ≠ 0 ∨ (addM net p.net).2 ≠ 0 ∨ (addM tax (shareM p.net p.bp).1).2 ≠ 0 then (dR (buildV prog 60 []) fun t => dR (storeV prog 60 (.ptr S.next 0 0 0) t S9) fun S2 => dR (loadV prog 60 (.ptr S.next 0 0 0) S2) fun u => K (.tup [u, .int .i64 7]) S2)
    else again [.int .i64 0, .int .i64 ((i + 1 : Nat) : Int)] S9 := by
   intro K again k hk
   simp only [m151_l0, unD_cons, bin_lss, dR_ok, hlti, decide_true, pickD_true, ix58, hidx, nilD_ptr, fa113_1, fa113_2, fa113_3, adv_ptr, ld3, y1, y2]
   rw [h4 k _ (by omega)]
   simp only [pairV, tupD_tup, List.getElem?_cons_zero, List.getElem?_cons_succ, dO_ok, st3, s1, dR_ok, fa60_0, adv_ptr, y3, y4]
   rw [h6 k _ (by omega)]
   simp only [pairV, tupD_tup, List.getElem?_cons_zero, List.getElem?_cons_succ, dO_ok, v6, dR_ok, fa60_1, adv_ptr, y5, y6]
   rw [h8 k _ (by omega)]
   simp only [pairV, tupD_tup, List.getElem?_cons_zero, List.getElem?_cons_succ, dO_ok, v8, dR_ok, guard_int, dIf_true, bin_neq, m151_j0, bin_add, hw]
   by_cases c1 : (shareM p.net p.bp).2 = 0
   ·by_cases c2 : (addM net p.net).2 = 0
    ·by_cases c3 : (addM tax (shareM p.net p.bp).1).2 = 0
     ·simp only [c1, c2, c3, decide_true, Bool.not_true, pickD_false, ne_eq, not_true_eq_false, or_self, if_false]
     ·simp only [c1, c2, c3, decide_true, decide_false, Bool.not_true, Bool.not_false, pickD_false, pickD_true, ne_eq, not_true_eq_false, not_false_eq_true, false_or, if_true]
    ·simp only [c1, c2, decide_true, decide_false, Bool.not_true, Bool.not_false, pickD_false, pickD_true, ne_eq, not_true_eq_false, not_false_eq_true, false_or, true_or, if_true]
   ·simp only [c1, decide_false, Bool.not_false, pickD_true, ne_eq, not_false_eq_true, true_or, if_true]
  by_cases c : (shareM p.net p.bp).2 ≠ 0 ∨ (addM net p.net).2 ≠ 0 ∨ (addM tax (shareM p.net p.bp).1).2 ≠ 0
  ·exact ⟨max N1 (max N2 N3), .inl ⟨(Total.zero, 7), .inr (), S9, by simp only [wholeStep, if_pos c], ⟨x09, hk1, rfl⟩, fun k K again hk => by rw [pre K again k hk, if_pos c]⟩⟩
  ·exact ⟨max N1 (max N2 N3), .inr ⟨((addM net p.net).1, (addM tax (shareM p.net p.bp).1).1, acc ++ [{ p with tax := (shareM p.net p.bp).1 }]), _, S9, by simp only [wholeStep, if_neg c], ⟨rfl, x09, hk1, hk2, ho9, by simp [hlen]⟩, fun k K again hk => by rw [pre K again k hk, if_neg c]⟩⟩
 ·rintro ⟨net, tax, acc⟩ vs S3 ⟨rfl, x3, hc1, hc2, ho3, hlen⟩
  simp only at hc2 ho3
  have hlti : ¬ (l.length : Int) < (l.length : Int) := by omega
  rw [List.drop_length, List.append_nil] at ho3
  refine ⟨0, .inl (net, tax, acc), S3, ⟨x3, hc1, rfl, hc2, ho3⟩, fun k K again _ => ?_⟩
  have y1 : loadW none (.ptr (S.next + 1) 0 0 (0 + 0)) S3 = .ok (.int .i64 net) := by rw [load_one _ _ _ _ _ (row_get hc2)]; rfl
  have y2 : loadW none (.ptr (S.next + 1) 0 0 (0 + 1)) S3 = .ok (.int .i64 tax) := by rw [load_one _ _ _ _ _ (row_get hc2)]; rfl
  simp only [m151_l0, unD_cons, bin_lss, dR_ok, hlti, decide_false, pickD_false, fa60_0, fa60_1, adv_ptr, ld3, y1, y2]
 ·rintro x S3 ⟨x3, hc1, hx⟩
  cases x with
  | inr _ =>
   have hx : wholeM l = (Total.zero, 7) := hx
   refine nil_out w x3 hc1 rfl hr0 7 (fun u S' h => ?_)
   rw [hx]; exact h
  | inl st =>
   obtain ⟨net, tax, acc⟩ := st
   obtain ⟨hx, hc2, ho3⟩ := hx
   have hx : wholeM l = wholeFin (net, tax, acc) := hx
   simp only at hc2 ho3
   refine (g137 net tax S3).call fun S4 x4 => ?_
   have x04 := x3.trans x4
   have hd1 := x4.old _ _ hc1
   have hd2 := x4.old _ _ hc2
   simp only [pairV, tupD_tup, List.getElem?_cons_zero, List.getElem?_cons_succ, dO_ok, guard_int, dIf_true, bin_neq, dR_ok]
   refine Ok.pickN (fun h => ?_) (fun h => ?_)
   ·refine nil_out w x04 hd1 rfl hr0 _ (fun u S' ho => ?_)
    rw [hx]
    simp only [wholeFin, if_pos h]
    exact ho
   ·have v4 := var_set (x := .int .i64 (addM net tax).1) (j := 0 + 2) (m := 1) hd2 rfl rfl (by show _ ≤ 4; omega)
    have hsp : splice [V.int .i64 net,.int .i64 tax,.int .i64 0,v] (0 + 2) (V.int .i64 (addM net tax).1).cells = Total.cells ⟨net, tax, (addM net tax).1, acc⟩ v := rfl
    rw [hsp] at v4
    have hl4 := x04.wf w _ _ hd2
    have x05 : Ext S0 (⟨S4.next, S4.heap.put (S.next + 1) (.row 0 4 [Total.cells ⟨net, tax, (addM net tax).1, acc⟩ v])⟩ : St) := x04.set (by omega) hl4 w _
    have ho5 : Own S0 (⟨S4.next, S4.heap.put (S.next + 1) (.row 0 4 [Total.cells ⟨net, tax, (addM net tax).1, acc⟩ v])⟩ : St) 4 v (acc.map Part.enc) :=
     (ho3.ext x4).other (Nat.le_refl _) (fun a ver m hv => Tr.get_put_neB _ _ _ _ trivial (by have := hlt a ver m hv; omega))
    have hk1 : (⟨S4.next, S4.heap.put (S.next + 1) (.row 0 4 [Total.cells ⟨net, tax, (addM net tax).1, acc⟩ v])⟩ : St).heap.get S.next = some (.row 0 4 [[.int .i64 0,.int .i64 0,.int .i64 0,.nils]]) := by
     rw [← hd1]; exact Tr.get_put_neB _ _ _ _ trivial (by omega)
    have y1 : loadW (some 4) (.ptr (S.next + 1) 0 0 0) (⟨S4.next, S4.heap.put (S.next + 1) (.row 0 4 [Total.cells ⟨net, tax, (addM net tax).1, acc⟩ v])⟩ : St) = .ok (.agg (Total.cells ⟨net, tax, (addM net tax).1, acc⟩ v)) := by rw [load_put]; rfl
    generalize (⟨S4.next, S4.heap.put (S.next + 1) (.row 0 4 [Total.cells ⟨net, tax, (addM net tax).1, acc⟩ v])⟩ : St) = S5 at v4 x05 ho5 hk1 y1
    obtain ⟨q1, q2⟩ := cell_put (cs := Total.cells ⟨net, tax, (addM net tax).1, acc⟩ v) hk1 rfl rfl (Total.one _ hv1)
    have hl5 := x05.wf w _ _ hk1
    simp only [fa60_2, adv_ptr, dR_ok, st3, v4, ld60, y1, st60, q1, q2]
    have hw2 : wholeFin (net, tax, acc) = (⟨net, tax, (addM net tax).1, acc⟩, 0) := by
     unfold wholeFin
     simp only
     rw [if_neg (by omega)]
    rw [hx, hw2]
    exact Ok.ret ⟨v, rfl, x05.set hr0 hl5 w _, ho5.other (Nat.le_refl _) (fun a ver m hv => Tr.get_put_neB _ _ _ _ trivial (by have := hlt a ver m hv; omega))⟩
def totStep (tab : List Rate) (d : Date) (parts : List Part) (l : Line) : (Total × Int) ⊕ List Part :=
 if (lineM tab d l).2.2 ≠ 0 then .inl (Total.zero, (lineM tab d l).2.2) else
  if (putM parts l.cat (lineM tab d l).1 (lineM tab d l).2.1).2 ≠ 0 then .inl (Total.zero, (putM parts l.cat (lineM tab d l).1 (lineM tab d l).2.1).2) else
   .inr (putM parts l.cat (lineM tab d l).1 (lineM tab d l).2.1).1
def totalM (tab : List Rate) (d : Date) (lines : List Line) : Total × Int :=
 if tableM tab = false then (Total.zero, 1) else if d.right = false then (Total.zero, 9) else if lines.length = 0 then (Total.zero, 1) else if 12 < lines.length then (Total.zero, 2) else
  runL (totStep tab d) wholeM lines []
theorem g117 (tv lv : V) (tab : List Rate) (d : Date) (lines : List Line) (S : St) (w : WF S) (hs : Sl S 5 tv (tab.map Rate.enc)) (hl : Sl S 4 lv (lines.map Line.enc)) :
  Does prog dPl dLv 117 [tv, .agg d.enc, lv] S (TotOut S (totalM tab d lines)) := by
 refine e117 ?_
 have ho1 : allOne d.enc = true := rfl
 have hl1 : d.enc.length = 3 := rfl
 have hx1 := Ext.new w (.row 0 3 [d.enc])
 have hr1 : (⟨S.next + 1, S.heap.put S.next (.row 0 3 [d.enc])⟩ : St).heap.get S.next = some (.row 0 3 [d.enc]) := Tr.get_put_sameB _ _ _ trivial
 simp only [m117, agg_cells, ho1, hl1, dIf_true, newBlk_none, dR_ok]
 have hn1 : (⟨S.next + 1, S.heap.put S.next (.row 0 3 [d.enc])⟩ : St).next = S.next + 1 := rfl
 have hx2 := Ext.new (hx1.wf w) (.row 0 4 [[.int .i64 0,.int .i64 0,.int .i64 0,.nils]])
 have hr2 : (⟨S.next + 1 + 1, (S.heap.put S.next (.row 0 3 [d.enc])).put (S.next + 1) (.row 0 4 [[.int .i64 0,.int .i64 0,.int .i64 0,.nils]])⟩ : St).heap.get (S.next + 1) = some (.row 0 4 [[.int .i64 0,.int .i64 0,.int .i64 0,.nils]]) := Tr.get_put_sameB _ _ _ trivial
 have hr1' := hx2.old _ _ hr1
 have x02 : Ext S (⟨S.next + 1 + 1, (S.heap.put S.next (.row 0 3 [d.enc])).put (S.next + 1) (.row 0 4 [[.int .i64 0,.int .i64 0,.int .i64 0,.nils]])⟩ : St) := hx1.trans hx2
 have hr1'' : (⟨S.next + 1 + 1, (S.heap.put S.next (.row 0 3 [d.enc])).put (S.next + 1) (.row 0 4 [[.int .i64 0,.int .i64 0,.int .i64 0,.nils]])⟩ : St).heap.get S.next = some (.row 0 3 [d.enc]) := hr1'
 generalize (⟨S.next + 1 + 1, (S.heap.put S.next (.row 0 3 [d.enc])).put (S.next + 1) (.row 0 4 [[.int .i64 0,.int .i64 0,.int .i64 0,.nils]])⟩ : St) = S1 at hr2 x02 hr1''
 have w1 := x02.wf w
 have ldd : ∀ {S'}, Ext S1 S' → loadW (some 3) (.ptr S.next 0 0 0) S' = .ok (.agg d.enc) := fun x => by rw [load_one _ _ _ _ _ (x.row (row_get hr1''))]; rfl
 have hrb : S.next ≤ S.next + 1 := Nat.le_succ _
 refine (g47 tv tab S1 w1 (hs.ext x02)).call fun S2 x2 => ?_
 simp only [un_not, dR_ok]
 refine Ok.pick (fun h => ?_) (fun h => ?_)
 ·have hr : tableM tab = false := by simpa using h
  refine nil_out w (x02.trans x2) (x2.old _ _ hr2) rfl hrb 1 (fun u S' ho => ?_)
  simp only [totalM, hr, if_true]; exact ho
 have hr : tableM tab = true := by simpa using h
 simp only [ld38, ldd x2, dR_ok]
 refine (g89 d S2 ((x02.trans x2).wf w)).call fun S3 x3 => ?_
 simp only [un_not, dR_ok]
 refine Ok.pick (fun h => ?_) (fun h => ?_)
 ·have hd : d.right = false := by simpa using h
  refine nil_out w ((x02.trans x2).trans x3) (x3.old _ _ (x2.old _ _ hr2)) rfl hrb 9 (fun u S' ho => ?_)
  simp only [totalM, hr, hd, if_true, if_false, Bool.true_eq_false]; exact ho
 have hd : d.right = true := by simpa using h
 have x13 := x2.trans x3
 have x03 := x02.trans x13
 have hrr := x13.old _ _ hr2
 simp only [len41, hl.lenI, dR_ok, guard_int, dIf_true, bin_eql, bin_gtr]
 refine Ok.pickP (fun h => ?_) (fun h0 => ?_)
 ·refine nil_out w x03 hrr rfl hrb 1 (fun u S' ho => ?_)
  unfold totalM
  rw [if_neg (by rw [hr]; simp), if_neg (by rw [hd]; simp), if_pos (by omega)]; exact ho
 refine Ok.pickP (fun h => ?_) (fun h12 => ?_)
 ·refine nil_out w x03 hrr rfl hrb 2 (fun u S' ho => ?_)
  unfold totalM
  rw [if_neg (by rw [hr]; simp), if_neg (by rw [hd]; simp), if_neg (by omega), if_pos (by omega)]; exact ho
 have htot : totalM tab d lines = runL (totStep tab d) wholeM lines [] := by
  unfold totalM
  rw [if_neg (by rw [hr]; simp), if_neg (by rw [hd]; simp), if_neg (by omega), if_neg (by omega)]
 refine Ok.loop (F := fun k K => m117_l0 (callD prog dPl dLv k) k K tv (.ptr S.next 0 0 0) (.ptr (S.next + 1) 0 0 0) lv (.int .i64 lines.length)) (ρ := (Total × Int)) (α := Line) (X := Int ⊕ (V × List Part)) lines (step := totStep tab d) (fin := wholeM) (s := [])
  (out := fun k K x S' => match x with
   | .inl e => dR (buildV prog 60 []) fun t => dR (storeV prog 60 (.ptr (S.next + 1) 0 0 0) t S') fun S2 => dR (loadV prog 60 (.ptr (S.next + 1) 0 0 0) S2) fun u => K (.tup [u, .int .i64 e]) S2
   | .inr (pv, _) => callD prog dPl dLv k 151 [pv] S' fun t53 S54 => tupD t53 0 fun t55 => tupD t53 1 fun t56 => dR (storeV prog 60 (.ptr (S.next + 1) 0 0 0) t55 S54) fun S57 => dR (loadV prog 60 (.ptr (S.next + 1) 0 0 0) S57) fun t58 => K (.tup [t58, t56]) S57)
  (fun i parts vs S' => ∃ pv, vs = [.int .i64 0, pv, .int .i64 (i : Int)] ∧ Ext S1 S' ∧ Own S1 S' 4 pv (parts.map Part.enc) ∧ parts.length ≤ i)
  (fun r x S' => Ext S1 S' ∧ (match x with
   | .inl e => r = (Total.zero, e)
   | .inr (pv, parts) => r = wholeM parts ∧ Own S1 S' 4 pv (parts.map Part.enc) ∧ parts.length ≤ 12)) ?_ ?_ ⟨.nils, rfl, x13, Own.nil _ _ _, Nat.le_refl _⟩ ?_
 ·rintro i l parts vs S4 ⟨pv, rfl, x4, hown, hlen⟩ hi
  have hil : i < lines.length := (List.getElem?_eq_some_iff.1 hi).1
  have hlt : (i : Int) < (lines.length : Int) := by omega
  have hw : wr .i64 ((i : Int) + 1) = ((i + 1 : Nat) : Int) := by rw [wr64 (by omega) (by omega)]; omega
  have x04 := x02.trans x4
  obtain ⟨p, hp, hld, hst, hxv, hv⟩ := (hl.ext x04).var (x04.wf w) hi [.str [],.str [],.int .i64 0,.int .i64 0] rfl
  generalize S4.var 4 [.str [],.str [],.int .i64 0,.int .i64 0] l.enc = S5 at hst hxv hv
  have va : loadW (some 4) (.ptr S4.next 0 0 0) S5 = .ok (.agg l.enc) := by rw [hv S5 (Ext.refl _)]; rfl
  have x15 := x4.trans hxv
  have x05 := x04.trans hxv
  obtain ⟨N1, S6, x6, h6⟩ := (g149 tv tab d l S5 (x05.wf w) (hs.ext x05)).get
  have vc : loadW none (.ptr S4.next 0 0 (0 + 1)) S6 = .ok (.str l.cat) := by rw [hv S6 x6]; rfl
  have x16 := x15.trans x6
  obtain ⟨_, S7, N2, ⟨pv', rfl, x7, ho7⟩, h7⟩ := g150 w1 x16 ((hown.ext hxv).ext x6) (by omega) l.cat (lineM tab d l).1 (lineM tab d l).2.1
  have hpl := putM_len parts l.cat (lineM tab d l).1 (lineM tab d l).2.1
  have pre : ∀ (K : KS) (again : List V → St → An) (k : Nat), max N1 N2 ≤ k → m117_l0 (callD prog dPl dLv k) k K tv (.ptr S.next 0 0 0) (.ptr (S.next + 1) 0 0 0) lv (.int .i64 lines.length) [.int .i64 0, pv, .int .i64 (i : Int)] S4 again =
    if (lineM tab d l).2.2 ≠ 0 then (dR (buildV prog 60 []) fun t => dR (storeV prog 60 (.ptr (S.next + 1) 0 0 0) t S6) fun S2 => dR (loadV prog 60 (.ptr (S.next + 1) 0 0 0) S2) fun u => K (.tup [u, .int .i64 (lineM tab d l).2.2]) S2)
    else if (putM parts l.cat (lineM tab d l).1 (lineM tab d l).2.1).2 ≠ 0 then (dR (buildV prog 60 []) fun t => dR (storeV prog 60 (.ptr (S.next + 1) 0 0 0) t S7) fun S2 => dR (loadV prog 60 (.ptr (S.next + 1) 0 0 0) S2) fun u => K (.tup [u, .int .i64 (putM parts l.cat (lineM tab d l).1 (lineM tab d l).2.1).2]) S2)
    else again [.int .i64 0, pv', .int .i64 ((i + 1 : Nat) : Int)] S7 := by
   intro K again k hk
   simp only [m117_l0, unD_cons, bin_lss, dR_ok, hlt, decide_true, pickD_true, ix41, hp, ld115, hld, newBlk_none, st115, hst, ld38, ldd x15, va]
   rw [h6 k _ (by omega)]
   simp only [tripV, tupD_tup, List.getElem?_cons_zero, List.getElem?_cons_succ, dO_ok, guard_int, dIf_true, bin_neq, dR_ok, fa115_1, adv_ptr, ld9, vc]
   by_cases c1 : (lineM tab d l).2.2 = 0
   ·simp only [c1, decide_true, Bool.not_true, pickD_false, ne_eq, not_true_eq_false, if_false]
    have h7' := h7 k (fun t44 S45 => tupD t44 0 fun t46 => tupD t44 1 fun t47 => dIf (guardP prog 32 t47 (.int .i64 0)) (dR (binV prog .neq 32 t47 (.int .i64 0)) fun t48 =>
     pickD t48 (dR (buildV prog 60 []) fun t49 => dR (storeV prog 60 (.ptr (S.next + 1) 0 0 0) t49 S45) fun S50 => dR (loadV prog 60 (.ptr (S.next + 1) 0 0 0) S50) fun t51 => K (.tup [t51, t47]) S50)
      (dR (binV prog .add 3 (.int .i64 (i : Int)) (.int .i64 1)) fun t52 => again [.int .i64 0, t46, t52] S45))) (by omega)
    refine h7'.trans ?_
    simp only [tupD_tup, List.getElem?_cons_zero, List.getElem?_cons_succ, dO_ok, guard_int, dIf_true, bin_neq, dR_ok, bin_add, hw]
    by_cases c2 : (putM parts l.cat (lineM tab d l).1 (lineM tab d l).2.1).2 = 0
    ·simp only [c2, decide_true, Bool.not_true, pickD_false, ne_eq, not_true_eq_false, if_false]
    ·simp only [c2, decide_false, Bool.not_false, pickD_true, ne_eq, not_false_eq_true, if_true]
   ·simp only [c1, decide_false, Bool.not_false, pickD_true, ne_eq, not_false_eq_true, if_true]
  by_cases c1 : (lineM tab d l).2.2 ≠ 0
  ·exact ⟨max N1 N2, .inl ⟨(Total.zero, (lineM tab d l).2.2), .inl (lineM tab d l).2.2, S6, by simp only [totStep, if_pos c1], ⟨x16, rfl⟩, fun k K again hk => by rw [pre K again k hk, if_pos c1]⟩⟩
  ·by_cases c2 : (putM parts l.cat (lineM tab d l).1 (lineM tab d l).2.1).2 ≠ 0
   ·exact ⟨max N1 N2, .inl ⟨(Total.zero, (putM parts l.cat (lineM tab d l).1 (lineM tab d l).2.1).2), .inl (putM parts l.cat (lineM tab d l).1 (lineM tab d l).2.1).2, S7, by simp only [totStep, if_neg c1, if_pos c2], ⟨x7, rfl⟩, fun k K again hk => by rw [pre K again k hk, if_neg c1, if_pos c2]⟩⟩
   ·exact ⟨max N1 N2, .inr ⟨(putM parts l.cat (lineM tab d l).1 (lineM tab d l).2.1).1, _, S7, by simp only [totStep, if_neg c1, if_neg c2], ⟨pv', rfl, x7, ho7, by omega⟩, fun k K again hk => by rw [pre K again k hk, if_neg c1, if_neg c2]⟩⟩
 ·rintro parts vs S4 ⟨pv, rfl, x4, hown, hlen⟩
  have hlt : ¬ (lines.length : Int) < (lines.length : Int) := by omega
  refine ⟨0, .inr (pv, parts), S4, ⟨x4, rfl, hown, by omega⟩, fun k K again _ => ?_⟩
  simp only [m117_l0, unD_cons, bin_lss, dR_ok, hlt, decide_false, pickD_false]
 ·rintro x S4 ⟨x4, hx⟩
  cases x with
  | inl e =>
   have hx : totalM tab d lines = (Total.zero, e) := htot.trans hx
   refine nil_out w (x02.trans x4) (x4.old _ _ hr2) rfl hrb e (fun u S' ho => ?_)
   rw [hx]; exact ho
  | inr q =>
   obtain ⟨pv, parts⟩ := q
   obtain ⟨hx, hown, hlen⟩ := hx
   have hx : totalM tab d lines = wholeM parts := htot.trans hx
   refine Does.call (g151 w1 x4 hown (by omega)) fun u S5 ⟨pv5, e5, x5, ho5⟩ => ?_
   subst e5
   have hr5 := x5.old _ _ hr2
   obtain ⟨q1, q2⟩ := cell_put (cs := (wholeM parts).1.cells pv5) hr5 rfl rfl (Total.one _ ho5.sl.one)
   simp only [tupD_tup, List.getElem?_cons_zero, List.getElem?_cons_succ, dO_ok, st60, q1, dR_ok, ld60, q2]
   have hn5 := w1 _ _ hr2
   have hlt5 := x5.next
   refine Ok.ret ⟨pv5, by rw [hx], (x02.trans x5).set hrb (by omega) w _, ?_⟩
   rw [hx]
   refine (ho5.weaken x02.next).other (Nat.le_refl _) (fun a ver m hv => Tr.get_put_neB _ _ _ _ trivial ?_)
   rcases ho5.is with ⟨e1, _⟩ | ⟨a', ver', tl, e1, e2, _⟩
   ·rw [hv] at e1; cases e1
   ·rw [hv] at e1; cases e1; omega
structure But (a : Nat) (S S' : St) : Prop where
 old : ∀ y b, y ≠ a → S.heap.get y = some b → S'.heap.get y = some b
 next : S.next ≤ S'.next
 wf : WF S → WF S'
theorem But.of {a : Nat} {S S' : St} (x : Ext S S') : But a S S' := ⟨fun y b _ h => x.old y b h, x.next, x.wf⟩
theorem But.trans {a : Nat} {A B C : St} (h : But a A B) (k : But a B C) : But a A C := ⟨fun y b hy q => k.old y b hy (h.old y b hy q), Nat.le_trans h.next k.next, fun w => k.wf (h.wf w)⟩
theorem But.put {a : Nat} {S : St} (ha : a < S.next) (b : Blk) : But a S ⟨S.next, S.heap.put a b⟩ := by
 refine ⟨fun y c hy h => ?_, Nat.le_refl _, fun w y c hc => ?_⟩
 ·show (S.heap.put a b).get y = some c
  rw [Tr.get_put_neB _ _ _ _ trivial hy]; exact h
 ·have hc' : (S.heap.put a b).get y = some c := hc
  rw [Tr.get_putB _ _ _ _ trivial] at hc'
  split at hc'
  ·show y < S.next; omega
  ·exact w y c hc'
theorem But.ext {a : Nat} {S0 S S' : St} (w : WF S0) (x : Ext S0 S) (ha : S0.next ≤ a) (h : But a S S') : Ext S0 S' :=
 ⟨fun y b hy => h.old y b (by have := w y b hy; omega) (x.old y b hy), Nat.le_trans x.next h.next, fun w => h.wf (x.wf w)⟩
theorem splice_snoc (cs xs : List V) (j : Nat) (v : V) (h : j + xs.length + 1 ≤ cs.length) : splice (splice cs j xs) (j + xs.length) [v] = splice cs j (xs ++ [v]) := by
 have h1 : (cs.take j).length = j := by rw [List.length_take]; omega
 have h2 : (cs.take j ++ xs).length = j + xs.length := by rw [List.length_append, h1]
 simp only [splice, List.length_append, List.length_cons, List.length_nil]
 rw [← List.append_assoc (cs.take j) xs, ← h2, List.take_left', List.drop_append, h2, List.drop_eq_nil_of_le (by rw [h2]; omega)]
 ·simp only [List.nil_append, List.drop_drop, List.append_assoc, List.cons_append]
  congr 4
  omega
 ·rfl
def intV (n : Int) : V := .int .i64 n
def offStep (done : List Int) (x : Int) : (List Int × Int) ⊕ List Int := if (subM 0 x).2 ≠ 0 then .inl ([], (subM 0 x).2) else .inr (done ++ [(subM 0 x).1])
def offM (l : List Int) : List Int × Int := runL offStep (fun l => (l, 0)) l []
theorem offL_len : ∀ (l : List Int) (d : List Int) (r : List Int × Int), runL offStep (fun l => (l, 0)) l d = r → r.2 = 0 → r.1.length = d.length + l.length
 | [], d, r, h, _ => by subst h; simp [runL]
 | x :: l, d, r, h, h0 => by
  simp only [runL, offStep] at h
  split at h
  ·rename_i r' he
   split at he
   ·rename_i hc; cases he; subst h; exact absurd h0 hc
   ·cases he
  ·rename_i s' he
   split at he
   ·cases he
   ·cases he
    have := offL_len l _ r h h0
    simp only [List.length_append, List.length_cons, List.length_nil] at this ⊢
    omega
theorem offM_len {l : List Int} (h : (offM l).2 = 0) : (offM l).1.length = l.length := by
 have := offL_len l [] (offM l) rfl h
 rw [List.length_nil, Nat.zero_add] at this
 exact this
theorem g154 {S : St} (w : WF S) {a ver n i : Nat} {elems : List (List V)} {cs : List V} (hg : S.heap.get a = some (.row ver n elems)) (hc : elems[i]? = some cs) (j0 : Nat) (xs : List Int) (hj : j0 + xs.length ≤ cs.length)
  (hx : ∀ r x, xs[r]? = some x → cs[j0 + r]? = some (intV x)) {pb : Nat} (hpb : pb ≠ a) (hpg : S.heap.get pb = some (.row 0 1 ((List.range xs.length).map fun r => [V.ptr a ver i (j0 + r)]))) (hb : xs.length < 1000000) :
  Does prog dPl dLv 154 [.sl pb 0 1 0 xs.length] S (fun u S' => u = .int .i64 (offM xs).2 ∧ But a S S' ∧ ((offM xs).2 = 0 → S'.heap.get a = some (.row ver n (elems.set i (splice cs j0 ((offM xs).1.map intV)))))) := by
 refine e154 ?_
 simp only [m154, len213, Go.AM.lenW, dR_ok]
 have hil : i < elems.length := (List.getElem?_eq_some_iff.1 hc).1
 refine Ok.loop (F := fun k K => m154_l0 (callD prog dPl dLv k) k K (.sl pb 0 1 0 xs.length) (.int .i64 xs.length)) (ρ := List Int × Int) (α := Int) (X := Int) xs (step := offStep) (fin := fun l => (l, 0)) (s := [])
  (out := fun k K x S' => K (.int .i64 x) S')
  (fun r done vs S' => vs = [.int .i64 0, .int .i64 (r : Int)] ∧ But a S S' ∧ S'.heap.get a = some (.row ver n (elems.set i (splice cs j0 (done.map intV)))) ∧ done.length = r)
  (fun r x S' => x = r.2 ∧ But a S S' ∧ (r.2 = 0 → S'.heap.get a = some (.row ver n (elems.set i (splice cs j0 (r.1.map intV)))))) ?_ ?_ ⟨rfl, But.of (Ext.refl S), ?_, rfl⟩ ?_
 ·rintro r x done vs S1 ⟨rfl, b1, hg1, hlen⟩ hi
  have hil' : r < xs.length := (List.getElem?_eq_some_iff.1 hi).1
  have hlt : (r : Int) < (xs.length : Int) := by omega
  have hw : wr .i64 ((r : Int) + 1) = ((r + 1 : Nat) : Int) := by rw [wr64 (by omega) (by omega)]; omega
  have hpg1 := b1.old pb _ hpb hpg
  have hidx : idxW 1 (.sl pb 0 1 0 xs.length) (.int .i64 (r : Int)) = .ok (.ptr pb 0 (0 + r) 0) := by simp only [idxW, idxIn_of hil', if_true]
  have hp1 : loadW none (.ptr pb 0 (0 + r) 0) S1 = .ok (.ptr a ver i (j0 + r)) := by
   rw [load_ptr none pb 0 (0 + r) 0 S1 (row_get hpg1) (cs := [V.ptr a ver i (j0 + r)]) (by rw [Nat.zero_add, List.getElem?_map, List.getElem?_range hil']; rfl)]
   rfl
  have hcx := hx r x hi
  have hsl : (splice cs j0 (done.map intV)).length = cs.length := by simp only [splice, List.length_append, List.length_take, List.length_drop, List.length_map]; omega
  have hcur : (splice cs j0 (done.map intV))[j0 + r]? = some (intV x) := by
   unfold splice
   rw [← List.append_assoc, List.getElem?_append_right (by simp only [List.length_append, List.length_take, List.length_map]; omega)]
   simp only [List.length_append, List.length_take, List.length_map]
   rw [List.getElem?_drop]
   have : j0 + done.length + (j0 + r - (min j0 cs.length + done.length)) = j0 + r := by omega
   rw [this]; exact hcx
  have hei : (elems.set i (splice cs j0 (done.map intV)))[i]? = some (splice cs j0 (done.map intV)) := List.getElem?_set_self hil
  have hp2 : ∀ {S'}, S'.heap.get a = some (.row ver n (elems.set i (splice cs j0 (done.map intV)))) → loadW none (.ptr a ver i (j0 + r)) S' = .ok (intV x) := fun hq => by
   rw [load_ptr none a ver i (j0 + r) _ (row_get hq) hei]
   exact part_one _ _ hcur
  obtain ⟨N, S2, x2, h2⟩ := (g134 0 x S1).get
  have hg2 := x2.old _ _ hg1
  have b2 := b1.trans (But.of x2)
  have ha2 : a < S2.next := b2.wf w a _ hg2
  have hst : storeW 1 (.ptr a ver i (j0 + r)) (intV (subM 0 x).1) S2 = .ok ⟨S2.next, S2.heap.put a (.row ver n (elems.set i (splice cs j0 ((done ++ [(subM 0 x).1]).map intV))))⟩ := by
   have hcl : (intV (subM 0 x).1).cells = [intV (subM 0 x).1] := rfl
   have hol : allOne [intV (subM 0 x).1] = true := rfl
   simp only [storeW, row_get hg2, hei, hcl, hol, List.length_cons, List.length_nil, true_and]
   rw [if_pos (by rw [hsl]; omega), List.set_set]
   have := splice_snoc cs (done.map intV) j0 (intV (subM 0 x).1) (by rw [List.length_map]; omega)
   rw [List.length_map, hlen] at this
   rw [this, List.map_append]
   rfl
  have pre : ∀ (K : KS) (again : List V → St → An) (k : Nat), N ≤ k → m154_l0 (callD prog dPl dLv k) k K (.sl pb 0 1 0 xs.length) (.int .i64 xs.length) [.int .i64 0, .int .i64 (r : Int)] S1 again =
    if (subM 0 x).2 ≠ 0 then K (.int .i64 (subM 0 x).2) S2 else again [.int .i64 0, .int .i64 ((r + 1 : Nat) : Int)] ⟨S2.next, S2.heap.put a (.row ver n (elems.set i (splice cs j0 ((done ++ [(subM 0 x).1]).map intV))))⟩ := by
   intro K again k hk
   simp only [m154_l0, unD_cons, bin_lss, dR_ok, hlt, decide_true, pickD_true, ix213, hidx, ld204, hp1, nilD_ptr, ld3, hp2 hg1]
   have h2' := h2 k (fun t5 S6 => tupD t5 0 fun t7 => tupD t5 1 fun t8 => dIf (guardP prog 32 t8 (.int .i64 0)) (dR (binV prog .neq 32 t8 (.int .i64 0)) fun t9 =>
    pickD t9 (K t8 S6) (dR (storeV prog 3 (.ptr a ver i (j0 + r)) t7 S6) fun S10 => dR (binV prog .add 3 (.int .i64 (r : Int)) (.int .i64 1)) fun t11 => again [.int .i64 0, t11] S10))) hk
   refine h2'.trans ?_
   simp only [pairV, tupD_tup, List.getElem?_cons_zero, List.getElem?_cons_succ, dO_ok, guard_int, dIf_true, bin_neq, dR_ok, bin_add, hw]
   by_cases c : (subM 0 x).2 = 0
   ·simp only [c, decide_true, Bool.not_true, pickD_false, ne_eq, not_true_eq_false, if_false, st3]
    have hst' : storeW 1 (.ptr a ver i (j0 + r)) (.int .i64 (subM 0 x).1) S2 = _ := hst
    simp only [hst', dR_ok]
   ·simp only [c, decide_false, Bool.not_false, pickD_true, ne_eq, not_false_eq_true, if_true]
  by_cases c : (subM 0 x).2 ≠ 0
  ·exact ⟨N, .inl ⟨([], (subM 0 x).2), (subM 0 x).2, S2, by simp only [offStep, if_pos c], ⟨rfl, b2, fun h => absurd h c⟩, fun k K again hk => by rw [pre K again k hk, if_pos c]⟩⟩
  ·exact ⟨N, .inr ⟨done ++ [(subM 0 x).1], _, _, by simp only [offStep, if_neg c], ⟨rfl, b2.trans (But.put ha2 _), Tr.get_put_sameB _ _ _ trivial, by simp [hlen]⟩, fun k K again hk => by rw [pre K again k hk, if_neg c]⟩⟩
 ·rintro done vs S1 ⟨rfl, b1, hg1, hlen⟩
  have hlt : ¬ (xs.length : Int) < (xs.length : Int) := by omega
  refine ⟨0, 0, S1, ⟨rfl, b1, fun _ => hg1⟩, fun k K again _ => ?_⟩
  simp only [m154_l0, unD_cons, bin_lss, dR_ok, hlt, decide_false, pickD_false]
 ·have : splice cs j0 (([] : List Int).map intV) = cs := by simp [splice]
  rw [this]
  have : elems.set i cs = elems := by
   have := List.getElem?_eq_getElem hil
   rw [hc] at this
   rw [Option.some.inj this]; exact List.set_getElem_self hil
  rw [this]; exact hg
 ·rintro x S1 ⟨hxr, b1, hr⟩
  exact Ok.ret ⟨by rw [hxr]; rfl, b1, hr⟩
def backStep (acc : List Part) (p : Part) : (List Part × Int) ⊕ List Part :=
 if (offM [p.net, p.tax]).2 ≠ 0 then .inl ([], (offM [p.net, p.tax]).2) else .inr (acc ++ [{ p with net := (offM [p.net, p.tax]).1.getD 0 0, tax := (offM [p.net, p.tax]).1.getD 1 0 }])
def backM (t : Total) : Total × Int :=
 if (offM [t.net, t.tax, t.gross]).2 ≠ 0 then (Total.zero, (offM [t.net, t.tax, t.gross]).2) else
  if (runL backStep (fun l => (l, 0)) t.parts []).2 ≠ 0 then (Total.zero, (runL backStep (fun l => (l, 0)) t.parts []).2) else
   (⟨(offM [t.net, t.tax, t.gross]).1.getD 0 0, (offM [t.net, t.tax, t.gross]).1.getD 1 0, (offM [t.net, t.tax, t.gross]).1.getD 2 0, (runL backStep (fun l => (l, 0)) t.parts []).1⟩, 0)
theorem len_aux {a i n : Nat} (h : a = i) (h2 : i < n) : a + (n - i) = n := by omega
theorem list2 (l : List Int) (h : l.length = 2) : l.map intV = [intV (l.getD 0 0), intV (l.getD 1 0)] := by
 match l, h with
 | [a, b], _ => rfl
theorem list3 (l : List Int) (h : l.length = 3) : l.map intV = [intV (l.getD 0 0), intV (l.getD 1 0), intV (l.getD 2 0)] := by
 match l, h with
 | [a, b, c], _ => rfl
theorem ptrs3 (S : St) (a b c d e f g h i : Nat) (a2 b2 c2 : Nat) : buildSliceW 1 [.nilp] 3 [(0, .ptr a b c d), (1, .ptr e f g h), (2, .ptr i a2 b2 c2)] none S = .ok (.sl S.next 0 1 0 3, ⟨S.next + 1, S.heap.put S.next (.row 0 1 [[.ptr a b c d], [.ptr e f g h], [.ptr i a2 b2 c2]])⟩) := by
 unfold buildSliceW
 rw [if_pos (by omega)]
 simp only [newBlk_none]
 rfl
theorem ptrs2 (S : St) (k a b c d e f g h : Nat) : buildSliceW 1 [.nilp] 2 [(0, .ptr a b c d), (1, .ptr e f g h)] (some k) S = .ok (.sl k 0 1 0 2, ⟨S.next, S.heap.put k (.row 0 1 [[.ptr a b c d], [.ptr e f g h]])⟩) := by
 unfold buildSliceW
 rw [if_pos (by omega)]
 simp only [newBlk_at]
 rfl
theorem slices_cells {S : St} {n : Nat} {v : V} {es : List (List V)} (h : Sl S n v es) : v.cells = [v] := by
 rcases h.is with ⟨rfl, _⟩ | rfl | ⟨a, ver, off, elems, rfl, _⟩ <;> rfl
theorem g120 (t : Total) (pv : V) (S : St) (w : WF S) (hs : Sl S 4 pv (t.parts.map Part.enc)) (hb : t.parts.length ≤ 100000) : Does prog dPl dLv 120 [.agg (t.cells pv)] S (TotOut S (backM t)) := by
 refine e120 ?_
 have ho : allOne (t.cells pv) = true := Total.one t hs.one
 have hl : (t.cells pv).length = 4 := rfl
 have hx1 := Ext.new w (.row 0 4 [t.cells pv])
 have hr1 : (⟨S.next + 1, S.heap.put S.next (.row 0 4 [t.cells pv])⟩ : St).heap.get S.next = some (.row 0 4 [t.cells pv]) := Tr.get_put_sameB _ _ _ trivial
 simp only [m120, agg_cells, ho, hl, dIf_true, newBlk_none, dR_ok]
 have hx2 := Ext.new (hx1.wf w) (.row 0 4 [[.int .i64 0,.int .i64 0,.int .i64 0,.nils]])
 have hr2 : (⟨S.next + 1 + 1, (S.heap.put S.next (.row 0 4 [t.cells pv])).put (S.next + 1) (.row 0 4 [[.int .i64 0,.int .i64 0,.int .i64 0,.nils]])⟩ : St).heap.get (S.next + 1) = some (.row 0 4 [[.int .i64 0,.int .i64 0,.int .i64 0,.nils]]) := Tr.get_put_sameB _ _ _ trivial
 have x02 : Ext S (⟨S.next + 1 + 1, (S.heap.put S.next (.row 0 4 [t.cells pv])).put (S.next + 1) (.row 0 4 [[.int .i64 0,.int .i64 0,.int .i64 0,.nils]])⟩ : St) := hx1.trans hx2
 have hr1' : (⟨S.next + 1 + 1, (S.heap.put S.next (.row 0 4 [t.cells pv])).put (S.next + 1) (.row 0 4 [[.int .i64 0,.int .i64 0,.int .i64 0,.nils]])⟩ : St).heap.get S.next = some (.row 0 4 [t.cells pv]) := hx2.old _ _ hr1
 have hn2 : (⟨S.next + 1 + 1, (S.heap.put S.next (.row 0 4 [t.cells pv])).put (S.next + 1) (.row 0 4 [[.int .i64 0,.int .i64 0,.int .i64 0,.nils]])⟩ : St).next = S.next + 2 := rfl
 generalize (⟨S.next + 1 + 1, (S.heap.put S.next (.row 0 4 [t.cells pv])).put (S.next + 1) (.row 0 4 [[.int .i64 0,.int .i64 0,.int .i64 0,.nils]])⟩ : St) = S2 at hr2 x02 hr1' hn2
 have w2 := x02.wf w
 have y3 : loadW none (.ptr S.next 0 0 (0 + 3)) S2 = .ok pv := by rw [load_one _ _ _ _ _ (row_get hr1')]; rfl
 have hlm : (t.parts.map Part.enc).length = t.parts.length := List.length_map ..
 obtain ⟨cv, S3, q1, q2, q3⟩ := (hs.ext x02).copy (b := 40) w2 (by rw [hlm]; omega) (by rw [hlm]; unfold lim; omega)
 have hge2 : ∀ a ver m, cv = .sl a ver 4 0 m → S.next + 2 ≤ a := fun a ver m hv => by
  rcases q3.is with ⟨e1, _⟩ | ⟨a', ver', tl, e1, e2, _⟩
  ·rw [hv] at e1; cases e1
  ·rw [hv] at e1; cases e1; omega
 have hcv := slices_cells q3.sl
 have hcv1 := q3.sl.one
 have hr1s3 := q2.old _ _ hr1'
 have hr2s3 := q2.old _ _ hr2
 have hoc : allOne cv.cells = true := by rw [hcv]; simp [allOne, hcv1]
 have vs4 := var_set (x := cv) (j := 0 + 3) (m := 1) hr1s3 (by rw [hcv]; rfl) hoc (by show _ ≤ 4; omega)
 have hsp : splice (t.cells pv) (0 + 3) cv.cells = t.cells cv := by rw [hcv]; rfl
 rw [hsp] at vs4
 have x03 := x02.trans q2
 have hl3 := x03.wf w _ _ hr1s3
 have x04 : Ext S (⟨S3.next, S3.heap.put S.next (.row 0 4 [t.cells cv])⟩ : St) := x03.set (Nat.le_refl _) hl3 w _
 have ho4 : Own S (⟨S3.next, S3.heap.put S.next (.row 0 4 [t.cells cv])⟩ : St) 4 cv (t.parts.map Part.enc) :=
  (q3.weaken x02.next).other (Nat.le_refl _) (fun a ver m hv => Tr.get_put_neB _ _ _ _ trivial (by have := hge2 a ver m hv; omega))
 have hr1s4 : (⟨S3.next, S3.heap.put S.next (.row 0 4 [t.cells cv])⟩ : St).heap.get S.next = some (.row 0 4 [t.cells cv]) := Tr.get_put_sameB _ _ _ trivial
 have hr2s4 : (⟨S3.next, S3.heap.put S.next (.row 0 4 [t.cells cv])⟩ : St).heap.get (S.next + 1) = some (.row 0 4 [[.int .i64 0,.int .i64 0,.int .i64 0,.nils]]) := by
  rw [← hr2s3]; exact Tr.get_put_neB _ _ _ _ trivial (by omega)
 simp only [fa60_0, fa60_1, fa60_2, fa60_3, adv_ptr, dR_ok, ld58, y3, app58, q1, st58, vs4, bs213]
 generalize (⟨S3.next, S3.heap.put S.next (.row 0 4 [t.cells cv])⟩ : St) = S4 at x04 ho4 hr1s4 hr2s4
 simp only [ptrs3, dR_ok]
 have hnew := Ext.new (x04.wf w) (.row 0 1 [[.ptr S.next 0 0 (0 + 0)], [.ptr S.next 0 0 (0 + 1)], [.ptr S.next 0 0 (0 + 2)]])
 have hpg : (⟨S4.next + 1, S4.heap.put S4.next (.row 0 1 [[.ptr S.next 0 0 (0 + 0)], [.ptr S.next 0 0 (0 + 1)], [.ptr S.next 0 0 (0 + 2)]])⟩ : St).heap.get S4.next = some (.row 0 1 ((List.range [t.net, t.tax, t.gross].length).map fun r => [V.ptr S.next 0 0 (0 + r)])) := Tr.get_put_sameB _ _ _ trivial
 have hl4 := x04.wf w _ _ hr1s4
 have hr1s5 := hnew.old _ _ hr1s4
 have hr2s5 := hnew.old _ _ hr2s4
 have ho5 := ho4.ext hnew
 have x05 := x04.trans hnew
 generalize (⟨S4.next + 1, S4.heap.put S4.next (.row 0 1 [[.ptr S.next 0 0 (0 + 0)], [.ptr S.next 0 0 (0 + 1)], [.ptr S.next 0 0 (0 + 2)]])⟩ : St) = S5 at hpg hr1s5 hr2s5 ho5 x05
 refine Does.call (g154 (x05.wf w) hr1s5 rfl 0 [t.net, t.tax, t.gross] (by show _ ≤ 4; simp) (fun r x hx => by
   match r, hx with
   | 0, hx => cases hx; rfl
   | 1, hx => cases hx; rfl
   | 2, hx => cases hx; rfl
   | r + 3, hx => simp at hx) (by omega) hpg (by simp)) fun u S6 ⟨e6, b6, g6⟩ => ?_
 subst e6
 have x06 : Ext S S6 := b6.ext w x05 (Nat.le_refl _)
 have hr2s6 := b6.old _ _ (by omega) hr2s5
 simp only [guard_int, dIf_true, bin_neq, dR_ok]
 refine Ok.pickN (fun h => ?_) (fun h => ?_)
 ·refine nil_out w x06 hr2s6 rfl (Nat.le_succ _) _ (fun u S' ho => ?_)
  have : backM t = (Total.zero, (offM [t.net, t.tax, t.gross]).2) := by unfold backM; rw [if_pos h]
  rw [this]; exact ho
 have hr1s6 := g6 h
 have hl3' := list3 _ (offM_len h)
 rw [hl3'] at hr1s6
 have hcells : ([t.cells cv].set 0 (splice (t.cells cv) 0 [intV ((offM [t.net, t.tax, t.gross]).1.getD 0 0), intV ((offM [t.net, t.tax, t.gross]).1.getD 1 0), intV ((offM [t.net, t.tax, t.gross]).1.getD 2 0)])) =
  [Total.cells ⟨(offM [t.net, t.tax, t.gross]).1.getD 0 0, (offM [t.net, t.tax, t.gross]).1.getD 1 0, (offM [t.net, t.tax, t.gross]).1.getD 2 0, []⟩ cv] := rfl
 rw [hcells] at hr1s6
 have ho6 : Own S S6 4 cv (t.parts.map Part.enc) := by
  refine ⟨?_, ho5.len⟩
  rcases ho5.is with h1 | ⟨a, ver, tl, h1, h2, h3, h4⟩
  ·exact .inl h1
  ·exact .inr ⟨a, ver, tl, h1, h2, Nat.lt_of_lt_of_le h3 b6.next, b6.old a _ (by have := hge2 a ver _ h1; omega) h4⟩
 have y6 : loadW none (.ptr S.next 0 0 (0 + 3)) S6 = .ok cv := by rw [load_one _ _ _ _ _ (row_get hr1s6)]; rfl
 simp only [y6, dR_ok, len58, ho6.sl.lenI]
 generalize hnt : (offM [t.net, t.tax, t.gross]).1.getD 0 0 = n0 at hr1s6
 generalize htt : (offM [t.net, t.tax, t.gross]).1.getD 1 0 = n1 at hr1s6
 generalize hgt : (offM [t.net, t.tax, t.gross]).1.getD 2 0 = n2 at hr1s6
 refine Ok.loop (F := fun k K => m120_l0 (callD prog dPl dLv k) k K (.ptr S.next 0 0 0) (.ptr (S.next + 1) 0 0 0) (.int .i64 t.parts.length)) (ρ := List Part × Int) (α := Part) (X := Int ⊕ List Part) t.parts (step := backStep) (fin := fun l => (l, 0)) (s := [])
  (out := fun k K x S' => match x with
   | .inl e => dR (buildV prog 60 []) fun t => dR (storeV prog 60 (.ptr (S.next + 1) 0 0 0) t S') fun S2 => dR (loadV prog 60 (.ptr (S.next + 1) 0 0 0) S2) fun u => K (.tup [u, .int .i64 e]) S2
   | .inr _ => dR (loadV prog 60 (.ptr S.next 0 0 0) S') fun t37 => dR (storeV prog 60 (.ptr (S.next + 1) 0 0 0) t37 S') fun S38 => dR (loadV prog 60 (.ptr (S.next + 1) 0 0 0) S38) fun t39 => K (.tup [t39, (.int .i64 0)]) S38)
  (fun i acc vs S' => vs = [.int .i64 0, .int .i64 (i : Int)] ∧ Ext S S' ∧ S'.heap.get S.next = some (.row 0 4 [Total.cells ⟨n0, n1, n2, []⟩ cv]) ∧ S'.heap.get (S.next + 1) = some (.row 0 4 [[.int .i64 0,.int .i64 0,.int .i64 0,.nils]]) ∧ Own S S' 4 cv ((acc ++ t.parts.drop i).map Part.enc) ∧ acc.length = i)
  (fun r x S' => Ext S S' ∧ S'.heap.get (S.next + 1) = some (.row 0 4 [[.int .i64 0,.int .i64 0,.int .i64 0,.nils]]) ∧ (match x with
   | .inl e => r = ([], e) ∧ e ≠ 0
   | .inr acc => r = (acc, 0) ∧ S'.heap.get S.next = some (.row 0 4 [Total.cells ⟨n0, n1, n2, []⟩ cv]) ∧ Own S S' 4 cv (acc.map Part.enc))) ?_ ?_ ⟨rfl, x06, hr1s6, hr2s6, ho6, rfl⟩ ?_
 ·rintro i p acc vs S7 ⟨rfl, x7, hc1, hc2, ho7, hlen⟩ hi
  have hil : i < t.parts.length := (List.getElem?_eq_some_iff.1 hi).1
  have hlt : (i : Int) < (t.parts.length : Int) := by omega
  have hw : wr .i64 ((i : Int) + 1) = ((i + 1 : Nat) : Int) := by rw [wr64 (by omega) (by omega)]; omega
  have hdrop : t.parts.drop i = p :: t.parts.drop (i + 1) := by
   rw [List.drop_eq_getElem_cons hil]
   have : t.parts[i] = p := by have := List.getElem?_eq_getElem hil; rw [hi] at this; exact (Option.some.inj this).symm
   rw [this]
  have hcur : (acc ++ t.parts.drop i)[i]? = some p := by
   rw [List.getElem?_append_right (by omega), hlen, Nat.sub_self, hdrop]; rfl
  have hge : ((acc ++ t.parts.drop i).map Part.enc)[i]? = some p.enc := by rw [List.getElem?_map, hcur]; rfl
  have hlen7 : ((acc ++ t.parts.drop i).map Part.enc).length = t.parts.length := by rw [List.length_map, List.length_append, List.length_drop]; exact len_aux hlen hil
  rcases ho7.is with ⟨e1, e2⟩ | ⟨a, ver, tl, hva, ha0, ha1, hrow⟩
  ·rw [e2] at hge; simp at hge
  have hage := hge2 a ver _ hva
  have hb13 := (Ext.refl S7).bump 13
  have w7 := x7.wf w
  have free : S7.heap.get (S7.next + 10) = none := by
   cases hq : S7.heap.get (S7.next + 10) with
   | none => rfl
   | some b => have := w7 _ b hq; omega
  have hnew7 := Ext.newAt (S := (⟨S7.next + 13, S7.heap⟩ : St)) (k := S7.next + 10) free (by show S7.next + 10 < S7.next + 13; omega) (.row 0 1 [[.ptr a ver i (0 + 2)], [.ptr a ver i (0 + 3)]])
  have x8 := x7.trans (hb13.trans hnew7)
  have hpg8 : (⟨S7.next + 13, S7.heap.put (S7.next + 10) (.row 0 1 [[.ptr a ver i (0 + 2)], [.ptr a ver i (0 + 3)]])⟩ : St).heap.get (S7.next + 10) = some (.row 0 1 ((List.range [p.net, p.tax].length).map fun r => [V.ptr a ver i (2 + r)])) := Tr.get_put_sameB _ _ _ trivial
  have hrow8 := hnew7.old _ _ (hb13.old _ _ hrow)
  have hc18 := hnew7.old _ _ (hb13.old _ _ hc1)
  have hc28 := hnew7.old _ _ (hb13.old _ _ hc2)
  have hcs : (((acc ++ t.parts.drop i).map Part.enc) ++ tl)[i]? = some p.enc := by rw [List.getElem?_append_left (by rw [hlen7]; exact hil)]; exact hge
  have y8 : loadW none (.ptr S.next 0 0 (0 + 3)) (⟨S7.next + 13, S7.heap⟩ : St) = .ok cv := by rw [load_one _ _ _ _ _ (hb13.row (row_get hc1))]; rfl
  have hidx : idxW 4 cv (.int .i64 (i : Int)) = .ok (.ptr a ver (0 + i) 0) := by
   rw [hva]
   simp only [idxW, idxIn_of (show i < ((acc ++ t.parts.drop i).map Part.enc).length by rw [hlen7]; exact hil), if_true]
  rw [Nat.zero_add] at hidx
  obtain ⟨_, S9, N, ⟨rfl, b9, g9⟩, h9⟩ := g154 (x8.wf w) hrow8 hcs 2 [p.net, p.tax] (by show _ ≤ 4; simp) (fun r x hx => by
   match r, hx with
   | 0, hx => cases hx; rfl
   | 1, hx => cases hx; rfl
   | r + 2, hx => simp at hx) (pb := S7.next + 10) (by omega) hpg8 (by simp)
  have x9 : Ext S S9 := b9.ext w x8 ha0
  have hc19 := b9.old _ _ (by omega) hc18
  have hc29 := b9.old _ _ (by omega) hc28
  have pre : ∀ (K : KS) (again : List V → St → An) (k : Nat), N ≤ k → m120_l0 (callD prog dPl dLv k) k K (.ptr S.next 0 0 0) (.ptr (S.next + 1) 0 0 0) (.int .i64 t.parts.length) [.int .i64 0, .int .i64 (i : Int)] S7 again =
    if (offM [p.net, p.tax]).2 ≠ 0 then (dR (buildV prog 60 []) fun t => dR (storeV prog 60 (.ptr (S.next + 1) 0 0 0) t S9) fun S2 => dR (loadV prog 60 (.ptr (S.next + 1) 0 0 0) S2) fun u => K (.tup [u, .int .i64 (offM [p.net, p.tax]).2]) S2)
    else again [.int .i64 0, .int .i64 ((i + 1 : Nat) : Int)] S9 := by
   intro K again k hk
   simp only [m120_l0, unD_cons, bin_lss, dR_ok, hlt, decide_true, pickD_true, fa60_3, adv_ptr, ld58, y8, ix58, hidx, fa113_2, fa113_3, bs213, ptrs2]
   refine (h9 k _ hk).trans ?_
   simp only [guard_int, dIf_true, bin_neq, dR_ok, bin_add, hw]
   by_cases c : (offM [p.net, p.tax]).2 = 0
   ·simp only [c, decide_true, Bool.not_true, pickD_false, ne_eq, not_true_eq_false, if_false]
   ·simp only [c, decide_false, Bool.not_false, pickD_true, ne_eq, not_false_eq_true, if_true]
  by_cases c : (offM [p.net, p.tax]).2 ≠ 0
  ·exact ⟨N, .inl ⟨([], (offM [p.net, p.tax]).2), .inl (offM [p.net, p.tax]).2, S9, by simp only [backStep, if_pos c], ⟨x9, hc29, rfl, c⟩, fun k K again hk => by rw [pre K again k hk, if_pos c]⟩⟩
  ·have hg9 := g9 (by omega)
   have hl2' := list2 _ (offM_len (l := [p.net, p.tax]) (by omega))
   rw [hl2'] at hg9
   have hpe : splice p.enc 2 [intV ((offM [p.net, p.tax]).1.getD 0 0), intV ((offM [p.net, p.tax]).1.getD 1 0)] = Part.enc { p with net := (offM [p.net, p.tax]).1.getD 0 0, tax := (offM [p.net, p.tax]).1.getD 1 0 } := rfl
   rw [hpe, List.set_append_left _ _ (by rw [hlen7]; exact hil)] at hg9
   have hlist : ((acc ++ t.parts.drop i).map Part.enc).set i (Part.enc { p with net := (offM [p.net, p.tax]).1.getD 0 0, tax := (offM [p.net, p.tax]).1.getD 1 0 }) = ((acc ++ [{ p with net := (offM [p.net, p.tax]).1.getD 0 0, tax := (offM [p.net, p.tax]).1.getD 1 0 }]) ++ t.parts.drop (i + 1)).map Part.enc := by
    rw [← List.map_set, hdrop, List.set_append_right _ _ (by omega), hlen, Nat.sub_self]
    simp
   rw [hlist] at hg9
   have hlenN : (((acc ++ [{ p with net := (offM [p.net, p.tax]).1.getD 0 0, tax := (offM [p.net, p.tax]).1.getD 1 0 }]) ++ t.parts.drop (i + 1)).map Part.enc).length = ((acc ++ t.parts.drop i).map Part.enc).length := by rw [← hlist, List.length_set]
   refine ⟨N, .inr ⟨acc ++ [{ p with net := (offM [p.net, p.tax]).1.getD 0 0, tax := (offM [p.net, p.tax]).1.getD 1 0 }], _, S9, by simp only [backStep, if_neg c], ⟨rfl, x9, hc19, hc29, ⟨.inr ⟨a, ver, tl, by rw [hlenN]; exact hva, ha0, ?_, hg9⟩, ?_⟩, by simp [hlen]⟩, fun k K again hk => by rw [pre K again k hk, if_neg c]⟩⟩
   ·have h1 : S7.next + 13 ≤ S9.next := b9.next
    exact Nat.lt_of_lt_of_le ha1 (Nat.le_trans (Nat.le_add_right _ _) h1)
   ·intro cs hcs
    obtain ⟨q, _, rfl⟩ := List.mem_map.1 hcs
    exact ⟨rfl, rfl⟩
 ·rintro acc vs S7 ⟨rfl, x7, hc1, hc2, ho7, hlen⟩
  have hlt : ¬ (t.parts.length : Int) < (t.parts.length : Int) := by omega
  rw [List.drop_length, List.append_nil] at ho7
  refine ⟨0, .inr acc, S7, ⟨x7, hc2, rfl, hc1, ho7⟩, fun k K again _ => ?_⟩
  simp only [m120_l0, unD_cons, bin_lss, dR_ok, hlt, decide_false, pickD_false]
 ·rintro x S7 ⟨x7, hc2, hx⟩
  cases x with
  | inl e =>
   obtain ⟨hx, hne⟩ := hx
   refine nil_out w x7 hc2 rfl (Nat.le_succ _) e (fun u S' ho => ?_)
   have : backM t = (Total.zero, e) := by
    unfold backM
    rw [if_neg (by omega), hx]
    simp only
    rw [if_pos hne]
   rw [this]; exact ho
  | inr acc =>
   obtain ⟨hx, hc1, ho7⟩ := hx
   have hback : backM t = (⟨n0, n1, n2, acc⟩, 0) := by
    unfold backM
    rw [if_neg (by omega), hx]
    simp only
    rw [if_neg (by omega), hnt, htt, hgt]
   have y7 : loadW (some 4) (.ptr S.next 0 0 0) S7 = .ok (.agg (Total.cells ⟨n0, n1, n2, acc⟩ cv)) := by rw [load_one _ _ _ _ _ (row_get hc1)]; rfl
   obtain ⟨q1, q2⟩ := cell_put (cs := Total.cells ⟨n0, n1, n2, acc⟩ cv) hc2 rfl rfl (Total.one _ hcv1)
   have hl7 := x7.wf w _ _ hc2
   simp only [ld60, y7, dR_ok, st60, q1, q2]
   rw [hback]
   exact Ok.ret ⟨cv, rfl, x7.set (Nat.le_succ _) hl7 w _, ho7.other (Nat.le_refl _) (fun a ver m hv => Tr.get_put_neB _ _ _ _ trivial (by have := hge2 a ver m hv; omega))⟩
structure Ref where
 ser : List UInt8
 num : Int
deriving DecidableEq
def Ref.enc (r : Ref) : List V := [.str r.ser, .int .i64 r.num]
def Ref.zero : Ref := ⟨[], 0⟩
structure Posted where
 ref : Ref
 day : Date
 total : Total
 of : Ref
 back : Bool
deriving DecidableEq
def Posted.cells (p : Posted) (pv : V) : List V := [.str p.ref.ser, .int .i64 p.ref.num, .int .i64 p.day.y, .int .i64 p.day.m, .int .i64 p.day.d, .int .i64 p.total.net, .int .i64 p.total.tax, .int .i64 p.total.gross, pv, .str p.of.ser, .int .i64 p.of.num, .bool p.back]
abbrev PV := Posted × V
def pvEnc (q : PV) : List V := q.1.cells q.2
def PartsOK (S : St) (qs : List PV) : Prop := ∀ q, q ∈ qs → Sl S 4 q.2 (q.1.total.parts.map Part.enc)
theorem PartsOK.ext {S S' : St} {qs : List PV} (h : PartsOK S qs) (x : Ext S S') : PartsOK S' qs := fun q hq => (h q hq).ext x
theorem PartsOK.take {S : St} {qs : List PV} (h : PartsOK S qs) (n : Nat) : PartsOK S (qs.take n) := fun q hq => h q (List.mem_of_mem_take hq)
theorem pvEnc_one {S : St} {n : Nat} {es : List (List V)} (p : Posted) {pv : V} (h : Sl S n pv es) : allOne (p.cells pv) = true := by
 simp only [Posted.cells, allOne, List.all_cons, List.all_nil, h.one, Bool.and_true]
 rfl
theorem ref_eql (a b : Ref) : binV prog .eql 43 (.agg a.enc) (.agg b.enc) = .ok (.bool (decide (a = b))) := by
 have h := eq43 a.ser a.num b.ser b.num
 simp only [binV, Ref.enc, h]
 congr 2
 obtain ⟨x, y⟩ := a
 obtain ⟨x', y'⟩ := b
 simp only [Ref.mk.injEq]
 by_cases h1 : x = x' <;> by_cases h2 : y = y' <;> simp [h1, h2]
theorem ref_neq (a b : Ref) : binV prog .neq 43 (.agg a.enc) (.agg b.enc) = .ok (.bool (!decide (a = b))) := by
 have h := eq43 a.ser a.num b.ser b.num
 simp only [binV, Ref.enc, h]
 congr 3
 obtain ⟨x, y⟩ := a
 obtain ⟨x', y'⟩ := b
 simp only [Ref.mk.injEq]
 by_cases h1 : x = x' <;> by_cases h2 : y = y' <;> simp [h1, h2]
theorem gd43' (a b : Ref) : guardP prog 43 (.agg a.enc) (.agg b.enc) = true := congrFun (congrFun gd43 a.enc) b.enc
theorem bd43z : buildW [.str [],.int .i64 0] [(0, 1), (1, 1)] [] = .ok (.agg Ref.zero.enc) := rfl
theorem ht132 : hasText prog 132 = some none := by kernel_rfl
theorem g132 (s : PV) (key : Ref) (q : Nat) (S : St) (w : WF S) (hq : getRow S q 0 = .ok (2, [key.enc])) (hp : Sl S 4 s.2 (s.1.total.parts.map Part.enc)) : Gives 132 [.agg (pvEnc s), .ptr q 0 0 0] S (.bool (decide (s.1.ref = key))) := by
 refine e132 ?_
 have ho : allOne (pvEnc s) = true := pvEnc_one _ hp
 have hl : (pvEnc s).length = 12 := rfl
 have hx := Ext.new w (.row 0 12 [pvEnc s])
 have h0 : loadW (some 2) (.ptr S.next 0 0 (0 + 0)) (⟨S.next + 1, S.heap.put S.next (.row 0 12 [pvEnc s])⟩ : St) = .ok (.agg s.1.ref.enc) := by rw [load_put]; rfl
 have h1 : loadW (some 2) (.ptr q 0 0 0) (⟨S.next + 1, S.heap.put S.next (.row 0 12 [pvEnc s])⟩ : St) = .ok (.agg key.enc) := by rw [load_one _ _ _ _ _ (hx.row hq)]; rfl
 simp only [m132, agg_cells, ho, dIf_true, newBlk_none, dR_ok, hl, fa62_0, adv_ptr, ld43, h0, h1, gd43', ref_eql]
 exact Ok.ret ⟨rfl, hx⟩
theorem g131x132 (v : V) (l : List PV) (key : Ref) (q : Nat) (S : St) (w : WF S) (hpo : PartsOK S l) (hs : Sl S 12 v (l.map pvEnc)) (hb : l.length < 1000000) (hq : getRow S q 0 = .ok (2, [key.enc])) :
  Gives 131 [v, .func 132 [] [.ptr q 0 0 0]] S (.int .i64 (ixM (fun s : PV => decide (s.1.ref = key)) l)) := by
 refine e131 ?_
 simp only [m131, len26, hs.lenI, dR_ok]
 refine Ok.loop (F := fun k K => m131_l0 (callD prog dPl dLv k) k K v (.func 132 [] [.ptr q 0 0 0]) (.int .i64 l.length)) (ρ := Int) (α := PV) (X := Int) l (step := ixStep fun s : PV => decide (s.1.ref = key)) (fin := fun _ => -1) (out := fun k K x S' => K (.int .i64 x) S') (s := 0)
  (fun i n vs S' => n = i ∧ vs = [.int .i64 0, .int .i64 (i : Int)] ∧ Ext S S') (fun r x S' => r = x ∧ Ext S S') ?_ ?_ ⟨rfl, rfl, Ext.refl S⟩ ?_
 ·rintro i s n vs S1 ⟨rfl, rfl, x1⟩ hi
  have hil : n < l.length := (List.getElem?_eq_some_iff.1 hi).1
  have hlt : (n : Int) < (l.length : Int) := by omega
  have hw : wr .i64 ((n : Int) + 1) = ((n + 1 : Nat) : Int) := by rw [wr64 (by omega) (by omega)]; omega
  obtain ⟨p, hp, hat, hl5, _⟩ := (hs.ext x1).elem hi
  obtain ⟨N, S2, x2, h⟩ := (g132 s key q S1 (x1.wf w) (x1.row hq) (((hpo s (List.mem_of_getElem? hi)).ext x1))).get
  have pre : ∀ (K : KS) (again : List V → St → An) (k : Nat), N ≤ k → m131_l0 (callD prog dPl dLv k) k K v (.func 132 [] [.ptr q 0 0 0]) (.int .i64 l.length) [.int .i64 0, .int .i64 (n : Int)] S1 again =
    if (decide (s.1.ref = key)) = true then K (.int .i64 n) S2 else again [.int .i64 0, .int .i64 ((n + 1 : Nat) : Int)] S2 := by
   intro K again k hk
   simp only [m131_l0, unD_cons, bin_lss, dR_ok, hlt, decide_true, pickD_true, ix26, hp, ld62, hat.load0, partW_all _ _ hl5, funD_func _ _ _ _ _ _ _ _ ht132, List.nil_append, List.cons_append]
   rw [h k _ hk]
   simp only [bin_add, dR_ok, hw, pickD_bool]
  by_cases c : (decide (s.1.ref = key)) = true
  ·exact ⟨N, .inl ⟨(n : Int), (n : Int), S2, by simp only [ixStep, c, if_true], ⟨rfl, x1.trans x2⟩, fun k K again hk => by rw [pre K again k hk, if_pos c]⟩⟩
  ·exact ⟨N, .inr ⟨n + 1, _, S2, by simp only [ixStep, c, if_false]; rfl, ⟨rfl, rfl, x1.trans x2⟩, fun k K again hk => by rw [pre K again k hk, if_neg c]⟩⟩
 ·rintro n vs S1 ⟨rfl, rfl, x1⟩
  have hlt : ¬ (l.length : Int) < (l.length : Int) := by omega
  refine ⟨0, -1, S1, ⟨rfl, x1⟩, fun k K again _ => ?_⟩
  simp only [m131_l0, unD_cons, bin_lss, dR_ok, hlt, decide_false, pickD_false]
 ·rintro x S1 ⟨rfl, x1⟩
  exact Ok.ret ⟨rfl, x1⟩
theorem ixM_map {α β : Type} (f : α → β) (p : β → Bool) (l : List α) : ixM (fun a => p (f a)) l = ixM p (l.map f) := by
 have : ∀ (l : List α) (n : Nat), runL (ixStep fun a => p (f a)) (fun _ => (-1 : Int)) l n = runL (ixStep p) (fun _ => -1) (l.map f) n := by
  intro l
  induction l with
  | nil => intro n; rfl
  | cons a l ih =>
   intro n
   simp only [runL, List.map_cons, ixStep]
   by_cases h : p (f a) = true
   ·simp only [h, if_true]
   ·simp only [h, if_false]
    exact ih (n + 1)
 exact this l 0
def postAt (l : List Posted) (r : Ref) : Int := ixM (fun p : Posted => decide (p.ref = r)) l
theorem g91 (v : V) (l : List PV) (r : Ref) (S : St) (w : WF S) (hpo : PartsOK S l) (hs : Sl S 12 v (l.map pvEnc)) (hb : l.length < 1000000) : Gives 91 [v, .agg r.enc] S (.int .i64 (postAt (l.map (·.1)) r)) := by
 refine e91 ?_
 have hx := Ext.new w (.row 0 2 [r.enc])
 have ho : allOne r.enc = true := rfl
 have hl : r.enc.length = 2 := rfl
 have hq : getRow (⟨S.next + 1, S.heap.put S.next (.row 0 2 [r.enc])⟩ : St) S.next 0 = .ok (2, [r.enc]) := getRow_put _ _ _ _ _ _
 simp only [m91, agg_cells, ho, hl, dIf_true, newBlk_none, dR_ok]
 refine (g131x132 v l r S.next _ (hx.wf w) (hpo.ext hx) (hs.ext hx) hb hq).call fun S1 x1 => ?_
 refine Ok.ret ⟨?_, hx.trans x1⟩
 rw [postAt, ← ixM_map]
theorem postAt_cases (l : List Posted) (r : Ref) : postAt l r = -1 ∨ ∃ (i : Nat) (s : Posted), postAt l r = (i : Int) ∧ l[i]? = some s ∧ s.ref = r := by
 rcases ixM_cases (fun p : Posted => decide (p.ref = r)) l with h | ⟨i, s, h1, h2, h3⟩
 ·exact .inl h
 ·exact .inr ⟨i, s, h1, h2, by simpa using h3⟩
theorem ht94 : hasText prog 94 = some none := by kernel_rfl
theorem g94 (s : Ser) (key : PV) (q : Nat) (S : St) (w : WF S) (hq : getRow S q 0 = .ok (12, [pvEnc key])) : Gives 94 [.agg s.enc, .ptr q 0 0 0] S (.bool (s.name == key.1.ref.ser)) := by
 refine e94 ?_
 have ho : allOne s.enc = true := rfl
 have hl : s.enc.length = 4 := rfl
 have hx := Ext.new w (.row 0 4 [s.enc])
 have h0 : loadW none (.ptr S.next 0 0 (0 + 0)) (⟨S.next + 1, S.heap.put S.next (.row 0 4 [s.enc])⟩ : St) = .ok (.str s.name) := by rw [load_put]; rfl
 have h1 : loadW none (.ptr q 0 0 (0 + 0 + 0)) (⟨S.next + 1, S.heap.put S.next (.row 0 4 [s.enc])⟩ : St) = .ok (.str key.1.ref.ser) := by rw [load_one _ _ _ _ _ (hx.row hq)]; rfl
 simp only [m94, agg_cells, ho, dIf_true, newBlk_none, dR_ok, hl, fa92_0, fa62_0, fa43_0, adv_ptr, ld9, h0, h1, guard_str, str_eql]
 exact Ok.ret ⟨rfl, hx⟩
theorem g93x94 (v : V) (l : List Ser) (key : PV) (q : Nat) (S : St) (w : WF S) (hs : Sl S 4 v (l.map Ser.enc)) (hb : l.length < 1000000) (hq : getRow S q 0 = .ok (12, [pvEnc key])) :
  Gives 93 [v, .func 94 [] [.ptr q 0 0 0]] S (.int .i64 (ixM (fun s : Ser => s.name == key.1.ref.ser) l)) := by
 refine e93 ?_
 simp only [m93, len25, hs.lenI, dR_ok]
 refine Ok.loop (F := fun k K => m93_l0 (callD prog dPl dLv k) k K v (.func 94 [] [.ptr q 0 0 0]) (.int .i64 l.length)) (ρ := Int) (α := Ser) (X := Int) l (step := ixStep fun s : Ser => s.name == key.1.ref.ser) (fin := fun _ => -1) (out := fun k K x S' => K (.int .i64 x) S') (s := 0)
  (fun i n vs S' => n = i ∧ vs = [.int .i64 0, .int .i64 (i : Int)] ∧ Ext S S') (fun r x S' => r = x ∧ Ext S S') ?_ ?_ ⟨rfl, rfl, Ext.refl S⟩ ?_
 ·rintro i s n vs S1 ⟨rfl, rfl, x1⟩ hi
  have hil : n < l.length := (List.getElem?_eq_some_iff.1 hi).1
  have hlt : (n : Int) < (l.length : Int) := by omega
  have hw : wr .i64 ((n : Int) + 1) = ((n + 1 : Nat) : Int) := by rw [wr64 (by omega) (by omega)]; omega
  obtain ⟨p, hp, hat, hl5, _⟩ := (hs.ext x1).elem hi
  obtain ⟨N, S2, x2, h⟩ := (g94 s key q S1 (x1.wf w) (x1.row hq)).get
  have pre : ∀ (K : KS) (again : List V → St → An) (k : Nat), N ≤ k → m93_l0 (callD prog dPl dLv k) k K v (.func 94 [] [.ptr q 0 0 0]) (.int .i64 l.length) [.int .i64 0, .int .i64 (n : Int)] S1 again =
    if (s.name == key.1.ref.ser) = true then K (.int .i64 n) S2 else again [.int .i64 0, .int .i64 ((n + 1 : Nat) : Int)] S2 := by
   intro K again k hk
   simp only [m93_l0, unD_cons, bin_lss, dR_ok, hlt, decide_true, pickD_true, ix25, hp, ld92, hat.load0, partW_all _ _ hl5, funD_func _ _ _ _ _ _ _ _ ht94, List.nil_append, List.cons_append]
   rw [h k _ hk]
   simp only [bin_add, dR_ok, hw, pickD_bool]
  by_cases c : (s.name == key.1.ref.ser) = true
  ·exact ⟨N, .inl ⟨(n : Int), (n : Int), S2, by simp only [ixStep, c, if_true], ⟨rfl, x1.trans x2⟩, fun k K again hk => by rw [pre K again k hk, if_pos c]⟩⟩
  ·exact ⟨N, .inr ⟨n + 1, _, S2, by simp only [ixStep, c, if_false]; rfl, ⟨rfl, rfl, x1.trans x2⟩, fun k K again hk => by rw [pre K again k hk, if_neg c]⟩⟩
 ·rintro n vs S1 ⟨rfl, rfl, x1⟩
  have hlt : ¬ (l.length : Int) < (l.length : Int) := by omega
  refine ⟨0, -1, S1, ⟨rfl, x1⟩, fun k K again _ => ?_⟩
  simp only [m93_l0, unD_cons, bin_lss, dR_ok, hlt, decide_false, pickD_false]
 ·rintro x S1 ⟨rfl, x1⟩
  exact Ok.ret ⟨rfl, x1⟩
def eqStep {α : Type} [DecidableEq α] (r : List α) (n : Nat) (a : α) : Bool ⊕ Nat := if r[n]? = some a then .inr (n + 1) else .inl false
theorem eqL {α : Type} [DecidableEq α] {l r : List α} (h : l.length = r.length) : runL (eqStep r) (fun _ => true) l 0 = decide (l = r) := by
 have : ∀ (l t r : List α), l.length = (r.drop t.length).length → r.take t.length = t → runL (eqStep r) (fun _ => true) l t.length = decide (l = r.drop t.length) := by
  intro l
  induction l with
  | nil =>
   intro t r h1 h2
   have : r.drop t.length = [] := List.length_eq_zero_iff.1 h1.symm
   rw [this]; rfl
  | cons a l ih =>
   intro t r h1 h2
   have hlt : t.length < r.length := by rw [List.length_drop] at h1; simp only [List.length_cons] at h1; omega
   rw [List.drop_eq_getElem_cons hlt]
   simp only [runL, eqStep, List.getElem?_eq_getElem hlt]
   by_cases c : r[t.length] = a
   ·have e1 : (t ++ [a]).length = t.length + 1 := by simp
    have := ih (t ++ [a]) r (by rw [e1]; rw [List.length_drop] at h1 ⊢; simp only [List.length_cons] at h1; omega) (by rw [e1, List.take_succ_eq_append_getElem hlt, h2, c])
    rw [e1] at this
    simp only [c, if_true]
    rw [this]
    by_cases d : l = r.drop (t.length + 1) <;> simp [d]
   ·have c' : ¬ (some r[t.length] = some a) := fun e => c (Option.some.inj e)
    simp only [c', if_false]
    rw [eq_comm, decide_eq_false_iff_not]
    intro e
    exact c (List.cons.inj e).1.symm
 have := this l [] r (by simpa using h) rfl
 simpa using this
theorem part_neq (a b : Part) : binV prog .neq 113 (.agg a.enc) (.agg b.enc) = .ok (.bool (!decide (a = b))) := by
 have h := eq113 a.cat a.bp a.net a.tax b.cat b.bp b.net b.tax
 simp only [binV, Part.enc, h]
 congr 3
 obtain ⟨x, y, z, t⟩ := a
 obtain ⟨x', y', z', t'⟩ := b
 simp only [Part.mk.injEq]
 by_cases h1 : x = x' <;> by_cases h2 : y = y' <;> by_cases h3 : z = z' <;> by_cases h4 : t = t' <;> simp [h1, h2, h3, h4]
theorem gd113' (a b : Part) : guardP prog 113 (.agg a.enc) (.agg b.enc) = true := congrFun (congrFun gd113 a.enc) b.enc
theorem bal_neq (a b : Bal) : binV prog .neq 96 (.agg a.enc) (.agg b.enc) = .ok (.bool (!decide (a = b))) := by
 have h := eq96 a.acc a.amount b.acc b.amount
 simp only [binV, Bal.enc, h]
 congr 3
 obtain ⟨x, y⟩ := a
 obtain ⟨x', y'⟩ := b
 simp only [Bal.mk.injEq]
 by_cases h1 : x = x' <;> by_cases h2 : y = y' <;> simp [h1, h2]
theorem gd96' (a b : Bal) : guardP prog 96 (.agg a.enc) (.agg b.enc) = true := congrFun (congrFun gd96 a.enc) b.enc
theorem g157 (u v : V) (l r : List Part) (S : St) (w : WF S) (hs : Sl S 4 u (l.map Part.enc)) (ht : Sl S 4 v (r.map Part.enc)) (hb : l.length < 1000000) :
  Gives 157 [u, v] S (.bool (decide (l = r))) := by
 refine e157 ?_
 simp only [m157, len58, hs.lenI, ht.lenI, dR_ok, guard_int, dIf_true, bin_neq]
 refine Ok.pickN (fun h => Ok.ret ⟨?_, Ext.refl S⟩) (fun h => ?_)
 ·rw [decide_eq_false (fun e => h (by rw [e]))]
 have hlen : l.length = r.length := by omega
 refine Ok.loop (F := fun k K => m157_l0 (callD prog dPl dLv k) k K u v (.int .i64 l.length)) (ρ := Bool) (α := Part) (X := Bool) l (step := eqStep r) (fin := fun _ => true) (out := fun k K x S' => K (.bool x) S') (s := 0)
  (fun i n vs S' => n = i ∧ vs = [.bool false, .int .i64 (i : Int)] ∧ Ext S S') (fun r x S' => r = x ∧ Ext S S') ?_ ?_ ⟨rfl, rfl, Ext.refl S⟩ ?_
 ·rintro i s n vs S1 ⟨rfl, rfl, x1⟩ hi
  have hil : n < l.length := (List.getElem?_eq_some_iff.1 hi).1
  have hlt : (n : Int) < (l.length : Int) := by omega
  have hw : wr .i64 ((n : Int) + 1) = ((n + 1 : Nat) : Int) := by rw [wr64 (by omega) (by omega)]; omega
  obtain ⟨s2, hi2⟩ : ∃ s2, r[n]? = some s2 := ⟨r[n]'(by omega), List.getElem?_eq_getElem (by omega)⟩
  have hb1 := (Ext.refl S1).bump 9
  obtain ⟨p, hp, hat, hl5, _⟩ := (hs.ext x1).elem hi
  obtain ⟨p2, hp2, hat2, hl52, _⟩ := (ht.ext x1).elem hi2
  have y1 := (hat.ext hb1).load0 (some 4)
  have y2 := (hat2.ext hb1).load0 (some 4)
  rw [partW_all _ _ hl5] at y1
  rw [partW_all _ _ hl52] at y2
  have pre : ∀ (K : KS) (again : List V → St → An) (k : Nat), m157_l0 (callD prog dPl dLv k) k K u v (.int .i64 l.length) [.bool false, .int .i64 (n : Int)] S1 again =
    if s = s2 then again [.bool false, .int .i64 ((n + 1 : Nat) : Int)] (⟨S1.next + 9, S1.heap⟩ : St) else K (.bool false) (⟨S1.next + 9, S1.heap⟩ : St) := by
   intro K again k
   simp only [m157_l0, unD_cons, bin_lss, dR_ok, hlt, decide_true, pickD_true, ix58, hp, hp2, ld113, y1, y2, gd113', dIf_true, part_neq, bin_add, hw, pickD_bool, Bool.not_eq_true', decide_eq_false_iff_not, ite_not, if_true]
  by_cases c : s = s2
  ·exact ⟨0, .inr ⟨n + 1, _, _, by rw [eqStep, hi2]; exact if_pos (by rw [c]), ⟨rfl, rfl, x1.trans hb1⟩, fun k K again hk => by rw [pre K again k, if_pos c]⟩⟩
  ·exact ⟨0, .inl ⟨false, false, _, by rw [eqStep, hi2]; exact if_neg (fun e => c (Option.some.inj e).symm), ⟨rfl, x1.trans hb1⟩, fun k K again hk => by rw [pre K again k, if_neg c]⟩⟩
 ·rintro n vs S1 ⟨rfl, rfl, x1⟩
  have hlt : ¬ (l.length : Int) < (l.length : Int) := by omega
  refine ⟨0, true, S1, ⟨rfl, x1⟩, fun k K again _ => ?_⟩
  simp only [m157_l0, unD_cons, bin_lss, dR_ok, hlt, decide_false, pickD_false]
 ·rintro x S1 ⟨hx, x1⟩
  rw [eqL hlen] at hx
  rw [hx]
  exact Ok.ret ⟨rfl, x1⟩
theorem g53 (u v : V) (l r : List Bal) (S : St) (w : WF S) (hs : Sl S 2 u (l.map Bal.enc)) (ht : Sl S 2 v (r.map Bal.enc)) (hb : l.length < 1000000) :
  Gives 53 [u, v] S (.bool (decide (l = r))) := by
 refine e53 ?_
 simp only [m53, len27, hs.lenI, ht.lenI, dR_ok, guard_int, dIf_true, bin_neq]
 refine Ok.pickN (fun h => Ok.ret ⟨?_, Ext.refl S⟩) (fun h => ?_)
 ·rw [decide_eq_false (fun e => h (by rw [e]))]
 have hlen : l.length = r.length := by omega
 refine Ok.loop (F := fun k K => m53_l0 (callD prog dPl dLv k) k K u v (.int .i64 l.length)) (ρ := Bool) (α := Bal) (X := Bool) l (step := eqStep r) (fin := fun _ => true) (out := fun k K x S' => K (.bool x) S') (s := 0)
  (fun i n vs S' => n = i ∧ vs = [.bool false, .int .i64 (i : Int)] ∧ Ext S S') (fun r x S' => r = x ∧ Ext S S') ?_ ?_ ⟨rfl, rfl, Ext.refl S⟩ ?_
 ·rintro i s n vs S1 ⟨rfl, rfl, x1⟩ hi
  have hil : n < l.length := (List.getElem?_eq_some_iff.1 hi).1
  have hlt : (n : Int) < (l.length : Int) := by omega
  have hw : wr .i64 ((n : Int) + 1) = ((n + 1 : Nat) : Int) := by rw [wr64 (by omega) (by omega)]; omega
  obtain ⟨s2, hi2⟩ : ∃ s2, r[n]? = some s2 := ⟨r[n]'(by omega), List.getElem?_eq_getElem (by omega)⟩
  have hb1 := (Ext.refl S1).bump 9
  obtain ⟨p, hp, hat, hl5, _⟩ := (hs.ext x1).elem hi
  obtain ⟨p2, hp2, hat2, hl52, _⟩ := (ht.ext x1).elem hi2
  have y1 := (hat.ext hb1).load0 (some 2)
  have y2 := (hat2.ext hb1).load0 (some 2)
  rw [partW_all _ _ hl5] at y1
  rw [partW_all _ _ hl52] at y2
  have pre : ∀ (K : KS) (again : List V → St → An) (k : Nat), m53_l0 (callD prog dPl dLv k) k K u v (.int .i64 l.length) [.bool false, .int .i64 (n : Int)] S1 again =
    if s = s2 then again [.bool false, .int .i64 ((n + 1 : Nat) : Int)] (⟨S1.next + 9, S1.heap⟩ : St) else K (.bool false) (⟨S1.next + 9, S1.heap⟩ : St) := by
   intro K again k
   simp only [m53_l0, unD_cons, bin_lss, dR_ok, hlt, decide_true, pickD_true, ix27, hp, hp2, ld96, y1, y2, gd96', dIf_true, bal_neq, bin_add, hw, pickD_bool, Bool.not_eq_true', decide_eq_false_iff_not, ite_not, if_true]
  by_cases c : s = s2
  ·exact ⟨0, .inr ⟨n + 1, _, _, by rw [eqStep, hi2]; exact if_pos (by rw [c]), ⟨rfl, rfl, x1.trans hb1⟩, fun k K again hk => by rw [pre K again k, if_pos c]⟩⟩
  ·exact ⟨0, .inl ⟨false, false, _, by rw [eqStep, hi2]; exact if_neg (fun e => c (Option.some.inj e).symm), ⟨rfl, x1.trans hb1⟩, fun k K again hk => by rw [pre K again k, if_neg c]⟩⟩
 ·rintro n vs S1 ⟨rfl, rfl, x1⟩
  have hlt : ¬ (l.length : Int) < (l.length : Int) := by omega
  refine ⟨0, true, S1, ⟨rfl, x1⟩, fun k K again _ => ?_⟩
  simp only [m53_l0, unD_cons, bin_lss, dR_ok, hlt, decide_false, pickD_false]
 ·rintro x S1 ⟨hx, x1⟩
  rw [eqL hlen] at hx
  rw [hx]
  exact Ok.ret ⟨rfl, x1⟩
def blkOf : V → Option Nat
 | .sl a _ _ _ _ => some a
 | _ => none
theorem Own_lt {S0 S : St} {n : Nat} {v : V} {es : List (List V)} (h : Own S0 S n v es) {y : Nat} (hy : blkOf v = some y) : S0.next ≤ y ∧ y < S.next := by
 rcases h.is with ⟨e1, _⟩ | ⟨a, ver, tl, e1, e2, e3, _⟩
 ·rw [e1] at hy; cases hy
 ·rw [e1] at hy; cases hy; exact ⟨e2, e3⟩
theorem _root_.Go.AM.Own.same {S0 S S' : St} {n : Nat} {v : V} {es : List (List V)} (h : Own S0 S n v es) (hn : S.next ≤ S'.next) (hg : ∀ a, blkOf v = some a → S'.heap.get a = S.heap.get a) : Own S0 S' n v es :=
 h.other hn fun a ver m hv => hg a (by rw [hv]; rfl)
theorem _root_.Go.AM.Own.pushAt {S0 S : St} {n b : Nat} {v : V} {es : List (List V)} (h : Own S0 S n v es) (x : Ext S0 S) (w : WF S0) {u : V} {cs : List (List V)} (hu : elemsOf S u = .ok cs) (hc : ∀ c, c ∈ cs → c.length = n ∧ allOne c = true) (hne : cs ≠ [])
  {k : Nat} (hk : S0.next ≤ k) (hk2 : k < S.next) (hk3 : S.heap.get k = none)
  (h1 : (es.length + cs.length) * b ≤ 35184372088832) (h2 : es.length + cs.length < lim) : ∃ v' S', appW n b v u (some k) S = .ok (v', S') ∧ Ext S0 S' ∧ S'.next = S.next ∧ Own S0 S' n v' (es ++ cs) ∧ (blkOf v' = some k ∨ blkOf v' = blkOf v) ∧ ∀ y, y ≠ k → blkOf v ≠ some y → S'.heap.get y = S.heap.get y := by
 obtain ⟨a1, a2⟩ := allLen_of hc
 have hlen : ∀ c, c ∈ es ++ cs → c.length = n ∧ allOne c = true := fun c hm => (List.mem_append.1 hm).elim (h.len c) (hc c)
 rcases h.is with ⟨rfl, rfl⟩ | ⟨a, ver, tl, rfl, q1, q2, q3⟩
 ·cases cs with
  | nil => exact absurd rfl hne
  | cons c cs =>
   refine ⟨.sl k 0 n 0 (c :: cs).length, ⟨S.next, S.heap.put k (.row 0 n (c :: cs))⟩, ?_, x.trans (Ext.newAt hk3 hk2 _), rfl, ⟨.inr ⟨k, 0, [], rfl, hk, hk2, ?_⟩, hlen⟩, .inl rfl, fun y hy _ => Tr.get_put_neB _ _ _ _ trivial hy⟩
   ·simp only [List.length_nil, Nat.zero_add] at h1 h2
    simp only [appW, hu, a1, a2, and_self, if_true, h1, h2, newBlk_at]
   ·rw [List.append_nil]; exact Tr.get_put_sameB _ _ _ trivial
 ·have hb : 0 + es.length ≤ es.length + tl.length := by omega
  refine ⟨.sl a (ver + 1) n 0 (es ++ cs).length, ⟨S.next, S.heap.put a (.row (ver + 1) n (es ++ cs))⟩, ?_, x.set q1 q2 w _, rfl, ⟨.inr ⟨a, ver + 1, [], rfl, q1, q2, ?_⟩, hlen⟩, .inr rfl, fun y _ hy => Tr.get_put_neB _ _ _ _ trivial (fun e => hy (by rw [e]; rfl))⟩
  ·simp only [appW, hu, a1, a2, and_self, if_true, row_get q3, hb, h1, h2, List.drop_zero, List.take_left', List.length_append]
  ·rw [List.append_nil]; exact Tr.get_put_sameB _ _ _ trivial
theorem int_block (S : St) (n : Int) : buildSliceW 1 [.int .i64 0] 1 [(0, .int .i64 n)] none S = .ok (.sl S.next 0 1 0 1, ⟨S.next + 1, S.heap.put S.next (.row 0 1 [intEnc n])⟩) := by
 unfold buildSliceW
 rw [if_pos (by omega)]
 simp only [newBlk_none]
 rfl
theorem int_blockAt (S : St) (k : Nat) (n : Int) : buildSliceW 1 [.int .i64 0] 1 [(0, .int .i64 n)] (some k) S = .ok (.sl k 0 1 0 1, ⟨S.next, S.heap.put k (.row 0 1 [intEnc n])⟩) := by
 unfold buildSliceW
 rw [if_pos (by omega)]
 simp only [newBlk_at]
 rfl
theorem int_block2 (S : St) (n m : Int) : buildSliceW 1 [.int .i64 0] 2 [(0, .int .i64 n), (1, .int .i64 m)] none S = .ok (.sl S.next 0 1 0 2, ⟨S.next + 1, S.heap.put S.next (.row 0 1 [intEnc n, intEnc m])⟩) := by
 unfold buildSliceW
 rw [if_pos (by omega)]
 simp only [newBlk_none]
 rfl
theorem free_at {S : St} (w : WF S) (c k : Nat) (hk : S.next ≤ k) : (⟨S.next + c, S.heap⟩ : St).heap.get k = none := by
 cases hq : S.heap.get k with
 | none => rfl
 | some b => have := w k b hq; omega
theorem ints_len {l : List Int} : (l.map intEnc).length = l.length := List.length_map ..
theorem one_int (n : Int) : ∀ c, c ∈ [intEnc n] → c.length = 1 ∧ allOne c = true := fun c h => by
 rcases List.mem_singleton.1 h with rfl
 exact ⟨rfl, rfl⟩
theorem push_intAt {S0 S : St} {v : V} {l : List Int} (h : Own S0 S 1 v (l.map intEnc)) (x : Ext S0 S) (w : WF S0) (n : Int) {k k2 : Nat} (hk : S0.next ≤ k) (hk2 : k < S.next) (hk3 : S.heap.get k = none)
  (hj : S0.next ≤ k2) (hj2 : k2 < S.next) (hj3 : S.heap.get k2 = none) (hne : k ≠ k2) (hl : l.length < 1000000) :
  ∃ u v' S1 S', buildSliceW 1 [.int .i64 0] 1 [(0, .int .i64 n)] (some k) S = .ok (u, S1) ∧ appW 1 8 v u (some k2) S1 = .ok (v', S') ∧ Ext S0 S' ∧ S'.next = S.next ∧ Own S0 S' 1 v' ((l ++ [n]).map intEnc) ∧ (blkOf v' = some k2 ∨ blkOf v' = blkOf v) ∧ (∀ y, y ≠ k → y ≠ k2 → blkOf v ≠ some y → S'.heap.get y = S.heap.get y) := by
 have hx1 : Ext S (⟨S.next, S.heap.put k (.row 0 1 [intEnc n])⟩ : St) := Ext.newAt hk3 hk2 _
 have hel : elemsOf (⟨S.next, S.heap.put k (.row 0 1 [intEnc n])⟩ : St) (.sl k 0 1 0 1) = .ok [intEnc n] := by
  simp only [elemsOf, getRow_put]
  rfl
 have hfree : (⟨S.next, S.heap.put k (.row 0 1 [intEnc n])⟩ : St).heap.get k2 = none := by
  rw [← hj3]; exact Tr.get_put_neB _ _ _ _ trivial (Ne.symm hne)
 obtain ⟨v', S', q1, q2, q3, q4, q5, q6⟩ := (h.ext hx1).pushAt (b := 8) (x.trans hx1) w hel (one_int n) (by simp) hj hj2 hfree (by rw [ints_len]; simp only [List.length_cons, List.length_nil]; omega) (by rw [ints_len]; simp only [List.length_cons, List.length_nil]; unfold lim; omega)
 refine ⟨_, v', _, S', int_blockAt S k n, q1, q2, q3, by rw [List.map_append]; exact q4, q5, fun y h1 h2 h3 => ?_⟩
 rw [q6 y h2 h3]
 exact Tr.get_put_neB _ _ _ _ trivial h1
def sumsM (t : Total) : Bool :=
 if (exactM (t.parts.map (·.net))).2 = true then (if (exactM (t.parts.map (·.tax))).2 = true then (if (exactM [t.net, t.tax]).2 = true then
  (if (exactM (t.parts.map (·.net))).1 = t.net then (if (exactM (t.parts.map (·.tax))).1 = t.tax then decide ((exactM [t.net, t.tax]).1 = t.gross) else false) else false) else false) else false) else false
def sumStep (st : List Int × List Int) (p : Part) : (List Int × List Int) ⊕ (List Int × List Int) := .inr (st.1 ++ [p.net], st.2 ++ [p.tax])
theorem sumL : ∀ (l : List Part) (a b : List Int), runL sumStep id l (a, b) = (a ++ l.map (·.net), b ++ l.map (·.tax))
 | [], a, b => by simp [runL]
 | p :: l, a, b => by simp only [runL, sumStep]; rw [sumL l]; simp
theorem g130 (t : Total) (pv : V) (S : St) (w : WF S) (hs : Sl S 4 pv (t.parts.map Part.enc)) (hb : t.parts.length ≤ 100000) : Gives 130 [.agg (t.cells pv)] S (.bool (sumsM t)) := by
 refine e130 ?_
 have ho : allOne (t.cells pv) = true := Total.one t hs.one
 have hl : (t.cells pv).length = 4 := rfl
 have hx1 := Ext.new w (.row 0 4 [t.cells pv])
 have v0 : loadW none (.ptr S.next 0 0 (0 + 0)) (⟨S.next + 1, S.heap.put S.next (.row 0 4 [t.cells pv])⟩ : St) = .ok (.int .i64 t.net) := by rw [load_put]; rfl
 have v1 : loadW none (.ptr S.next 0 0 (0 + 1)) (⟨S.next + 1, S.heap.put S.next (.row 0 4 [t.cells pv])⟩ : St) = .ok (.int .i64 t.tax) := by rw [load_put]; rfl
 have v2 : loadW none (.ptr S.next 0 0 (0 + 2)) (⟨S.next + 1, S.heap.put S.next (.row 0 4 [t.cells pv])⟩ : St) = .ok (.int .i64 t.gross) := by rw [load_put]; rfl
 have v3 : loadW none (.ptr S.next 0 0 (0 + 3)) (⟨S.next + 1, S.heap.put S.next (.row 0 4 [t.cells pv])⟩ : St) = .ok pv := by rw [load_put]; rfl
 simp only [m130, agg_cells, ho, hl, dIf_true, newBlk_none, dR_ok, fa60_3, adv_ptr, ld58, v3, len58, hs.lenI]
 generalize (⟨S.next + 1, S.heap.put S.next (.row 0 4 [t.cells pv])⟩ : St) = S1 at hx1 v0 v1 v2 v3
 refine Ok.loop (F := fun k K => m130_l0 (callD prog dPl dLv k) k K (.ptr S.next 0 0 0) pv (.int .i64 t.parts.length)) (ρ := List Int × List Int) (α := Part) (X := V × V) t.parts (step := sumStep) (fin := id) (s := ([], []))
  (out := fun k K x S' => callD prog dPl dLv k 63 [x.1] S' fun t19 S20 =>
tupD t19 0 fun t21 =>
tupD t19 1 fun t22 =>
callD prog dPl dLv k 63 [x.2] S20 fun t23 S24 =>
tupD t23 0 fun t25 =>
tupD t23 1 fun t26 =>
dR (fieldAddrV prog 60 (.ptr S.next 0 0 0) 0) fun t27 =>
dR (loadV prog 3 t27 S24) fun t28 =>
dR (fieldAddrV prog 60 (.ptr S.next 0 0 0) 1) fun t29 =>
dR (loadV prog 3 t29 S24) fun t30 =>
dR (buildSliceV prog 64 2 [(0, t28), (1, t30)] none S24) fun r31 =>
callD prog dPl dLv k 63 [r31.1] r31.2 fun t32 S33 =>
tupD t32 0 fun t34 =>
tupD t32 1 fun t35 =>
pickD t22 (pickD t26 (pickD t35 (dR (fieldAddrV prog 60 (.ptr S.next 0 0 0) 0) fun t36 =>
dR (loadV prog 3 t36 S33) fun t37 =>
dIf (guardP prog 3 t21 t37) (dR (binV prog .eql 3 t21 t37) fun t38 =>
pickD t38 (dR (fieldAddrV prog 60 (.ptr S.next 0 0 0) 1) fun t39 =>
dR (loadV prog 3 t39 S33) fun t40 =>
dIf (guardP prog 3 t25 t40) (dR (binV prog .eql 3 t25 t40) fun t41 =>
pickD t41 (dR (fieldAddrV prog 60 (.ptr S.next 0 0 0) 2) fun t42 =>
dR (loadV prog 3 t42 S33) fun t43 =>
dIf (guardP prog 3 t34 t43) (dR (binV prog .eql 3 t34 t43) fun t44 =>
K t44 S33)) (K (.bool false) S33))) (K (.bool false) S33))) (K (.bool false) S33)) (K (.bool false) S33)) (K (.bool false) S33))
  (fun i st vs S' => ∃ nv tv, vs = [nv, tv, .int .i64 (i : Int)] ∧ Ext S S' ∧ Ext S1 S' ∧ Own S1 S' 1 nv (st.1.map intEnc) ∧ Own S1 S' 1 tv (st.2.map intEnc) ∧ (∀ y, blkOf nv = some y → blkOf tv ≠ some y) ∧ st.1.length = i ∧ st.2.length = i)
  (fun r x S' => Ext S S' ∧ Ext S1 S' ∧ Own S1 S' 1 x.1 (r.1.map intEnc) ∧ Own S1 S' 1 x.2 (r.2.map intEnc) ∧ r.1.length = t.parts.length ∧ r.2.length = t.parts.length) ?_ ?_ ⟨.nils, .nils, rfl, hx1, Ext.refl _, Own.nil _ _ _, Own.nil _ _ _, (fun y h => nomatch h), rfl, rfl⟩ ?_
 ·rintro i p ⟨ns, ts⟩ vs S3 ⟨nv, tv, rfl, x3, x13, hn, ht, hap, hln, hlt'⟩ hi
  simp only at hn ht hln hlt'
  have hil : i < t.parts.length := (List.getElem?_eq_some_iff.1 hi).1
  have hlt : (i : Int) < (t.parts.length : Int) := by omega
  have hw : wr .i64 ((i : Int) + 1) = ((i + 1 : Nat) : Int) := by rw [wr64 (by omega) (by omega)]; omega
  have w1 := hx1.wf w
  have w3 := x3.wf w
  obtain ⟨q, hp, hld, hst, hxv, hv⟩ := (hs.ext x3).var w3 hi [.str [],.int .i64 0,.int .i64 0,.int .i64 0] rfl
  have hnx : (S3.var 4 [.str [],.int .i64 0,.int .i64 0,.int .i64 0] p.enc).next = S3.next + 1 := rfl
  generalize S3.var 4 [.str [],.int .i64 0,.int .i64 0,.int .i64 0] p.enc = S4 at hst hxv hv hnx
  have x04 := x3.trans hxv
  have w4 := x04.wf w
  have hb12 := (Ext.refl S4).bump 12
  have u2 : loadW none (.ptr S3.next 0 0 (0 + 2)) (⟨S4.next + 12, S4.heap⟩ : St) = .ok (.int .i64 p.net) := by rw [hv _ hb12]; rfl
  have u3 : loadW none (.ptr S3.next 0 0 (0 + 3)) (⟨S4.next + 12, S4.heap⟩ : St) = .ok (.int .i64 p.tax) := by rw [hv _ hb12]; rfl
  have hr3 : S3.next < S4.next := by omega
  have fr := fun k (hk : S4.next ≤ k) => free_at w4 12 k hk
  have x14 := x13.trans hxv
  have x1b := x14.trans hb12
  have hn4 := (hn.ext hxv).ext hb12
  have ht4 := (ht.ext hxv).ext hb12
  have hS1 : S1.next ≤ S4.next := x14.next
  have hlb : (⟨S4.next + 12, S4.heap⟩ : St).next = S4.next + 12 := rfl
  have hvb := fun (S' : St) (e : Ext (⟨S4.next + 12, S4.heap⟩ : St) S') => hv S' (hb12.trans e)
  generalize hSb : (⟨S4.next + 12, S4.heap⟩ : St) = Sb at u2 u3 fr x1b hn4 ht4 hlb hvb hb12
  obtain ⟨c1, nv', S5, S6, q1, q2, q3, q4, q5, q6, q7⟩ := push_intAt hn4 x1b w1 p.net (k := S4.next + 3) (k2 := S4.next + 4) (by omega) (by omega) (fr _ (by omega)) (by omega) (by omega) (fr _ (by omega)) (by omega) (by omega)
  have hnlt : ∀ y, blkOf nv = some y → y < S3.next := fun y hy => (Own_lt hn hy).2
  have htlt : ∀ y, blkOf tv = some y → y < S3.next := fun y hy => (Own_lt ht hy).2
  have hSame : ∀ y, y ≠ S4.next + 3 → y ≠ S4.next + 4 → blkOf nv ≠ some y → S6.heap.get y = Sb.heap.get y := q7
  have u3' : loadW none (.ptr S3.next 0 0 (0 + 3)) S6 = .ok (.int .i64 p.tax) := by
   rw [← u3]
   simp only [loadW]
   rw [row_same (hSame S3.next (by omega) (by omega) (fun e => by have := hnlt _ e; omega))]
  have ht6 : Own S1 S6 1 tv (ts.map intEnc) := ht4.same (by omega) (fun a ha => hSame a (by have := htlt a ha; omega) (by have := htlt a ha; omega) (fun e => hap a e ha))
  have fr6 : ∀ k, S4.next + 4 < k → S6.heap.get k = none := fun k hk => by rw [hSame k (by omega) (by omega) (fun e => by have := hnlt _ e; omega)]; exact fr k (by omega)
  obtain ⟨c2, tv', S7, S8, r1, r2, r3, r4, r5, r6, r7⟩ := push_intAt ht6 q3 w1 p.tax (k := S4.next + 8) (k2 := S4.next + 9) (by omega) (by omega) (fr6 _ (by omega)) (by omega) (by omega) (fr6 _ (by omega)) (by omega) (by omega)
  have hn8 : Own S1 S8 1 nv' ((ns ++ [p.net]).map intEnc) := q5.same (by omega) (fun a ha => r7 a (by
    rcases q6 with e | e
    ·rw [e] at ha; have e1 := Option.some.inj ha; omega
    ·rw [e] at ha; have := hnlt a ha; omega) (by
    rcases q6 with e | e
    ·rw [e] at ha; have e1 := Option.some.inj ha; omega
    ·rw [e] at ha; have := hnlt a ha; omega) (fun e' => by
    rcases q6 with e | e
    ·rw [e] at ha; have e1 := Option.some.inj ha; have := htlt _ e'; omega
    ·rw [e] at ha; exact hap a ha e'))
  have hap' : ∀ y, blkOf nv' = some y → blkOf tv' ≠ some y := fun y hy e' => by
   rcases q6 with e | e <;> rcases r6 with f | f
   ·rw [e] at hy; rw [f] at e'; have e1 := Option.some.inj hy; have e2 := Option.some.inj e'; omega
   ·rw [e] at hy; rw [f] at e'; have e1 := Option.some.inj hy; have := htlt _ e'; omega
   ·rw [e] at hy; rw [f] at e'; have e1 := Option.some.inj e'; have := hnlt _ hy; omega
   ·rw [e] at hy; rw [f] at e'; exact hap y hy e'
  have x08 : Ext S S8 := hx1.trans r3
  refine ⟨0, .inr ⟨(ns ++ [p.net], ts ++ [p.tax]), [nv', tv', .int .i64 ((i + 1 : Nat) : Int)], S8, rfl, ⟨nv', tv', rfl, x08, r3, hn8, r5, hap', by simp [hln], by simp [hlt']⟩, fun k K again _ => ?_⟩⟩
  simp only [m130_l0, unD_cons, bin_lss, dR_ok, hlt, decide_true, pickD_true, ix58, hp, ld113, hld, newBlk_none, st113, hst, fa113_2, fa113_3, adv_ptr, ld3, hSb, u2, u3, bs64, q1, app64, q2, u3', beqV_int, dIf_true, r1, r2, bin_add, hw]
 ·rintro ⟨ns, ts⟩ vs S3 ⟨nv, tv, rfl, x3, x13, hn, ht, hap, hln, hlt'⟩
  have hlt : ¬ (t.parts.length : Int) < (t.parts.length : Int) := by omega
  refine ⟨0, (nv, tv), S3, ⟨x3, x13, hn, ht, hln, hlt'⟩, fun k K again _ => ?_⟩
  simp only [m130_l0, unD_cons, bin_lss, dR_ok, hlt, decide_false, pickD_false]
 ·rintro ⟨nv, tv⟩ S3 ⟨x3, x13, hn, ht, hln, hlt'⟩
  rw [sumL] at hn ht hln hlt'
  simp only [List.nil_append] at hn ht hln hlt'
  have w3 := x3.wf w
  refine (g63 nv _ S3 w3 hn.sl (by omega)).call fun S4 x4 => ?_
  simp only [tupD_tup, List.getElem?_cons_zero, List.getElem?_cons_succ, dO_ok]
  refine (g63 tv _ S4 (x4.wf w3) (ht.sl.ext x4) (by omega)).call fun S5 x5 => ?_
  have x15 := x13.trans (x4.trans x5)
  have hnew := Ext.new (x15.wf (hx1.wf w)) (.row 0 1 [intEnc t.net, intEnc t.tax])
  have hsl : Sl (⟨S5.next + 1, S5.heap.put S5.next (.row 0 1 [intEnc t.net, intEnc t.tax])⟩ : St) 1 (.sl S5.next 0 1 0 2) ([t.net, t.tax].map intEnc) :=
   ⟨.inr (.inr ⟨S5.next, 0, 0, [intEnc t.net, intEnc t.tax], rfl, getRow_put _ _ _ _ _ _, by simp, rfl⟩), fun c h => by
    rcases List.mem_cons.1 h with rfl | h
    ·exact ⟨rfl, rfl⟩
    ·rcases List.mem_cons.1 h with rfl | h
     ·exact ⟨rfl, rfl⟩
     ·cases h⟩
  simp only [tupD_tup, List.getElem?_cons_zero, List.getElem?_cons_succ, dO_ok, fa60_0, fa60_1, fa60_2, adv_ptr, dR_ok, ld3, load_ext x15 v0, load_ext x15 v1, bs64, int_block2]
  generalize (⟨S5.next + 1, S5.heap.put S5.next (.row 0 1 [intEnc t.net, intEnc t.tax])⟩ : St) = S6 at hnew hsl
  have x16 := x15.trans hnew
  refine (g63 _ _ S6 (x16.wf (hx1.wf w)) hsl (by simp)).call fun S7 x7 => ?_
  have x17 := x16.trans x7
  have x07 := hx1.trans x17
  simp only [tupD_tup, List.getElem?_cons_zero, List.getElem?_cons_succ, dO_ok, ld3, load_ext x17 v0, load_ext x17 v1, load_ext x17 v2, dR_ok, guard_int, dIf_true, bin_eql]
  unfold sumsM
  refine Ok.pick (fun h1 => ?_) (fun h1 => ?_)
  ·rw [if_pos h1]
   refine Ok.pick (fun h2 => ?_) (fun h2 => ?_)
   ·rw [if_pos h2]
    refine Ok.pick (fun h3 => ?_) (fun h3 => ?_)
    ·rw [if_pos h3]
     refine Ok.pickP (fun h4 => ?_) (fun h4 => ?_)
     ·rw [if_pos h4]
      refine Ok.pickP (fun h5 => ?_) (fun h5 => ?_)
      ·rw [if_pos h5]
       exact Ok.ret ⟨rfl, x07⟩
      ·rw [if_neg h5]
       exact Ok.ret ⟨rfl, x07⟩
     ·rw [if_neg h4]
      exact Ok.ret ⟨rfl, x07⟩
    ·rw [if_neg (by rw [h3]; simp)]
     exact Ok.ret ⟨rfl, x07⟩
   ·rw [if_neg (by rw [h2]; simp)]
    exact Ok.ret ⟨rfl, x07⟩
  ·rw [if_neg (by rw [h1]; simp)]
   exact Ok.ret ⟨rfl, x07⟩
def partAfter (prev : Option Part) (s : Part) : Bool := match prev with
 | none => false
 | some p => !ltB p.cat s.cat
def partBad (s : Part) : Bool := decide (s.bp < 0) || decide (100000 < s.bp)
def partTax (s : Part) : Bool := !decide ((shareM s.net s.bp).2 = 0) || !decide ((shareM s.net s.bp).1 = s.tax)
def partStep (prev : Option Part) (s : Part) : Bool ⊕ Option Part :=
 if nameM s.cat = false then .inl false else if partAfter prev s = true then .inl false else if partBad s = true then .inl false else if partTax s = true then .inl false else .inr (some s)
def okTotal (t : Total) : Bool := if t.parts.length < 1 then false else if 12 < t.parts.length then false else runL partStep (fun _ => sumsM t) t.parts none
theorem g90 (t : Total) (pv : V) (S : St) (w : WF S) (hs : Sl S 4 pv (t.parts.map Part.enc)) : Gives 90 [.agg (t.cells pv)] S (.bool (okTotal t)) := by
  refine e90 ?_
  have ho : allOne (t.cells pv) = true := Total.one t hs.one
  have hl : (t.cells pv).length = 4 := rfl
  have hx1 := Ext.new w (.row 0 4 [t.cells pv])
  have vv : loadW none (.ptr S.next 0 0 (0 + 3)) (⟨S.next + 1, S.heap.put S.next (.row 0 4 [t.cells pv])⟩ : St) = .ok pv := by rw [load_put]; rfl
  have va : loadW (some 4) (.ptr S.next 0 0 0) (⟨S.next + 1, S.heap.put S.next (.row 0 4 [t.cells pv])⟩ : St) = .ok (.agg (t.cells pv)) := by rw [load_put]; rfl
  simp only [m90, agg_cells, ho, hl, dIf_true, newBlk_none, dR_ok, fa60_3, adv_ptr, ld58, vv, len58, hs.lenI, bin_lss, bin_gtr]
  generalize (⟨S.next + 1, S.heap.put S.next (.row 0 4 [t.cells pv])⟩ : St) = S0 at hx1 vv va
  refine Ok.pickP (fun h => Ok.ret ⟨by simp [okTotal, show t.parts.length < 1 by omega], hx1⟩) (fun h1 => ?_)
  refine Ok.pickP (fun h => Ok.ret ⟨by simp [okTotal, show ¬ t.parts.length < 1 by omega, show 12 < t.parts.length by omega], hx1⟩) (fun h12 => ?_)
  have h1' : ¬ t.parts.length < 1 := by omega
  have h12' : ¬ 12 < t.parts.length := by omega
  have w0 := hx1.wf w
  have hs0 := hs.ext hx1
  refine Ok.loop (F := fun k K => m90_l0 (callD prog dPl dLv k) k K (.ptr S.next 0 0 0) pv (.int .i64 t.parts.length)) (ρ := Bool) (α := Part) (X := Option Bool) t.parts (step := partStep) (fin := fun _ => sumsM t)
    (out := fun k K x S' => match x with
      | some b => K (.bool b) S'
      | none => dR (loadV prog 60 (.ptr S.next 0 0 0) S') fun t57 => callD prog dPl dLv k 130 [t57] S' fun t58 S59 => K t58 S59) (s := none)
    (fun i prev vs S' => vs = [.bool false, .int .i64 (i : Int)] ∧ Ext S0 S' ∧ prev = prevAt t.parts i) (fun r x S' => (match x with
      | some b => r = b
      | none => r = sumsM t) ∧ Ext S0 S') ?_ ?_ ⟨rfl, Ext.refl S0, rfl⟩ ?_
  · rintro i s prev vs S1 ⟨rfl, x1, hprev⟩ hi
    have hil : i < t.parts.length := (List.getElem?_eq_some_iff.1 hi).1
    have hlt : (i : Int) < (t.parts.length : Int) := by omega
    have hw : wr .i64 ((i : Int) + 1) = ((i + 1 : Nat) : Int) := by rw [wr64 (by omega) (by omega)]; omega
    obtain ⟨p, hp, hld, hst, hxv, hv⟩ := (hs0.ext x1).var (x1.wf w0) hi [.str [],.int .i64 0,.int .i64 0,.int .i64 0] rfl
    generalize S1.var 4 [.str [],.int .i64 0,.int .i64 0,.int .i64 0] s.enc = S2 at hst hxv hv
    have hb : Ext S2 ⟨S2.next + 30, S2.heap⟩ := (Ext.refl S2).bump 30
    obtain ⟨N1, S3, x3, h3⟩ := (g88 s.cat (⟨S2.next + 30, S2.heap⟩ : St) ((x1.trans (hxv.trans hb)).wf w0)).get
    have x13 := x1.trans (hxv.trans (hb.trans x3))
    have v0' : loadW none (.ptr S1.next 0 0 (0 + 0)) (⟨S2.next + 30, S2.heap⟩ : St) = .ok (.str s.cat) := by rw [hv _ hb]; rfl
    have v0 : loadW none (.ptr S1.next 0 0 (0 + 0)) S3 = .ok (.str s.cat) := by rw [hv _ (hb.trans x3)]; rfl
    have v1 : loadW none (.ptr S1.next 0 0 (0 + 1)) S3 = .ok (.int .i64 s.bp) := by rw [hv _ (hb.trans x3)]; rfl
    have v2 : loadW none (.ptr S1.next 0 0 (0 + 2)) S3 = .ok (.int .i64 s.net) := by rw [hv _ (hb.trans x3)]; rfl
    have vp : loadW none (.ptr S.next 0 0 (0 + 3)) S3 = .ok pv := load_ext x13 vv
    obtain ⟨N2, S4, x4, h4⟩ := (g129 s.net s.bp S3 (x13.wf w0)).get
    have v3 : loadW none (.ptr S1.next 0 0 (0 + 3)) S4 = .ok (.int .i64 s.tax) := by rw [hv _ (hb.trans (x3.trans x4))]; rfl
    have x14 := x13.trans x4
    have hj : ∀ (K : KS) (again : List V → St → An) (k : Nat), N2 ≤ k → m90_j0 (callD prog dPl dLv k) k K again (.ptr S.next 0 0 0) (.bool false) (.ptr S1.next 0 0 0) pv (.int .i64 t.parts.length) (.int .i64 (i : Int)) S3 =
        if partTax s = true then K (.bool false) S4 else again [.bool false, .int .i64 ((i + 1 : Nat) : Int)] S4 := by
      intro K again k hk
      simp only [m90_j0, fa113_1, fa113_2, adv_ptr, dR_ok, ld3, v1, v2]
      rw [h4 k _ hk]
      simp only [pairV, tupD_tup, List.getElem?_cons_zero, List.getElem?_cons_succ, dO_ok, guard_int, dIf_true, bin_neq, dR_ok, fa113_3, adv_ptr, ld3, v3, bin_add, hw, partTax]
      by_cases c1 : (shareM s.net s.bp).2 = 0
      · by_cases c2 : (shareM s.net s.bp).1 = s.tax
        · simp only [c1, c2, decide_true, Bool.not_true, pickD_false, Bool.or_self, Bool.false_eq_true, if_false]
        · simp only [c1, c2, decide_true, decide_false, Bool.not_true, Bool.not_false, pickD_false, pickD_true, Bool.or_true, if_true]
      · simp only [c1, decide_false, Bool.not_false, pickD_true, Bool.true_or, if_true]
    have pre : ∀ (K : KS) (again : List V → St → An) (k : Nat), max N1 N2 ≤ k → m90_l0 (callD prog dPl dLv k) k K (.ptr S.next 0 0 0) pv (.int .i64 t.parts.length) [.bool false, .int .i64 (i : Int)] S1 again =
        if nameM s.cat = false then K (.bool false) S3 else if partAfter prev s = true then K (.bool false) S3 else if partBad s = true then K (.bool false) S3 else if partTax s = true then K (.bool false) S4 else again [.bool false, .int .i64 ((i + 1 : Nat) : Int)] S4 := by
      intro K again k hk
      have hbad : ∀ (A : An), (dR (fieldAddrV prog 113 (.ptr S1.next 0 0 0) 1) fun t45 =>
dR (loadV prog 3 t45 S3) fun t46 =>
dR (binV prog .lss 3 t46 (.int .i64 0)) fun t47 =>
pickD t47 (K (.bool false) S3) (dR (fieldAddrV prog 113 (.ptr S1.next 0 0 0) 1) fun t48 =>
dR (loadV prog 3 t48 S3) fun t49 =>
dR (binV prog .gtr 3 t49 (.int .i64 100000)) fun t50 =>
pickD t50 (K (.bool false) S3) A)) = if partBad s = true then K (.bool false) S3 else A := by
        intro A
        simp only [fa113_1, adv_ptr, dR_ok, ld3, v1, bin_lss, bin_gtr, partBad]
        by_cases c1 : s.bp < 0
        · simp only [c1, decide_true, pickD_true, Bool.true_or, if_true]
        · by_cases c2 : 100000 < s.bp
          · simp only [c1, c2, decide_true, decide_false, pickD_true, pickD_false, Bool.or_true, if_true]
          · simp only [c1, c2, decide_false, pickD_false, Bool.or_self, Bool.false_eq_true, if_false]
      simp only [m90_l0, unD_cons, bin_lss, dR_ok, hlt, decide_true, pickD_true, ix58, hp, ld113, hld, newBlk_none, st113, hst, fa113_0, adv_ptr, ld9, v0']
      rw [h3 k _ (by omega)]
      cases hn : nameM s.cat with
      | false => simp only [un_not, dR_ok, Bool.not_false, pickD_true, if_true]
      | true =>
        simp only [un_not, dR_ok, Bool.not_true, pickD_false, Bool.true_eq_false, if_false, bin_gtr, fa60_3, adv_ptr, ld58, vp]
        have hbad' := hbad
        simp only [fa113_1, adv_ptr, dR_ok, ld3, v1, bin_lss, bin_gtr] at hbad'
        by_cases h0 : i = 0
        · subst h0
          have : prev = none := by rw [hprev]; rfl
          subst this
          have : ¬ (0 : Int) < ((0 : Nat) : Int) := by omega
          simp only [this, decide_false, pickD_false, partAfter, Bool.false_eq_true, if_false, fa113_1, adv_ptr, dR_ok, ld3, v1, bin_lss, bin_gtr, hbad', hj K again k (by omega)]
        · have hpos : (0 : Int) < (i : Int) := by omega
          have hm1 : wr .i64 ((i : Int) - 1) = ((i - 1 : Nat) : Int) := by rw [wr64 (by omega) (by omega)]; omega
          have hi1 : i - 1 < t.parts.length := by omega
          have hq : t.parts[i - 1]? = some t.parts[i - 1] := List.getElem?_eq_getElem hi1
          obtain ⟨p2, hp2, hat2, hl2, _⟩ := (hs0.ext x13).elem hq
          have hpv : prev = some t.parts[i - 1] := by rw [hprev]; simp [prevAt, h0, hq]
          have v3 : loadW none (adv 0 p2) S3 = .ok (.str t.parts[i - 1].cat) := by rw [hat2.load]; rfl
          subst hpv
          simp only [hpos, decide_true, pickD_true, bin_sub, hm1, dR_ok, ix58, hp2, fa113_0, hat2.advW, adv_ptr, ld9, v0, v3, str_geq, partAfter, if_true, fa113_1, ld3, v1, bin_lss, bin_gtr, hbad', hj K again k (by omega)]
          by_cases hq2 : ltB t.parts[i - 1].cat s.cat = true
          · simp only [hq2, Bool.not_true, pickD_false, Bool.false_eq_true, if_false, hbad']
          · have hq3 : ltB t.parts[i - 1].cat s.cat = false := by simpa using hq2
            simp only [hq3, Bool.not_false, pickD_true, if_true]
    by_cases hn : nameM s.cat = false
    · exact ⟨max N1 N2, .inl ⟨false, some false, S3, by simp only [partStep, hn, if_true], ⟨rfl, x13⟩, fun k K again hk => by rw [pre K again k hk, if_pos hn]⟩⟩
    · by_cases hp : partAfter prev s = true
      · exact ⟨max N1 N2, .inl ⟨false, some false, S3, by unfold partStep; rw [if_neg hn, if_pos hp], ⟨rfl, x13⟩, fun k K again hk => by rw [pre K again k hk, if_neg hn, if_pos hp]⟩⟩
      · by_cases hbad : partBad s = true
        · exact ⟨max N1 N2, .inl ⟨false, some false, S3, by unfold partStep; rw [if_neg hn, if_neg hp, if_pos hbad], ⟨rfl, x13⟩, fun k K again hk => by rw [pre K again k hk, if_neg hn, if_neg hp, if_pos hbad]⟩⟩
        · by_cases ht : partTax s = true
          · exact ⟨max N1 N2, .inl ⟨false, some false, S4, by unfold partStep; rw [if_neg hn, if_neg hp, if_neg hbad, if_pos ht], ⟨rfl, x14⟩, fun k K again hk => by rw [pre K again k hk, if_neg hn, if_neg hp, if_neg hbad, if_pos ht]⟩⟩
          · exact ⟨max N1 N2, .inr ⟨some s, _, S4, by unfold partStep; rw [if_neg hn, if_neg hp, if_neg hbad, if_neg ht], ⟨rfl, x14, by simp [prevAt, hi]⟩, fun k K again hk => by rw [pre K again k hk, if_neg hn, if_neg hp, if_neg hbad, if_neg ht]⟩⟩
  · rintro prev vs S1 ⟨rfl, x1, _⟩
    have hlt : ¬ (t.parts.length : Int) < (t.parts.length : Int) := by omega
    refine ⟨0, none, S1, ⟨rfl, x1⟩, fun k K again _ => ?_⟩
    simp only [m90_l0, unD_cons, bin_lss, dR_ok, hlt, decide_false, pickD_false]
  · rintro x S1 ⟨hx, x1⟩
    have hok : okTotal t = runL partStep (fun _ => sumsM t) t.parts none := by simp only [okTotal, h1', h12', if_false]
    cases x with
    | some b => exact Ok.ret ⟨by rw [hok, hx], hx1.trans x1⟩
    | none =>
      simp only [ld60, load_ext x1 va, dR_ok]
      refine (g130 t pv S1 (x1.wf w0) (hs0.ext x1) (by omega)).call fun S2 x2 => ?_
      exact Ok.ret ⟨by rw [hok, hx], hx1.trans (x1.trans x2)⟩
theorem g133 (a b : Total) (u v : V) (S : St) (w : WF S) (hs : Sl S 4 u (a.parts.map Part.enc)) (ht : Sl S 4 v (b.parts.map Part.enc)) (hb : a.parts.length < 1000000) : Gives 133 [.agg (a.cells u), .agg (b.cells v)] S (.bool (decide (a = b))) := by
 refine e133 ?_
 have ho : allOne (a.cells u) = true := Total.one a hs.one
 have ho2 : allOne (b.cells v) = true := Total.one b ht.one
 have hl : (a.cells u).length = 4 := rfl
 have hl2 : (b.cells v).length = 4 := rfl
 have hx1 := Ext.new w (.row 0 4 [a.cells u])
 have hx2 := Ext.new (hx1.wf w) (.row 0 4 [b.cells v])
 have hx := hx1.trans hx2
 have hr1 := hx2.row (getRow_put (S.next + 1) S.heap S.next 0 4 [a.cells u])
 have hr2 := getRow_put (S.next + 1 + 1) (S.heap.put S.next (.row 0 4 [a.cells u])) (S.next + 1) 0 4 [b.cells v]
 simp only [m133, agg_cells, ho, ho2, hl, hl2, dIf_true, newBlk_none, dR_ok]
 have hr2 : getRow (⟨S.next + 1 + 1, (S.heap.put S.next (.row 0 4 [a.cells u])).put (S.next + 1) (.row 0 4 [b.cells v])⟩ : St) (S.next + 1) 0 = .ok (4, [b.cells v]) := hr2
 have hr1 : getRow (⟨S.next + 1 + 1, (S.heap.put S.next (.row 0 4 [a.cells u])).put (S.next + 1) (.row 0 4 [b.cells v])⟩ : St) S.next 0 = .ok (4, [a.cells u]) := hr1
 have hxx : Ext S (⟨S.next + 1 + 1, (S.heap.put S.next (.row 0 4 [a.cells u])).put (S.next + 1) (.row 0 4 [b.cells v])⟩ : St) := hx
 generalize (⟨S.next + 1 + 1, (S.heap.put S.next (.row 0 4 [a.cells u])).put (S.next + 1) (.row 0 4 [b.cells v])⟩ : St) = S2 at hr1 hr2 hxx
 have a0 : loadW none (.ptr S.next 0 0 (0 + 0)) S2 = .ok (.int .i64 a.net) := by rw [load_one _ _ _ _ _ hr1]; rfl
 have a1 : loadW none (.ptr S.next 0 0 (0 + 1)) S2 = .ok (.int .i64 a.tax) := by rw [load_one _ _ _ _ _ hr1]; rfl
 have a2 : loadW none (.ptr S.next 0 0 (0 + 2)) S2 = .ok (.int .i64 a.gross) := by rw [load_one _ _ _ _ _ hr1]; rfl
 have a3 : loadW none (.ptr S.next 0 0 (0 + 3)) S2 = .ok u := by rw [load_one _ _ _ _ _ hr1]; rfl
 have b0 : loadW none (.ptr (S.next + 1) 0 0 (0 + 0)) S2 = .ok (.int .i64 b.net) := by rw [load_one _ _ _ _ _ hr2]; rfl
 have b1 : loadW none (.ptr (S.next + 1) 0 0 (0 + 1)) S2 = .ok (.int .i64 b.tax) := by rw [load_one _ _ _ _ _ hr2]; rfl
 have b2 : loadW none (.ptr (S.next + 1) 0 0 (0 + 2)) S2 = .ok (.int .i64 b.gross) := by rw [load_one _ _ _ _ _ hr2]; rfl
 have b3 : loadW none (.ptr (S.next + 1) 0 0 (0 + 3)) S2 = .ok v := by rw [load_one _ _ _ _ _ hr2]; rfl
 simp only [fa60_0, fa60_1, fa60_2, fa60_3, adv_ptr, dR_ok, ld3, ld58, a0, a1, a2, a3, b0, b1, b2, b3, guard_int, dIf_true, bin_eql]
 obtain ⟨n1, t1, g1, p1⟩ := a
 obtain ⟨n2, t2, g2, p2⟩ := b
 refine Ok.pickP (fun h1 => ?_) (fun h1 => Ok.ret ⟨by rw [decide_eq_false (fun e => h1 (by cases e; rfl))], hxx⟩)
 refine Ok.pickP (fun h2 => ?_) (fun h2 => Ok.ret ⟨by rw [decide_eq_false (fun e => h2 (by cases e; rfl))], hxx⟩)
 refine Ok.pickP (fun h3 => ?_) (fun h3 => Ok.ret ⟨by rw [decide_eq_false (fun e => h3 (by cases e; rfl))], hxx⟩)
 refine (g157 u v p1 p2 S2 (hxx.wf w) (hs.ext hxx) (ht.ext hxx) hb).call fun S3 x3 => Ok.ret ⟨?_, hxx.trans x3⟩
 simp only at h1 h2 h3
 subst h1 h2 h3
 simp
theorem p_num {S : St} {a : Nat} {p : Posted} {pv : V} (h : getRow S a 0 = .ok (12, [p.cells pv])) : loadW none (.ptr a 0 0 (0 + 0 + 1)) S = .ok (.int .i64 p.ref.num) := by rw [load_one _ _ _ _ _ h]; rfl
theorem p_day {S : St} {a : Nat} {p : Posted} {pv : V} (h : getRow S a 0 = .ok (12, [p.cells pv])) : loadW (some 3) (.ptr a 0 0 (0 + 2)) S = .ok (.agg p.day.enc) := by rw [load_one _ _ _ _ _ h]; rfl
theorem p_total {S : St} {a : Nat} {p : Posted} {pv : V} (h : getRow S a 0 = .ok (12, [p.cells pv])) : loadW (some 4) (.ptr a 0 0 (0 + 5)) S = .ok (.agg (p.total.cells pv)) := by rw [load_one _ _ _ _ _ h]; rfl
theorem p_of {S : St} {a : Nat} {p : Posted} {pv : V} (h : getRow S a 0 = .ok (12, [p.cells pv])) : loadW (some 2) (.ptr a 0 0 (0 + 9)) S = .ok (.agg p.of.enc) := by rw [load_one _ _ _ _ _ h]; rfl
theorem p_back {S : St} {a : Nat} {p : Posted} {pv : V} (h : getRow S a 0 = .ok (12, [p.cells pv])) : loadW none (.ptr a 0 0 (0 + 11)) S = .ok (.bool p.back) := by rw [load_one _ _ _ _ _ h]; rfl
theorem p_all {S : St} {a : Nat} {p : Posted} {pv : V} (h : getRow S a 0 = .ok (12, [p.cells pv])) : loadW (some 12) (.ptr a 0 0 0) S = .ok (.agg (p.cells pv)) := by rw [load_one _ _ _ _ _ h]; rfl
def takesM (p fr : Posted) : Bool := if fr.of = Ref.zero then (if p.day.before fr.day = false then (if (backM fr.total).2 = 0 then decide ((backM fr.total).1 = p.total) else false) else false) else false
theorem backL_len : ∀ (l a : List Part) (r : List Part × Int), runL backStep (fun l => (l, 0)) l a = r → r.1.length ≤ a.length + l.length
 | [], a, r, h => by subst h; simp [runL]
 | x :: l, a, r, h => by
  simp only [runL] at h
  split at h
  ·rename_i r' he
   subst h
   unfold backStep at he
   split at he
   ·cases he; simp
   ·cases he
  ·rename_i a' he
   unfold backStep at he
   split at he
   ·cases he
   ·cases he
    have := backL_len l _ r h
    simp only [List.length_append, List.length_cons, List.length_nil] at this ⊢
    omega
theorem backM_len (t : Total) : (backM t).1.parts.length ≤ t.parts.length := by
 unfold backM
 split
 ·simp [Total.zero]
 ·split
  ·simp [Total.zero]
  ·have := backL_len t.parts [] _ rfl
   simpa using this
theorem g92 (p fr : PV) (S : St) (w : WF S) (hp : Sl S 4 p.2 (p.1.total.parts.map Part.enc)) (hf : Sl S 4 fr.2 (fr.1.total.parts.map Part.enc)) (hb : fr.1.total.parts.length ≤ 100000) :
  Gives 92 [.agg (pvEnc p), .agg (pvEnc fr)] S (.bool (takesM p.1 fr.1)) := by
 refine e92 ?_
 have ho : allOne (pvEnc p) = true := pvEnc_one _ hp
 have ho2 : allOne (pvEnc fr) = true := pvEnc_one _ hf
 have hl : (pvEnc p).length = 12 := rfl
 have hl2 : (pvEnc fr).length = 12 := rfl
 have hx1 := Ext.new w (.row 0 12 [pvEnc p])
 have hx2 := Ext.new (hx1.wf w) (.row 0 12 [pvEnc fr])
 simp only [m92, agg_cells, ho, ho2, hl, hl2, dIf_true, newBlk_none, dR_ok]
 have hr1 : getRow (⟨S.next + 1 + 1, (S.heap.put S.next (.row 0 12 [pvEnc p])).put (S.next + 1) (.row 0 12 [pvEnc fr])⟩ : St) S.next 0 = .ok (12, [p.1.cells p.2]) := hx2.row (getRow_put (S.next + 1) S.heap S.next 0 12 [pvEnc p])
 have hr2 : getRow (⟨S.next + 1 + 1, (S.heap.put S.next (.row 0 12 [pvEnc p])).put (S.next + 1) (.row 0 12 [pvEnc fr])⟩ : St) (S.next + 1) 0 = .ok (12, [fr.1.cells fr.2]) := getRow_put (S.next + 1 + 1) (S.heap.put S.next (.row 0 12 [pvEnc p])) (S.next + 1) 0 12 [pvEnc fr]
 have hx : Ext S (⟨S.next + 1 + 1, (S.heap.put S.next (.row 0 12 [pvEnc p])).put (S.next + 1) (.row 0 12 [pvEnc fr])⟩ : St) := hx1.trans hx2
 generalize (⟨S.next + 1 + 1, (S.heap.put S.next (.row 0 12 [pvEnc p])).put (S.next + 1) (.row 0 12 [pvEnc fr])⟩ : St) = S2 at hr1 hr2 hx
 have w2 := hx.wf w
 simp only [fa62_2, adv_ptr, dR_ok, ld60, p_total hr2]
 refine (g120 fr.1.total fr.2 S2 w2 (hf.ext hx) hb).call fun u S3 ⟨bv, hu, x3, own3⟩ => ?_
 subst hu
 have w3 := x3.wf w2
 have hto := Total.one (backM fr.1.total).1 own3.sl.one
 have hst := store_var S3 4 [.int .i64 0,.int .i64 0,.int .i64 0,.nils] (.agg ((backM fr.1.total).1.cells bv)) rfl rfl hto
 have hxv := Ext.var w3 4 [.int .i64 0,.int .i64 0,.int .i64 0,.nils] ((backM fr.1.total).1.cells bv)
 have hrv := row_var S3 4 [.int .i64 0,.int .i64 0,.int .i64 0,.nils] ((backM fr.1.total).1.cells bv)
 rw [agg_cells] at hst
 simp only [tupD_tup, List.getElem?_cons_zero, List.getElem?_cons_succ, dO_ok, newBlk_none, dR_ok, st60, hst]
 generalize S3.var 4 [.int .i64 0,.int .i64 0,.int .i64 0,.nils] ((backM fr.1.total).1.cells bv) = S4 at hxv hrv
 have x24 := x3.trans hxv
 have w4 := x24.wf w2
 simp only [fa62_1, fa62_3, adv_ptr, dR_ok, ld43, ld38, p_of (x24.row hr2), bd43, bd43z, gd43', dIf_true, ref_eql]
 unfold takesM
 refine Ok.pickP (fun h1 => ?_) (fun h1 => by rw [if_neg h1]; exact Ok.ret ⟨rfl, hx.trans x24⟩)
 rw [if_pos h1]
 simp only [p_day (x24.row hr1), p_day (x24.row hr2), dR_ok]
 refine (g119 p.1.day fr.1.day S4 w4).call fun S5 x5 => ?_
 have x25 := x24.trans x5
 simp only [un_not, dR_ok]
 refine Ok.pick (fun h2 => ?_) (fun h2 => ?_)
 ·have h2 : p.1.day.before fr.1.day = false := by simpa using h2
  rw [if_pos h2]
  simp only [guard_int, dIf_true, bin_eql, dR_ok]
  refine Ok.pickP (fun h3 => ?_) (fun h3 => by rw [if_neg h3]; exact Ok.ret ⟨rfl, hx.trans x25⟩)
  rw [if_pos h3]
  have y1 : loadW (some 4) (.ptr S3.next 0 0 0) S5 = .ok (.agg ((backM fr.1.total).1.cells bv)) := by rw [load_one _ _ _ _ _ (x5.row hrv)]; rfl
  simp only [y1, p_total (x25.row hr1), dR_ok]
  refine (g133 (backM fr.1.total).1 p.1.total bv p.2 S5 (x5.wf w4) ((own3.sl.ext hxv).ext x5) (hp.ext (hx.trans x25)) (by have := backM_len fr.1.total; omega)).call fun S6 x6 => ?_
  exact Ok.ret ⟨rfl, (hx.trans x25).trans x6⟩
 ·have h2 : p.1.day.before fr.1.day = true := by simpa using h2
  rw [if_neg (by rw [h2]; simp)]
  exact Ok.ret ⟨rfl, hx.trans x25⟩
def bookedStep (book : List Bal) (p : Posted) : (List Bal × Int) ⊕ List Bal :=
 if (entM p.total).2 ≠ 0 then .inl ([], (entM p.total).2) else if (enterM book (entM p.total).1).2 ≠ 0 then .inl ([], (enterM book (entM p.total).1).2) else .inr (enterM book (entM p.total).1).1
def bookedM (l : List Posted) : List Bal × Int := runL bookedStep (fun b => (b, 0)) l []
theorem enterM_len (book l : List Bal) : (enterM book l).1.length ≤ book.length + l.length := by
 unfold enterM
 split
 ·simp
 ·exact enterL_len l book _ rfl
theorem entM_len (t : Total) : (entM t).1.length ≤ 1 + 2 * t.parts.length ∨ (entM t).2 ≠ 0 := by
 by_cases h : (entM t).2 = 0
 ·exact .inl (by have := entL_len t.parts _ _ rfl h; simp only [List.length_cons, List.length_nil] at this; unfold entM; omega)
 ·exact .inr h
def zs12 : List V := [.str [],.int .i64 0,.int .i64 0,.int .i64 0,.int .i64 0,.int .i64 0,.int .i64 0,.int .i64 0,.nils,.str [],.int .i64 0,.bool false]
def Fit (p : Posted) : Prop := p.total.parts.length ≤ 12 ∧ ∀ q ∈ p.total.parts, q.cat.length ≤ 1000000
theorem g52 (v : V) (l : List PV) (S : St) (w : WF S) (hpo : PartsOK S l) (hs : Sl S 12 v (l.map pvEnc)) (hb : l.length ≤ 40) (hfit : ∀ p ∈ l, Fit p.1) : Does prog dPl dLv 52 [v] S (ListOut S 2 Bal.enc (bookedM (l.map (·.1)))) := by
 refine e52 ?_
 have hrun : ∀ (l : List PV) (a : List Bal), runL (fun b (q : PV) => bookedStep b q.1) (fun b => (b, (0 : Int))) l a = runL bookedStep (fun b => (b, 0)) (l.map (·.1)) a := by
  intro l
  induction l with
  | nil => intro a; rfl
  | cons q l ih =>
   intro a
   simp only [runL, List.map_cons]
   split
   ·rfl
   ·exact ih _
 simp only [m52, len26, hs.lenI, dR_ok]
 refine Ok.loop (F := fun k K => m52_l0 (callD prog dPl dLv k) k K v (.int .i64 l.length)) (ρ := List Bal × Int) (α := PV) (X := V × Int) l (step := fun b q => bookedStep b q.1) (fin := fun b => (b, 0)) (s := [])
  (out := fun k K x S' => K (.tup [x.1, .int .i64 x.2]) S')
  (fun i book vs S' => ∃ bv, vs = [.nils, .int .i64 0, bv, .int .i64 (i : Int)] ∧ Ext S S' ∧ Own S S' 2 bv (book.map Bal.enc) ∧ book.length ≤ 25 * i)
  (fun r x S' => x.2 = r.2 ∧ Ext S S' ∧ Own S S' 2 x.1 (r.1.map Bal.enc)) ?_ ?_ ⟨.nils, rfl, Ext.refl S, Own.nil _ _ _, Nat.le_refl _⟩ ?_
 ·rintro i q book vs S3 ⟨bv, rfl, x3, hown, hlen⟩ hi
  have hil : i < l.length := (List.getElem?_eq_some_iff.1 hi).1
  have hmem := List.mem_of_getElem? hi
  obtain ⟨hf1, hf2⟩ := hfit q hmem
  have hlt : (i : Int) < (l.length : Int) := by omega
  have hw : wr .i64 ((i : Int) + 1) = ((i + 1 : Nat) : Int) := by rw [wr64 (by omega) (by omega)]; omega
  have w3 := x3.wf w
  obtain ⟨p, hp, hld, hst, hxv, hv⟩ := (hs.ext x3).var w3 hi zs12 rfl
  have hst : storeW 12 (.ptr S3.next 0 0 0) (.agg (pvEnc q)) (⟨S3.next + 1, S3.heap.put S3.next (.row 0 12 [[.str [],.int .i64 0,.int .i64 0,.int .i64 0,.int .i64 0,.int .i64 0,.int .i64 0,.int .i64 0,.nils,.str [],.int .i64 0,.bool false]])⟩ : St) = .ok (S3.var 12 zs12 (pvEnc q)) := hst
  generalize S3.var 12 zs12 (pvEnc q) = S4 at hst hxv hv
  have x04 := x3.trans hxv
  have w4 := x04.wf w
  have v0 : loadW (some 4) (.ptr S3.next 0 0 (0 + 5)) S4 = .ok (.agg (q.1.total.cells q.2)) := by rw [hv S4 (Ext.refl _)]; rfl
  obtain ⟨_, S5, N1, ⟨ev, rfl, x5, ho5⟩, h5⟩ := g95 q.1.total q.2 S4 w4 ((hpo.ext x04) q hmem) (by omega) hf2
  have x05 := x04.trans x5
  by_cases c1 : (entM q.1.total).2 ≠ 0
  ·refine ⟨N1, .inl ⟨([], (entM q.1.total).2), (.nils, (entM q.1.total).2), S5, by simp only [bookedStep, if_pos c1], ⟨rfl, x05, Own.nil _ _ _⟩, fun k K again hk => ?_⟩⟩
   simp only [m52_l0, unD_cons, bin_lss, dR_ok, hlt, decide_true, pickD_true, ix26, hp, ld62, hld, newBlk_none, st62, hst, fa62_2, adv_ptr, ld60, v0]
   refine (h5 k _ hk).trans ?_
   simp only [tupD_tup, List.getElem?_cons_zero, List.getElem?_cons_succ, dO_ok, guard_int, dIf_true, bin_neq, dR_ok, c1, decide_false, Bool.not_false, pickD_true]
  ·have c1' : (entM q.1.total).2 = 0 := by omega
   have hel := (entM_len q.1.total).resolve_right c1
   obtain ⟨_, S6, N2, ⟨bv6, rfl, x6, ho6⟩, h6⟩ := g96 bv ev book (entM q.1.total).1 S5 (x05.wf w) (hown.sl.ext (hxv.trans x5)) ho5.sl (by omega) (by omega)
   have x06 := x05.trans x6
   have hle := enterM_len book (entM q.1.total).1
   have pre : ∀ (K : KS) (again : List V → St → An) (k : Nat), max N1 N2 ≤ k → m52_l0 (callD prog dPl dLv k) k K v (.int .i64 l.length) [.nils, .int .i64 0, bv, .int .i64 (i : Int)] S3 again =
     if (enterM book (entM q.1.total).1).2 = 0 then again [.nils, .int .i64 0, bv6, .int .i64 ((i + 1 : Nat) : Int)] S6 else K (.tup [.nils, .int .i64 (enterM book (entM q.1.total).1).2]) S6 := by
    intro K again k hk
    simp only [m52_l0, unD_cons, bin_lss, dR_ok, hlt, decide_true, pickD_true, ix26, hp, ld62, hld, newBlk_none, st62, hst, fa62_2, adv_ptr, ld60, v0]
    refine (h5 k _ (by omega)).trans ?_
    simp only [tupD_tup, List.getElem?_cons_zero, List.getElem?_cons_succ, dO_ok, guard_int, dIf_true, bin_neq, dR_ok, c1', decide_true, Bool.not_true, pickD_false]
    refine (h6 k _ (by omega)).trans ?_
    simp only [tupD_tup, List.getElem?_cons_zero, List.getElem?_cons_succ, dO_ok, guard_int, dIf_true, bin_neq, bin_add, hw, dR_ok, pickD_bool, Bool.not_eq_true', decide_eq_false_iff_not, ite_not]
   by_cases c2 : (enterM book (entM q.1.total).1).2 ≠ 0
   ·exact ⟨max N1 N2, .inl ⟨([], (enterM book (entM q.1.total).1).2), (.nils, (enterM book (entM q.1.total).1).2), S6, by simp only [bookedStep, if_neg c1, if_pos c2], ⟨rfl, x06, Own.nil _ _ _⟩, fun k K again hk => by rw [pre K again k hk, if_neg c2]⟩⟩
   ·exact ⟨max N1 N2, .inr ⟨(enterM book (entM q.1.total).1).1, _, S6, by simp only [bookedStep, if_neg c1, if_neg c2], ⟨bv6, rfl, x06, ho6.weaken x05.next, by omega⟩, fun k K again hk => by rw [pre K again k hk, if_pos (by omega)]⟩⟩
 ·rintro book vs S3 ⟨bv, rfl, x3, hown, hlen⟩
  have hlt : ¬ (l.length : Int) < (l.length : Int) := by omega
  refine ⟨0, (bv, 0), S3, ⟨rfl, x3, hown⟩, fun k K again _ => ?_⟩
  simp only [m52_l0, unD_cons, bin_lss, dR_ok, hlt, decide_false, pickD_false]
 ·rintro ⟨bv, e⟩ S3 ⟨he, x3, hown⟩
  rw [hrun] at he hown
  exact Ok.ret ⟨bv, by simp only at he; rw [he]; rfl, x3, hown⟩
section
abbrev Ag := List V → St → An
inductive Out (X : Type) where
 | stop (x : X) (S : St)
 | next (vs : List V) (S : St)
def Out.run {X : Type} (out : Nat → KS → X → St → An) (k : Nat) (K : KS) (again : Ag) : Out X → An
 | .stop x S => out k K x S
 | .next vs S => again vs S
def OkL {X : Type} (out : Nat → KS → X → St → An) (g : Nat → KS → Ag → An) (Q : Out X → Prop) : Prop := ∃ o N, Q o ∧ ∀ k K again, N ≤ k → g k K again = o.run out k K again
section
variable {X : Type} {out : Nat → KS → X → St → An} {Q : Out X → Prop}
theorem OkL.stop {g : Nat → KS → Ag → An} (x : X) {S : St} (h : Q (.stop x S)) (he : ∀ k K again, g k K again = out k K x S := by intros; rfl) : OkL out g Q := ⟨_, 0, h, fun k K again _ => he k K again⟩
theorem OkL.next {vs : List V} {S : St} (h : Q (.next vs S)) : OkL out (fun _ _ again => again vs S) Q := ⟨_, 0, h, fun _ _ _ _ => rfl⟩
theorem OkL.pick {b : Bool} {g g' : Nat → KS → Ag → An} (h : b = true → OkL out g Q) (h' : b = false → OkL out g' Q) : OkL out (fun k K again => pickD (.bool b) (g k K again) (g' k K again)) Q := by
 cases b with
 | true => exact h rfl
 | false => exact h' rfl
theorem OkL.pickP {p : Prop} [Decidable p] {g g' : Nat → KS → Ag → An} (h : p → OkL out g Q) (h' : ¬ p → OkL out g' Q) : OkL out (fun k K again => pickD (.bool (decide p)) (g k K again) (g' k K again)) Q :=
 OkL.pick (fun e => h (of_decide_eq_true e)) (fun e => h' (of_decide_eq_false e))
theorem OkL.pickN {p : Prop} [Decidable p] {g g' : Nat → KS → Ag → An} (h : ¬ p → OkL out g Q) (h' : p → OkL out g' Q) : OkL out (fun k K again => pickD (.bool (!decide p)) (g k K again) (g' k K again)) Q :=
 OkL.pick (fun e => h (by simpa using e)) (fun e => h' (by simpa using e))
theorem OkL.call {f : FuncId} {args : List V} {S : St} {R : V → St → Prop} (h : Does prog dPl dLv f args S R) {G : Nat → KS → Ag → V → St → An} (k : ∀ v S, R v S → OkL out (fun k K again => G k K again v S) Q) :
  OkL out (fun k K again => callD prog dPl dLv k f args S (fun v S => G k K again v S)) Q := by
 obtain ⟨v, S', N, q, h⟩ := h
 obtain ⟨o, M, q2, h2⟩ := k v S' q
 exact ⟨o, max N M, q2, fun k K again hk => (h k (fun v S => G k K again v S) (by omega)).trans (h2 k K again (by omega))⟩
theorem Gives.callL {f : FuncId} {args : List V} {S : St} {v : V} (h : Gives f args S v) {G : Nat → KS → Ag → V → St → An} (k : ∀ S', Ext S S' → OkL out (fun k K again => G k K again v S') Q) :
  OkL out (fun k K again => callD prog dPl dLv k f args S (fun v S => G k K again v S)) Q := OkL.call h fun w S' ⟨e, x⟩ => by subst e; exact k S' x
end
def Round {σ ρ α X : Type} (step : σ → α → ρ ⊕ σ) (Inv : Nat → σ → List V → St → Prop) (Post : ρ → X → St → Prop) (i : Nat) (s : σ) (a : α) : Out X → Prop
 | .stop x S => ∃ r, step s a = .inl r ∧ Post r x S
 | .next vs S => ∃ s', step s a = .inr s' ∧ Inv (i + 1) s' vs S
theorem Ok.loopL {σ ρ α X : Type} {F : Nat → KS → List V → St → (List V → St → An) → An} {out : Nat → KS → X → St → An} (all : List α) {step : σ → α → ρ ⊕ σ} {fin : σ → ρ} (Inv : Nat → σ → List V → St → Prop) (Post : ρ → X → St → Prop)
  (hstep : ∀ i a s vs S, Inv i s vs S → all[i]? = some a → OkL out (fun k K again => F k K vs S again) (Round step Inv Post i s a))
  (hend : ∀ s vs S, Inv all.length s vs S → ∃ x, Post (fin s) x S ∧ ∀ k K again, F k K vs S again = out k K x S)
  {s : σ} {vs : List V} {S : St} (hI : Inv 0 s vs S) {Q : V → St → Prop} (hout : ∀ x S', Post (runL step fin all s) x S' → Ok (fun k K => out k K x S') Q) : Ok (fun k K => loopD k vs S (F k K)) Q := by
 refine Ok.loop all Inv Post (fun i a s vs S hI hi => ?_) (fun s vs S hI => ?_) hI hout
 ·obtain ⟨o, N, hq, h⟩ := hstep i a s vs S hI hi
  cases o with
  | stop x S' =>
   obtain ⟨r, h1, h2⟩ := hq
   exact ⟨N, .inl ⟨r, x, S', h1, h2, h⟩⟩
  | next vs' S' =>
   obtain ⟨s', h1, h2⟩ := hq
   exact ⟨N, .inr ⟨s', vs', S', h1, h2, h⟩⟩
 ·obtain ⟨x, h1, h2⟩ := hend s vs S hI
  exact ⟨0, x, S, h1, fun k K again _ => h2 k K again⟩
theorem runL_map {σ ρ α β : Type} (f : α → β) (step : σ → β → ρ ⊕ σ) (fin : σ → ρ) : ∀ (l : List α) (s : σ), runL (fun s a => step s (f a)) fin l s = runL step fin (l.map f) s
 | [], s => rfl
 | a :: l, s => by
  simp only [runL, List.map_cons]
  split
  ·rfl
  ·exact runL_map f step fin l _
end
theorem ix145 : (fun (a ver i j : Nat) (x : V) => indexAddrV prog 145 (.ptr a ver i j) x) = fun a ver i j x => (match idxIn x 40 with
 | none => .error "index"
 | some k => .ok (.ptr a ver i (j + k * 1))) := by kernel_rfl
theorem arr145 (a ver i j : Nat) {k : Nat} (h : k < 40) : indexAddrV prog 145 (.ptr a ver i j) (.int .i64 (k : Int)) = .ok (.ptr a ver i (j + k)) := by
 have := congrFun (congrFun (congrFun (congrFun (congrFun ix145 a) ver) i) j) (.int .i64 (k : Int))
 rw [idxIn_of h] at this
 rw [this]
 simp only [Nat.mul_one]
theorem ix148 : (fun (a ver i j : Nat) (x : V) => indexAddrV prog 148 (.ptr a ver i j) x) = fun a ver i j x => (match idxIn x 8 with
 | none => .error "index"
 | some k => .ok (.ptr a ver i (j + k * 1))) := by kernel_rfl
theorem arr148 (a ver i j : Nat) {k : Nat} (h : k < 8) : indexAddrV prog 148 (.ptr a ver i j) (.int .i64 (k : Int)) = .ok (.ptr a ver i (j + k)) := by
 have := congrFun (congrFun (congrFun (congrFun (congrFun ix148 a) ver) i) j) (.int .i64 (k : Int))
 rw [idxIn_of h] at this
 rw [this]
 simp only [Nat.mul_one]
theorem arr_load {S : St} {b n : Nat} {l : List Int} (h : getRow S b 0 = .ok (n, [l.map intV])) {k : Nat} (hk : k < l.length) : loadW none (.ptr b 0 0 (0 + k)) S = .ok (.int .i64 (l[k]'hk)) := by
 rw [load_one _ _ _ _ _ h, Nat.zero_add]
 simp only [partW, List.getElem?_map, List.getElem?_eq_getElem hk]
 rfl
theorem arr_store {S : St} {b n : Nat} {l : List Int} (h : S.heap.get b = some (.row 0 n [l.map intV])) {k : Nat} (hk : k < l.length) (x : Int) :
  storeW 1 (.ptr b 0 0 (0 + k)) (.int .i64 x) S = .ok ⟨S.next, S.heap.put b (.row 0 n [(l.set k x).map intV])⟩ := by
 have hlm : (l.map intV).length = l.length := List.length_map ..
 have := var_set (x := .int .i64 x) (j := 0 + k) (m := 1) h rfl rfl (by rw [hlm]; omega)
 rw [this]
 have : splice (l.map intV) (0 + k) (V.int .i64 x).cells = (l.set k x).map intV := by
  rw [Nat.zero_add, List.map_set]
  have hc : (V.int .i64 x).cells = [intV x] := rfl
  simp only [splice, hc, List.length_cons, List.length_nil]
  rw [List.set_eq_take_append_cons_drop, if_pos (by rw [hlm]; exact hk)]
  rfl
 rw [this]
theorem cut26 {S : St} {v : V} {es : List (List V)} (h : Sl S 12 v es) {i : Nat} (hi : i < es.length) : ∃ u, sliceV prog 26 v none (some (.int .i64 (i : Int))) = .ok u ∧ Sl S 12 u (es.take i) := by
 have hb : bounds es.length none (some (.int .i64 (i : Int))) = .ok (0, i) := by
  have : (decide ((0 : Int) ≤ (i : Int)) && decide ((i : Int) ≤ (es.length : Int))) = true := by simp; omega
  simp only [bounds, this, cond_true, Int.toNat_natCast]
 have hlen : ∀ c, c ∈ es.take i → c.length = 12 ∧ allOne c = true := fun c hc => h.len c (List.mem_of_mem_take hc)
 have htl : (es.take i).length = i := by rw [List.length_take]; omega
 rcases h.is with ⟨_, e⟩ | rfl | ⟨a, ver, off, elems, rfl, h1, h2, h3⟩
 ·rw [e] at hi; simp at hi
 ·refine ⟨.imm (es.take i), ?_, ⟨.inr (.inl rfl), hlen⟩⟩
  rw [sli26 es (allLen_of h.len).1, hb]
  rfl
 ·refine ⟨.sl a ver 12 (off + 0) (i - 0), ?_, ⟨.inr (.inr ⟨a, ver, off, elems, by rw [htl]; rfl, h1, by rw [htl]; omega, ?_⟩), hlen⟩⟩
  ·rw [sl26, hb]
  ·have := congrArg (List.take i) h3
   rw [List.take_take] at this
   rw [htl, ← this]
   congr 1
   omega
def bump (l : List Int) (k : Nat) : List Int := l.set k (l.getD k 0 + 1)
def postStep (st : List Posted × List Int) (p : Posted) : Bool ⊕ (List Posted × List Int) :=
 if p.day.right = false then .inl false else if okTotal p.total = false then .inl false else if p.of = Ref.zero then .inr (st.1 ++ [p], st.2) else
  if postAt st.1 p.of < 0 then .inl false else if takesM p (st.1.getD (postAt st.1 p.of).toNat ⟨Ref.zero, ⟨0, 0, 0⟩, Total.zero, Ref.zero, false⟩) = false then .inl false else
   .inr (st.1 ++ [p], bump st.2 (postAt st.1 p.of).toNat)
def chkStep (bs : List Int) (p : Posted) : Bool ⊕ List Int := if 1 < bs.headD 0 then .inl false else if p.back = decide (bs.headD 0 = 1) then .inr bs.tail else .inl false
def postedM (l : List Posted) : Bool := if 40 < l.length then false else runL postStep (fun st => runL chkStep (fun _ => true) l st.2) l ([], List.replicate 40 0)
theorem okTotal_fit {t : Total} (h : okTotal t = true) : t.parts.length ≤ 12 := by
 unfold okTotal at h
 split at h
 ·cases h
 ·split at h
  ·cases h
  ·omega
theorem sum_getD (l : List Int) (k : Nat) (h : k < l.length) : l.getD k 0 = l[k] := by rw [List.getD_eq_getElem?_getD, List.getElem?_eq_getElem h]; rfl
theorem zs40 : [V.int .i64 0,.int .i64 0,.int .i64 0,.int .i64 0,.int .i64 0,.int .i64 0,.int .i64 0,.int .i64 0,.int .i64 0,.int .i64 0,.int .i64 0,.int .i64 0,.int .i64 0,.int .i64 0,.int .i64 0,.int .i64 0,.int .i64 0,.int .i64 0,.int .i64 0,.int .i64 0,.int .i64 0,.int .i64 0,.int .i64 0,.int .i64 0,.int .i64 0,.int .i64 0,.int .i64 0,.int .i64 0,.int .i64 0,.int .i64 0,.int .i64 0,.int .i64 0,.int .i64 0,.int .i64 0,.int .i64 0,.int .i64 0,.int .i64 0,.int .i64 0,.int .i64 0,.int .i64 0] = (List.replicate 40 (0 : Int)).map intV := rfl
theorem pvar {S : St} {v : V} {l : List PV} (hs : Sl S 12 v (l.map pvEnc)) (w : WF S) {i : Nat} {q : PV} (hi : l[i]? = some q) :
  ∃ p S', idxW 12 v (.int .i64 (i : Int)) = .ok p ∧ loadW (some 12) p S = .ok (.agg (pvEnc q)) ∧
   storeW 12 (.ptr S.next 0 0 0) (.agg (pvEnc q)) (⟨S.next + 1, S.heap.put S.next (.row 0 12 [[.str [],.int .i64 0,.int .i64 0,.int .i64 0,.int .i64 0,.int .i64 0,.int .i64 0,.int .i64 0,.nils,.str [],.int .i64 0,.bool false]])⟩ : St) = .ok S' ∧
   Ext S S' ∧ getRow S' S.next 0 = .ok (12, [q.1.cells q.2]) := by
 obtain ⟨p, hp, hld, hst, hxv, hv⟩ := hs.var w hi zs12 rfl
 exact ⟨p, _, hp, hld, hst, hxv, row_var S 12 zs12 (pvEnc q)⟩
theorem g50 (v : V) (l : List PV) (S : St) (w : WF S) (hpo : PartsOK S l) (hs : Sl S 12 v (l.map pvEnc)) : Gives 50 [v] S (.bool (postedM (l.map (·.1)))) := by
 refine e50 ?_
 have hlm : (l.map (·.1)).length = l.length := List.length_map ..
 have hle : (l.map pvEnc).length = l.length := List.length_map ..
 simp only [m50, len26, hs.lenI, dR_ok, bin_gtr, zs40]
 refine Ok.pickP (fun h => Ok.ret ⟨by unfold postedM; rw [if_pos (by rw [hlm]; omega)], Ext.refl S⟩) (fun h40 => ?_)
 have hm : postedM (l.map (·.1)) = runL postStep (fun st => runL chkStep (fun _ => true) (l.map (·.1)) st.2) (l.map (·.1)) ([], List.replicate 40 0) := by unfold postedM; rw [if_neg (by rw [hlm]; omega)]
 rw [hm, ← runL_map]
 simp only [newBlk_none, dR_ok]
 have hx1 := Ext.new w (.row 0 40 [(List.replicate 40 (0 : Int)).map intV])
 have hg1 : (⟨S.next + 1, S.heap.put S.next (.row 0 40 [(List.replicate 40 (0 : Int)).map intV])⟩ : St).heap.get S.next = some (.row 0 40 [(List.replicate 40 (0 : Int)).map intV]) := Tr.get_put_sameB _ _ _ trivial
 generalize (⟨S.next + 1, S.heap.put S.next (.row 0 40 [(List.replicate 40 (0 : Int)).map intV])⟩ : St) = S1 at hx1 hg1
 have hs1 := hs.ext hx1
 have hS1 : S.next < S1.next := hx1.wf w _ _ hg1
 refine Ok.loopL (F := fun k K => m50_l0 (callD prog dPl dLv k) k K v (.ptr S.next 0 0 0) v (.int .i64 l.length)) (ρ := Bool) (α := PV) (X := Bool ⊕ List Int) l (step := fun st q => postStep st q.1) (fin := fun st => runL chkStep (fun _ => true) (l.map (·.1)) st.2) (s := ([], List.replicate 40 0))
  (out := fun k K x S' => match x with
   | .inl b => K (.bool b) S'
   | .inr _ => loopD k [.bool false, (.int .i64 0)] S' (m50_l1 (callD prog dPl dLv k) k K (.ptr S.next 0 0 0) v (.int .i64 l.length)))
  (fun i st vs S' => vs = [.bool false, .int .i64 (i : Int)] ∧ Ext S S' ∧ S'.heap.get S.next = some (.row 0 40 [st.2.map intV]) ∧ st.1 = (l.take i).map (·.1) ∧ st.2.length = 40 ∧ (∀ b ∈ st.2, 0 ≤ b ∧ b ≤ i) ∧ ∀ p ∈ st.1, p.total.parts.length ≤ 12)
  (fun r x S' => Ext S S' ∧ match x with
   | .inl b => r = b
   | .inr bs => r = runL chkStep (fun _ => true) (l.map (·.1)) bs ∧ S'.heap.get S.next = some (.row 0 40 [bs.map intV]) ∧ bs.length = 40 ∧ ∀ b ∈ bs, 0 ≤ b ∧ b ≤ 40) ?_ ?_ ⟨rfl, hx1, hg1, rfl, rfl, (fun b hb => by rw [List.eq_of_mem_replicate hb]; omega), fun p h => by cases h⟩ ?_
 ·rintro i q ⟨done, bs⟩ vs S3 ⟨rfl, x3, hg3, hdone, hbl, hbr, hfi⟩ hi
  simp only at hg3 hdone hbl hbr hfi
  have hil : i < l.length := (List.getElem?_eq_some_iff.1 hi).1
  have hmem := List.mem_of_getElem? hi
  have hlt : (i : Int) < (l.length : Int) := by omega
  have hw : wr .i64 ((i : Int) + 1) = ((i + 1 : Nat) : Int) := by rw [wr64 (by omega) (by omega)]; omega
  have hdone' : (done ++ [q.1]) = (l.take (i + 1)).map (·.1) := by
   rw [hdone, List.take_succ_eq_append_getElem hil, List.map_append]
   have : l[i] = q := by have := List.getElem?_eq_getElem hil; rw [hi] at this; exact (Option.some.inj this).symm
   rw [this]; rfl
  have w3 := x3.wf w
  obtain ⟨p, S4, hp, hld, hst, x4, hr4⟩ := pvar (hs.ext x3) w3 hi
  have x04 := x3.trans x4
  have w4 := x04.wf w
  simp only [m50_l0, unD_cons, bin_lss, dR_ok, hlt, decide_true, pickD_true, ix26, hp, ld62, hld, newBlk_none, st62, hst, fa62_1, fa62_2, fa62_3, adv_ptr, ld38, p_day hr4]
  refine (g89 q.1.day S4 w4).callL fun S5 x5 => ?_
  have x45 := x5
  have x05 := x04.trans x5
  simp only [un_not, dR_ok]
  refine OkL.pick (fun h => ?_) (fun h => ?_)
  ·refine OkL.stop (.inl false) ⟨false, ?_, x05, rfl⟩
   simp only [postStep]; rw [if_pos (by simpa using h)]
  have h1 : q.1.day.right = true := by simpa using h
  simp only [ld60, p_total (x45.row hr4), dR_ok]
  refine (g90 q.1.total q.2 S5 (x05.wf w) ((hpo.ext x05) q hmem)).callL fun S6 x6 => ?_
  have x46 := x45.trans x6
  have x06 := x05.trans x6
  simp only [un_not, dR_ok]
  refine OkL.pick (fun h => ?_) (fun h => ?_)
  ·refine OkL.stop (.inl false) ⟨false, ?_, x06, rfl⟩
   simp only [postStep]; rw [if_neg (by rw [h1]; simp), if_pos (by simpa using h)]
  have h2 : okTotal q.1.total = true := by simpa using h
  have hg6 := (x4.trans x46).old _ _ hg3
  have hfi' : ∀ p ∈ done ++ [q.1], p.total.parts.length ≤ 12 := fun p hp => by
   rcases List.mem_append.1 hp with hp | hp
   ·exact hfi p hp
   ·rw [List.mem_singleton.1 hp]; exact okTotal_fit h2
  simp only [ld43, p_of (x46.row hr4), bd43, bd43z, dR_ok, gd43', dIf_true, ref_eql]
  refine OkL.pickP (fun h3 => ?_) (fun h3 => ?_)
  ·simp only [bin_add, hw, dR_ok]
   refine OkL.next ⟨(done ++ [q.1], bs), ?_, rfl, x06, hg6, hdone', hbl, (fun b hb => ⟨(hbr b hb).1, by have := (hbr b hb).2; omega⟩), hfi'⟩
   simp only [postStep]; rw [if_neg (by rw [h1]; simp), if_neg (by rw [h2]; simp), if_pos h3]
  have hb7 := (Ext.refl S6).bump 7
  obtain ⟨u, hu, hsu⟩ := cut26 (hs.ext (x06.trans hb7)) (i := i) (by rw [hle]; exact hil)
  rw [← List.map_take] at hsu
  simp only [hu, dR_ok, p_of ((x46.trans hb7).row hr4)]
  refine (g91 u (l.take i) q.1.of (⟨S6.next + 7, S6.heap⟩ : St) ((x06.trans hb7).wf w) ((hpo.ext (x06.trans hb7)).take i) hsu (by rw [List.length_take]; omega)).callL fun S8 x8 => ?_
  rw [← hdone]
  have x48 := x46.trans (hb7.trans x8)
  have x08 := x06.trans (hb7.trans x8)
  simp only [bin_lss, dR_ok]
  have hb11 := (Ext.refl S8).bump 11
  refine OkL.pickP (fun h4 => ?_) (fun h4 => ?_)
  ·refine OkL.stop (.inl false) ⟨false, ?_, x08.trans hb11, rfl⟩
   simp only [postStep]; rw [if_neg (by rw [h1]; simp), if_neg (by rw [h2]; simp), if_neg h3, if_pos h4]
  rcases postAt_cases done q.1.of with hk | ⟨k, f, hk, hf, _⟩
  ·omega
  have hf' := hf
  rw [hdone, List.getElem?_map] at hf'
  obtain ⟨fq, hfq, rfl⟩ : ∃ fq, (l.take i)[k]? = some fq ∧ fq.1 = f := by
   cases hfq : (l.take i)[k]? with
   | none => rw [hfq] at hf'; cases hf'
   | some fq => rw [hfq] at hf'; exact ⟨fq, rfl, Option.some.inj hf'⟩
  have hki : k < i := by
   have := (List.getElem?_eq_some_iff.1 hfq).1
   rw [List.length_take] at this; omega
  have hfl : l[k]? = some fq := by
   rw [List.getElem?_take] at hfq
   rw [if_pos hki] at hfq; exact hfq
  have hbs8 := (x48.trans hb11)
  obtain ⟨p2, hp2, hat2, hl2, _⟩ := ((hs.ext (x08.trans hb11))).elem hfl
  have y2 := hat2.load0 (some 12)
  rw [partW_all _ _ hl2] at y2
  have hkn : (postAt done q.1.of).toNat = k := by rw [hk]; rfl
  have hgd : done.getD k ⟨Ref.zero, ⟨0, 0, 0⟩, Total.zero, Ref.zero, false⟩ = fq.1 := by rw [List.getD_eq_getElem?_getD, hf]; rfl
  simp only [p_all (hbs8.row hr4), dR_ok, hk, ix26, hp2, ld62, y2]
  refine (g92 q fq (⟨S8.next + 11, S8.heap⟩ : St) ((x08.trans hb11).wf w) ((hpo.ext (x08.trans hb11)) q hmem) ((hpo.ext (x08.trans hb11)) fq (List.mem_of_getElem? hfl)) ?_).callL fun S9 x9 => ?_
  ·have := hfi fq.1 (List.mem_of_getElem? hf); omega
  have x49 := hbs8.trans x9
  have x09 := (x08.trans hb11).trans x9
  simp only [un_not, dR_ok]
  refine OkL.pick (fun h => ?_) (fun h => ?_)
  ·refine OkL.stop (.inl false) ⟨false, ?_, x09, rfl⟩
   simp only [postStep]; rw [if_neg (by rw [h1]; simp), if_neg (by rw [h2]; simp), if_neg h3, if_neg h4, hkn, hgd, if_pos (by simpa using h)]
  have h5 : takesM q.1 fq.1 = true := by simpa using h
  have hg9 := (x4.trans x49).old _ _ hg3
  have hk40 : k < 40 := by omega
  have hkb : k < bs.length := by omega
  have hbk := hbr bs[k] (List.getElem_mem hkb)
  have hw2 : wr .i64 (bs[k] + 1) = bs[k] + 1 := wr64 (by omega) (by omega)
  have hst9 := arr_store hg9 hkb (bs[k] + 1)
  have hbu : bump bs k = bs.set k (bs[k] + 1) := by unfold bump; rw [sum_getD bs k hkb]
  rw [← hbu] at hst9
  have hlt9 := x09.wf w _ _ hg9
  simp only [arr145 _ _ _ _ hk40, dR_ok, ld3, arr_load (row_get hg9) hkb, bin_add, hw, hw2, st3, hst9]
  refine OkL.next ⟨(done ++ [q.1], bump bs k), ?_, rfl, x09.set (Nat.le_refl _) hlt9 w _, Tr.get_put_sameB _ _ _ trivial, hdone', by simp only; rw [hbu, List.length_set]; exact hbl, fun b hb => ?_, hfi'⟩
  ·simp only [postStep]; rw [if_neg (by rw [h1]; simp), if_neg (by rw [h2]; simp), if_neg h3, if_neg h4, hkn, hgd, if_neg (by rw [h5]; simp)]
  ·simp only at hb
   rw [hbu] at hb
   rcases List.mem_or_eq_of_mem_set hb with hb | rfl
   ·exact ⟨(hbr b hb).1, by have := (hbr b hb).2; omega⟩
   ·omega
 ·rintro ⟨done, bs⟩ vs S3 ⟨rfl, x3, hg3, hdone, hbl, hbr, hfi⟩
  have hlt : ¬ (l.length : Int) < (l.length : Int) := by omega
  refine ⟨.inr bs, ⟨x3, rfl, hg3, hbl, fun b hb => ⟨(hbr b hb).1, by have := (hbr b hb).2; omega⟩⟩, fun k K again => ?_⟩
  simp only [m50_l0, unD_cons, bin_lss, dR_ok, hlt, decide_false, pickD_false, len26, hs.lenI]
 ·rintro x S3 ⟨x3, hx⟩
  cases x with
  | inl b =>
   simp only at hx
   rw [hx]
   exact Ok.ret ⟨rfl, x3⟩
  | inr bs =>
   obtain ⟨hr, hg3, hbl, hbr⟩ := hx
   rw [hr, ← runL_map]
   refine Ok.loopL (F := fun k K => m50_l1 (callD prog dPl dLv k) k K (.ptr S.next 0 0 0) v (.int .i64 l.length)) (ρ := Bool) (α := PV) (X := Bool) l (step := fun st q => chkStep st q.1) (fin := fun _ => true) (s := bs)
    (out := fun k K x S' => K (.bool x) S')
    (fun i st vs S' => vs = [.bool false, .int .i64 (i : Int)] ∧ Ext S3 S' ∧ st = bs.drop i) (fun r x S' => r = x ∧ Ext S3 S') ?_ ?_ ⟨rfl, Ext.refl S3, rfl⟩ ?_
   ·rintro i q st vs S4 ⟨rfl, x4, hst⟩ hi
    have hil : i < l.length := (List.getElem?_eq_some_iff.1 hi).1
    have hlt : (i : Int) < (l.length : Int) := by omega
    have hw : wr .i64 ((i : Int) + 1) = ((i + 1 : Nat) : Int) := by rw [wr64 (by omega) (by omega)]; omega
    have x04 := x3.trans x4
    obtain ⟨p, S5, hp, hld, hst5, x5, hr5⟩ := pvar (hs.ext x04) (x04.wf w) hi
    have hb13 := (Ext.refl S5).bump 13
    have x35 := x4.trans (x5.trans hb13)
    have hib : i < bs.length := by omega
    have hhd : st.headD 0 = bs[i] := by rw [hst, List.drop_eq_getElem_cons hib]; rfl
    have htl : st.tail = bs.drop (i + 1) := by rw [hst, List.drop_eq_getElem_cons hib]; rfl
    have hi40 : i < 40 := by omega
    simp only [m50_l1, unD_cons, bin_lss, dR_ok, hlt, decide_true, pickD_true, ix26, hp, ld62, hld, newBlk_none, st62, hst5, arr145 _ _ _ _ hi40, ld3, arr_load (row_get (x35.old _ _ hg3)) hib, bin_gtr]
    refine OkL.pickP (fun h => ?_) (fun h => ?_)
    ·refine OkL.stop false ⟨false, ?_, rfl, x35⟩
     simp only [chkStep]; rw [hhd, if_pos h]
    simp only [fa62_4, adv_ptr, dR_ok, ld4, p_back (hb13.row hr5), guard_int, dIf_true, bin_eql, guard_bool, bool_neq]
    refine OkL.pick (fun h2 => ?_) (fun h2 => ?_)
    ·refine OkL.stop false ⟨false, ?_, rfl, x35⟩
     simp only [chkStep]; rw [hhd, if_neg h, if_neg (by simpa using h2)]
    ·simp only [bin_add, hw, dR_ok]
     refine OkL.next ⟨bs.drop (i + 1), ?_, rfl, x35, rfl⟩
     simp only [chkStep]; rw [hhd, if_neg h, if_pos (by simpa using h2), htl]
   ·rintro st vs S4 ⟨rfl, x4, hst⟩
    have hlt : ¬ (l.length : Int) < (l.length : Int) := by omega
    refine ⟨true, ⟨rfl, x4⟩, fun k K again => ?_⟩
    simp only [m50_l1, unD_cons, bin_lss, dR_ok, hlt, decide_false, pickD_false]
   ·rintro x S4 ⟨rfl, x4⟩
    exact Ok.ret ⟨rfl, x3.trans x4⟩
section
structure State where
 table : List Rate
 ser : List Ser
 posted : List Posted
 book : List Bal
 sess : List Sess
 next : Int
deriving DecidableEq
structure SV where
 t : V
 s : V
 p : V
 b : V
 e : V
 qs : List PV
def SV.cells (x : SV) (n : Int) : List V := [x.t, x.s, x.p, x.b, x.e, .int .i64 n]
structure StOK (S : St) (x : SV) (s : State) : Prop where
 tt : Sl S 5 x.t (s.table.map Rate.enc)
 ss : Sl S 4 x.s (s.ser.map Ser.enc)
 pp : Sl S 12 x.p (x.qs.map pvEnc)
 q : x.qs.map (·.1) = s.posted
 po : PartsOK S x.qs
 bb : Sl S 2 x.b (s.book.map Bal.enc)
 ee : Sl S 5 x.e (s.sess.map Sess.enc)
theorem StOK.ext {S S' : St} {x : SV} {s : State} (h : StOK S x s) (y : Ext S S') : StOK S' x s := ⟨h.tt.ext y, h.ss.ext y, h.pp.ext y, h.q, h.po.ext y, h.bb.ext y, h.ee.ext y⟩
theorem StOK.one {S : St} {x : SV} {s : State} (h : StOK S x s) (n : Int) : allOne (x.cells n) = true := by
 simp only [SV.cells, allOne, List.all_cons, List.all_nil, h.tt.one, h.ss.one, h.pp.one, h.bb.one, h.ee.one, Bool.and_true]
 rfl
section
variable {S : St} {a : Nat} {x : SV} {n : Int} (h : getRow S a 0 = .ok (6, [x.cells n]))
include h
theorem s_t : loadW none (.ptr a 0 0 (0 + 0)) S = .ok x.t := by rw [load_one _ _ _ _ _ h]; rfl
theorem s_s : loadW none (.ptr a 0 0 (0 + 1)) S = .ok x.s := by rw [load_one _ _ _ _ _ h]; rfl
theorem s_p : loadW none (.ptr a 0 0 (0 + 2)) S = .ok x.p := by rw [load_one _ _ _ _ _ h]; rfl
theorem s_b : loadW none (.ptr a 0 0 (0 + 3)) S = .ok x.b := by rw [load_one _ _ _ _ _ h]; rfl
theorem s_e : loadW none (.ptr a 0 0 (0 + 4)) S = .ok x.e := by rw [load_one _ _ _ _ _ h]; rfl
theorem s_n : loadW none (.ptr a 0 0 (0 + 5)) S = .ok (.int .i64 n) := by rw [load_one _ _ _ _ _ h]; rfl
theorem s_all : loadW (some 6) (.ptr a 0 0 0) S = .ok (.agg (x.cells n)) := by rw [load_one _ _ _ _ _ h]; rfl
end
theorem nb {S : St} (w : WF S) (n : Nat) (cs : List V) : ∃ S1, newBlk none S (.row 0 n [cs]) = .ok (S.next, S1) ∧ Ext S S1 ∧ S1.heap.get S.next = some (.row 0 n [cs]) ∧ S1.next = S.next + 1 :=
 ⟨_, newBlk_none .., Ext.new w _, Tr.get_put_sameB _ _ _ trivial, rfl⟩
theorem arr_put {S : St} {b n : Nat} {l : List Int} (h : S.heap.get b = some (.row 0 n [l.map intV])) {k : Nat} (hk : k < l.length) (x : Int) :
  ∃ S', storeW 1 (.ptr b 0 0 (0 + k)) (.int .i64 x) S = .ok S' ∧ S'.next = S.next ∧ S'.heap.get b = some (.row 0 n [(l.set k x).map intV]) ∧ (∀ y, y ≠ b → S'.heap.get y = S.heap.get y) ∧ ∀ S0, WF S0 → Ext S0 S → S0.next ≤ b → Ext S0 S' :=
 ⟨_, arr_store h hk x, rfl, Tr.get_put_sameB _ _ _ trivial, fun y hy => Tr.get_put_neB _ _ _ _ trivial hy, fun S0 w x hb => x.set hb (x.wf w _ _ h) w _⟩
def numStep (ser : List Ser) (is : List Int) (p : Posted) : Bool ⊕ List Int :=
 if serAt ser p.ref.ser < 0 then .inl false else if p.ref.num = (bump is (serAt ser p.ref.ser).toNat).getD (serAt ser p.ref.ser).toNat 0 then .inr (bump is (serAt ser p.ref.ser).toNat) else .inl false
def nxtStep (is : List Int) (s : Ser) : Bool ⊕ List Int := if s.next = is.headD 0 + 1 then .inr is.tail else .inl false
def numbersM (ser : List Ser) (l : List Posted) : Bool := runL (numStep ser) (fun is => runL nxtStep (fun _ => true) ser is) l (List.replicate 8 0)
theorem zs8 : [V.int .i64 0,.int .i64 0,.int .i64 0,.int .i64 0,.int .i64 0,.int .i64 0,.int .i64 0,.int .i64 0] = (List.replicate 8 (0 : Int)).map intV := rfl
theorem bump_len (l : List Int) (k : Nat) : (bump l k).length = l.length := List.length_set ..
theorem bump_get (l : List Int) (k : Nat) (h : k < l.length) : (bump l k).getD k 0 = l[k] + 1 := by
 rw [List.getD_eq_getElem?_getD, bump, List.getElem?_set_self h, sum_getD l k h]; rfl
theorem g51 (x : SV) (s : State) (S : St) (w : WF S) (ok : StOK S x s) (h8 : s.ser.length ≤ 8) (h40 : s.posted.length ≤ 40) : Gives 51 [.agg (x.cells s.next)] S (.bool (numbersM s.ser s.posted)) := by
 refine e51 ?_
 have hql : x.qs.length = s.posted.length := by rw [← ok.q, List.length_map]
 have ho := ok.one s.next
 have hl : (x.cells s.next).length = 6 := rfl
 simp only [m51, agg_cells, ho, hl, dIf_true, newBlk_none, dR_ok, zs8]
 have hx1 := Ext.new w (.row 0 6 [x.cells s.next])
 have hx2 := Ext.new (hx1.wf w) (.row 0 8 [(List.replicate 8 (0 : Int)).map intV])
 have hr1 : getRow (⟨S.next + 1 + 1, (S.heap.put S.next (.row 0 6 [x.cells s.next])).put (S.next + 1) (.row 0 8 [(List.replicate 8 (0 : Int)).map intV])⟩ : St) S.next 0 = .ok (6, [x.cells s.next]) := hx2.row (getRow_put (S.next + 1) S.heap S.next 0 6 [x.cells s.next])
 have hg1 : (⟨S.next + 1 + 1, (S.heap.put S.next (.row 0 6 [x.cells s.next])).put (S.next + 1) (.row 0 8 [(List.replicate 8 (0 : Int)).map intV])⟩ : St).heap.get (S.next + 1) = some (.row 0 8 [(List.replicate 8 (0 : Int)).map intV]) := Tr.get_put_sameB _ _ _ trivial
 have x1 : Ext S (⟨S.next + 1 + 1, (S.heap.put S.next (.row 0 6 [x.cells s.next])).put (S.next + 1) (.row 0 8 [(List.replicate 8 (0 : Int)).map intV])⟩ : St) := hx1.trans hx2
 generalize (⟨S.next + 1 + 1, (S.heap.put S.next (.row 0 6 [x.cells s.next])).put (S.next + 1) (.row 0 8 [(List.replicate 8 (0 : Int)).map intV])⟩ : St) = S1 at hr1 hg1 x1
 have w1 := x1.wf w
 have hr1' := row_has hr1
 have hS1 := w1 _ _ hg1
 have ok1 := ok.ext x1
 simp only [fa30_1, fa30_2, adv_ptr, dR_ok, ld26, s_p hr1, len26, ok.pp.lenI]
 rw [numbersM, ← ok.q, ← runL_map]
 refine Ok.loopL (F := fun k K => m51_l0 (callD prog dPl dLv k) k K (.ptr S.next 0 0 0) (.ptr (S.next + 1) 0 0 0) x.p (.int .i64 x.qs.length)) (ρ := Bool) (α := PV) (X := Bool ⊕ List Int) x.qs (step := fun is q => numStep s.ser is q.1) (fin := fun is => runL nxtStep (fun _ => true) s.ser is) (s := List.replicate 8 0)
  (out := fun k K y S' => match y with
   | .inl b => K (.bool b) S'
   | .inr _ => loopD k [.bool false, (.int .i64 0)] S' (m51_l1 (callD prog dPl dLv k) k K (.ptr (S.next + 1) 0 0 0) x.s (.int .i64 s.ser.length)))
  (fun i is vs S' => vs = [.bool false, .int .i64 (i : Int)] ∧ Ext S S' ∧ S'.heap.get S.next = some (.row 0 6 [x.cells s.next]) ∧ S'.heap.get (S.next + 1) = some (.row 0 8 [is.map intV]) ∧ is.length = 8 ∧ ∀ b ∈ is, 0 ≤ b ∧ b ≤ i)
  (fun r y S' => Ext S S' ∧ match y with
   | .inl b => r = b
   | .inr is => r = runL nxtStep (fun _ => true) s.ser is ∧ S'.heap.get (S.next + 1) = some (.row 0 8 [is.map intV]) ∧ is.length = 8 ∧ ∀ b ∈ is, 0 ≤ b ∧ b ≤ 40) ?_ ?_ ⟨rfl, x1, hr1', hg1, rfl, fun b hb => by rw [List.eq_of_mem_replicate hb]; omega⟩ ?_
 ·rintro i q is vs S3 ⟨rfl, x3, hc3, hg3, hbl, hbr⟩ hi
  have hil : i < x.qs.length := (List.getElem?_eq_some_iff.1 hi).1
  have hmem := List.mem_of_getElem? hi
  have hlt : (i : Int) < (x.qs.length : Int) := by omega
  have hw : wr .i64 ((i : Int) + 1) = ((i + 1 : Nat) : Int) := by rw [wr64 (by omega) (by omega)]; omega
  have w3 := x3.wf w
  have ok3 := ok.ext x3
  obtain ⟨p, S4, hp, hld, hst, x4, hr4⟩ := pvar ok3.pp w3 hi
  have x04 := x3.trans x4
  have w4 := x04.wf w
  simp only [m51_l0, unD_cons, bin_lss, dR_ok, hlt, decide_true, pickD_true, ix26, hp, ld62, hld, newBlk_none, st62, hst, fa30_1, adv_ptr, ld25, s_s (x4.row (row_get hc3))]
  refine (g93x94 x.s s.ser q S3.next S4 w4 (ok.ext x04).ss (by omega) hr4).callL fun S5 x5 => ?_
  have x45 := x4.trans x5
  have x05 := x3.trans x45
  have hsa : ixM (fun t : Ser => t.name == q.1.ref.ser) s.ser = serAt s.ser q.1.ref.ser := rfl
  rw [hsa]
  simp only [bin_lss, dR_ok]
  refine OkL.pickP (fun h => ?_) (fun h => ?_)
  ·refine OkL.stop (.inl false) ⟨false, ?_, x05, rfl⟩
   simp only [numStep]; rw [if_pos h]
  rcases serAt_cases s.ser q.1.ref.ser with hk | ⟨k, f, hk, hf, _⟩
  ·omega
  have hks : k < s.ser.length := (List.getElem?_eq_some_iff.1 hf).1
  have hk8 : k < 8 := by omega
  have hkb : k < is.length := by omega
  have hbk := hbr is[k] (List.getElem_mem hkb)
  have hw2 : wr .i64 (is[k] + 1) = is[k] + 1 := wr64 (by omega) (by omega)
  have hg5 := x45.old _ _ hg3
  have hc5 := x45.old _ _ hc3
  have hbu : bump is k = is.set k (is[k] + 1) := by unfold bump; rw [sum_getD is k hkb]
  obtain ⟨S6, hst5, hn6, hg6, hsm6, hx6⟩ := arr_put hg5 hkb (is[k] + 1)
  rw [← hbu] at hg6
  simp only [hk, arr148 _ _ _ _ hk8, dR_ok, ld3, arr_load (row_get hg5) hkb, bin_add, hw2, st3, hst5]
  have x06 : Ext S S6 := hx6 S w x05 (Nat.le_succ _)
  have hc6 : S6.heap.get S.next = some (.row 0 6 [x.cells s.next]) := by rw [← hc5]; exact hsm6 _ (by omega)
  have hr6 : S6.heap.get S3.next = some (.row 0 12 [q.1.cells q.2]) := by
   rw [← row_has (x5.row hr4)]; exact hsm6 _ (by have := w3 _ _ hg3; omega)
  have hb7 := (Ext.refl S6).bump 7
  have hkn : (serAt s.ser q.1.ref.ser).toNat = k := by rw [hk]; rfl
  have hkb' : k < (bump is k).length := by rw [bump_len]; exact hkb
  have hgk := bump_get is k hkb
  have hgk2 : (bump is k)[k] = is[k] + 1 := by rw [← sum_getD _ _ hkb']; exact hgk
  simp only [fa62_0, fa43_1, adv_ptr, dR_ok, ld3, p_num (hb7.row (row_get hr6)), arr148 _ _ _ _ hk8, arr_load (hb7.row (row_get hg6)) hkb', guard_int, dIf_true, bin_neq, bin_add, hw, hgk2]
  refine OkL.pickN (fun h2 => ?_) (fun h2 => ?_)
  ·refine OkL.stop (.inl false) ⟨false, ?_, x06.trans hb7, rfl⟩
   simp only [numStep]; rw [if_neg h, hkn, hgk, if_neg h2]
  ·refine OkL.next ⟨bump is k, ?_, rfl, x06.trans hb7, hc6, hg6, by rw [bump_len]; exact hbl, fun b hb => ?_⟩
   ·simp only [numStep]; rw [if_neg h, hkn, hgk, if_pos h2]
   ·rw [hbu] at hb
    rcases List.mem_or_eq_of_mem_set hb with hb | rfl
    ·exact ⟨(hbr b hb).1, by have := (hbr b hb).2; omega⟩
    ·omega
 ·rintro is vs S3 ⟨rfl, x3, hc3, hg3, hbl, hbr⟩
  have hlt : ¬ (x.qs.length : Int) < (x.qs.length : Int) := by omega
  refine ⟨.inr is, ⟨x3, rfl, hg3, hbl, fun b hb => ⟨(hbr b hb).1, by have := (hbr b hb).2; omega⟩⟩, fun k K again => ?_⟩
  simp only [m51_l0, unD_cons, bin_lss, dR_ok, hlt, decide_false, pickD_false, fa30_1, adv_ptr, ld25, s_s (row_get hc3), len25, ok.ss.lenI]
 ·rintro y S3 ⟨x3, hy⟩
  cases y with
  | inl b =>
   simp only at hy
   rw [hy]
   exact Ok.ret ⟨rfl, x3⟩
  | inr is =>
   obtain ⟨hr, hg3, hbl, hbr⟩ := hy
   rw [hr]
   refine Ok.loopL (F := fun k K => m51_l1 (callD prog dPl dLv k) k K (.ptr (S.next + 1) 0 0 0) x.s (.int .i64 s.ser.length)) (ρ := Bool) (α := Ser) (X := Bool) s.ser (step := nxtStep) (fin := fun _ => true) (s := is)
    (out := fun k K y S' => K (.bool y) S')
    (fun i st vs S' => vs = [.bool false, .int .i64 (i : Int)] ∧ Ext S3 S' ∧ st = is.drop i) (fun r y S' => r = y ∧ Ext S3 S') ?_ ?_ ⟨rfl, Ext.refl S3, rfl⟩ ?_
   ·rintro i q st vs S4 ⟨rfl, x4, hst⟩ hi
    have hil : i < s.ser.length := (List.getElem?_eq_some_iff.1 hi).1
    have hlt : (i : Int) < (s.ser.length : Int) := by omega
    have hw : wr .i64 ((i : Int) + 1) = ((i + 1 : Nat) : Int) := by rw [wr64 (by omega) (by omega)]; omega
    have x04 := x3.trans x4
    obtain ⟨p, hp, hld, hst5, hxv, hv⟩ := (ok.ext x04).ss.var (x04.wf w) hi [.str [],.int .i64 0,.int .i64 0,.bool false] rfl
    generalize S4.var 4 [.str [],.int .i64 0,.int .i64 0,.bool false] q.enc = S5 at hst5 hxv hv
    have hb7 := (Ext.refl S5).bump 7
    have x35 := x4.trans (hxv.trans hb7)
    have hib : i < is.length := by omega
    have hhd : st.headD 0 = is[i] := by rw [hst, List.drop_eq_getElem_cons hib]; rfl
    have htl : st.tail = is.drop (i + 1) := by rw [hst, List.drop_eq_getElem_cons hib]; rfl
    have hi8 : i < 8 := by omega
    have v1 : loadW none (.ptr S4.next 0 0 (0 + 1)) (⟨S5.next + 7, S5.heap⟩ : St) = .ok (.int .i64 q.next) := by rw [hv _ hb7]; rfl
    have hbi := hbr is[i] (List.getElem_mem hib)
    have hw2 : wr .i64 (is[i] + 1) = is[i] + 1 := wr64 (by omega) (by omega)
    simp only [m51_l1, unD_cons, bin_lss, dR_ok, hlt, decide_true, pickD_true, ix25, hp, ld92, hld, newBlk_none, st92, hst5, fa92_1, adv_ptr, ld3, v1, arr148 _ _ _ _ hi8, arr_load (row_get (x35.old _ _ hg3)) hib, bin_add, hw, hw2, guard_int, dIf_true, bin_neq]
    refine OkL.pickN (fun h => ?_) (fun h => ?_)
    ·refine OkL.stop false ⟨false, ?_, rfl, x35⟩
     simp only [nxtStep]; rw [hhd, if_neg h]
    ·refine OkL.next ⟨is.drop (i + 1), ?_, rfl, x35, rfl⟩
     simp only [nxtStep]; rw [hhd, if_pos h, htl]
   ·rintro st vs S4 ⟨rfl, x4, hst⟩
    have hlt : ¬ (s.ser.length : Int) < (s.ser.length : Int) := by omega
    refine ⟨true, ⟨rfl, x4⟩, fun k K again => ?_⟩
    simp only [m51_l1, unD_cons, bin_lss, dR_ok, hlt, decide_false, pickD_false]
   ·rintro y S4 ⟨rfl, x4⟩
    exact Ok.ret ⟨rfl, x3.trans x4⟩
def lastOK (l : List Sess) (next : Int) : Bool := match l[l.length - 1]? with
 | none => true
 | some s => decide (s.id < next)
def sessionsM (s : State) : Bool := if sessM s.sess = true then (if 1 ≤ s.next then (if s.next ≤ 1099511627776 then lastOK s.sess s.next else false) else false) else false
theorem g49 (x : SV) (s : State) (S : St) (w : WF S) (ok : StOK S x s) : Gives 49 [.agg (x.cells s.next)] S (.bool (sessionsM s)) := by
 refine e49 ?_
 have ho := ok.one s.next
 have hl : (x.cells s.next).length = 6 := rfl
 obtain ⟨S1, hn1, x1, hg1, _⟩ := nb w 6 (x.cells s.next)
 have hr1 := row_get hg1
 simp only [m49, agg_cells, ho, hl, dIf_true, hn1, dR_ok]
 have hb := (Ext.refl S1).bump 30
 simp only [fa30_4, adv_ptr, dR_ok, ld28, s_e hr1, s_e (hb.row hr1), len28, ok.ee.lenI]
 refine (g65 x.e s.sess (⟨S1.next + 30, S1.heap⟩ : St) ((x1.trans hb).wf w) (ok.ext (x1.trans hb)).ee).call fun S2 x2 => ?_
 have x12 := hb.trans x2
 have x02 := x1.trans x12
 unfold sessionsM
 refine Ok.pick (fun h1 => ?_) (fun h1 => by rw [if_neg (by rw [h1]; simp)]; exact Ok.ret ⟨rfl, x02⟩)
 rw [if_pos h1]
 have hlen := sessM_len h1
 simp only [fa30_5, adv_ptr, dR_ok, ld3, s_n (x12.row hr1), bin_geq, bin_leq]
 refine Ok.pickP (fun h2 => ?_) (fun h2 => by rw [if_neg h2]; exact Ok.ret ⟨rfl, x02⟩)
 rw [if_pos h2]
 refine Ok.pickP (fun h3 => ?_) (fun h3 => by rw [if_neg h3]; exact Ok.ret ⟨rfl, x02⟩)
 rw [if_pos h3]
 simp only [guard_int, dIf_true, bin_eql, dR_ok]
 refine Ok.pickP (fun h4 => Ok.ret ⟨?_, x02⟩) (fun h4 => ?_)
 ·have : s.sess = [] := List.length_eq_zero_iff.1 (by omega)
  rw [this]; rfl
 have hm1 : wr .i64 ((s.sess.length : Int) - 1) = ((s.sess.length - 1 : Nat) : Int) := by rw [wr64 (by omega) (by omega)]; omega
 have hi1 : s.sess.length - 1 < s.sess.length := by omega
 have hq : s.sess[s.sess.length - 1]? = some s.sess[s.sess.length - 1] := List.getElem?_eq_getElem hi1
 obtain ⟨p2, hp2, hat2, hl2, _⟩ := ((ok.ext x02).ee).elem hq
 have v3 : loadW none (adv 0 p2) S2 = .ok (.int .i64 s.sess[s.sess.length - 1].id) := by rw [hat2.load]; rfl
 simp only [fa30_4, adv_ptr, dR_ok, ld28, s_e (x12.row hr1), bin_sub, hm1, ix28, hp2, fa84_0, hat2.advW, ld3, v3, fa30_5, s_n (x12.row hr1), bin_lss]
 exact Ok.ret ⟨by simp only [lastOK, hq], x02⟩
end
theorem runL_all {σ α : Type} {step : σ → α → Bool ⊕ σ} {fin : σ → Bool} (hs : ∀ s a r, step s a = .inl r → r = false) : ∀ (l : List α) (s : σ), runL step fin l s = true → ∀ a ∈ l, ∃ s s', step s a = .inr s'
 | [], s, h, a, ha => by cases ha
 | b :: l, s, h, a, ha => by
  simp only [runL] at h
  split at h
  ·rename_i r he
   have := hs s b r he
   rw [this] at h; cases h
  ·rename_i s' he
   rcases List.mem_cons.1 ha with rfl | ha
   ·exact ⟨s, s', he⟩
   ·exact runL_all hs l s' h a ha
theorem nameM_len {s : List UInt8} (h : nameM s = true) : s.length ≤ 24 := by
 unfold nameM at h
 split at h
 ·cases h
 ·split at h
  ·cases h
  ·omega
theorem okTotal_cats {t : Total} (h : okTotal t = true) : ∀ q ∈ t.parts, nameM q.cat = true := by
 unfold okTotal at h
 split at h
 ·cases h
 ·split at h
  ·cases h
  ·intro q hq
   obtain ⟨s, s', he⟩ := runL_all (fun s a r hr => by
    unfold partStep at hr
    repeat' split at hr
    all_goals cases hr
    all_goals rfl) t.parts none h q hq
   unfold partStep at he
   split at he
   ·cases he
   ·rename_i hn; simpa using hn
theorem okTotal_Fit {p : Posted} (h : okTotal p.total = true) : Fit p := ⟨okTotal_fit h, fun q hq => by have := nameM_len (okTotal_cats h q hq); omega⟩
theorem postedM_ok {l : List Posted} (h : postedM l = true) : l.length ≤ 40 ∧ ∀ p ∈ l, p.day.right = true ∧ okTotal p.total = true := by
 unfold postedM at h
 split at h
 ·cases h
 ·refine ⟨by omega, fun p hp => ?_⟩
  obtain ⟨s, s', he⟩ := runL_all (fun s a r hr => by
   unfold postStep at hr
   repeat' split at hr
   all_goals cases hr
   all_goals rfl) l _ h p hp
  unfold postStep at he
  split at he
  ·cases he
  ·rename_i h1
   split at he
   ·cases he
   ·rename_i h2
    exact ⟨by simpa using h1, by simpa using h2⟩
def rightM (s : State) : Bool := if tableM s.table = false then false else if serM s.ser = false then false else if sessionsM s = false then false else if postedM s.posted = false then false else
 if numbersM s.ser s.posted = false then false else if (bookedM s.posted).2 = 0 then decide ((bookedM s.posted).1 = s.book) else false
theorem bookedL_len : ∀ (l : List Posted) (a : List Bal) (r : List Bal × Int), (∀ p ∈ l, p.total.parts.length ≤ 12) → runL bookedStep (fun b => (b, 0)) l a = r → r.1.length ≤ a.length + 25 * l.length
 | [], a, r, _, h => by subst h; simp [runL]
 | p :: l, a, r, hp, h => by
  simp only [runL] at h
  split at h
  ·rename_i r' he
   subst h
   unfold bookedStep at he
   repeat' split at he
   all_goals cases he
   all_goals simp
  ·rename_i a' he
   unfold bookedStep at he
   split at he
   ·cases he
   ·rename_i h1
    split at he
    ·cases he
    ·cases he
     have h2 := (entM_len p.total).resolve_right h1
     have h3 := enterM_len a (entM p.total).1
     have h4 := hp p (List.mem_cons_self ..)
     have := bookedL_len l _ r (fun q hq => hp q (List.mem_cons_of_mem _ hq)) h
     simp only [List.length_cons]
     omega
theorem g23 (x : SV) (s : State) (S : St) (w : WF S) (ok : StOK S x s) : Gives 23 [.agg (x.cells s.next)] S (.bool (rightM s)) := by
 refine e23 ?_
 have ho := ok.one s.next
 have hl : (x.cells s.next).length = 6 := rfl
 have hql : x.qs.length = s.posted.length := by rw [← ok.q, List.length_map]
 obtain ⟨S1, hn1, x1, hg1, _⟩ := nb w 6 (x.cells s.next)
 have hr1 := row_get hg1
 simp only [m23, agg_cells, ho, hl, dIf_true, hn1, dR_ok, fa30_0, adv_ptr, ld24, s_t hr1]
 unfold rightM
 refine (g47 x.t s.table S1 (x1.wf w) (ok.ext x1).tt).call fun S2 x2 => ?_
 have x02 := x1.trans x2
 simp only [un_not, dR_ok]
 refine Ok.pick (fun h1 => by rw [if_pos (by simpa using h1)]; exact Ok.ret ⟨rfl, x02⟩) (fun h1 => ?_)
 rw [if_neg (by simpa using h1)]
 simp only [fa30_1, adv_ptr, dR_ok, ld25, s_s (x2.row hr1)]
 refine (g48 x.s s.ser S2 (x02.wf w) (ok.ext x02).ss).call fun S3 x3 => ?_
 have x13 := x2.trans x3
 have x03 := x1.trans x13
 simp only [un_not, dR_ok]
 refine Ok.pick (fun h2 => by rw [if_pos (by simpa using h2)]; exact Ok.ret ⟨rfl, x03⟩) (fun h2 => ?_)
 rw [if_neg (by simpa using h2)]
 simp only [ld30, dR_ok, s_all (x13.row hr1)]
 refine (g49 x s S3 (x03.wf w) (ok.ext x03)).call fun S4 x4 => ?_
 have x14 := x13.trans x4
 have x04 := x1.trans x14
 simp only [un_not, dR_ok]
 refine Ok.pick (fun h3 => by rw [if_pos (by simpa using h3)]; exact Ok.ret ⟨rfl, x04⟩) (fun h3 => ?_)
 rw [if_neg (by simpa using h3)]
 simp only [fa30_2, adv_ptr, ld26, dR_ok, s_p (x14.row hr1)]
 refine (g50 x.p x.qs S4 (x04.wf w) (ok.ext x04).po (ok.ext x04).pp).call fun S5 x5 => ?_
 have x15 := x14.trans x5
 have x05 := x1.trans x15
 rw [ok.q]
 simp only [un_not, dR_ok]
 refine Ok.pick (fun h4 => by rw [if_pos (by simpa using h4)]; exact Ok.ret ⟨rfl, x05⟩) (fun h4 => ?_)
 have h4' : postedM s.posted = true := by simpa using h4
 obtain ⟨hp40, hpok⟩ := postedM_ok h4'
 rw [if_neg (by rw [h4']; simp)]
 simp only [ld30, dR_ok, s_all (x15.row hr1)]
 refine (g51 x s S5 (x05.wf w) (ok.ext x05) (serM_len (by simpa using h2)) hp40).call fun S6 x6 => ?_
 have x16 := x15.trans x6
 have x06 := x1.trans x16
 simp only [un_not, dR_ok]
 refine Ok.pick (fun h5 => by rw [if_pos (by simpa using h5)]; exact Ok.ret ⟨rfl, x06⟩) (fun h5 => ?_)
 rw [if_neg (by simpa using h5)]
 simp only [fa30_2, adv_ptr, ld26, dR_ok, s_p (x16.row hr1)]
 refine Does.call (g52 x.p x.qs S6 (x06.wf w) (ok.ext x06).po (ok.ext x06).pp (by omega) (fun q hq => okTotal_Fit (hpok q.1 (by rw [← ok.q]; exact List.mem_map_of_mem hq)).2)) fun u S7 ⟨bv, hu, x7, own7⟩ => ?_
 subst hu
 rw [ok.q] at own7 ⊢
 have x17 := x16.trans x7
 have x07 := x1.trans x17
 simp only [tupD_tup, List.getElem?_cons_zero, List.getElem?_cons_succ, dO_ok, guard_int, dIf_true, bin_eql, dR_ok]
 refine Ok.pickP (fun h6 => ?_) (fun h6 => by rw [if_neg h6]; exact Ok.ret ⟨rfl, x07⟩)
 rw [if_pos h6]
 simp only [fa30_3, adv_ptr, ld27, dR_ok, s_b (x17.row hr1)]
 have hbl := bookedL_len s.posted [] (bookedM s.posted) (fun p hp => okTotal_fit (hpok p hp).2) rfl
 simp only [List.length_nil, Nat.zero_add] at hbl
 refine (g53 bv x.b (bookedM s.posted).1 s.book S7 (x07.wf w) own7.sl (ok.ext x07).bb (by omega)).call fun S8 x8 => ?_
 exact Ok.ret ⟨rfl, x07.trans x8⟩
theorem g32 (e : Int) (S : St) (w : WF S) : Gives 32 [.int .i64 e] S (.agg (Rep.enc ⟨e, 0, 0⟩)) := by
 refine e32 ?_
 obtain ⟨S1, hn1, x1, hg1, _⟩ := nb w 3 [.int .i64 0,.int .i64 0,.int .i64 0]
 obtain ⟨q1, q2⟩ := cell_put (cs := Rep.enc ⟨e, 0, 0⟩) hg1 rfl rfl rfl
 have hb : buildW [.int .i64 0,.int .i64 0,.int .i64 0] [(0, 1), (1, 1), (2, 1)] [(0, .int .i64 e)] = .ok (.agg (Rep.enc ⟨e, 0, 0⟩)) := rfl
 simp only [m32, hn1, dR_ok, bd34, hb, st34, q1, ld34, q2]
 exact Ok.ret ⟨rfl, x1.set (Nat.le_refl _) (x1.wf w _ _ hg1) w _⟩
def State.new : State := ⟨[], [], [], [], [], 1⟩
def SV.new : SV := ⟨.nils, .nils, .nils, .nils, .nils, []⟩
theorem Sl.nilv (S : St) (n : Nat) : Sl S n .nils [] := ⟨.inl ⟨rfl, rfl⟩, fun _ h => by cases h⟩
theorem StOK.new (S : St) : StOK S SV.new State.new := ⟨Sl.nilv _ _, Sl.nilv _ _, Sl.nilv _ _, rfl, fun _ h => (by cases h), Sl.nilv _ _, Sl.nilv _ _⟩
theorem g14 (S : St) (w : WF S) : Gives 14 [] S (.agg (SV.new.cells 1)) := by
 refine e14 ?_
 obtain ⟨S1, hn1, x1, hg1, _⟩ := nb w 6 [.nils,.nils,.nils,.nils,.nils,.int .i64 0]
 obtain ⟨q1, q2⟩ := cell_put (cs := SV.new.cells 1) hg1 rfl rfl rfl
 have hb : buildW [.nils,.nils,.nils,.nils,.nils,.int .i64 0] [(0, 1), (1, 1), (2, 1), (3, 1), (4, 1), (5, 1)] [(5, .int .i64 1)] = .ok (.agg (SV.new.cells 1)) := rfl
 simp only [m14, hn1, dR_ok, bd30, hb, st30, q1, ld30, q2]
 exact Ok.ret ⟨rfl, x1.set (Nat.le_refl _) (x1.wf w _ _ hg1) w _⟩
end Go.Proofs.YtjbicclbalagbaaGreat
end
