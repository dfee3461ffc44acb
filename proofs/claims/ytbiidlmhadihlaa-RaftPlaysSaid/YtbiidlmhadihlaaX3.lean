import Derived.Test.YtbiidlmhadihlaaX2
set_option linter.unusedSimpArgs false
set_option linter.unusedVariables false
set_option linter.unusedSectionVars false
set_option maxRecDepth 100000
section
set_option linter.unusedSimpArgs false
set_option linter.unusedVariables false
namespace Go.AM
structure D (b:Nat) (S S':St):Prop where
 next:S.next≤S'.next
 dead:∀ a,a<b→S.heap.get a=none→S'.heap.get a=none
theorem D.refl {b:Nat} (S:St):D b S S:=⟨Nat.le_refl _,fun _ _ h=>h⟩
theorem D.trans {b:Nat} {A B C:St} (h:D b A B) (k:D b B C):D b A C:=⟨Nat.le_trans h.next k.next,fun a ha h1=>k.dead a ha (h.dead a ha h1)⟩
theorem D.put {b:Nat} {S:St} {a:Nat} {x y:Blk} (h:S.heap.get a=some x):D b S ⟨S.next,S.heap.put a y⟩:=by
 refine ⟨Nat.le_refl _,fun c _ hc=>?_⟩
 show (S.heap.put a y).get c=none
 rw [Tr.get_put_neB _ _ _ _ trivial (fun e=>by rw [e,h] at hc;cases hc)];exact hc
def FrB (b:Nat) (fr:Option Nat):Prop:=∀ k,fr=some k→b≤k
theorem D.new {b:Nat} {S S':St} {fr:Option Nat} {x:Blk} {a:Nat} (hb:b≤S.next) (hf:FrB b fr) (h:bF fr S x=.ok (a,S')):D b S S':=by
 cases fr with
 | none=>
  rw [eJ] at h
  cases h
  refine ⟨Nat.le_succ _,fun c hc hn=>?_⟩
  show (S.heap.put S.next x).get c=none
  rw [Tr.get_put_neB _ _ _ _ trivial (by omega)];exact hn
 | some k=>
  rw [gM] at h
  cases h
  have:=hf _ rfl
  refine ⟨Nat.le_refl _,fun c hc hn=>?_⟩
  show (S.heap.put a x).get c=none
  rw [Tr.get_put_neB _ _ _ _ trivial (by omega)];exact hn
section
variable {P:Program} {b:Nat} {S S':St} {fr:Option Nat}
theorem aNs {t:TypeId} {p x:V} (h:aM P t p x S=.ok S'):D b S S':=by
 unfold aM at h
 split at h
 ·split at h
  ·cases h
  ·rename_i hg
   split at h
   ·rw [cond_eq_ite] at h
    split at h
    ·cases h;exact D.put (iA hg)
    ·cases h
   ·cases h
 ·cases h
theorem qT {t:TypeId} {s x v:V} (hb:b≤S.next) (hf:FrB b fr) (h:cD P t s x fr S=.ok (v,S')):D b S S':=by
 unfold cD at h
 split at h
 ·cases h
 ·split at h
  ·cases h
  ·rw [cond_eq_ite] at h
   split at h
   ·cases h
   ·split at h
    ·split at h
     ·cases h;exact D.refl S
     ·rw [cond_eq_ite] at h
      split at h
      ·split at h
       ·cases h
       ·rename_i hn;cases h;exact D.new hb hf hn
      ·cases h
    ·split at h
     ·cases h
     ·rename_i hg
      rw [cond_eq_ite] at h
      split at h
      ·cases h;exact D.put (iA hg)
      ·cases h
    ·cases h
theorem aLt {t:TypeId} {s i x v:V} (hb:b≤S.next) (h:nT P t s i x S=.ok (v,S')):D b S S':=by
 have hf:FrB b none:=fun _ h=>by cases h
 unfold nT at h
 split at h
 ·split at h
  ·cases h
  ·rw [cond_eq_ite] at h
   split at h
   ·cases h
   ·split at h
    ·rw [cond_eq_ite] at h
     split at h
     ·exact qT hb hf h
     ·cases h
    ·rw [cond_eq_ite] at h
     split at h
     ·exact qT hb hf h
     ·rw [cond_eq_ite] at h
      split at h
      ·cases h
      ·split at h
       ·cases h
       ·rename_i hg
        rw [cond_eq_ite] at h
        split at h
        ·cases h;exact D.put (iA hg)
        ·cases h
    ·cases h
 ·cases h
theorem aLu {t:TypeId} {s i j v:V} (h:tC P t s i j S=.ok (v,S')):D b S S':=by
 unfold tC at h
 split at h
 ·rw [cond_eq_ite] at h
  split at h
  ·cases h
  ·rw [cond_eq_ite] at h
   split at h
   ·split at h
    ·cases h;exact D.refl S
    ·cases h
   ·split at h
    ·rename_i hg
     rw [cond_eq_ite] at h
     split at h
     ·cases h;exact D.put (iA hg)
     ·cases h
    ·cases h
 ·cases h
theorem aNt {t:TypeId} {x v:V} (h:uO P t x S=.ok (v,S')):D b S S':=by
 unfold uO at h
 split at h
 ·cases h;exact D.refl S
 ·rw [cond_eq_ite] at h
  split at h
  ·cases h;exact D.refl S
  ·split at h
   ·rename_i hg
    rw [cond_eq_ite] at h
    split at h
    ·cases h;exact D.put (iA hg)
    ·cases h
   ·cases h
 ·cases h
theorem aBi {t:TypeId} {n:Nat} {ps:List (Nat×V)} {v:V} (hb:b≤S.next) (hf:FrB b fr) (h:bT P t n ps fr S=.ok (v,S')):D b S S':=by
 unfold bT at h
 split at h
 ·cases h
 ·split at h
  ·cases h
  ·rw [cond_eq_ite] at h
   split at h
   ·split at h
    ·cases h
    ·split at h
     ·cases h
     ·rename_i hn;cases h;exact D.new hb hf hn
   ·cases h
theorem aF2 {t:TypeId} {l c v:V} (hb:b≤S.next) (hf:FrB b fr) (h:fO P t l c fr S=.ok (v,S')):D b S S':=by
 unfold fO at h
 split at h
 ·split at h
  ·cases h
  ·rw [cond_eq_ite] at h
   split at h
   ·split at h
    ·cases h
    ·rename_i hn;cases h;exact D.new hb hf hn
   ·cases h
 ·cases h
theorem aIp {s d : TypeId} {x v : V} (hb : b ≤ S.next) (hf : FrB b fr) (h : cX P s d x fr S = .ok (v, S')) : D b S S' := by
  unfold cX at h
  split at h
  · split at h
    · cases h; exact D.refl S
    · cases h
  · split at h
    · cases h; exact D.refl S
    · split at h
      · split at h
        · split at h
          all_goals first
            | cases h; done
            | (split at h
               · cases h
               · split at h
                 · cases h; exact D.refl S
                 · cases h)
        · cases h
      · cases h
  · split at h
    · rw [cond_eq_ite] at h
      split at h
      · split at h
        · cases h
        · rename_i hn; cases h; exact D.new hb hf hn
      · cases h
    · cases h
  · cases h
theorem aF3 {t:TypeId} {m k v:V} (h:gU P t m k v S=.ok S'):D b S S':=by
 unfold gU at h
 split at h
 ·split at h
  ·rename_i hg
   split at h
   ·cases h;exact D.put hg
   ·cases h;exact D.put hg
   ·cases h
  ·cases h
 ·cases h
theorem aQ0 {r:R V} {v:V} (h:cL S r=.ok (.val v S')):S'=S:=by
 unfold cL at h
 split at h<;>cases h;rfl
theorem aIq {r:R V} (h:cL S r=.ok (.skip S')):False:=by
 unfold cL at h
 split at h<;>cases h
theorem aQ1 {r:R (V×St)} {v:V} (h:eD r=.ok (.val v S')):r=.ok (v,S'):=by
 unfold eD at h
 split at h<;>cases h;rfl
theorem aIr {r:R (V×St)} (h:eD r=.ok (.skip S')):False:=by
 unfold eD at h
 split at h<;>cases h
def Out.left:Out→Option St
 | .val _ S=>some S
 | .skip S=>some S
 | .call _ _=>none
theorem jR {r:R V} {o:Out} (h:cL S r=.ok o) (hl:o.left=some S'):D b S S':=by
 cases o with
 | val v S1=>cases hl;rw [aQ0 h];exact D.refl S
 | skip S1=>exact (aIq h).elim
 | call f a=>cases hl
theorem jS {r:R (V×St)} {o:Out} (h:eD r=.ok o) (hl:o.left=some S') (hd:∀ v S1,r=.ok (v,S1)→D b S S1):D b S S':=by
 cases o with
 | val v S1=>cases hl;exact hd _ _ (aQ1 h)
 | skip S1=>exact (aIr h).elim
 | call f a=>cases hl
theorem wP {g:FuncId} {args:List V} {o:Out} (h:lL P S g args=.ok o) (hl:o.left=some S'):D b S S':=by
 unfold lL at h
 split at h
 ·cases h
 ·split at h
  ·cases h;cases hl
  ·exact jR h hl
theorem aBj {B:Builtin} {ts:Array TypeId} {args:List V} {o:Out} (hb:b≤S.next) (hf:FrB b fr) (h:dY P B ts args fr S=.ok o) (hl:o.left=some S'):D b S S':=by
 unfold dY at h
 split at h
 ·split at h
  ·exact jR h hl
  ·cases h
 ·exact jR h hl
 ·exact jR h hl
 ·split at h
  ·split at h
   ·exact jS h hl fun v S1 e=>qT hb hf e
   ·exact jS h hl fun v S1 e=>qT hb hf e
   ·cases h
  ·cases h
 ·split at h
  ·exact jS h hl fun v S1 e=>aNt e
  ·cases h
 ·cases h
theorem wQ {ρ:Operand→Option V} {o:Oper} {u:Out} (hb:b≤S.next) (hf:FrB b fr) (h:bE P ρ o fr S=.ok u) (hl:u.left=some S'):D b S S':=by
 unfold bE at h
 split at h
 all_goals try (cases h;done)
 all_goals try (exact wP h hl)
 all_goals repeat' split at h
 all_goals try (cases h;done)
 all_goals try (exact jR h hl)
 all_goals try (exact wP h hl)
 all_goals try (exact aBj hb hf h hl)
 all_goals try (cases h;cases hl;exact D.refl S)
 all_goals try (rename_i hn;cases h;cases hl;exact D.new hb hf hn)
 all_goals try (rename_i hn;cases h;cases hl;exact aNs hn)
 all_goals try (rename_i hn;cases h;cases hl;exact aF3 hn)
 all_goals try (exact jS h hl fun v S1 e=>aBi hb hf e)
 all_goals try (exact jS h hl fun v S1 e=>aIp hb hf e)
 all_goals try (exact jS h hl fun v S1 e=>aF2 hb hf e)
 all_goals simp only [cond_eq_ite] at h
 all_goals repeat' split at h
 all_goals try (cases h;done)
 all_goals try (exact jR h hl)
 all_goals try (cases h;cases hl;exact D.refl S)
 all_goals try (cases h;cases hl;exact D.new hb hf (by assumption))
 all_goals (cases h;cases hl;exact D.put (by assumption))
def nL (C:Call):Prop:=∀ f args S v S',C f args S=.ok (v,S')→∀ b,b≤S.next→D b S S'
theorem aGv {C:Call} (hC:nL C) {n:Nat} {ops:Array Oper} {o:Oper} {e e':dJ} (hb:b≤S.next) (hf:FrB b fr) (h:eG P C n ops o fr e S=.ok (e',S')):D b S S':=by
 unfold eG at h
 split at h
 ·cases h
 ·split at h
  ·cases h;exact D.refl S
  ·cases h
 ·split at h
  ·cases h
  ·rename_i hv
   split at h
   ·cases h;exact wQ hb hf hv rfl
   ·cases h
  ·rename_i hv
   split at h
   ·cases h;exact wQ hb hf hv rfl
   ·cases h
  ·split at h
   ·cases h
   ·rename_i hc
    split at h
    ·cases h;exact hC _ _ _ _ _ hc b hb
    ·cases h
theorem aGw {C:Call} (hC:nL C) {n:Nat} {ops:Array Oper}:∀ (l:List Oper) {e e':dJ} {S S':St},b≤S.next→jM P C n ops l e S=.ok (e',S')→D b S S'
 | [],e,e',S,S',hb,h=>by cases h;exact D.refl S
 | o::l,e,e',S,S',hb,h=>by
  simp only [jM] at h
  split at h
  ·rename_i hs
   have h1:=aGv hC hb (fun _ h=>by cases h) hs
   exact h1.trans (aGw hC l (Nat.le_trans hb h1.next) h)
  ·cases h
theorem aGx {C:Call} (hC:nL C) {n:Nat} {ops:Array Oper} {base:Nat} (hbb:b≤base):∀ (l:List fZ) {recs:List rT} {e e':dJ} {S S':St},b≤S.next→iT P C n ops base l recs e S=.ok (e',S')→D b S S'
 | [],recs,e,e',S,S',hb,h=>by cases h;exact D.refl S
 | (i,re)::l,recs,e,e',S,S',hb,h=>by
  simp only [iT] at h
  split at h
  ·cases h
  ·split at h
   ·cases h
   ·rename_i hs
    have h1:=aGv hC hb (fun k hk=>by cases hk;omega) hs
    rw [cond_eq_ite] at h
    split at h
    ·exact h1.trans (aGx hC hbb l (Nat.le_trans hb h1.next) h)
    ·cases h
theorem aUh {C:Call} (hC:nL C) {n:Nat} {ops:Array Oper} {l:List fZ} {e e':dJ} (hb:b≤S.next) (h:cH P C n ops l e S=.ok (e',S')):D b S S':=by
 unfold cH at h
 have:=aGx hC hb l (S:=⟨S.next+ops.size,S.heap⟩) (Nat.le_trans hb (Nat.le_add_right _ _)) h
 exact ⟨Nat.le_trans (Nat.le_add_right _ _) this.next,this.dead⟩
theorem nA {C:Call} (hC:nL C) {pl:Nat→Option (List fZ)} {k n:Nat}:∀ (c:Code) {e e':dJ} {x:Ex} {S S':St},b≤S.next→dZ P pl C k n c e S=.ok (x,e',S')→D b S S'
 | .skip,e,e',x,S,S',hb,h=>by cases h;exact D.refl S
 | .label _,e,e',x,S,S',hb,h=>by cases h;exact D.refl S
 | .exit id,e,e',x,S,S',hb,h=>by cases h;exact D.refl S
 | .ret,e,e',x,S,S',hb,h=>by cases h;exact D.refl S
 | .region id ops d,e,e',x,S,S',hb,h=>by
  simp only [dZ] at h
  split at h
  ·rename_i hr
   cases h
   cases d with
   | true=>exact aUh hC hb hr
   | false=>exact aGw hC _ hb hr
  ·cases h
 | .seq a c,e,e',x,S,S',hb,h=>by
  simp only [dZ] at h
  split at h
  ·rename_i h1
   have d1:=nA hC a hb h1
   exact d1.trans (nA hC c (Nat.le_trans hb d1.next) h)
  ·exact nA hC a hb h
 | .cond q a c,e,e',x,S,S',hb,h=>by
  simp only [dZ] at h
  split at h
  ·exact nA hC a hb h
  ·exact nA hC c hb h
  ·cases h
 | .block id a,e,e',x,S,S',hb,h=>by
  simp only [dZ] at h
  split at h
  ·rename_i h1
   have d1:=nA hC a hb h1
   rw [cond_eq_ite] at h
   split at h
   ·cases h;exact d1
   ·cases h;exact d1
  ·exact nA hC a hb h
 | .loop a,e,e',x,S,S',hb,h=>by
  simp only [dZ] at h
  have:∀ (m:Nat) (e:dJ) (S:St),b≤S.next→iter (dZ P pl C k n a) m e S=.ok (x,e',S')→D b S S':=by
   intro m
   induction m with
   | zero=>intro e S _ h;cases h
   | succ m ih=>
    intro e S hb h
    simp only [iter] at h
    split at h
    ·rename_i h1
     have d1:=nA hC a hb h1
     exact d1.trans (ih _ _ (Nat.le_trans hb d1.next) h)
    ·exact nA hC a hb h
  exact this k e S hb h
 | .scope _,e,e',x,S,S',hb,h=>by cases h
 | .rangeFunc ..,e,e',x,S,S',hb,h=>by cases h
 | .goto _,e,e',x,S,S',hb,h=>by cases h
 | .refuse _,e,e',x,S,S',hb,h=>by cases h
def qU (pl:fV):Prop:=∀ f g,pl f=some (.spec g)→∀ args S v S',g args S=.ok (v,S')→∀ b,b≤S.next→D b S S'
theorem aKc {pl:fV} (hp:qU pl):∀ k,nL (iF P pl k)
 | 0=>fun _ _ _ _ _ h=>by cases h
 | k+1=>by
  intro f args S v S' h b hb
  simp only [iF] at h
  split at h
  ·cases h
  ·rename_i g hg
   exact hp f g hg args S v S' h b hb
  ·split at h
   ·cases h
   ·split at h
    ·cases h
    ·rw [cond_eq_ite] at h
     split at h
     ·split at h
      ·cases h
      ·cases h
      ·rename_i he
       split at h
       ·cases h;exact nA (aKc hp k) _ hb he
       ·cases h
     ·cases h
theorem bAd {s:Sp} {args:List V} {v:V} (hb:b≤S.next) (h:s.run P args S=.ok (v,S')):D b S S':=by
 unfold Sp.run at h
 split at h
 ·exact aLt hb h
 ·exact aLu h
 ·rw [cond_eq_ite] at h
  split at h
  ·split at h
   ·rw [cond_eq_ite] at h
    split at h
    ·cases h;exact D.refl S
    ·cases h
   ·cases h;exact D.refl S
   ·cases h
  ·cases h
 ·split at h
  ·rw [cond_eq_ite] at h
   split at h
   ·cases h;exact D.refl S
   ·cases h
  ·rw [cond_eq_ite] at h
   split at h
   ·cases h;exact D.refl S
   ·cases h
  ·cases h
 ·cases h;exact D.refl S
 ·cases h
end
theorem aF4 (P:Program) (sp:yB) (t:aBt):qU (qL P sp t):=by
 intro f g hg args S v S' h b hb
 unfold qL at hg
 split at hg
 ·cases hg;exact bAd hb h
 ·split at hg
  ·cases hg
  ·cases hg
end Go.AM
namespace Go.AM
theorem Does.dead {P:Program} {pl:fV} {lv:mM} (hp:qU pl) {f:FuncId} {args:List V} {S:St} {Q:V→St→Prop} (h:Does P pl lv f args S Q):Does P pl lv f args S fun v S'=>Q v S'∧D S.next S S':=by
 obtain ⟨v,S',N,q,h⟩:=h
 obtain ⟨v1,S1,h1,h2⟩:=sM N f args S (fun v S=>some (v,S)) (v,S') (h N _ (Nat.le_refl _))
 cases h2
 exact ⟨v,S',N,⟨q,aKc hp N f args S v S' h1 S.next (Nat.le_refl _)⟩,h⟩
end Go.AM
end
section
namespace Go.AM
section
section
variable {P:Program} {pl:fV} {lv:mM}
def Gives (P:Program) (pl:fV) (lv:mM) (f:FuncId) (args:List V) (S:St) (v:V):Prop:=Does P pl lv f args S fun w S'=>w=v∧Ext S S'
theorem Gives.call {f:FuncId} {args:List V} {S:St} {v:V} (h:Gives P pl lv f args S v) {G:Nat→KS→V→St→An} {R:V→St→Prop} (k:∀ S',Ext S S'→Ok (fun k K=>G k K v S') R):
  Ok (fun k K=>aE P pl lv k f args S (fun v S=>G k K v S)) R:=Does.call h fun w S' ⟨e,x⟩=>by subst e;exact k S' x
theorem Gives.get {f:FuncId} {args:List V} {S:St} {v:V} (h:Gives P pl lv f args S v):∃ N S',Ext S S'∧∀ k K,N≤k→aE P pl lv k f args S K=K v S':=by
 obtain ⟨w,S',N,⟨rfl,x⟩,h⟩:=h
 exact ⟨N,S',x,h⟩
end
theorem Sl.one {S:St} {n:Nat} {v:V} {es:List (List V)} (h:Sl S n v es):v.one=true:=by
 rcases h.is with ⟨rfl,_⟩ | rfl | ⟨a,ver,off,elems,rfl,_⟩<;>rfl
theorem Sl.nilv (S:St) (n:Nat):Sl S n .nils []:=⟨.inl ⟨rfl,rfl⟩,fun _ h=>by cases h⟩
theorem aA4 {S:St} {a n:Nat} {zs cs:List V} (h:S.heap.get a=some (.row 0 n [zs])) (hz:zs.length=n) (hc:cs.length=n) (ho:aU cs=true):
  bV n (.ptr a 0 0 0) (.agg cs) S=.ok ⟨S.next,S.heap.put a (.row 0 n [cs])⟩∧aR (some n) (.ptr a 0 0 0) (⟨S.next,S.heap.put a (.row 0 n [cs])⟩:St)=.ok (.agg cs):=by
 constructor
 ·have:=dD (x:=.agg cs) (j:=0) (m:=n) h hc ho (by omega)
  rw [this]
  simp only [bH,oC zs cs (by rw [hc,hz])]
 ·rw [uC,cM _ _ hc]
structure But (a:Nat) (S S':St):Prop where
 old:∀ y b,y≠a→S.heap.get y=some b→S'.heap.get y=some b
 next:S.next≤S'.next
 wf:WF S→WF S'
theorem But.of {a:Nat} {S S':St} (x:Ext S S'):But a S S':=⟨fun y b _ h=>x.old y b h,x.next,x.wf⟩
theorem But.trans {a:Nat} {A B C:St} (h:But a A B) (k:But a B C):But a A C:=⟨fun y b hy q=>k.old y b hy (h.old y b hy q),Nat.le_trans h.next k.next,fun w=>k.wf (h.wf w)⟩
theorem But.put {a:Nat} {S:St} (ha:a<S.next) (b:Blk):But a S ⟨S.next,S.heap.put a b⟩:=by
 refine ⟨fun y c hy h=>?_,Nat.le_refl _,fun w y c hc=>?_⟩
 ·show (S.heap.put a b).get y=some c
  rw [Tr.get_put_neB _ _ _ _ trivial hy];exact h
 ·have hc':(S.heap.put a b).get y=some c:=hc
  rw [Tr.get_putB _ _ _ _ trivial] at hc'
  split at hc'
  ·show y<S.next;omega
  ·exact w y c hc'
theorem But.ext {a:Nat} {S0 S S':St} (w:WF S0) (x:Ext S0 S) (ha:S0.next≤a) (h:But a S S'):Ext S0 S':=
 ⟨fun y b hy=>h.old y b (by have:=w y b hy;omega) (x.old y b hy),Nat.le_trans x.next h.next,fun w=>h.wf (x.wf w)⟩
theorem dT {S:St} {n:Nat} {v:V} {es:List (List V)} (h:Sl S n v es):v.cells=[v]:=by
 rcases h.is with ⟨rfl,_⟩ | rfl | ⟨a,ver,off,elems,rfl,_⟩<;>rfl
def bJ:V→Option Nat
 | .sl a _ _ _ _=>some a
 | _=>none
theorem jD {S0 S:St} {n:Nat} {v:V} {es:List (List V)} (h:Own S0 S n v es) {y:Nat} (hy:bJ v=some y):S0.next≤y∧y<S.next:=by
 rcases h.is with ⟨e1,_⟩ | ⟨a,ver,tl,e1,e2,e3,_⟩
 ·rw [e1] at hy;cases hy
 ·rw [e1] at hy;cases hy;exact ⟨e2,e3⟩
theorem Own.same {S0 S S':St} {n:Nat} {v:V} {es:List (List V)} (h:Own S0 S n v es) (hn:S.next≤S'.next) (hg:∀ a,bJ v=some a→S'.heap.get a=S.heap.get a):Own S0 S' n v es:=
 h.other hn fun a ver m hv=>hg a (by rw [hv];rfl)
theorem Own.pushAt {S0 S:St} {n b:Nat} {v:V} {es:List (List V)} (h:Own S0 S n v es) (x:Ext S0 S) (w:WF S0) {u:V} {cs:List (List V)} (hu:bY S u=.ok cs) (hc:∀ c,c∈cs→c.length=n∧aU c=true) (hne:cs≠[])
  {k:Nat} (hk:S0.next≤k) (hk2:k<S.next) (hk3:S.heap.get k=none)
  (h1:(es.length+cs.length)*b≤35184372088832) (h2:es.length+cs.length<fU):∃ v' S',gP n b v u (some k) S=.ok (v',S')∧Ext S0 S'∧S'.next=S.next∧Own S0 S' n v' (es++cs)∧(bJ v'=some k∨bJ v'=bJ v)∧∀ y,y≠k→bJ v≠some y→S'.heap.get y=S.heap.get y:=by
 obtain ⟨a1,a2⟩:=gO hc
 have hlen:∀ c,c∈es++cs→c.length=n∧aU c=true:=fun c hm=>(List.mem_append.1 hm).elim (h.len c) (hc c)
 rcases h.is with ⟨rfl,rfl⟩ | ⟨a,ver,tl,rfl,q1,q2,q3⟩
 ·cases cs with
  | nil=>exact absurd rfl hne
  | cons c cs=>
   refine ⟨.sl k 0 n 0 (c::cs).length,⟨S.next,S.heap.put k (.row 0 n (c::cs))⟩,?_,x.trans (Ext.newAt hk3 hk2 _),rfl,⟨.inr ⟨k,0,[],rfl,hk,hk2,?_⟩,hlen⟩,.inl rfl,fun y hy _=>Tr.get_put_neB _ _ _ _ trivial hy⟩
   ·simp only [List.length_nil,Nat.zero_add] at h1 h2
    simp only [gP,hu,a1,a2,and_self,if_true,h1,h2,gM]
   ·rw [List.append_nil];exact Tr.get_put_sameB _ _ _ trivial
 ·have hb:0+es.length≤es.length+tl.length:=by omega
  refine ⟨.sl a (ver+1) n 0 (es++cs).length,⟨S.next,S.heap.put a (.row (ver+1) n (es++cs))⟩,?_,x.set q1 q2 w _,rfl,⟨.inr ⟨a,ver+1,[],rfl,q1,q2,?_⟩,hlen⟩,.inr rfl,fun y _ hy=>Tr.get_put_neB _ _ _ _ trivial (fun e=>hy (by rw [e];rfl))⟩
  ·simp only [gP,hu,a1,a2,and_self,if_true,bC q3,hb,h1,h2,List.drop_zero,List.take_left',List.length_append]
  ·rw [List.append_nil];exact Tr.get_put_sameB _ _ _ trivial
theorem jE {S:St} (w:WF S) (c k:Nat) (hk:S.next≤k):(⟨S.next+c,S.heap⟩:St).heap.get k=none:=by
 cases hq:S.heap.get k with
 | none=>rfl
 | some b=>have:=w k b hq;omega
theorem Sl.but {a ver m n:Nat} {el:List (List V)} {S S':St} {v:V} {es:List (List V)} (h:Sl S n v es) (b:∀ y c,y≠a→S.heap.get y=some c→S'.heap.get y=some c) (hr:S.heap.get a=some (.row ver m el)) (hne:m≠n):Sl S' n v es:=by
 refine ⟨?_,h.len⟩
 rcases h.is with h1 | h1 | ⟨a',ver',off,elems,h1,h2,h3⟩
 ·exact .inl h1
 ·exact .inr (.inl h1)
 ·have h4:=iA h2
  refine .inr (.inr ⟨a',ver',off,elems,h1,bC (b a' _ (fun e=>?_) h4),h3⟩)
  rw [e,hr] at h4
  exact hne (by cases h4;rfl)
theorem Own.but {a ver m n:Nat} {el:List (List V)} {S0 S S':St} {v:V} {es:List (List V)} (h:Own S0 S n v es) (b:∀ y c,y≠a→S.heap.get y=some c→S'.heap.get y=some c) (hn:S.next≤S'.next) (hr:S.heap.get a=some (.row ver m el)) (hne:m≠n):Own S0 S' n v es:=by
 refine ⟨?_,h.len⟩
 rcases h.is with h1 | ⟨a',ver',tl,h1,h2,h3,h4⟩
 ·exact .inl h1
 ·refine .inr ⟨a',ver',tl,h1,h2,Nat.lt_of_lt_of_le h3 hn,b a' _ (fun e=>?_) h4⟩
  rw [e,hr] at h4
  exact hne (by cases h4;rfl)
theorem Own.beq {S0 S:St} {n:Nat} {v:V} {es:List (List V)} (h:Own S0 S n v es):bN v v=true:=by
 rcases h.is with ⟨rfl,_⟩ | ⟨a',ver',tl,rfl,_⟩
 ·rfl
 ·simp [bN]
theorem nb {S:St} (w:WF S) (n:Nat) (cs:List V):∃ S1,bF none S (.row 0 n [cs])=.ok (S.next,S1)∧Ext S S1∧S1.heap.get S.next=some (.row 0 n [cs])∧S1.next=S.next+1:=
 ⟨_,eJ ..,Ext.new w _,Tr.get_put_sameB _ _ _ trivial,rfl⟩
theorem vb {S:St} (w:WF S) (n:Nat) (zs:List V) (x:V) (hz:zs.length=n) (hx:x.cells.length=n) (ho:aU x.cells=true):
  ∃ S1 S2,bF none S (.row 0 n [zs])=.ok (S.next,S1)∧bV n (.ptr S.next 0 0 0) x S1=.ok S2∧Ext S S2∧S2.heap.get S.next=some (.row 0 n [x.cells])∧S2.next=S.next+1:=
 ⟨_,_,eJ ..,aCm S n zs x hz hx ho,Ext.var w n zs x.cells,iA (aK3 S n zs x.cells),rfl⟩
abbrev Ag:=List V→St→An
inductive Turn (X:Type) where
 | stop (x:X) (S:St)
 | next (vs:List V) (S:St)
def Turn.run {X:Type} (out:Nat→KS→X→St→An) (k:Nat) (K:KS) (bD:Ag):Turn X→An
 | .stop x S=>out k K x S
 | .next vs S=>bD vs S
def OkL {X:Type} (out:Nat→KS→X→St→An) (g:Nat→KS→Ag→An) (Q:Turn X→Prop):Prop:=∃ o N,Q o∧∀ k K bD,N≤k→g k K bD=o.run out k K bD
theorem OkL.stop {X:Type} {out:Nat→KS→X→St→An} {Q:Turn X→Prop} {g:Nat→KS→Ag→An} (x:X) {S:St} (h:Q (.stop x S)) (he:∀ k K bD,g k K bD=out k K x S:=by intros;rfl):OkL out g Q:=⟨_,0,h,fun k K bD _=>he k K bD⟩
theorem OkL.next {X:Type} {out:Nat→KS→X→St→An} {Q:Turn X→Prop} {vs:List V} {S:St} (h:Q (.next vs S)):OkL out (fun _ _ bD=>bD vs S) Q:=⟨_,0,h,fun _ _ _ _=>rfl⟩
theorem OkL.pick {X:Type} {out:Nat→KS→X→St→An} {Q:Turn X→Prop} {b:Bool} {g g':Nat→KS→Ag→An} (h:b=true→OkL out g Q) (h':b=false→OkL out g' Q):OkL out (fun k K bD=>aC (.bool b) (g k K bD) (g' k K bD)) Q:=by
 cases b with
 | true=>exact h rfl
 | false=>exact h' rfl
theorem OkL.pickP {X:Type} {out:Nat→KS→X→St→An} {Q:Turn X→Prop} {p:Prop} [Decidable p] {g g':Nat→KS→Ag→An} (h:p→OkL out g Q) (h':¬ p→OkL out g' Q):OkL out (fun k K bD=>aC (.bool (decide p)) (g k K bD) (g' k K bD)) Q:=
 OkL.pick (fun e=>h (of_decide_eq_true e)) (fun e=>h' (of_decide_eq_false e))
theorem OkL.pickN {X:Type} {out:Nat→KS→X→St→An} {Q:Turn X→Prop} {p:Prop} [Decidable p] {g g':Nat→KS→Ag→An} (h:¬ p→OkL out g Q) (h':p→OkL out g' Q):OkL out (fun k K bD=>aC (.bool (!decide p)) (g k K bD) (g' k K bD)) Q:=
 OkL.pick (fun e=>h (by simpa using e)) (fun e=>h' (by simpa using e))
theorem OkL.call {P:Program} {pl:fV} {lv:mM} {X:Type} {out:Nat→KS→X→St→An} {Q:Turn X→Prop} {f:FuncId} {args:List V} {S:St} {R:V→St→Prop} (h:Does P pl lv f args S R) {G:Nat→KS→Ag→V→St→An} (k:∀ v S,R v S→OkL out (fun k K bD=>G k K bD v S) Q):
  OkL out (fun k K bD=>aE P pl lv k f args S (fun v S=>G k K bD v S)) Q:=by
 obtain ⟨v,S',N,q,h⟩:=h
 obtain ⟨o,M,q2,h2⟩:=k v S' q
 exact ⟨o,max N M,q2,fun k K bD hk=>(h k (fun v S=>G k K bD v S) (by omega)).trans (h2 k K bD (by omega))⟩
theorem Gives.callL {P:Program} {pl:fV} {lv:mM} {X:Type} {out:Nat→KS→X→St→An} {Q:Turn X→Prop} {f:FuncId} {args:List V} {S:St} {v:V} (h:Gives P pl lv f args S v) {G:Nat→KS→Ag→V→St→An} (k:∀ S',Ext S S'→OkL out (fun k K bD=>G k K bD v S') Q):
  OkL out (fun k K bD=>aE P pl lv k f args S (fun v S=>G k K bD v S)) Q:=OkL.call h fun w S' ⟨e,x⟩=>by subst e;exact k S' x
def pZ {σ ρ α X:Type} (step:σ→α→ρ⊕σ) (Inv:Nat→σ→List V→St→Prop) (Post:ρ→X→St→Prop) (i:Nat) (s:σ) (a:α):Turn X→Prop
 | .stop x S=>∃ r,step s a=.inl r∧Post r x S
 | .next vs S=>∃ s',step s a=.inr s'∧Inv (i+1) s' vs S
theorem Ok.loopL {σ ρ α X:Type} {F:Nat→KS→List V→St→(List V→St→An)→An} {out:Nat→KS→X→St→An} (all:List α) {step:σ→α→ρ⊕σ} {fin:σ→ρ} (Inv:Nat→σ→List V→St→Prop) (Post:ρ→X→St→Prop)
  (hstep:∀ i a s vs S,Inv i s vs S→all[i]?=some a→OkL out (fun k K bD=>F k K vs S bD) (pZ step Inv Post i s a))
  (hend:∀ s vs S,Inv all.length s vs S→∃ x,Post (fin s) x S∧∀ k K bD,F k K vs S bD=out k K x S)
  {s:σ} {vs:List V} {S:St} (hI:Inv 0 s vs S) {Q:V→St→Prop} (hout:∀ x S',Post (fF step fin all s) x S'→Ok (fun k K=>out k K x S') Q):Ok (fun k K=>cQ k vs S (F k K)) Q:=by
 refine Ok.loop all Inv Post (fun i a s vs S hI hi=>?_) (fun s vs S hI=>?_) hI hout
 ·obtain ⟨o,N,hq,h⟩:=hstep i a s vs S hI hi
  cases o with
  | stop x S'=>
   obtain ⟨r,h1,h2⟩:=hq
   exact ⟨N,.inl ⟨r,x,S',h1,h2,h⟩⟩
  | next vs' S'=>
   obtain ⟨s',h1,h2⟩:=hq
   exact ⟨N,.inr ⟨s',vs',S',h1,h2,h⟩⟩
 ·obtain ⟨x,h1,h2⟩:=hend s vs S hI
  exact ⟨0,x,S,h1,fun k K bD _=>h2 k K bD⟩
theorem OkL.loop {X:Type} {out:Nat→KS→X→St→An} {Q:Turn X→Prop} {σ ρ α Y:Type} {F:Nat→KS→Ag→List V→St→Ag→An} {out2:Nat→KS→Ag→Y→St→An} (all:List α) {step:σ→α→ρ⊕σ} {fin:σ→ρ} (Inv:Nat→σ→List V→St→Prop) (Post:ρ→Y→St→Prop)
  (hstep:∀ i a s vs S,Inv i s vs S→all[i]?=some a→∃ N,(∃ r y S',step s a=.inl r∧Post r y S'∧∀ k K ag bD,N≤k→F k K ag vs S bD=out2 k K ag y S')∨(∃ s' vs' S',step s a=.inr s'∧Inv (i+1) s' vs' S'∧∀ k K ag bD,N≤k→F k K ag vs S bD=bD vs' S'))
  (hend:∀ s vs S,Inv all.length s vs S→∃ N y S',Post (fin s) y S'∧∀ k K ag bD,N≤k→F k K ag vs S bD=out2 k K ag y S')
  {s:σ} {vs:List V} {S:St} (hI:Inv 0 s vs S) (hout:∀ y S',Post (fF step fin all s) y S'→OkL out (fun k K ag=>out2 k K ag y S') Q):OkL out (fun k K ag=>cQ k vs S (F k K ag)) Q:=by
 obtain ⟨N,y,S',hp,h⟩:=aCn (κ:=KS×Ag) (F:=fun k κ=>F k κ.1 κ.2) (out:=fun k κ=>out2 k κ.1 κ.2) all Inv Post
  (fun i a s vs S h1 h2=>by
   obtain ⟨N,h⟩:=hstep i a s vs S h1 h2
   rcases h with ⟨r,y,S',a1,a2,a3⟩ | ⟨s',vs',S',a1,a2,a3⟩
   ·exact ⟨N,.inl ⟨r,y,S',a1,a2,fun k κ bD hk=>a3 k κ.1 κ.2 bD hk⟩⟩
   ·exact ⟨N,.inr ⟨s',vs',S',a1,a2,fun k κ bD hk=>a3 k κ.1 κ.2 bD hk⟩⟩)
  (fun s vs S h1=>by
   obtain ⟨N,y,S',a1,a2⟩:=hend s vs S h1
   exact ⟨N,y,S',a1,fun k κ bD hk=>a2 k κ.1 κ.2 bD hk⟩) all 0 s vs S rfl (Nat.zero_le _) hI
 obtain ⟨o,M,hq,h2⟩:=hout y S' hp
 refine ⟨o,max N (max M (all.length+1)),hq,fun k K ag hk=>?_⟩
 exact (h k k (K,ag) (by omega) (by omega)).trans (h2 k K ag (by omega))
def Grown (n B:Nat) (T T':St):Prop:=Ext T T'∨∃ a ver el,B≤a∧T.heap.get a=some (.row ver n el)∧But a T T'
theorem aKd {S:St} (w:WF S) {n:Nat} {v:V} {es:List (List V)} (h:Sl S n v es):∀ y,bJ v=some y→y<S.next:=by
 intro y hy
 rcases h.is with ⟨rfl,_⟩ | rfl | ⟨a,ver,off,elems,rfl,h1,_⟩
 ·cases hy
 ·cases hy
 ·cases hy;exact w _ _ (iA h1)
theorem Sl.keep {S S':St} {n:Nat} {v:V} {es:List (List V)} (h:Sl S n v es) (hg:∀ y c,bJ v=some y→S.heap.get y=some c→S'.heap.get y=some c):Sl S' n v es:=by
 refine ⟨?_,h.len⟩
 rcases h.is with h1 | h1 | ⟨a,ver,off,elems,h1,h2,h3⟩
 ·exact .inl h1
 ·exact .inr (.inl h1)
 ·exact .inr (.inr ⟨a,ver,off,elems,h1,bC (hg a _ (by rw [h1];rfl) (iA h2)),h3⟩)
theorem Grown.old {n B:Nat} {T T':St} (g:Grown n B T T') {y:Nat} {c:Blk} (h:T.heap.get y=some c) (hc:y<B∨∀ ver el,c≠.row ver n el):T'.heap.get y=some c:=by
 rcases g with x | ⟨a,ver,el,ha,hr,b⟩
 ·exact x.old _ _ h
 ·refine b.old _ _ (fun e=>?_) h
  subst e
  rcases hc with hc | hc
  ·omega
  ·rw [h] at hr;cases hr;exact hc _ _ rfl
theorem Grown.sl {n B m:Nat} {T T':St} (g:Grown n B T T') {v:V} {es:List (List V)} (h:Sl T m v es) (hm:m≠n):Sl T' m v es:=by
 rcases g with x | ⟨a,ver,el,ha,hr,b⟩
 ·exact h.ext x
 ·exact h.but b.old hr (Ne.symm hm)
theorem Grown.sl2 {n B m:Nat} {T T':St} (g:Grown n B T T') {v:V} {es:List (List V)} (h:Sl T m v es) (hv:∀ y,bJ v=some y→y<B):Sl T' m v es:=
 Sl.keep h fun y c hy hc=>g.old hc (.inl (hv y hy))
theorem Own.pushG {S0 S:St} {n b:Nat} {v:V} {es:List (List V)} (h:Own S0 S n v es) (x:Ext S0 S) (w:WF S0) {u:V} {cs:List (List V)} (hu:bY S u=.ok cs) (hc:∀ c,c∈cs→c.length=n∧aU c=true) (hne:cs≠[])
  (h1:(es.length+cs.length)*b≤35184372088832) (h2:es.length+cs.length<fU):∃ v' S',gP n b v u none S=.ok (v',S')∧Ext S0 S'∧Own S0 S' n v' (es++cs)∧(bJ v'=some S.next∨bJ v'=bJ v)∧(∀ y,y<S.next→bJ v≠some y→S'.heap.get y=S.heap.get y)∧S.next≤S'.next:=by
 obtain ⟨a1,a2⟩:=gO hc
 have hlen:∀ c,c∈es++cs→c.length=n∧aU c=true:=fun c hm=>(List.mem_append.1 hm).elim (h.len c) (hc c)
 rcases h.is with ⟨rfl,rfl⟩ | ⟨a,ver,tl,rfl,q1,q2,q3⟩
 ·cases cs with
  | nil=>exact absurd rfl hne
  | cons c cs=>
   refine ⟨.sl S.next 0 n 0 (c::cs).length,⟨S.next+1,S.heap.put S.next (.row 0 n (c::cs))⟩,?_,x.trans (Ext.new (x.wf w) _),⟨.inr ⟨S.next,0,[],rfl,x.next,Nat.lt_succ_self _,?_⟩,hlen⟩,.inl rfl,fun y hy _=>Tr.get_put_neB _ _ _ _ trivial (by omega),Nat.le_succ _⟩
   ·simp only [List.length_nil,Nat.zero_add] at h1 h2
    simp only [gP,hu,a1,a2,and_self,if_true,h1,h2,eJ]
   ·rw [List.append_nil];exact Tr.get_put_sameB _ _ _ trivial
 ·have hb:0+es.length≤es.length+tl.length:=by omega
  refine ⟨.sl a (ver+1) n 0 (es++cs).length,⟨S.next,S.heap.put a (.row (ver+1) n (es++cs))⟩,?_,x.set q1 q2 w _,⟨.inr ⟨a,ver+1,[],rfl,q1,q2,?_⟩,hlen⟩,.inr rfl,fun y _ hy=>Tr.get_put_neB _ _ _ _ trivial (fun e=>hy (by rw [e];rfl)),Nat.le_refl _⟩
  ·simp only [gP,hu,a1,a2,and_self,if_true,bC q3,hb,h1,h2,List.drop_zero,List.take_left',List.length_append]
  ·rw [List.append_nil];exact Tr.get_put_sameB _ _ _ trivial
mutual
theorem fX:∀ v:V,bN v v=true
 | .bool b=>by simp [bN]
 | .int k n=>by simp [bN,bU]
 | .str s=>by rw [bN];rw [hZ];simp
 | .nilp=>rfl
 | .ptr a b c d=>by simp [bN]
 | .iptr a b=>by simp [bN,beqVs_refl a]
 | .nils=>rfl
 | .sl a b c d f=>by simp [bN]
 | .imm a=>by simp [bN,beqVss_refl a]
 | .agg a=>by simp [bN,beqVs_refl a]
 | .tup a=>by simp [bN,beqVs_refl a]
 | .nili=>rfl
 | .iface t a=>by simp [bN,fX a]
 | .nilf=>rfl
 | .func f a b=>by simp [bN,beqVs_refl a,beqVs_refl b]
 | .nilm=>rfl
 | .mp a=>by simp [bN]
 | .res a b=>by simp [bN]
theorem beqVs_refl:∀ l:List V,beqVs l l=true
 | []=>rfl
 | a::l=>by simp [beqVs,fX a,beqVs_refl l]
theorem beqVss_refl:∀ l:List (List V),beqVss l l=true
 | []=>rfl
 | a::l=>by simp [beqVss,beqVs_refl a,beqVss_refl l]
end
theorem aCo {S S1:St} (w:WF S) {n k:Nat} (d:D (S.next+n) (⟨S.next+n,S.heap⟩:St) S1) (h1:S.next≤k) (h2:k<S.next+n):S1.heap.get k=none∧k<S1.next:=
 ⟨d.dead k h2 (jE w n k h1),Nat.lt_of_lt_of_le h2 d.next⟩
end
end Go.AM
end
section
namespace Go.Raft
open Go.AM
structure Entry where
 term:Int
 members:Int
 data:List UInt8
deriving DecidableEq
structure Hard where
 term:Int
 vote:Int
 base:Int
 baseTerm:Int
 members:Int
 snap:List UInt8
 log:List Entry
deriving DecidableEq
structure Letter where
 kind:Int
 from':Int
 to:Int
 term:Int
 index:Int
 at':Int
 commit:Int
 members:Int
 off:Int
 size:Int
 yes:Bool
 data:List UInt8
 entries:List Entry
deriving DecidableEq
def Letter.zero:Letter:=⟨0,0,0,0,0,0,0,0,0,0,false,[],[]⟩
structure Peer where
 next:Int
 mtch:Int
 off:Int
deriving DecidableEq
structure Inst where
 index:Int
 at':Int
 size:Int
 data:List UInt8
deriving DecidableEq
structure Core where
 id:Int
 h:Hard
 role:Int
 leads:Int
 sure:Int
 drawn:Int
 left:Int
 votes:Int
 peers:List Peer
 way:Option Inst
 out:List Letter
deriving DecidableEq
def aUi (m:Int) (k:Nat):Bool:=decide ((m / 2 ^ k) % 2=1)
def cN (m id:Int):Bool:=decide (0≤id)&&(decide (id<7)&&aUi m id.toNat)
def ids:List Int:=[0,1,2,3,4,5,6]
def lV (m:Int):List Int:=ids.filter (cN m)
def jF (m:Int):Int:=(lV m).length
def kD (m:Int):Bool:=decide (1≤m)&&decide (m≤127)
def xB (m n:Int):Int:=(ids.map fun i=>if cN m i=true∧cN n i=true then (2:Int) ^ i.toNat else 0).sum
def aLv (m n:Int):Int:=(ids.map fun i=>if cN m i=true∧cN n i=false∨cN m i=false∧cN n i=true then (2:Int) ^ i.toNat else 0).sum
def jG (m yes:Int):Bool:=kD m&&decide (jF m<2*jF (xB m yes))
def mF (m n:Int):Bool:=kD m&&(kD n&&decide (jF (aLv m n)=1))
def ofL (base:Int):List Entry→Int×Int→Int×Int
 | [],r=>r
 | x::l,r=>ofL (base+1) l (if x.members=0 then r else (x.members,base+1))
def eP (h:Hard):Int×Int:=ofL h.base h.log (h.members,h.base)
def nM (x:Entry) (behind term:Int):Bool:=
 decide (1≤x.term)&&(decide (behind≤x.term)&&(decide (x.term≤term)&&(decide (0≤x.members)&&(decide (x.members≤127)&&(decide (x.data.length≤1100)&&(decide (x.members=0)||decide (x.data=[])))))))
def fY (term:Int):List Entry→Int→Bool
 | [],_=>true
 | x::l,behind=>nM x behind term&&fY term l x.term
def rQ (h:Hard):Bool:=
 decide (0≤h.term)&&(decide (h.term≤1099511627776)&&(decide (-1≤h.vote)&&(decide (h.vote<7)&&(decide (1≤h.members)&&(decide (h.members≤127)&&(decide (0≤h.base)&&(decide (h.base≤1099511627776)&&(decide (0≤h.baseTerm)&&(decide (h.baseTerm≤h.term)&&(decide (h.baseTerm=0↔h.base=0) &&
  (decide (h.log.length≤200)&&(decide ((h.log.length:Int)≤1099511627776 - h.base)&&fY h.term h.log h.baseTerm))))))))))))
def fQ (h:Hard):Bool:=rQ h&&(decide (h.snap=[]↔h.base=0)&&decide (h.snap.length≤65536))
def nC (n lo hi:Int):Bool:=decide (lo≤n)&&decide (n≤hi)
def lW (m n:Letter):Bool:=
 decide (m.entries.length=n.entries.length)&&(decide (m.index=n.index)&&(decide (m.at'=n.at')&&(decide (m.commit=n.commit)&&(decide (m.members=n.members)&&(decide (m.off=n.off)&&(decide (m.size=n.size)&&(decide (m.yes=n.yes)&&decide (m.data=n.data))))))))
def gG (m:Letter):Bool:=
 if m.kind=1 then lW m { Letter.zero with index:=m.index,at':=m.at' } else
 if m.kind=2 then lW m { Letter.zero with yes:=m.yes } else
 if m.kind=3 then lW m { Letter.zero with index:=m.index,at':=m.at',entries:=m.entries,commit:=m.commit } else
 if m.kind=4 then lW m { Letter.zero with yes:=m.yes,index:=m.index } else
 if m.kind=5 then lW m { Letter.zero with index:=m.index,at':=m.at',members:=m.members,off:=m.off,size:=m.size,data:=m.data } else
 if m.kind=6 then lW m { Letter.zero with index:=m.index,off:=m.off } else false
def gK (m:Letter):Bool:=
 decide (m.entries.length≤8)&&(decide ((m.entries.length:Int)≤1099511627776 - m.index)&&fQ ⟨m.term,-1,m.index,m.at',1,if 0<m.index then [115] else [],m.entries⟩)
def jH (m:Letter):Bool:=
 decide (m.index≠0)&&(decide (m.at'≠0)&&(nC m.members 1 127&&(nC m.size 1 65536&&(nC m.off 0 (m.size - 1)&&(decide (1≤m.data.length)&&(decide (m.data.length≤600)&&decide ((m.data.length:Int)≤m.size - m.off)))))))
def dB (m:Letter):Bool:=
 gG m&&(nC m.from' 0 6&&(nC m.to 0 6&&(decide (m.from'≠m.to)&&(nC m.term 1 1099511627776&&(nC m.index 0 1099511627776&&(nC m.at' 0 m.term&&(nC m.commit 0 1099511627776 &&
  (if m.kind=1 then decide (m.at'=0↔m.index=0) else if m.kind=3 then decide (m.at'=0↔m.index=0)&&gK m else if m.kind=5 then jH m else if m.kind=6 then decide (m.index≠0)&&nC m.off 0 65536 else true))))))))
def cV (cH:Int):Int:=10+(if cH.tmod 11<0 then cH.tmod 11+11 else cH.tmod 11)
def oM (id:Int) (h:Hard) (cH:Int):Option Core:=
 if id<0∨7≤id∨fQ h=false then none else
  some ⟨id,h,1,-1,h.base,cV cH,cV cH,0,List.replicate 7 ⟨0,0,0⟩,none,[]⟩
def cF (h:Hard):Int:=h.base+h.log.length
def termH (h:Hard) (n:Int):Int:=if n=h.base then h.baseTerm else match h.log[(n - h.base - 1).toNat]? with
 | some x=>x.term
 | none=>0
def Core.last (c:Core):Int:=cF c.h
def Core.term (c:Core) (n:Int):Int:=termH c.h n
def Core.members (c:Core):Int:=(eP c.h).1
def Core.post (c:Core) (m:Letter):Core:={ c with out:=c.out++[{ m with from':=c.id,term:=c.h.term }] }
def Core.others (c:Core):List Int:=(lV c.members).filter fun f=>!decide (f=c.id)
def Core.peer (c:Core) (f:Int):Peer:=c.peers.getD f.toNat ⟨0,0,0⟩
def Core.setPeer (c:Core) (f:Int) (p:Peer):Core:={ c with peers:=c.peers.set f.toNat p }
def Core.send (c:Core) (f:Int):Core:=
 let p:=c.peer f
 if p.next≤c.h.base then
  c.post { Letter.zero with kind:=5,to:=f,index:=c.h.base,at':=c.h.baseTerm,members:=c.h.members,off:=p.off,size:=c.h.snap.length,data:=(c.h.snap.drop p.off.toNat).take 600 }
 else
  c.post { Letter.zero with kind:=3,to:=f,index:=p.next - 1,at':=c.term (p.next - 1),entries:=(c.h.log.drop (p.next - c.h.base - 1).toNat).take 8,commit:=c.sure }
def Core.spread (c:Core):Core:=if c.role=3 then c.others.foldl Core.send c else c
def Core.rest (c:Core):Core:={ c with role:=1,leads:=-1,left:=c.drawn }
def aA5:List Peer→Nat→Int→Int
 | [],_,_=>0
 | p::l,k,n=>(if n≤p.mtch then (2:Int) ^ k else 0)+aA5 l (k+1) n
def jL (c:Core) (m:Int):Nat→Int→Int→Int
 | 0,_,sure=>sure
 | k+1,n,sure=>if n≤sure then sure else jL c m k (n - 1) (if c.term n=c.h.term∧jG m (aA5 c.peers 0 n)=true then n else sure)
def Core.look (c:Core):Core:=
 let r:=eP c.h
 let c1:={ c with sure:=jL c r.1 (c.last - c.sure).toNat c.last c.sure }
 if cN r.1 c1.id=false∧r.2≤c1.sure then c1.rest else c1
def Core.own (c:Core):Core:=(c.setPeer c.id { c.peer c.id with mtch:=c.last }).look.spread
def Core.lead (c:Core):Core:=
 let c1:={ c with role:=3,leads:=c.id,left:=3,peers:=List.replicate 7 ⟨c.last+1,0,0⟩ }
 let c2:=if c.last<1099511627776∧c.h.log.length<200 then { c1 with h:={ c1.h with log:=c1.h.log++[⟨c1.h.term,0,[]⟩] } } else c1
 c2.own
def Core.stand (c:Core):Core:=
 let c1:={ c with h:={ c.h with term:=c.h.term+1,vote:=c.id },role:=2,leads:=-1,votes:=(2:Int) ^ c.id.toNat }
 if jG c1.members c1.votes=true then c1.lead else
  c1.others.foldl (fun d f=>d.post { Letter.zero with kind:=1,to:=f,index:=d.last,at':=d.term d.last }) c1
def Core.tick (c:Core) (cH:Int):Core:=
 let c1:={ c with left:=c.left - 1 }
 if 0<c1.left then c1 else if c1.role=3 then { c1 with left:=3 }.spread else
  let c2:={ c1 with drawn:=cV cH,left:=cV cH }
  let r:=eP c2.h
  if c2.h.term<1099511627776∧(cN r.1 c2.id=true∨c2.sure<r.2) then c2.stand else c2
def Core.passed (c:Core) (m:Letter):Bool:=
 if dB m=false∨m.to≠c.id then true else decide (m.kind=1)&&(decide (c.role=3)||(decide (c.leads≠-1)&&decide (c.drawn - c.left<10)))
def Core.late (c:Core) (m:Letter):Core:=
 if m.kind=1 then c.post { Letter.zero with kind:=2,to:=m.from' } else if m.kind=3∨m.kind=5 then c.post { Letter.zero with kind:=4,to:=m.from',index:=c.last } else c
def Core.asked (c:Core) (m:Letter):Core:=
 let t:=c.term c.last
 let yes:=(decide (c.h.vote=-1)||decide (c.h.vote=m.from'))&&(decide (t<m.at')||(decide (m.at'=t)&&decide (c.last≤m.index)))
 let c1:=if yes=true then { c with h:={ c.h with vote:=m.from' },left:=c.drawn } else c
 c1.post { Letter.zero with kind:=2,to:=m.from',yes:=yes }
def kE (m k:Int):Int:=if cN m k=true then m else m+(2:Int) ^ k.toNat
def Core.voted (c:Core) (m:Letter):Core:=
 if c.role≠2∨m.yes=false then c else
  let c1:={ c with votes:=kE c.votes m.from' }
  if jG c1.members c1.votes=true then c1.lead else c1
def Core.hear (c:Core) (f:Int):Core:={ c with role:=1,leads:=f,left:=c.drawn }
def jI (c:Core):List Entry→Int→Bool
 | [],_=>false
 | x::l,n=>if c.h.base≤n∧n≤c.sure∧c.term n≠x.term then true else jI c l (n+1)
def eI:List Entry→Int→Hard→Int→Hard×Int
 | [],_,h,to=>(h,to)
 | x::l,n,h,to=>
  if h.base<n∧(cF h<n∨termH h n≠x.term) then
   (if 200<n - h.base then (h,to) else eI l (n+1) { h with log:=h.log.take (n - h.base - 1).toNat++[x] } n)
  else eI l (n+1) h n
def Core.appended (c:Core) (m:Letter):Core:=
 if c.role=3 then c else if jI c m.entries (m.index+1)=true then c else
  let c1:=c.hear m.from'
  if c1.last<m.index then c1.post { Letter.zero with kind:=4,to:=m.from',index:=c1.last } else
  if c1.h.base≤m.index∧c1.term m.index≠m.at' then c1.post { Letter.zero with kind:=4,to:=m.from',index:=m.index - 1 } else
   let r:=eI m.entries (m.index+1) c1.h m.index
   let c2:={ c1 with h:=r.1,sure:=max c1.sure (min m.commit r.2) }
   c2.post { Letter.zero with kind:=4,to:=m.from',yes:=true,index:=r.2 }
def Core.acked (c:Core) (m:Letter):Core:=
 if c.role≠3∨c.last<m.index then c else
  let p:=c.peer m.from'
  if m.yes=false then (c.setPeer m.from' { p with next:=max (min (p.next - 1) (m.index+1)) (p.mtch+1) }).send m.from' else
  if m.index≤p.mtch then c else
   let c1:=(c.setPeer m.from' ⟨m.index+1,m.index,0⟩).look
   if c1.role=3∧(c1.peer m.from').next≤c1.last then c1.send m.from' else c1
def Core.taken (c:Core) (m:Letter) (snap:List UInt8):Core:=
 let rest:=if m.index≤c.last∧c.term m.index=m.at' then c.h.log.drop (m.index - c.h.base).toNat else []
 { c with h:={ c.h with base:=m.index,baseTerm:=m.at',members:=m.members,snap:=snap,log:=rest },sure:=m.index,way:=none }
def Core.installed (c:Core) (m:Letter):Core:=
 if c.role=3 then c else
  let c1:=c.hear m.from'
  if m.index≤c1.sure then c1.post { Letter.zero with kind:=4,to:=m.from',yes:=true,index:=m.index } else
   let c2:=if m.off=0 then { c1 with way:=some ⟨m.index,m.at',m.size,[]⟩ } else c1
   match c2.way with
   | none=>c2.post { Letter.zero with kind:=6,to:=m.from',index:=m.index }
   | some w=>if w.index≠m.index∨w.at'≠m.at'∨w.size≠m.size then c2.post { Letter.zero with kind:=6,to:=m.from',index:=m.index } else
    let w1:=if m.off=w.data.length then { w with data:=w.data++m.data } else w
    let c3:={ c2 with way:=some w1 }
    if (w1.data.length:Int)<w1.size then c3.post { Letter.zero with kind:=6,to:=m.from',index:=m.index,off:=w1.data.length } else
     (c3.taken m w1.data).post { Letter.zero with kind:=4,to:=m.from',yes:=true,index:=m.index }
def Core.more (c:Core) (m:Letter):Core:=
 let p:=c.peer m.from'
 if c.role≠3∨m.index≠c.h.base∨c.h.base<p.next∨(c.h.snap.length:Int)≤m.off∨m.off=p.off then c else
  (c.setPeer m.from' { p with off:=m.off }).send m.from'
def Core.take (c:Core) (m:Letter):Core:=
 if c.passed m=true then c else
  let c1:=if c.h.term<m.term then { c with h:={ c.h with term:=m.term,vote:=-1 },role:=1,leads:=-1 } else c
  if m.term<c1.h.term then c1.late m else
   if m.kind=1 then c1.asked m else if m.kind=2 then c1.voted m else if m.kind=3 then c1.appended m else if m.kind=4 then c1.acked m else if m.kind=5 then c1.installed m else if m.kind=6 then c1.more m else c1
def Core.propose (c:Core) (data:List (List UInt8)):Core×Int×Bool:=
 if c.role≠3∨data.length=0∨(120:Int) - c.h.log.length<data.length∨(1099511627776:Int) - c.last<data.length then (c,0,false) else
 if data.any (fun d=>decide (1100<d.length))=true then (c,0,false) else
  (({ c with h:={ c.h with log:=c.h.log++data.map fun d=>⟨c.h.term,0,d⟩ } }:Core).own,c.last+1,true)
def Core.change (c:Core) (members:Int):Core×Int×Bool:=
 let r:=eP c.h
 if c.role≠3∨mF r.1 members=false∨c.sure<r.2∨c.term c.sure≠c.h.term∨120≤c.h.log.length∨1099511627776≤c.last then (c,0,false) else
  let c1:Core:={ c with h:={ c.h with log:=c.h.log++[⟨c.h.term,members,[]⟩] } }
  let n:=c1.last
  let c2:Core:={ c1 with peers:=(List.range 7).zipWith (fun (k:Nat) p=>if (k:Int)≠c.id∧cN members (k:Int)=true∧cN r.1 (k:Int)=false then ⟨n,0,0⟩ else p) c1.peers }
  (c2.own,n,true)
def Core.compact (c:Core) (index:Int) (snap:List UInt8):Core×Int:=
 if index≤c.h.base∨c.sure<index∨snap=[]∨65536<snap.length then (c,1) else
  let k:=(index - c.h.base).toNat
  ({ c with h:={ c.h with base:=index,baseTerm:=c.term index,members:=(eP { c.h with log:=c.h.log.take k }).1,snap:=snap,log:=c.h.log.drop k },peers:=c.peers.map fun p=>{ p with off:=0 } },0)
structure View where
 role:Int
 leads:Int
 commit:Int
 last:Int
 left:Int
 members:Int
deriving DecidableEq
def Core.view (c:Core):View:=⟨c.role,c.leads,c.sure,c.last,c.left,c.members⟩
structure Hok (h:Hard):Prop where
 t0:0≤h.term
 t1:h.term≤1099511627776
 v0:-1≤h.vote
 v1:h.vote<7
 m0:1≤h.members
 m1:h.members≤127
 b0:0≤h.base
 b1:h.base≤1099511627776
 bt0:0≤h.baseTerm
 bt1:h.baseTerm≤h.term
 btz:h.baseTerm=0↔h.base=0
 ll:h.log.length≤200
 li:(h.log.length:Int)≤1099511627776 - h.base
 fl:fY h.term h.log h.baseTerm=true
 sz:h.snap=[]↔h.base=0
 sl:h.snap.length≤65536
theorem lX (h:Hard):fQ h=true↔Hok h:=by
 simp only [fQ,rQ,Bool.and_eq_true,decide_eq_true_eq]
 constructor
 ·rintro ⟨⟨a1,a2,a3,a4,a5,a6,a7,a8,a9,a10,a11,a12,a13,a14⟩,a15,a16⟩
  exact ⟨a1,a2,a3,a4,a5,a6,a7,a8,a9,a10,a11,a12,a13,a14,a15,a16⟩
 ·rintro ⟨a1,a2,a3,a4,a5,a6,a7,a8,a9,a10,a11,a12,a13,a14,a15,a16⟩
  exact ⟨⟨a1,a2,a3,a4,a5,a6,a7,a8,a9,a10,a11,a12,a13,a14⟩,a15,a16⟩
structure Eok (x:Entry) (term:Int):Prop where
 t0:1≤x.term
 t1:x.term≤term
 m0:0≤x.members
 m1:x.members≤127
 dl:x.data.length≤1100
 md:x.members=0∨x.data=[]
theorem aCp (x:Entry) (b t:Int):nM x b t=true↔b≤x.term∧Eok x t:=by
 simp only [nM,Bool.and_eq_true,Bool.or_eq_true,decide_eq_true_eq]
 constructor
 ·rintro ⟨a1,a2,a3,a4,a5,a6,a7⟩;exact ⟨a2,a1,a3,a4,a5,a6,a7⟩
 ·rintro ⟨a2,a1,a3,a4,a5,a6,a7⟩;exact ⟨a1,a2,a3,a4,a5,a6,a7⟩
theorem fA (t:Int):∀ (l:List Entry) (b:Int),fY t l b=true↔(∀ x∈l,Eok x t)∧(∀ x∈l,b≤x.term)∧l.Pairwise (fun x y=>x.term≤y.term)
 | [],b=>by simp [fY]
 | x::l,b=>by
  simp only [fY,Bool.and_eq_true,aCp,fA t l,List.mem_cons,forall_eq_or_imp,List.pairwise_cons]
  constructor
  ·rintro ⟨⟨a1,a2⟩,a3,a4,a5⟩
   exact ⟨⟨a2,a3⟩,⟨a1,fun y hy=>Int.le_trans a1 (a4 y hy)⟩,a4,a5⟩
  ·rintro ⟨⟨a2,a3⟩,⟨a1,a6⟩,a4,a5⟩
   exact ⟨⟨a1,a2⟩,a3,a4,a5⟩
theorem aIs {t:Int} {l:List Entry} {b:Int} (h:fY t l b=true) (k:Nat):fY t (l.take k) b=true:=by
 rw [fA] at h ⊢
 exact ⟨fun x hx=>h.1 x (List.mem_of_mem_take hx),fun x hx=>h.2.1 x (List.mem_of_mem_take hx),h.2.2.sublist (List.take_sublist k l)⟩
theorem lY {t t':Int} (ht:t≤t') {l:List Entry} {b:Int} (h:fY t l b=true):fY t' l b=true:=by
 rw [fA] at h ⊢
 exact ⟨fun x hx=>let e:=h.1 x hx;⟨e.t0,Int.le_trans e.t1 ht,e.m0,e.m1,e.dl,e.md⟩,h.2⟩
theorem aA6 {t:Int} {l:List Entry} {b:Int} (h:fY t l b=true) {x:Entry} (hx:Eok x t) (hb:b≤x.term) (hl:∀ y∈l,y.term≤x.term):fY t (l++[x]) b=true:=by
 rw [fA] at h ⊢
 refine ⟨fun y hy=>?_,fun y hy=>?_,List.pairwise_append.2 ⟨h.2.2,by simp,fun y hy z hz=>by rw [List.mem_singleton.1 hz];exact hl y hy⟩⟩
 ·rcases List.mem_append.1 hy with hy | hy
  ·exact h.1 y hy
  ·rw [List.mem_singleton.1 hy];exact hx
 ·rcases List.mem_append.1 hy with hy | hy
  ·exact h.2.1 y hy
  ·rw [List.mem_singleton.1 hy];exact hb
theorem aA7 {t:Int} {l:List Entry} {b:Int} (h:fY t l b=true) (k:Nat) {b':Int} (hb:∀ y∈l.drop k,b'≤y.term):fY t (l.drop k) b'=true:=by
 rw [fA] at h ⊢
 exact ⟨fun x hx=>h.1 x (List.mem_of_mem_drop hx),hb,h.2.2.sublist (List.drop_sublist k l)⟩
theorem sW (h:Hard):termH h h.base=h.baseTerm:=by unfold termH;rw [if_pos rfl]
theorem iB {h:Hard} {n:Int} {x:Entry} (hn:h.base<n) (hx:h.log[(n - h.base - 1).toNat]?=some x):termH h n=x.term:=by
 unfold termH;rw [if_neg (by omega),hx]
theorem mQ {h:Hard} {n:Int} (h1:h.base<n) (h2:n≤cF h):∃ x,h.log[(n - h.base - 1).toNat]?=some x:=by
 unfold cF at h2
 exact ⟨h.log[(n - h.base - 1).toNat]'(by omega),List.getElem?_eq_getElem (by omega)⟩
theorem aNu {h:Hard} (ok:Hok h) {n:Int} (h1:h.base≤n) (h2:n≤cF h):0≤termH h n∧termH h n≤h.term:=by
 by_cases e:n=h.base
 ·subst e;rw [sW];exact ⟨ok.bt0,ok.bt1⟩
 ·obtain ⟨x,hx⟩:=mQ (by omega) h2
  rw [iB (by omega) hx]
  have:=((fA _ _ _).1 ok.fl).1 x (List.mem_of_getElem? hx)
  exact ⟨by have:=this.t0;omega,this.t1⟩
theorem aUj {h:Hard} (ok:Hok h):∀ y∈h.log,y.term≤h.term:=fun y hy=>(((fA _ _ _).1 ok.fl).1 y hy).t1
structure Pok (c:Core) (p:Peer):Prop where
 a0:0≤p.mtch
 a1:p.mtch≤c.last
 n0:1≤p.next
 n1:p.next≤c.last+1
 o0:0≤p.off
 o1:p.off<c.h.snap.length∨p.off=0
structure Inv (c:Core):Prop where
 i0:0≤c.id
 i1:c.id<7
 h:Hok c.h
 role:c.role=1∨c.role=2∨c.role=3
 l0:-1≤c.leads
 l1:c.leads≤6
 s0:c.h.base≤c.sure
 s1:c.sure≤c.last
 d0:10≤c.drawn
 d1:c.drawn≤20
 f0:1≤c.left
 f1:c.left≤20
 v0:0≤c.votes
 v1:c.votes≤127
 pl:c.peers.length=7
 pr:c.role=3→∀ p∈c.peers,Pok c p
 tm:c.role≠1→1≤c.h.term
 w:∀ w,c.way=some w→1≤w.size∧w.size≤65536∧(w.data.length:Int)≤w.size
def Core.at (c:Core) (n:Int):Option Entry:=c.h.log[(n - c.h.base - 1).toNat]?
structure Keeps (c d:Core):Prop where
 term:c.h.term≤d.h.term
 vote:d.h.term=c.h.term→c.h.vote≠-1→d.h.vote=c.h.vote
 sure:c.sure≤d.sure
 base:c.h.base≤d.h.base
 logs:∀ n,d.h.base<n→n≤c.sure→c.at n=d.at n
theorem Keeps.refl (c:Core):Keeps c c:=⟨Int.le_refl _,fun _ _=>rfl,Int.le_refl _,Int.le_refl _,fun _ _ _=>rfl⟩
theorem Keeps.trans {a b c:Core} (h:Keeps a b) (k:Keeps b c):Keeps a c:=
 ⟨Int.le_trans h.term k.term,fun e v=>by
  have h1:=h.term
  have h2:=k.term
  have e1:b.h.term=a.h.term:=by omega
  rw [k.vote (by omega) (by rw [h.vote e1 v];exact v),h.vote e1 v],Int.le_trans h.sure k.sure,Int.le_trans h.base k.base,fun n h1 h2=>by
  rw [h.logs n (by have:=k.base;omega) h2,k.logs n h1 (by have:=h.sure;omega)]⟩
theorem Keeps.of_same {c d:Core} (h1:d.h=c.h) (h2:c.sure≤d.sure):Keeps c d:=by
 refine ⟨by rw [h1];exact Int.le_refl _,fun _ _=>by rw [h1],h2,by rw [h1];exact Int.le_refl _,fun n _ _=>?_⟩
 unfold Core.at;rw [h1]
theorem Pok.of {c d:Core} (h1:d.h=c.h) {p:Peer} (h:Pok c p):Pok d p:=by
 refine ⟨h.a0,?_,h.n0,?_,h.o0,?_⟩
 ·unfold Core.last;rw [h1];exact h.a1
 ·unfold Core.last;rw [h1];exact h.n1
 ·rw [h1];exact h.o1
structure Sent (c d:Core):Prop where
 id:d.id=c.id
 h:d.h=c.h
 role:d.role=c.role
 leads:d.leads=c.leads
 sure:d.sure=c.sure
 drawn:d.drawn=c.drawn
 left:d.left=c.left
 votes:d.votes=c.votes
 peers:d.peers=c.peers
 way:d.way=c.way
theorem Sent.refl (c:Core):Sent c c:=⟨rfl,rfl,rfl,rfl,rfl,rfl,rfl,rfl,rfl,rfl⟩
theorem Sent.trans {a b c:Core} (h:Sent a b) (k:Sent b c):Sent a c:=
 ⟨k.id.trans h.id,k.h.trans h.h,k.role.trans h.role,k.leads.trans h.leads,k.sure.trans h.sure,k.drawn.trans h.drawn,k.left.trans h.left,k.votes.trans h.votes,k.peers.trans h.peers,k.way.trans h.way⟩
theorem Sent.post (c:Core) (m:Letter):Sent c (c.post m):=⟨rfl,rfl,rfl,rfl,rfl,rfl,rfl,rfl,rfl,rfl⟩
theorem Sent.send (c:Core) (f:Int):Sent c (c.send f):=by
 unfold Core.send
 simp only
 split<;>exact Sent.post c _
theorem Sent.fold {g:Core→Int→Core} (hg:∀ c f,Sent c (g c f)):∀ (l:List Int) (c:Core),Sent c (l.foldl g c)
 | [],c=>Sent.refl c
 | f::l,c=>(hg c f).trans (Sent.fold hg l _)
theorem Sent.spread (c:Core):Sent c c.spread:=by
 unfold Core.spread
 split
 ·exact Sent.fold Sent.send _ _
 ·exact Sent.refl c
theorem Inv.sent {c d:Core} (h:Inv c) (s:Sent c d):Inv d:=by
 have hl:d.last=c.last:=by unfold Core.last;rw [s.h]
 refine ⟨by rw [s.id];exact h.i0,by rw [s.id];exact h.i1,by rw [s.h];exact h.h,by rw [s.role];exact h.role,by rw [s.leads];exact h.l0,by rw [s.leads];exact h.l1,by rw [s.h,s.sure];exact h.s0,by rw [s.sure,hl];exact h.s1,
  by rw [s.drawn];exact h.d0,by rw [s.drawn];exact h.d1,by rw [s.left];exact h.f0,by rw [s.left];exact h.f1,by rw [s.votes];exact h.v0,by rw [s.votes];exact h.v1,by rw [s.peers];exact h.pl,fun hr p hp=>?_,by rw [s.role,s.h];exact h.tm,by rw [s.way];exact h.w⟩
 rw [s.role] at hr
 rw [s.peers] at hp
 exact (h.pr hr p hp).of s.h
theorem Keeps.sent {c d:Core} (s:Sent c d):Keeps c d:=Keeps.of_same s.h (by rw [s.sure];exact Int.le_refl _)
theorem qA (c:Core) (m:Int):∀ (k:Nat) (n s:Int),s≤jL c m k n s∧(jL c m k n s≤n∨jL c m k n s=s)
 | 0,n,s=>⟨Int.le_refl _,.inr rfl⟩
 | k+1,n,s=>by
  unfold jL
  split
  ·exact ⟨Int.le_refl _,.inr rfl⟩
  ·rename_i hn
   have hn':s<n:=by omega
   split
   ·obtain ⟨h1,h2⟩:=qA c m k (n - 1) n
    refine ⟨by omega,.inl ?_⟩
    omega
   ·obtain ⟨h1,h2⟩:=qA c m k (n - 1) s
    exact ⟨h1,by omega⟩
theorem Inv.look {c:Core} (h:Inv c):Inv c.look∧Keeps c c.look∧c.look.h=c.h∧c.look.peers=c.peers:=by
 obtain ⟨r1,r2⟩:=qA c (eP c.h).1 (c.last - c.sure).toNat c.last c.sure
 have h2:=h.s1
 have h3:jL c (eP c.h).1 (c.last - c.sure).toNat c.last c.sure≤c.last:=by omega
 unfold Core.look
 simp only
 generalize jL c (eP c.h).1 (c.last - c.sure).toNat c.last c.sure=s at r1 r2 h3
 have h1:Inv { c with sure:=s }:=⟨h.i0,h.i1,h.h,h.role,h.l0,h.l1,Int.le_trans h.s0 r1,h3,h.d0,h.d1,h.f0,h.f1,h.v0,h.v1,h.pl,fun hr p hp=>(h.pr hr p hp).of (by rfl),h.tm,h.w⟩
 split
 ·refine ⟨⟨h.i0,h.i1,h.h,.inl rfl,by show (-1:Int)≤-1;decide,by show (-1:Int)≤6;decide,Int.le_trans h.s0 r1,h3,h.d0,h.d1,by have:=h.d0;show 1≤c.drawn;omega,h.d1,h.v0,h.v1,h.pl,fun hr=>(by cases hr),fun hr=>absurd rfl hr,h.w⟩,Keeps.of_same rfl r1,rfl,rfl⟩
 ·exact ⟨h1,Keeps.of_same rfl r1,rfl,rfl⟩
theorem aA8 {c:Core} (h:Inv c) {f:Int} (h0:0≤f) (h1:f<7):c.peer f∈c.peers:=by
 unfold Core.peer
 have:f.toNat<c.peers.length:=by rw [h.pl];omega
 rw [List.getD_eq_getElem?_getD,List.getElem?_eq_getElem this]
 exact List.getElem_mem this
theorem Inv.setPeer {c:Core} (h:Inv c) {f:Int} {p:Peer} (hp:c.role=3→Pok c p):Inv (c.setPeer f p):=by
 refine ⟨h.i0,h.i1,h.h,h.role,h.l0,h.l1,h.s0,h.s1,h.d0,h.d1,h.f0,h.f1,h.v0,h.v1,by show (c.peers.set _ _).length=7;rw [List.length_set];exact h.pl,fun hr q hq=>?_,h.tm,h.w⟩
 rcases List.mem_or_eq_of_mem_set hq with hq | rfl
 ·exact (h.pr hr q hq).of (by rfl)
 ·exact (hp hr).of (by rfl)
theorem Inv.own {c:Core} (h:Inv c) (hr:c.role=3):Inv c.own∧Keeps c c.own:=by
 have hp:=h.pr hr _ (aA8 h h.i0 h.i1)
 have hb:=h.h.b0
 have hl0:0≤c.last:=by show 0≤c.h.base+_;omega
 have h1:Inv (c.setPeer c.id { c.peer c.id with mtch:=c.last }):=h.setPeer fun _=>⟨hl0,Int.le_refl _,hp.n0,hp.n1,hp.o0,hp.o1⟩
 obtain ⟨h2,k2,_⟩:=h1.look
 have k1:Keeps c (c.setPeer c.id { c.peer c.id with mtch:=c.last }):=Keeps.of_same rfl (Int.le_refl _)
 exact ⟨h2.sent (Sent.spread _),(k1.trans k2).trans (Keeps.sent (Sent.spread _))⟩
theorem Hok.push {h:Hard} (ok:Hok h) {x:Entry} (hx:Eok x h.term) (ht:x.term=h.term) (h1:h.log.length<200) (h2:cF h<1099511627776):Hok { h with log:=h.log++[x] }:=by
 have hl:(h.log++[x]).length=h.log.length+1:=by simp
 unfold cF at h2
 refine ⟨ok.t0,ok.t1,ok.v0,ok.v1,ok.m0,ok.m1,ok.b0,ok.b1,ok.bt0,ok.bt1,ok.btz,by show (h.log++[x]).length≤200;omega,by show (((h.log++[x]).length:Nat):Int)≤1099511627776 - h.base;omega,?_,ok.sz,ok.sl⟩
 exact aA6 ok.fl hx (by rw [ht];exact ok.bt1) (fun y hy=>by rw [ht];exact aUj ok y hy)
theorem Keeps.push {c:Core} {l:List Entry} (hs:c.sure≤c.last) {d:Core} (hd:d.h={ c.h with log:=c.h.log++l }) (h2:d.sure=c.sure):Keeps c d:=by
 refine ⟨by rw [hd];exact Int.le_refl _,fun _ _=>by rw [hd],by rw [h2];exact Int.le_refl _,by rw [hd];exact Int.le_refl _,fun n h3 h4=>?_⟩
 unfold Core.at
 rw [hd] at h3 ⊢
 simp only at h3 ⊢
 rw [List.getElem?_append_left]
 unfold Core.last cF at hs
 omega
theorem Inv.lead {c:Core} (h:Inv c) (ht:1≤c.h.term):Inv c.lead∧Keeps c c.lead:=by
 have hb:=h.h.b0
 have hl0:0≤c.last:=by show 0≤c.h.base+_;omega
 have rep:∀ d:Core,d.h=c.h∨(∃ x,d.h={ c.h with log:=c.h.log++[x] })→∀ p∈List.replicate 7 (⟨c.last+1,0,0⟩:Peer),Pok d p:=by
  intro d hd p hp
  rw [List.eq_of_mem_replicate hp]
  have hl:c.last≤d.last:=by
   unfold Core.last cF
   rcases hd with hd | ⟨x,hd⟩
   ·rw [hd];exact Int.le_refl _
   ·rw [hd];simp;omega
  exact ⟨Int.le_refl _,by show 0≤d.last;omega,by show 1≤c.last+1;omega,by show c.last+1≤d.last+1;omega,Int.le_refl _,.inr rfl⟩
 unfold Core.lead
 simp only
 have h1:Inv { c with role:=3,leads:=c.id,left:=3,peers:=List.replicate 7 ⟨c.last+1,0,0⟩ }:=
  ⟨h.i0,h.i1,h.h,.inr (.inr rfl),by have:=h.i0;show -1≤c.id;omega,by have:=h.i1;show c.id≤6;omega,h.s0,h.s1,h.d0,h.d1,by show (1:Int)≤3;decide,by show (3:Int)≤20;decide,h.v0,h.v1,rfl,fun _ p hp=>rep _ (.inl (by rfl)) p hp,fun _=>ht,h.w⟩
 have k1:Keeps c { c with role:=3,leads:=c.id,left:=3,peers:=List.replicate 7 ⟨c.last+1,0,0⟩ }:=Keeps.of_same rfl (Int.le_refl _)
 split
 ·rename_i hc
  have ho:=h.h.push (x:=⟨c.h.term,0,[]⟩) ⟨ht,Int.le_refl _,Int.le_refl _,by show (0:Int)≤127;decide,by show 0≤1100;decide,.inl rfl⟩ rfl hc.2 hc.1
  have hl:cF { c.h with log:=c.h.log++[⟨c.h.term,0,[]⟩] }=c.last+1:=by unfold Core.last cF;simp;omega
  have h2:Inv { c with role:=3,leads:=c.id,left:=3,peers:=List.replicate 7 ⟨c.last+1,0,0⟩,h:={ c.h with log:=c.h.log++[⟨c.h.term,0,[]⟩] } }:=
   ⟨h.i0,h.i1,ho,.inr (.inr rfl),by have:=h.i0;show -1≤c.id;omega,by have:=h.i1;show c.id≤6;omega,h.s0,by show c.sure≤cF _;rw [hl];have:=h.s1;omega,h.d0,h.d1,by show (1:Int)≤3;decide,by show (3:Int)≤20;decide,h.v0,h.v1,rfl,fun _ p hp=>rep _ (.inr ⟨_,by rfl⟩) p hp,fun _=>ht,h.w⟩
  obtain ⟨h3,k3⟩:=h2.own rfl
  exact ⟨h3,(Keeps.push h.s1 (d:={ c with role:=3,leads:=c.id,left:=3,peers:=List.replicate 7 ⟨c.last+1,0,0⟩,h:={ c.h with log:=c.h.log++[⟨c.h.term,0,[]⟩] } }) rfl rfl).trans k3⟩
 ·obtain ⟨h3,k3⟩:=h1.own rfl
  exact ⟨h3,k1.trans k3⟩
theorem qB {k:Nat} (h:k<7):(1:Int)≤2 ^ k∧(2:Int) ^ k≤64:=by
 rcases k with _ | _ | _ | _ | _ | _ | _ | k
 all_goals first | omega | exact ⟨by decide,by decide⟩
theorem sX (d:Int):10≤cV d∧cV d≤20:=by
 unfold cV
 have:=Int.tmod_eq_emod (a:=d) (b:=11)
 have h1:=Int.emod_nonneg d (b:=11) (by omega)
 have h2:=Int.emod_lt_of_pos d (b:=11) (by omega)
 split at this<;>split<;>omega
theorem Inv.stand {c:Core} (h:Inv c) (ht:c.h.term<1099511627776):Inv c.stand∧Keeps c c.stand:=by
 have hid:c.id.toNat<7:=by have:=h.i0;have:=h.i1;omega
 obtain ⟨p0,p1⟩:=qB hid
 have ho:Hok { c.h with term:=c.h.term+1,vote:=c.id }:=⟨by have:=h.h.t0;show 0≤c.h.term+1;omega,by show c.h.term+1≤_;omega,by have:=h.i0;show -1≤c.id;omega,h.i1,h.h.m0,h.h.m1,h.h.b0,h.h.b1,h.h.bt0,by have:=h.h.bt1;show c.h.baseTerm≤c.h.term+1;omega,h.h.btz,h.h.ll,h.h.li,lY (by show c.h.term≤c.h.term+1;omega) h.h.fl,h.h.sz,h.h.sl⟩
 have h1:Inv { c with h:={ c.h with term:=c.h.term+1,vote:=c.id },role:=2,leads:=-1,votes:=(2:Int) ^ c.id.toNat }:=
  ⟨h.i0,h.i1,ho,.inr (.inl rfl),by show (-1:Int)≤-1;decide,by show (-1:Int)≤6;decide,h.s0,h.s1,h.d0,h.d1,h.f0,h.f1,by show (0:Int)≤2 ^ _;omega,by show (2:Int) ^ _≤127;omega,h.pl,fun hr=>(by cases hr),fun _=>by have:=h.h.t0;show 1≤c.h.term+1;omega,h.w⟩
 have k1:Keeps c { c with h:={ c.h with term:=c.h.term+1,vote:=c.id },role:=2,leads:=-1,votes:=(2:Int) ^ c.id.toNat }:=
  ⟨by show c.h.term≤c.h.term+1;omega,fun e _=>by have e':c.h.term+1=c.h.term:=e;omega,Int.le_refl _,Int.le_refl _,fun _ _ _=>rfl⟩
 unfold Core.stand
 simp only
 split
 ·obtain ⟨h2,k2⟩:=h1.lead (by have:=h.h.t0;show 1≤c.h.term+1;omega)
  exact ⟨h2,k1.trans k2⟩
 ·have s:=Sent.fold (g:=fun d f=>d.post { Letter.zero with kind:=1,to:=f,index:=d.last,at':=d.term d.last }) (fun c f=>Sent.post c _) (Core.others { c with h:={ c.h with term:=c.h.term+1,vote:=c.id },role:=2,leads:=-1,votes:=(2:Int) ^ c.id.toNat }) { c with h:={ c.h with term:=c.h.term+1,vote:=c.id },role:=2,leads:=-1,votes:=(2:Int) ^ c.id.toNat }
  exact ⟨h1.sent s,k1.trans (Keeps.sent s)⟩
theorem Inv.tick {c:Core} (h:Inv c) (cH:Int):Inv (c.tick cH)∧Keeps c (c.tick cH):=by
 obtain ⟨d0,d1⟩:=sX cH
 unfold Core.tick
 simp only
 split
 ·rename_i hl
  have hl':0<c.left - 1:=hl
  exact ⟨⟨h.i0,h.i1,h.h,h.role,h.l0,h.l1,h.s0,h.s1,h.d0,h.d1,by show 1≤c.left - 1;omega,by have:=h.f1;show c.left - 1≤20;omega,h.v0,h.v1,h.pl,fun hr p hp=>(h.pr hr p hp).of (by rfl),h.tm,h.w⟩,Keeps.of_same rfl (Int.le_refl _)⟩
 ·split
  ·have h1:Inv { c with left:=3 }:=⟨h.i0,h.i1,h.h,h.role,h.l0,h.l1,h.s0,h.s1,h.d0,h.d1,by show (1:Int)≤3;decide,by show (3:Int)≤20;decide,h.v0,h.v1,h.pl,fun hr p hp=>(h.pr hr p hp).of (by rfl),h.tm,h.w⟩
   exact ⟨h1.sent (Sent.spread _),(Keeps.of_same rfl (Int.le_refl _):Keeps c { c with left:=3 }).trans (Keeps.sent (Sent.spread _))⟩
  ·have h1:Inv { c with drawn:=cV cH,left:=cV cH }:=⟨h.i0,h.i1,h.h,h.role,h.l0,h.l1,h.s0,h.s1,d0,d1,by show 1≤cV cH;omega,d1,h.v0,h.v1,h.pl,fun hr p hp=>(h.pr hr p hp).of (by rfl),h.tm,h.w⟩
   have k1:Keeps c { c with drawn:=cV cH,left:=cV cH }:=Keeps.of_same rfl (Int.le_refl _)
   split
   ·rename_i hc
    obtain ⟨h2,k2⟩:=h1.stand hc.1
    exact ⟨h2,k1.trans k2⟩
   ·exact ⟨h1,k1⟩
structure Lok (m:Letter):Prop where
 f0:0≤m.from'
 f1:m.from'≤6
 t0:0≤m.to
 t1:m.to≤6
 ne:m.from'≠m.to
 tm0:1≤m.term
 tm1:m.term≤1099511627776
 i0:0≤m.index
 i1:m.index≤1099511627776
 a0:0≤m.at'
 a1:m.at'≤m.term
 c0:0≤m.commit
 c1:m.commit≤1099511627776
 k3:m.kind=3→(m.at'=0↔m.index=0)∧m.entries.length≤8∧(m.entries.length:Int)≤1099511627776 - m.index∧fY m.term m.entries m.at'=true
 k5:m.kind=5→m.index≠0∧m.at'≠0∧1≤m.members∧m.members≤127∧1≤m.size∧m.size≤65536∧0≤m.off∧m.off≤m.size - 1∧1≤m.data.length∧m.data.length≤600∧(m.data.length:Int)≤m.size - m.off
 k6:m.kind=6→m.index≠0∧0≤m.off∧m.off≤65536
theorem cU {m:Letter} (h:dB m=true):Lok m:=by
 simp only [dB,nC,Bool.and_eq_true,decide_eq_true_eq] at h
 obtain ⟨_,⟨a1,a2⟩,⟨b1,b2⟩,c,⟨d1,d2⟩,⟨e1,e2⟩,⟨f1,f2⟩,⟨g1,g2⟩,k⟩:=h
 refine ⟨a1,a2,b1,b2,c,d1,d2,e1,e2,f1,f2,g1,g2,fun hk=>?_,fun hk=>?_,fun hk=>?_⟩
 ·rw [hk] at k
  simp only [if_neg (by decide:¬ (3:Int)=1),if_pos,gK,Bool.and_eq_true,decide_eq_true_eq] at k
  exact ⟨k.1,k.2.1,k.2.2.1,((lX _).1 k.2.2.2).fl⟩
 ·rw [hk] at k
  simp only [if_neg (by decide:¬ (5:Int)=1),if_neg (by decide:¬ (5:Int)=3),if_pos,jH,nC,Bool.and_eq_true,decide_eq_true_eq] at k
  obtain ⟨k1,k2,⟨k3,k4⟩,⟨k5,k6⟩,⟨k7,k8⟩,k9,k10,k11⟩:=k
  exact ⟨k1,k2,k3,k4,k5,k6,k7,k8,k9,k10,k11⟩
 ·rw [hk] at k
  simp only [if_neg (by decide:¬ (6:Int)=1),if_neg (by decide:¬ (6:Int)=3),if_neg (by decide:¬ (6:Int)=5),if_pos,nC,Bool.and_eq_true,decide_eq_true_eq] at k
  exact ⟨k.1,k.2.1,k.2.2⟩
theorem Inv.late {c:Core} (h:Inv c) (m:Letter):Inv (c.late m)∧Keeps c (c.late m):=by
 unfold Core.late
 split
 ·exact ⟨h.sent (Sent.post _ _),Keeps.sent (Sent.post _ _)⟩
 ·split
  ·exact ⟨h.sent (Sent.post _ _),Keeps.sent (Sent.post _ _)⟩
  ·exact ⟨h,Keeps.refl c⟩
theorem Inv.asked {c:Core} (h:Inv c) {m:Letter} (ok:Lok m):Inv (c.asked m)∧Keeps c (c.asked m):=by
 unfold Core.asked
 simp only
 split
 ·rename_i hy
  simp only [Bool.and_eq_true,Bool.or_eq_true,decide_eq_true_eq] at hy
  have ho:Hok { c.h with vote:=m.from' }:=⟨h.h.t0,h.h.t1,by have:=ok.f0;show -1≤m.from';omega,by have:=ok.f1;show m.from'<7;omega,h.h.m0,h.h.m1,h.h.b0,h.h.b1,h.h.bt0,h.h.bt1,h.h.btz,h.h.ll,h.h.li,h.h.fl,h.h.sz,h.h.sl⟩
  have h1:Inv { c with h:={ c.h with vote:=m.from' },left:=c.drawn }:=
   ⟨h.i0,h.i1,ho,h.role,h.l0,h.l1,h.s0,h.s1,h.d0,h.d1,by have:=h.d0;show 1≤c.drawn;omega,h.d1,h.v0,h.v1,h.pl,fun hr p hp=>let q:=h.pr hr p hp;⟨q.a0,q.a1,q.n0,q.n1,q.o0,q.o1⟩,h.tm,h.w⟩
  have k1:Keeps c { c with h:={ c.h with vote:=m.from' },left:=c.drawn }:=⟨Int.le_refl _,fun _ hv=>by
   rcases hy.1 with e | e
   ·exact absurd e hv
   ·exact e.symm,Int.le_refl _,Int.le_refl _,fun _ _ _=>rfl⟩
  exact ⟨h1.sent (Sent.post _ _),k1.trans (Keeps.sent (Sent.post _ _))⟩
 ·exact ⟨h.sent (Sent.post _ _),Keeps.sent (Sent.post _ _)⟩
theorem sY {m k:Int} (h0:0≤m) (h1:m≤127) (k0:0≤k) (k1:k<7):0≤kE m k∧kE m k≤127:=by
 unfold kE
 split
 ·exact ⟨h0,h1⟩
 ·rename_i hb
  have:∀ a:Nat,a<128→∀ b:Nat,b<7→cN (a:Int) (b:Int)=false→(a:Int)+2 ^ b≤127:=by decide +kernel
  have hm:m=(m.toNat:Int):=by omega
  have hk:k=(k.toNat:Int):=by omega
  have h2:=this m.toNat (by omega) k.toNat (by omega) (by rw [←hm,←hk];simpa using hb)
  obtain ⟨p0,p1⟩:=qB (k:=k.toNat) (by omega)
  omega
theorem Inv.voted {c:Core} (h:Inv c) {m:Letter} (ok:Lok m):Inv (c.voted m)∧Keeps c (c.voted m):=by
 unfold Core.voted
 split
 ·exact ⟨h,Keeps.refl c⟩
 ·rename_i hc
  have hr:c.role=2:=by
   by_cases e:c.role=2
   ·exact e
   ·exact absurd (.inl e) hc
  obtain ⟨a0,a1⟩:=sY h.v0 h.v1 ok.f0 (by have:=ok.f1;omega)
  have h1:Inv { c with votes:=kE c.votes m.from' }:=⟨h.i0,h.i1,h.h,h.role,h.l0,h.l1,h.s0,h.s1,h.d0,h.d1,h.f0,h.f1,a0,a1,h.pl,fun hr p hp=>(h.pr hr p hp).of (by rfl),h.tm,h.w⟩
  have k1:Keeps c { c with votes:=kE c.votes m.from' }:=Keeps.of_same rfl (Int.le_refl _)
  simp only
  split
  ·obtain ⟨h2,k2⟩:=h1.lead (h.tm (by omega))
   exact ⟨h2,k1.trans k2⟩
  ·exact ⟨h1,k1⟩
theorem Inv.acked {c:Core} (h:Inv c) {m:Letter} (ok:Lok m):Inv (c.acked m)∧Keeps c (c.acked m):=by
 unfold Core.acked
 split
 ·exact ⟨h,Keeps.refl c⟩
 ·rename_i hc
  have hr:c.role=3:=by
   by_cases e:c.role=3
   ·exact e
   ·exact absurd (.inl e) hc
  have hl:m.index≤c.last:=by
   by_cases e:c.last<m.index
   ·exact absurd (.inr e) hc
   ·omega
  have hp:=h.pr hr _ (aA8 h ok.f0 (by have:=ok.f1;omega))
  have i0:=ok.i0
  simp only
  split
  ·have h1:Inv (c.setPeer m.from' { c.peer m.from' with next:=max (min ((c.peer m.from').next - 1) (m.index+1)) ((c.peer m.from').mtch+1) }):=h.setPeer fun _=>
    ⟨hp.a0,hp.a1,by have:=hp.a0;show 1≤max _ _;omega,by have:=hp.a1;have:=hp.n1;show max _ _≤c.last+1;omega,hp.o0,hp.o1⟩
   exact ⟨h1.sent (Sent.send _ _),(Keeps.of_same rfl (Int.le_refl _):Keeps c (c.setPeer m.from' { c.peer m.from' with next:=max (min ((c.peer m.from').next - 1) (m.index+1)) ((c.peer m.from').mtch+1) })).trans (Keeps.sent (Sent.send _ _))⟩
  ·split
   ·exact ⟨h,Keeps.refl c⟩
   ·have h1:Inv (c.setPeer m.from' ⟨m.index+1,m.index,0⟩):=h.setPeer fun _=>⟨i0,hl,by show 1≤m.index+1;omega,by show m.index+1≤c.last+1;omega,Int.le_refl _,.inr rfl⟩
    obtain ⟨h2,k2,_⟩:=h1.look
    have k1:Keeps c (c.setPeer m.from' ⟨m.index+1,m.index,0⟩):=Keeps.of_same rfl (Int.le_refl _)
    split
    ·exact ⟨h2.sent (Sent.send _ _),(k1.trans k2).trans (Keeps.sent (Sent.send _ _))⟩
    ·exact ⟨h2,k1.trans k2⟩
theorem Inv.more {c:Core} (h:Inv c) {m:Letter} (ok:Lok m) (hk:m.kind=6):Inv (c.more m)∧Keeps c (c.more m):=by
 unfold Core.more
 simp only
 split
 ·exact ⟨h,Keeps.refl c⟩
 ·rename_i hc
  have hr:c.role=3:=by
   by_cases e:c.role=3
   ·exact e
   ·exact absurd (.inl e) hc
  have ho:m.off<c.h.snap.length:=by
   by_cases e:(c.h.snap.length:Int)≤m.off
   ·exact absurd (.inr (.inr (.inr (.inl e)))) hc
   ·omega
  have hp:=h.pr hr _ (aA8 h ok.f0 (by have:=ok.f1;omega))
  have h1:Inv (c.setPeer m.from' { c.peer m.from' with off:=m.off }):=h.setPeer fun _=>⟨hp.a0,hp.a1,hp.n0,hp.n1,(ok.k6 hk).2.1,.inl ho⟩
  exact ⟨h1.sent (Sent.send _ _),(Keeps.of_same rfl (Int.le_refl _):Keeps c (c.setPeer m.from' { c.peer m.from' with off:=m.off })).trans (Keeps.sent (Sent.send _ _))⟩
theorem Inv.hear {c:Core} (h:Inv c) {f:Int} (h0:0≤f) (h1:f≤6):Inv (c.hear f)∧Keeps c (c.hear f):=
 ⟨⟨h.i0,h.i1,h.h,.inl rfl,by show -1≤f;omega,h1,h.s0,h.s1,h.d0,h.d1,by have:=h.d0;show 1≤c.drawn;omega,h.d1,h.v0,h.v1,h.pl,fun hr=>(by cases hr),fun hr=>absurd rfl hr,h.w⟩,Keeps.of_same rfl (Int.le_refl _)⟩
theorem Hok.drop {h:Hard} (ok:Hok h) {n:Int} (h1:h.base<n) (h2:n≤cF h):∀ y∈h.log.drop (n - h.base).toNat,termH h n≤y.term:=by
 obtain ⟨x,hx⟩:=mQ h1 h2
 rw [iB h1 hx]
 intro y hy
 have hp:=((fA _ _ _).1 ok.fl).2.2
 obtain ⟨i,hi⟩:=List.mem_iff_getElem?.1 hy
 rw [List.getElem?_drop] at hi
 obtain ⟨l1,e1⟩:=List.getElem?_eq_some_iff.1 hx
 obtain ⟨l2,e2⟩:=List.getElem?_eq_some_iff.1 hi
 have:=List.pairwise_iff_getElem.1 hp _ _ l1 l2 (by omega)
 rw [e1,e2] at this
 exact this
theorem Inv.taken {c:Core} (h:Inv c) {m:Letter} (ok:Lok m) (hk:m.kind=5) (ht:m.term=c.h.term) (hs:c.sure<m.index) (hr:c.role=1) {snap:List UInt8} (h1:1≤snap.length) (h2:snap.length≤65536):Inv (c.taken m snap)∧Keeps c (c.taken m snap):=by
 obtain ⟨k1,k2,k3,k4,k5,k6,k7,k8,k9,k10,k11⟩:=ok.k5 hk
 have hs0:=h.s0
 have hb0:=h.h.b0
 have hll:=h.h.ll
 have hli:=h.h.li
 obtain ⟨rest,hrest,r1,r2,r3⟩:∃ rest,rest=(if m.index≤c.last∧c.term m.index=m.at' then c.h.log.drop (m.index - c.h.base).toNat else [])∧rest.length≤200∧(rest.length:Int)≤1099511627776 - m.index∧fY c.h.term rest m.at'=true:=by
  refine ⟨_,rfl,?_⟩
  split
  ·rename_i hc
   obtain ⟨hc1,hc2⟩:=hc
   have hc1':m.index≤c.h.base+c.h.log.length:=hc1
   refine ⟨by rw [List.length_drop];omega,by rw [List.length_drop];omega,aA7 h.h.fl _ fun y hy=>?_⟩
   have:=h.h.drop (n:=m.index) (by omega) hc1 y hy
   have hc2':termH c.h m.index=m.at':=hc2
   rw [hc2'] at this;exact this
  ·exact ⟨by simp,by simp only [List.length_nil];have:=ok.i1;omega,rfl⟩
 have hne:snap≠[]:=fun e=>by rw [e] at h1;simp at h1
 have ho:Hok { c.h with base:=m.index,baseTerm:=m.at',members:=m.members,snap:=snap,log:=rest }:=
  ⟨h.h.t0,h.h.t1,h.h.v0,h.h.v1,k3,k4,ok.i0,ok.i1,ok.a0,by have:=ok.a1;show m.at'≤c.h.term;omega,⟨fun e=>absurd e k2,fun e=>absurd e k1⟩,r1,r2,r3,⟨fun e=>absurd e hne,fun e=>absurd e k1⟩,h2⟩
 unfold Core.taken
 simp only
 rw [←hrest]
 refine ⟨⟨h.i0,h.i1,ho,h.role,h.l0,h.l1,Int.le_refl _,by show m.index≤m.index+_;omega,h.d0,h.d1,h.f0,h.f1,h.v0,h.v1,h.pl,fun hr'=>?_,h.tm,fun w hw=>(by cases hw)⟩,⟨Int.le_refl _,fun _ _=>rfl,by show c.sure≤m.index;omega,by show c.h.base≤m.index;omega,fun n h3 h4=>?_⟩⟩
 ·have:c.role=3:=hr'
  omega
 ·have:m.index<n:=h3
  omega
theorem Inv.way {c:Core} (h:Inv c) {w:Inst} (hw:1≤w.size∧w.size≤65536∧(w.data.length:Int)≤w.size):Inv { c with way:=some w }:=
 ⟨h.i0,h.i1,h.h,h.role,h.l0,h.l1,h.s0,h.s1,h.d0,h.d1,h.f0,h.f1,h.v0,h.v1,h.pl,fun hr p hp=>(h.pr hr p hp).of (by rfl),h.tm,fun v hv=>by cases hv;exact hw⟩
theorem Inv.installed {c:Core} (h:Inv c) {m:Letter} (ok:Lok m) (hk:m.kind=5) (ht:m.term=c.h.term):Inv (c.installed m)∧Keeps c (c.installed m):=by
 obtain ⟨k1,k2,k3,k4,k5,k6,k7,k8,k9,k10,k11⟩:=ok.k5 hk
 unfold Core.installed
 split
 ·exact ⟨h,Keeps.refl c⟩
 ·obtain ⟨hh,kh⟩:=h.hear ok.f0 ok.f1
  simp only
  split
  ·exact ⟨hh.sent (Sent.post _ _),kh.trans (Keeps.sent (Sent.post _ _))⟩
  ·rename_i hsu
   have hsu':c.sure<m.index:=by have:¬ m.index≤c.sure:=hsu;omega
   obtain ⟨c2,hc2,i2,q2,q3⟩:∃ c2,c2=(if m.off=0 then { c.hear m.from' with way:=some ⟨m.index,m.at',m.size,[]⟩ } else c.hear m.from')∧Inv c2∧c2.h=c.h∧c2.sure=c.sure∧c2.role=1:=by
    refine ⟨_,rfl,?_⟩
    split
    ·exact ⟨hh.way ⟨k5,k6,by show ((0:Nat):Int)≤m.size;omega⟩,rfl,rfl,rfl⟩
    ·exact ⟨hh,rfl,rfl,rfl⟩
   rw [←hc2]
   have kc2:Keeps c c2:=Keeps.of_same q2 (by rw [q3.1];exact Int.le_refl _)
   split
   ·exact ⟨i2.sent (Sent.post _ _),kc2.trans (Keeps.sent (Sent.post _ _))⟩
   ·rename_i w hw
    obtain ⟨w1,w2,w3⟩:=i2.w w hw
    split
    ·exact ⟨i2.sent (Sent.post _ _),kc2.trans (Keeps.sent (Sent.post _ _))⟩
    ·rename_i hsame
     have hsz:w.size=m.size:=by
      by_cases e:w.size=m.size
      ·exact e
      ·exact absurd (.inr (.inr e)) hsame
     obtain ⟨v,hv,v1,v2,v3⟩:∃ v:Inst,v=(if m.off=w.data.length then { w with data:=w.data++m.data } else w)∧1≤v.size∧v.size≤65536∧(v.data.length:Int)≤v.size:=by
      refine ⟨_,rfl,?_⟩
      split
      ·rename_i e
       refine ⟨w1,w2,?_⟩
       show (((w.data++m.data).length:Nat):Int)≤w.size
       rw [List.length_append,hsz]
       omega
      ·exact ⟨w1,w2,w3⟩
     rw [←hv]
     have i3:=i2.way ⟨v1,v2,v3⟩
     have k3':Keeps c { c2 with way:=some v }:=kc2.trans (Keeps.of_same rfl (Int.le_refl _))
     split
     ·exact ⟨i3.sent (Sent.post _ _),k3'.trans (Keeps.sent (Sent.post _ _))⟩
     ·rename_i hfull
      obtain ⟨i4,k4'⟩:=i3.taken ok hk (by show m.term=c2.h.term;rw [q2];exact ht) (by show c2.sure<m.index;rw [q3.1];exact hsu') q3.2 (snap:=v.data) (by omega) (by omega)
      exact ⟨i4.sent (Sent.post _ _),(k3'.trans k4').trans (Keeps.sent (Sent.post _ _))⟩
theorem rR {c:Core}:∀ {l:List Entry} {n:Int},jI c l n=false→∀ (i:Nat) (x:Entry),l[i]?=some x→c.h.base≤n+i→n+i≤c.sure→c.term (n+i)=x.term
 | [],n,_,i,x,hx=>by simp at hx
 | y::l,n,h,i,x,hx=>by
  intro h1 h2
  unfold jI at h
  split at h
  ·cases h
  ·rename_i hc
   cases i with
   | zero=>
    simp only [List.getElem?_cons_zero,Option.some.injEq] at hx
    subst hx
    by_cases e:c.term n=y.term
    ·simpa using e
    ·exact absurd ⟨by simpa using h1,by simpa using h2,e⟩ hc
   | succ i=>
    simp only [List.getElem?_cons_succ] at hx
    have:=rR h i x hx (by push_cast at h1 ⊢;omega) (by push_cast at h2 ⊢;omega)
    rw [show n+((i+1:Nat):Int)=n+1+(i:Int) by push_cast;omega]
    exact this
structure Upto (g h:Hard) (s:Int):Prop where
 base:h.base=g.base
 bt:h.baseTerm=g.baseTerm
 term:h.term=g.term
 vote:h.vote=g.vote
 mem:h.members=g.members
 snap:h.snap=g.snap
 last:s≤cF h
 same:∀ n,g.base<n→n≤s→h.log[(n - g.base - 1).toNat]?=g.log[(n - g.base - 1).toNat]?
theorem Upto.termH {g h:Hard} {s:Int} (u:Upto g h s) {n:Int} (h2:g.base≤n) (h3:n≤s):termH h n=termH g n:=by
 unfold Go.Raft.termH
 rw [u.base,u.bt]
 by_cases e:n=g.base
 ·rw [if_pos e,if_pos e]
 ·rw [if_neg e,if_neg e,u.same n (by omega) h3]
theorem aA9 {c:Core} (hc:Inv c) {T:Int} (hT:T=c.h.term):∀ (l:List Entry) (n:Int) (h:Hard) (to b:Int),Hok h→Upto c.h h c.sure→n - 1≤cF h→to≤cF h→fY T l b=true→0≤n - 1→(n - 1)+l.length≤1099511627776→
  (h.base≤n - 1→termH h (n - 1)=b)→(∀ (i:Nat) (x:Entry),l[i]?=some x→c.h.base≤n+i→n+i≤c.sure→c.term (n+i)=x.term)→
  Hok (eI l n h to).1∧Upto c.h (eI l n h to).1 c.sure∧(eI l n h to).2≤cF (eI l n h to).1
 | [],n,h,to,b,ok,u,h1,h2,_,_,_,_,_=>⟨ok,u,h2⟩
 | x::l,n,h,to,b,ok,u,h1,h2,hf,hn0,hli,hb,ha=>by
  simp only [fY,Bool.and_eq_true,aCp] at hf
  obtain ⟨⟨hbx,hx⟩,hf⟩:=hf
  simp only [List.length_cons] at hli
  have hs0:=hc.s0
  have hub:=u.base
  have ha0:=ha 0 x rfl
  have ha':∀ (i:Nat) (y:Entry),l[i]?=some y→c.h.base≤n+1+i→n+1+i≤c.sure→c.term (n+1+i)=y.term:=fun i y hy q1 q2=>by
   have:=ha (i+1) y (by simpa using hy) (by push_cast;omega) (by push_cast;omega)
   rw [show n+1+(i:Int)=n+((i+1:Nat):Int) by push_cast;omega]
   exact this
  unfold eI
  split
  ·rename_i hcond
   obtain ⟨c1,c2⟩:=hcond
   split
   ·exact ⟨ok,u,h2⟩
   ·rename_i h200
    have hns:c.sure<n:=by
     by_cases e:n≤c.sure
     ·exfalso
      have e1:=ha0 (by push_cast;omega) (by push_cast;omega)
      have e2:=u.termH (n:=n) (by omega) e
      have e3:c.term n=x.term:=by simpa using e1
      have hlast:=u.last
      rcases c2 with c2 | c2
      ·omega
      ·exact c2 (by rw [e2];exact e3)
     ·omega
    have hlen:((h.log.take (n - h.base - 1).toNat).length:Int)=n - h.base - 1:=by
     rw [List.length_take]
     unfold cF at h1
     omega
    have hfl:=(fA _ _ _).1 ok.fl
    have hall:∀ y∈h.log.take (n - h.base - 1).toNat,y.term≤x.term:=by
     intro y hy
     have hb':=hb (by omega)
     obtain ⟨i,hi⟩:=List.mem_iff_getElem?.1 hy
     have hil:=(List.getElem?_eq_some_iff.1 hi).1
     have hi':h.log[i]?=some y:=by
      rw [List.getElem?_take] at hi
      split at hi
      ·exact hi
      ·cases hi
     have hin:(i:Int)<n - h.base - 1:=by omega
     obtain ⟨z,hz⟩:=mQ (h:=h) (n:=n - 1) (by omega) (by omega)
     rw [iB (by omega) hz] at hb'
     obtain ⟨l1,e1⟩:=List.getElem?_eq_some_iff.1 hi'
     obtain ⟨l2,e2⟩:=List.getElem?_eq_some_iff.1 hz
     have:y.term≤z.term:=by
      by_cases e:i=(n - 1 - h.base - 1).toNat
      ·subst e;rw [←e1,←e2];exact Int.le_refl _
      ·have:=List.pairwise_iff_getElem.1 hfl.2.2 i _ l1 l2 (by omega)
       rw [e1,e2] at this;exact this
     omega
    have hbt:h.baseTerm≤x.term:=by
     by_cases e:n - 1=h.base
     ·have:=hb (by omega);rw [e,sW] at this;omega
     ·obtain ⟨z,hz⟩:=mQ (h:=h) (n:=n - 1) (by omega) (by omega)
      have hb':=hb (by omega)
      rw [iB (by omega) hz] at hb'
      have:=hfl.2.1 z (List.mem_of_getElem? hz)
      omega
    have hxt:Eok x h.term:=by
     have e:h.term=T:=by rw [hT];exact u.term
     rw [e];exact hx
    have hl1:(h.log.take (n - h.base - 1).toNat++[x]).length=(n - h.base).toNat:=by simp only [List.length_append,List.length_cons,List.length_nil];omega
    have hlast:cF { h with log:=h.log.take (n - h.base - 1).toNat++[x] }=n:=by
     show h.base+((h.log.take (n - h.base - 1).toNat++[x]).length:Int)=n
     rw [hl1];omega
    have ok':Hok { h with log:=h.log.take (n - h.base - 1).toNat++[x] }:=
     ⟨ok.t0,ok.t1,ok.v0,ok.v1,ok.m0,ok.m1,ok.b0,ok.b1,ok.bt0,ok.bt1,ok.btz,by show (h.log.take _++[x]).length≤200;rw [hl1];omega,by show (((h.log.take _++[x]).length:Nat):Int)≤1099511627776 - h.base;rw [hl1];omega,aA6 (aIs ok.fl _) hxt hbt hall,ok.sz,ok.sl⟩
    have u':Upto c.h { h with log:=h.log.take (n - h.base - 1).toNat++[x] } c.sure:=by
     refine ⟨u.base,u.bt,u.term,u.vote,u.mem,u.snap,by rw [hlast];omega,fun k k1 k2=>?_⟩
     show (h.log.take (n - h.base - 1).toNat++[x])[_]?=_
     rw [List.getElem?_append_left (by omega),List.getElem?_take,if_pos (by omega)]
     exact u.same k k1 k2
    refine aA9 hc hT l (n+1) _ n x.term ok' u' (by rw [hlast];omega) (by rw [hlast];exact Int.le_refl _) hf (by omega) (by omega) (fun _=>?_) ha'
    rw [show n+1 - 1=n by omega]
    refine iB (h:={ h with log:=h.log.take (n - h.base - 1).toNat++[x] }) (x:=x) c1 ?_
    show (h.log.take (n - h.base - 1).toNat++[x])[(n - h.base - 1).toNat]?=some x
    rw [List.getElem?_append_right (by omega)]
    rw [show (n - h.base - 1).toNat - (h.log.take (n - h.base - 1).toNat).length=0 by omega]
    rfl
  ·rename_i hcond
   have hle:n≤cF h:=by
    by_cases e:h.base<n
    ·by_cases e2:cF h<n
     ·exact absurd ⟨e,.inl e2⟩ hcond
     ·omega
    ·have:h.base≤cF h:=by unfold cF;omega
     omega
   refine aA9 hc hT l (n+1) h n x.term ok u (by omega) hle hf (by omega) (by omega) (fun hbn=>?_) ha'
   rw [show n+1 - 1=n by omega] at hbn ⊢
   by_cases e:h.base<n
   ·by_cases e2:termH h n=x.term
    ·exact e2
    ·exact absurd ⟨e,.inr e2⟩ hcond
   ·have e3:n=h.base:=by omega
    have e4:=ha0 (by push_cast;omega) (by push_cast;omega)
    rw [u.termH (by omega) (by omega)]
    have e5:c.term n=x.term:=by simpa using e4
    exact e5
theorem Inv.appended {c:Core} (h:Inv c) {m:Letter} (ok:Lok m) (hk:m.kind=3) (ht:m.term=c.h.term):Inv (c.appended m)∧Keeps c (c.appended m):=by
 obtain ⟨k1,k2,k3,k4⟩:=ok.k3 hk
 unfold Core.appended
 split
 ·exact ⟨h,Keeps.refl c⟩
 ·split
  ·exact ⟨h,Keeps.refl c⟩
  ·rename_i hag
   have hag':jI c m.entries (m.index+1)=false:=by simpa using hag
   obtain ⟨hh,kh⟩:=h.hear ok.f0 ok.f1
   simp only
   split
   ·exact ⟨hh.sent (Sent.post _ _),kh.trans (Keeps.sent (Sent.post _ _))⟩
   ·rename_i hli
    have hli':m.index≤c.last:=by have:¬ c.last<m.index:=hli;omega
    split
    ·exact ⟨hh.sent (Sent.post _ _),kh.trans (Keeps.sent (Sent.post _ _))⟩
    ·rename_i hat
     have hat':c.h.base≤m.index→termH c.h m.index=m.at':=fun e=>by
      by_cases e2:termH c.h m.index=m.at'
      ·exact e2
      ·exact absurd ⟨e,e2⟩ hat
     have hi0:=ok.i0
     obtain ⟨r1,r2,r3⟩:=aA9 h ht m.entries (m.index+1) c.h m.index m.at' h.h ⟨rfl,rfl,rfl,rfl,rfl,rfl,h.s1,fun _ _ _=>rfl⟩ (by show m.index+1 - 1≤c.last;omega) hli' k4 (by omega) (by omega)
      (fun e=>by rw [show m.index+1 - 1=m.index by omega] at e ⊢;exact hat' e) (fun (i:Nat) (x:Entry) hx q1 q2=>rR hag' i x hx q1 q2)
     have hch:(c.hear m.from').h=c.h:=rfl
     rw [hch]
     generalize eI m.entries (m.index+1) c.h m.index=r at r1 r2 r3
     have hsu:=r2.last
     have hs0:=h.s0
     have hmax:max (c.hear m.from').sure (min m.commit r.2)≤cF r.1:=by show max c.sure _≤_;omega
     have hge:c.sure≤max (c.hear m.from').sure (min m.commit r.2):=by show c.sure≤max c.sure _;omega
     have i2:Inv { c.hear m.from' with h:=r.1,sure:=max (c.hear m.from').sure (min m.commit r.2) }:=
      ⟨h.i0,h.i1,r1,.inl rfl,hh.l0,hh.l1,by show r.1.base≤_;rw [r2.base];exact Int.le_trans hs0 hge,hmax,h.d0,h.d1,hh.f0,hh.f1,h.v0,h.v1,h.pl,fun hr=>(by cases hr),fun hr=>absurd rfl hr,h.w⟩
     have kk:Keeps c { c.hear m.from' with h:=r.1,sure:=max (c.hear m.from').sure (min m.commit r.2) }:=by
      refine ⟨by show c.h.term≤r.1.term;rw [r2.term];exact Int.le_refl _,fun _ _=>r2.vote,hge,by show c.h.base≤r.1.base;rw [r2.base];exact Int.le_refl _,fun n n1 n2=>?_⟩
      have n1':r.1.base<n:=n1
      rw [r2.base] at n1'
      show c.h.log[_]?=r.1.log[(n - r.1.base - 1).toNat]?
      rw [r2.base]
      exact (r2.same n n1' n2).symm
     exact ⟨i2.sent (Sent.post _ _),kk.trans (Keeps.sent (Sent.post _ _))⟩
theorem Inv.take {c:Core} (h:Inv c) (m:Letter):Inv (c.take m)∧Keeps c (c.take m):=by
 unfold Core.take
 split
 ·exact ⟨h,Keeps.refl c⟩
 ·rename_i hp
  have hr:dB m=true:=by
   unfold Core.passed at hp
   cases hq:dB m with
   | true=>rfl
   | false=>rw [if_pos (.inl hq)] at hp;exact absurd rfl hp
  have ok:=cU hr
  obtain ⟨c1,hc1,i1,k1,q1⟩:∃ c1,c1=(if c.h.term<m.term then { c with h:={ c.h with term:=m.term,vote:=-1 },role:=1,leads:=-1 } else c)∧Inv c1∧Keeps c c1∧(m.term≤c1.h.term):=by
   refine ⟨_,rfl,?_⟩
   split
   ·rename_i hlt
    have ho:Hok { c.h with term:=m.term,vote:=-1 }:=⟨by have:=ok.tm0;show 0≤m.term;omega,ok.tm1,by show (-1:Int)≤-1;decide,by show (-1:Int)<7;decide,h.h.m0,h.h.m1,h.h.b0,h.h.b1,h.h.bt0,by have:=h.h.bt1;show c.h.baseTerm≤m.term;omega,h.h.btz,h.h.ll,h.h.li,lY (by show c.h.term≤m.term;omega) h.h.fl,h.h.sz,h.h.sl⟩
    refine ⟨⟨h.i0,h.i1,ho,.inl rfl,by show (-1:Int)≤-1;decide,by show (-1:Int)≤6;decide,h.s0,h.s1,h.d0,h.d1,h.f0,h.f1,h.v0,h.v1,h.pl,fun hr=>(by cases hr),fun hr=>absurd rfl hr,h.w⟩,⟨by show c.h.term≤m.term;omega,fun e _=>by have e':m.term=c.h.term:=e;omega,Int.le_refl _,Int.le_refl _,fun _ _ _=>rfl⟩,Int.le_refl _⟩
   ·rename_i hlt
    exact ⟨h,Keeps.refl c,by omega⟩
  simp only
  rw [←hc1]
  split
  ·obtain ⟨a,b⟩:=i1.late m;exact ⟨a,k1.trans b⟩
  ·rename_i hlt
   have hte:m.term=c1.h.term:=by omega
   split
   ·obtain ⟨a,b⟩:=i1.asked ok;exact ⟨a,k1.trans b⟩
   ·split
    ·obtain ⟨a,b⟩:=i1.voted ok;exact ⟨a,k1.trans b⟩
    ·split
     ·rename_i hk;obtain ⟨a,b⟩:=i1.appended ok hk hte;exact ⟨a,k1.trans b⟩
     ·split
      ·obtain ⟨a,b⟩:=i1.acked ok;exact ⟨a,k1.trans b⟩
      ·split
       ·rename_i hk;obtain ⟨a,b⟩:=i1.installed ok hk hte;exact ⟨a,k1.trans b⟩
       ·split
        ·rename_i hk;obtain ⟨a,b⟩:=i1.more ok hk;exact ⟨a,k1.trans b⟩
        ·exact ⟨i1,k1⟩
theorem aF5 {t:Int} {l r:List Entry} {b:Int} (h:fY t l b=true) (hr:∀ x∈r,Eok x t∧x.term=t) (hb:b≤t):fY t (l++r) b=true:=by
 rw [fA] at h ⊢
 refine ⟨fun y hy=>?_,fun y hy=>?_,List.pairwise_append.2 ⟨h.2.2,?_,fun y hy z hz=>?_⟩⟩
 ·rcases List.mem_append.1 hy with hy | hy
  ·exact h.1 y hy
  ·exact (hr y hy).1
 ·rcases List.mem_append.1 hy with hy | hy
  ·exact h.2.1 y hy
  ·rw [(hr y hy).2];exact hb
 ·rw [List.pairwise_iff_getElem]
  intro i j hi hj _
  rw [(hr _ (List.getElem_mem hi)).2,(hr _ (List.getElem_mem hj)).2]
  exact Int.le_refl _
 ·rw [(hr z hz).2];exact (h.1 y hy).t1
theorem Hok.pushes {h:Hard} (ok:Hok h) {r:List Entry} (hr:∀ x∈r,Eok x h.term∧x.term=h.term) (h1:h.log.length+r.length≤200) (h2:cF h+r.length≤1099511627776):Hok { h with log:=h.log++r }:=by
 have hl:(h.log++r).length=h.log.length+r.length:=List.length_append
 unfold cF at h2
 exact ⟨ok.t0,ok.t1,ok.v0,ok.v1,ok.m0,ok.m1,ok.b0,ok.b1,ok.bt0,ok.bt1,ok.btz,by show (h.log++r).length≤200;omega,by show (((h.log++r).length:Nat):Int)≤1099511627776 - h.base;omega,aF5 ok.fl hr ok.bt1,ok.sz,ok.sl⟩
theorem Pok.grow {c d:Core} {r:List Entry} (hd:d.h={ c.h with log:=c.h.log++r }) {p:Peer} (h:Pok c p):Pok d p:=by
 have hl:c.last≤d.last:=by
  unfold Core.last cF
  rw [hd]
  simp only [List.length_append]
  omega
 exact ⟨h.a0,Int.le_trans h.a1 hl,h.n0,by have:=h.n1;omega,h.o0,by rw [hd];exact h.o1⟩
theorem Inv.pushes {c:Core} (h:Inv c) {r:List Entry} (hr:∀ x∈r,Eok x c.h.term∧x.term=c.h.term) (h1:c.h.log.length+r.length≤200) (h2:c.last+r.length≤1099511627776):Inv { c with h:={ c.h with log:=c.h.log++r } }∧Keeps c { c with h:={ c.h with log:=c.h.log++r } }:=by
 have ho:=h.h.pushes hr h1 h2
 have hl:c.last≤cF { c.h with log:=c.h.log++r }:=by
  unfold Core.last cF
  simp only [List.length_append]
  omega
 refine ⟨⟨h.i0,h.i1,ho,h.role,h.l0,h.l1,h.s0,Int.le_trans h.s1 hl,h.d0,h.d1,h.f0,h.f1,h.v0,h.v1,h.pl,fun hr' p hp=>(h.pr hr' p hp).grow rfl,h.tm,h.w⟩,Keeps.push h.s1 rfl rfl⟩
theorem Inv.propose {c:Core} (h:Inv c) (data:List (List UInt8)):Inv (c.propose data).1∧Keeps c (c.propose data).1:=by
 unfold Core.propose
 split
 ·exact ⟨h,Keeps.refl c⟩
 ·rename_i hc
  split
  ·exact ⟨h,Keeps.refl c⟩
  ·rename_i hd
   have hr:c.role=3:=by
    by_cases e:c.role=3
    ·exact e
    ·exact absurd (.inl e) hc
   have h120:¬ (120:Int) - c.h.log.length<data.length:=fun e=>hc (.inr (.inr (.inl e)))
   have hix:¬ (1099511627776:Int) - c.last<data.length:=fun e=>hc (.inr (.inr (.inr e)))
   have hl:(data.map fun d=>(⟨c.h.term,0,d⟩:Entry)).length=data.length:=List.length_map ..
   have ht:=h.tm (by omega)
   obtain ⟨h1,k1⟩:=h.pushes (r:=data.map fun d=>⟨c.h.term,0,d⟩) (fun x hx=>by
    obtain ⟨d,hd',rfl⟩:=List.mem_map.1 hx
    have:¬ 1100<d.length:=fun e=>hd (List.any_eq_true.2 ⟨d,hd',decide_eq_true e⟩)
    exact ⟨⟨ht,Int.le_refl _,Int.le_refl _,by show (0:Int)≤127;decide,by show d.length≤1100;omega,.inl rfl⟩,rfl⟩) (by rw [hl];omega) (by rw [hl];omega)
   obtain ⟨h2,k2⟩:=h1.own hr
   exact ⟨h2,k1.trans k2⟩
theorem Inv.change {c:Core} (h:Inv c) (members:Int):Inv (c.change members).1∧Keeps c (c.change members).1:=by
 unfold Core.change
 simp only
 split
 ·exact ⟨h,Keeps.refl c⟩
 ·rename_i hc
  have hr:c.role=3:=by
   by_cases e:c.role=3
   ·exact e
   ·exact absurd (.inl e) hc
  have hm:mF (eP c.h).1 members=true:=by
   cases e:mF (eP c.h).1 members with
   | true=>rfl
   | false=>exact absurd (.inr (.inl e)) hc
  have h120:¬ 120≤c.h.log.length:=fun e=>hc (.inr (.inr (.inr (.inr (.inl e)))))
  have hix:¬ 1099511627776≤c.last:=fun e=>hc (.inr (.inr (.inr (.inr (.inr e)))))
  simp only [mF,kD,Bool.and_eq_true,decide_eq_true_eq] at hm
  have ht:=h.tm (by omega)
  obtain ⟨h1,k1⟩:=h.pushes (r:=[⟨c.h.term,members,[]⟩]) (fun x hx=>by
   rw [List.mem_singleton.1 hx]
   exact ⟨⟨ht,Int.le_refl _,by show 0≤members;omega,by show members≤127;omega,by show 0≤1100;decide,.inr rfl⟩,rfl⟩) (by simp;omega) (by simp;omega)
  have hb:=h1.h.b0
  generalize hc1:({ c with h:={ c.h with log:=c.h.log++[⟨c.h.term,members,[]⟩] } }:Core)=c1 at h1 k1
  have hr1:c1.role=3:=by rw [←hc1];exact hr
  have hl0:1≤c1.last:=by
   rw [←hc1];show 1≤c.h.base+((c.h.log++[_]).length:Int)
   have:=h.h.b0
   simp;omega
  have h2:Inv { c1 with peers:=(List.range 7).zipWith (fun (k:Nat) p=>if (k:Int)≠c.id∧cN members (k:Int)=true∧cN (eP c.h).1 (k:Int)=false then ⟨c1.last,0,0⟩ else p) c1.peers }:=by
   refine ⟨h1.i0,h1.i1,h1.h,h1.role,h1.l0,h1.l1,h1.s0,h1.s1,h1.d0,h1.d1,h1.f0,h1.f1,h1.v0,h1.v1,by show (List.zipWith _ _ _).length=7;rw [List.length_zipWith,h1.pl];rfl,fun hr' p hp=>?_,h1.tm,h1.w⟩
   obtain ⟨i,hi⟩:=List.mem_iff_getElem?.1 hp
   have hi':((List.range 7).zipWith (fun (k:Nat) p=>if (k:Int)≠c.id∧cN members (k:Int)=true∧cN (eP c.h).1 (k:Int)=false then (⟨c1.last,0,0⟩:Peer) else p) c1.peers)[i]?=some p:=hi
   rw [List.getElem?_zipWith] at hi'
   split at hi'
   ·rename_i a b e1 e2
    cases hi'
    split
    ·exact ⟨Int.le_refl _,by show 0≤c1.last;omega,by show 1≤c1.last;omega,by show c1.last≤c1.last+1;omega,Int.le_refl _,.inr rfl⟩
    ·exact (h1.pr hr1 b (List.mem_of_getElem? e2)).of (by rfl)
   ·cases hi'
  obtain ⟨h3,k3⟩:=h2.own hr1
  have kk:=(k1.trans (Keeps.of_same (d:={ c1 with peers:=(List.range 7).zipWith (fun (k:Nat) p=>if (k:Int)≠c.id∧cN members (k:Int)=true∧cN (eP c.h).1 (k:Int)=false then ⟨c1.last,0,0⟩ else p) c1.peers }) rfl (Int.le_refl _))).trans k3
  subst hc1
  exact ⟨h3,kk⟩
theorem qC:∀ (l:List Entry) (b:Int) (r:Int×Int),(∀ x∈l,0≤x.members∧x.members≤127)→1≤r.1∧r.1≤127→1≤(ofL b l r).1∧(ofL b l r).1≤127
 | [],b,r,_,h=>h
 | x::l,b,r,hx,h=>by
  unfold ofL
  refine qC l _ _ (fun y hy=>hx y (List.mem_cons_of_mem _ hy)) ?_
  split
  ·exact h
  ·rename_i e
   have:=hx x (List.mem_cons_self ..)
   exact ⟨by show 1≤x.members;omega,this.2⟩
theorem Inv.compact {c:Core} (h:Inv c) (index:Int) (snap:List UInt8):Inv (c.compact index snap).1∧Keeps c (c.compact index snap).1:=by
 unfold Core.compact
 split
 ·exact ⟨h,Keeps.refl c⟩
 ·rename_i hc
  have c1:c.h.base<index:=by
   by_cases e:index≤c.h.base
   ·exact absurd (.inl e) hc
   ·omega
  have c2:index≤c.sure:=by
   by_cases e:c.sure<index
   ·exact absurd (.inr (.inl e)) hc
   ·omega
  have c3:snap≠[]:=fun e=>hc (.inr (.inr (.inl e)))
  have c4:¬ 65536<snap.length:=fun e=>hc (.inr (.inr (.inr e)))
  have hs1:=h.s1
  have hb0:=h.h.b0
  have hli:=h.h.li
  have hll:=h.h.ll
  have hs1':c.sure≤c.h.base+c.h.log.length:=hs1
  have hfl:=(fA _ _ _).1 h.h.fl
  obtain ⟨x,hx⟩:=mQ (h:=c.h) c1 (Int.le_trans c2 hs1)
  have htx:=iB c1 hx
  have hxk:=hfl.1 x (List.mem_of_getElem? hx)
  have hct:c.term index=x.term:=htx
  obtain ⟨m0,m1⟩:=qC (c.h.log.take (index - c.h.base).toNat) c.h.base (c.h.members,c.h.base) (fun y hy=>let e:=hfl.1 y (List.mem_of_mem_take hy);⟨e.m0,e.m1⟩) ⟨h.h.m0,h.h.m1⟩
  have hdl:(c.h.log.drop (index - c.h.base).toNat).length=c.h.log.length - (index - c.h.base).toNat:=List.length_drop
  have ho:Hok { c.h with base:=index,baseTerm:=c.term index,members:=(eP { c.h with log:=c.h.log.take (index - c.h.base).toNat }).1,snap:=snap,log:=c.h.log.drop (index - c.h.base).toNat }:=
   ⟨h.h.t0,h.h.t1,h.h.v0,h.h.v1,m0,m1,by show 0≤index;omega,by show index≤1099511627776;omega,by show 0≤c.term index;rw [hct];have:=hxk.t0;omega,by show c.term index≤c.h.term;rw [hct];exact hxk.t1,
    ⟨fun e=>by have e':c.term index=0:=e;rw [hct] at e';have:=hxk.t0;omega,fun e=>by have e':index=0:=e;omega⟩,by show (c.h.log.drop _).length≤200;omega,by show (((c.h.log.drop _).length:Nat):Int)≤1099511627776 - index;rw [hdl];omega,
    aA7 h.h.fl _ (fun y hy=>h.h.drop c1 (Int.le_trans c2 hs1) y hy),⟨fun e=>absurd e c3,fun e=>by have e':index=0:=e;omega⟩,by show snap.length≤65536;omega⟩
  have hlast:cF { c.h with base:=index,baseTerm:=c.term index,members:=(eP { c.h with log:=c.h.log.take (index - c.h.base).toNat }).1,snap:=snap,log:=c.h.log.drop (index - c.h.base).toNat }=c.last:=by
   show index+((c.h.log.drop (index - c.h.base).toNat).length:Int)=c.h.base+c.h.log.length
   rw [hdl];omega
  refine ⟨⟨h.i0,h.i1,ho,h.role,h.l0,h.l1,c2,by show c.sure≤cF _;rw [hlast];exact hs1,h.d0,h.d1,h.f0,h.f1,h.v0,h.v1,by show (c.peers.map _).length=7;rw [List.length_map];exact h.pl,fun hr p hp=>?_,h.tm,h.w⟩,⟨Int.le_refl _,fun _ _=>rfl,Int.le_refl _,by show c.h.base≤index;omega,fun n h1 h2=>?_⟩⟩
  ·obtain ⟨q,hq,rfl⟩:=List.mem_map.1 hp
   have hp':=h.pr hr q hq
   exact ⟨hp'.a0,by show q.mtch≤cF _;rw [hlast];exact hp'.a1,hp'.n0,by show q.next≤cF _+1;rw [hlast];exact hp'.n1,Int.le_refl _,.inr rfl⟩
  ·have h1':index<n:=h1
   show c.h.log[(n - c.h.base - 1).toNat]?=(c.h.log.drop (index - c.h.base).toNat)[(n - index - 1).toNat]?
   rw [List.getElem?_drop]
   congr 1
   omega
theorem Inv.new {id:Int} {h:Hard} {cH:Int} {c:Core} (hc:oM id h cH=some c):Inv c∧c.h=h:=by
 unfold oM at hc
 split at hc
 ·cases hc
 ·rename_i hn
  cases hc
  obtain ⟨d0,d1⟩:=sX cH
  have hr:fQ h=true:=by
   cases e:fQ h with
   | true=>rfl
   | false=>exact absurd (.inr (.inr e)) hn
  have i0:¬ id<0:=fun e=>hn (.inl e)
  have i1:¬ 7≤id:=fun e=>hn (.inr (.inl e))
  have ok:=(lX h).1 hr
  exact ⟨⟨by show 0≤id;omega,by show id<7;omega,ok,.inl rfl,by show (-1:Int)≤-1;decide,by show (-1:Int)≤6;decide,Int.le_refl _,by show h.base≤h.base+_;omega,d0,d1,by show 1≤cV cH;omega,d1,by show (0:Int)≤0;decide,by show (0:Int)≤127;decide,rfl,fun hr=>(by cases hr),fun hr=>absurd rfl hr,fun w hw=>(by cases hw)⟩,rfl⟩
section
def bM (x:Entry):List V:=[.int .i64 x.term,.int .i64 x.members,.str x.data]
def aV (h:Hard) (lv:V):List V:=[.int .i64 h.term,.int .i64 h.vote,.int .i64 h.base,.int .i64 h.baseTerm,.int .i64 h.members,.str h.snap,lv]
def jT (p:Peer):List V:=[.int .i64 p.next,.int .i64 p.mtch,.int .i64 p.off]
def aO (m:Letter) (ev:V):List V:=[.int .i64 m.kind,.int .i64 m.from',.int .i64 m.to,.int .i64 m.term,.int .i64 m.index,.int .i64 m.at',.int .i64 m.commit,.int .i64 m.members,.int .i64 m.off,.int .i64 m.size,.bool m.yes,.str m.data,ev]
def bW (c:Core) (lv wv ov:V):List V:=[.int .i64 c.id]++aV c.h lv++[.int .i64 c.role,.int .i64 c.leads,.int .i64 c.sure,.int .i64 c.drawn,.int .i64 c.left,.int .i64 c.votes]++(c.peers.map jT).flatten++[wv,ov]
theorem dG (h:Hard) {lv:V} (hl:lv.one=true):aU (aV h lv)=true:=by
 simp only [aV,aU,List.all_cons,List.all_nil,hl,Bool.and_true]
 rfl
def S0:St:=⟨0,.nil⟩
theorem aIt {S:St} (w:WF S):Ext S0 S:=⟨fun a b h=>by simp [S0,Tr.get] at h,Nat.zero_le _,fun _=>w⟩
theorem aCq:WF S0:=fun a b h=>by simp [S0,Tr.get] at h
abbrev Mn (S:St) (n:Nat) (v:V) (es:List (List V)):Prop:=Own S0 S n v es
structure Fr (O:Nat→Prop) (S S':St):Prop where
 keep:∀ y b,¬ O y→S.heap.get y=some b→S'.heap.get y=some b
 next:S.next≤S'.next
 wf:WF S→WF S'
theorem Fr.of {O:Nat→Prop} {S S':St} (x:Ext S S'):Fr O S S':=⟨fun y b _ h=>x.old y b h,x.next,x.wf⟩
structure Mv (O:Nat→Prop) (S:St) (O':Nat→Prop) (S':St):Prop extends Fr O S S' where
 own:∀ y,O' y→O y∨S.next≤y
theorem Mv.refl (O:Nat→Prop) (S:St):Mv O S O S:=⟨Fr.of (Ext.refl S),fun y h=>.inl h⟩
theorem Mv.trans {O O1 O2:Nat→Prop} {S S1 S2:St} (w:WF S) (h:Mv O S O1 S1) (k:Mv O1 S1 O2 S2):Mv O S O2 S2:=by
 refine ⟨⟨fun y b hy hb=>k.keep y b (fun h1=>?_) (h.keep y b hy hb),Nat.le_trans h.next k.next,fun w=>k.wf (h.wf w)⟩,fun y hy=>?_⟩
 ·rcases h.own y h1 with h2 | h2
  ·exact hy h2
  ·have:=w y b hb;omega
 ·rcases k.own y hy with h1 | h1
  ·exact h.own y h1
  ·exact .inr (Nat.le_trans h.next h1)
theorem Mv.of {O:Nat→Prop} {S S':St} (x:Ext S S'):Mv O S O S':=⟨Fr.of x,fun y h=>.inl h⟩
theorem Mv.sl {O O':Nat→Prop} {S S':St} (h:Mv O S O' S') {n:Nat} {v:V} {es:List (List V)} (hs:Sl S n v es) (hv:∀ y,bJ v=some y→¬ O y):Sl S' n v es:=
 hs.keep fun y c hy hc=>h.keep y c (hv y hy) hc
inductive All2 {α β:Type} (R:α→β→Prop):List α→List β→Prop
 | nil:All2 R [] []
 | cons {a:α} {b:β} {l:List α} {m:List β}:R a b→All2 R l m→All2 R (a::l) (b::m)
theorem All2.imp {α β:Type} {R Q:α→β→Prop} (h:∀ a b,R a b→Q a b):∀ {l:List α} {m:List β},All2 R l m→All2 Q l m
 | _,_,.nil=>.nil
 | _,_,.cons a b=>.cons (h _ _ a) (All2.imp h b)
theorem All2.app {α β:Type} {R:α→β→Prop} {a:α} {b:β} (h:R a b):∀ {l:List α} {m:List β},All2 R l m→All2 R (l++[a]) (m++[b])
 | _,_,.nil=>.cons h .nil
 | _,_,.cons x y=>.cons x (All2.app h y)
theorem All2.len {α β:Type} {R:α→β→Prop}:∀ {l:List α} {m:List β},All2 R l m→l.length=m.length
 | _,_,.nil=>rfl
 | _,_,.cons x y=>by simp [All2.len y]
def aRa:V→Option Nat
 | .ptr a _ _ _=>some a
 | _=>none
def aGy (b:UInt8):List V:=[.int .u8 b.toNat]
def LetAt (S:St) (L:Option Nat) (m:Letter) (cs:List V):Prop:=∃ ev,cs=aO m ev∧Sl S 3 ev (m.entries.map bM)∧∀ y,bJ ev=some y→L≠some y
def WayAt (S:St) (way:Option Inst) (wv dv:V):Prop:=match way with
 | none=>wv=.nilp∧dv=.nils
 | some w=>∃ b,wv=.ptr b 0 0 0∧S.heap.get b=some (.row 0 4 [[.int .i64 w.index,.int .i64 w.at',.int .i64 w.size,dv]])∧Mn S 1 dv (w.data.map aGy)
def own (a:Nat) (lv wv dv ov:V) (y:Nat):Prop:=y=a∨bJ lv=some y∨aRa wv=some y∨bJ dv=some y∨bJ ov=some y
class Guard where
 n:Nat
section
variable [Guard]
def Gd (S:St) (rows:List (List V)):Prop:=Guard.n≤S.next∧∀ r∈rows,∀ ev,r[12]?=some ev→∀ y,bJ ev=some y→Guard.n≤y
theorem Gd.mono {S S':St} {rows:List (List V)} (h:Gd S rows) (hn:S.next≤S'.next):Gd S' rows:=⟨Nat.le_trans h.1 hn,h.2⟩
theorem Gd.nil {S:St} (h:Guard.n≤S.next):Gd S []:=⟨h,fun r hr=>by cases hr⟩
structure CoreAt (S:St) (a:Nat) (c:Core) (lv wv dv ov:V) (rows:List (List V)):Prop where
 cell:S.heap.get a=some (.row 0 37 [bW c lv wv ov])
 peers:c.peers.length=7
 log:Mn S 3 lv (c.h.log.map bM)
 way:WayAt S c.way wv dv
 out:Mn S 13 ov rows
 lets:All2 (LetAt S (bJ lv)) c.out rows
 gd:Gd S rows
def CoreIn (S:St) (a:Nat) (c:Core) (O:Nat→Prop):Prop:=∃ lv wv dv ov rows,CoreAt S a c lv wv dv ov rows∧O=own a lv wv dv ov
end
theorem Mn.fr {S S':St} {n:Nat} {v:V} {es:List (List V)} (h:Mn S n v es) (hn:S.next≤S'.next) (hg:∀ y b,bJ v=some y→S.heap.get y=some b→S'.heap.get y=some b):Mn S' n v es:=by
 refine ⟨?_,h.len⟩
 rcases h.is with h1 | ⟨a,ver,tl,h1,h2,h3,h4⟩
 ·exact .inl h1
 ·exact .inr ⟨a,ver,tl,h1,h2,Nat.lt_of_lt_of_le h3 hn,hg a _ (by rw [h1];rfl) h4⟩
theorem Mn.blk {S:St} {n:Nat} {v:V} {es:List (List V)} (h:Mn S n v es) {y:Nat} (hy:bJ v=some y):y<S.next∧∃ ver tl,v=.sl y ver n 0 es.length∧S.heap.get y=some (.row ver n (es++tl)):=by
 rcases h.is with ⟨rfl,_⟩ | ⟨a,ver,tl,rfl,h2,h3,h4⟩
 ·cases hy
 ·cases hy;exact ⟨h3,ver,tl,rfl,h4⟩
theorem Mn.ne {S:St} {n m:Nat} {u v:V} {es fs:List (List V)} (h:Mn S n u es) (k:Mn S m v fs) (hnm:n≠m) {y:Nat} (h1:bJ u=some y) (h2:bJ v=some y):False:=by
 obtain ⟨_,ver,tl,_,g1⟩:=h.blk h1
 obtain ⟨_,ver',tl',_,g2⟩:=k.blk h2
 rw [g1] at g2
 injection g2 with g2
 injection g2 with _ g2
 exact hnm g2
theorem Mn.neRow {S:St} {n m:Nat} {u:V} {es fs:List (List V)} {y ver:Nat} (h:Mn S n u es) (g2:S.heap.get y=some (.row ver m fs)) (hnm:n≠m):bJ u≠some y:=by
 intro h1
 obtain ⟨_,ver,tl,_,g1⟩:=h.blk h1
 rw [g1] at g2
 injection g2 with g2
 injection g2 with _ g2
 exact hnm g2
theorem LetAt.keep {S S':St} {L L':Option Nat} {m:Letter} {cs:List V} (h:LetAt S L m cs) (hk:∀ y ver el,L≠some y→S.heap.get y=some (.row ver 3 el)→S'.heap.get y=some (.row ver 3 el)) (hL:∀ y,y<S.next→L≠some y→L'≠some y) (w:WF S):LetAt S' L' m cs:=by
 obtain ⟨ev,rfl,h1,h2⟩:=h
 rcases h1.is with ⟨rfl,e⟩ | rfl | ⟨a,ver,off,elems,rfl,g1,g2,g3⟩
 ·exact ⟨_,rfl,⟨.inl ⟨rfl,e⟩,h1.len⟩,fun y hy=>by cases hy⟩
 ·exact ⟨_,rfl,⟨.inr (.inl rfl),h1.len⟩,fun y hy=>by cases hy⟩
 ·have g:=iA g1
  refine ⟨_,rfl,⟨.inr (.inr ⟨a,ver,off,elems,rfl,bC (hk a ver elems (h2 a rfl) g),g2,g3⟩),h1.len⟩,fun y hy=>?_⟩
  cases hy
  exact hL a (w _ _ g) (h2 a rfl)
variable [Guard]
theorem CoreAt.fr {S S':St} {a:Nat} {c:Core} {lv wv dv ov:V} {rows:List (List V)} (h:CoreAt S a c lv wv dv ov rows) (w:WF S) (hn:S.next≤S'.next) (hk:∀ y b,S.heap.get y=some b→S'.heap.get y=some b):CoreAt S' a c lv wv dv ov rows:=by
 refine ⟨hk _ _ h.cell,h.peers,Mn.fr h.log hn fun y b _=>hk y b,?_,Mn.fr h.out hn fun y b _=>hk y b,All2.imp (fun m cs q=>q.keep (fun y ver el _=>hk y _) (fun y _ h=>h) w) h.lets,h.gd.mono hn⟩
 have hw:=h.way
 unfold WayAt at hw ⊢
 split at hw
 ·exact hw
 ·obtain ⟨b,e,g,m⟩:=hw
  exact ⟨b,e,hk _ _ g,Mn.fr m hn fun y b _=>hk y b⟩
theorem CoreAt.ext {S S':St} {a:Nat} {c:Core} {lv wv dv ov:V} {rows:List (List V)} (h:CoreAt S a c lv wv dv ov rows) (w:WF S) (x:Ext S S'):CoreAt S' a c lv wv dv ov rows:=h.fr w x.next x.old
theorem CoreAt.lt {S:St} {a:Nat} {c:Core} {lv wv dv ov:V} {rows:List (List V)} (h:CoreAt S a c lv wv dv ov rows) (w:WF S):a<S.next:=w _ _ h.cell
theorem CoreAt.put {S:St} {a:Nat} {c:Core} {lv wv dv ov:V} {rows:List (List V)} (h:CoreAt S a c lv wv dv ov rows) (w:WF S) (c':Core) (h1:c'.h.log=c.h.log) (h2:c'.way=c.way) (h3:c'.out=c.out) (h4:c'.peers.length=7):
  CoreAt ⟨S.next,S.heap.put a (.row 0 37 [bW c' lv wv ov])⟩ a c' lv wv dv ov rows∧Mv (own a lv wv dv ov) S (own a lv wv dv ov) ⟨S.next,S.heap.put a (.row 0 37 [bW c' lv wv ov])⟩:=by
 have hne:∀ y b,y≠a→S.heap.get y=some b→(S.heap.put a (.row 0 37 [bW c' lv wv ov])).get y=some b:=fun y b hy hb=>by rw [Tr.get_put_neB _ _ _ _ trivial hy];exact hb
 refine ⟨⟨Tr.get_put_sameB _ _ _ trivial,h4,?_,?_,?_,?_,h.gd⟩,⟨⟨fun y b hy hb=>hne y b (fun e=>hy (.inl e)) hb,Nat.le_refl _,fun w=>(But.put (h.lt w) _).wf w⟩,fun y hy=>.inl hy⟩⟩
 ·rw [h1]
  exact Mn.fr h.log (Nat.le_refl _) fun y b hy hb=>hne y b (fun e=>h.log.neRow h.cell (by decide) (e▸hy)) hb
 ·rw [h2]
  have hw:=h.way
  unfold WayAt at hw ⊢
  split at hw
  ·exact hw
  ·obtain ⟨b,e,g,m⟩:=hw
   exact ⟨b,e,hne _ _ (fun e=>by subst e;rw [h.cell] at g;cases g) g,Mn.fr m (Nat.le_refl _) fun y b hy hb=>hne y b (fun e=>m.neRow h.cell (by decide) (e▸hy)) hb⟩
 ·exact Mn.fr h.out (Nat.le_refl _) fun y b hy hb=>hne y b (fun e=>h.out.neRow h.cell (by decide) (e▸hy)) hb
 ·rw [h3]
  exact All2.imp (fun m cs q=>q.keep (fun y ver el _ g=>hne y _ (fun e=>by subst e;rw [h.cell] at g;cases g) g) (fun y _ h=>h) w) h.lets
theorem CoreAt.ld {S:St} {a:Nat} {c:Core} {lv wv dv ov:V} {rows:List (List V)} (h:CoreAt S a c lv wv dv ov rows) (k:Nat) {v:V} (hv:(bW c lv wv ov)[k]?=some v):aR none (.ptr a 0 0 k) S=.ok v:=by
 rw [bB _ _ _ _ _ (bC h.cell)];exact aGp _ _ hv
theorem CoreAt.st {S:St} {a:Nat} {c:Core} {lv wv dv ov:V} {rows:List (List V)} (h:CoreAt S a c lv wv dv ov rows) (w:WF S) (k:Nat) (x:V) (c':Core) (hx:x.cells=[x]) (ho:x.one=true) (hk:k<(bW c lv wv ov).length) (hc:splice (bW c lv wv ov) k [x]=bW c' lv wv ov)
  (h1:c'.h.log=c.h.log) (h2:c'.way=c.way) (h3:c'.out=c.out) (h4:c'.peers.length=7):
  ∃ S',bV 1 (.ptr a 0 0 k) x S=.ok S'∧CoreAt S' a c' lv wv dv ov rows∧Mv (own a lv wv dv ov) S (own a lv wv dv ov) S'∧S'.next=S.next:=by
 have e:=dD (x:=x) (j:=k) (m:=1) h.cell (by rw [hx];rfl) (by rw [hx];simp [aU,ho]) (by omega)
 rw [hx,hc] at e
 exact ⟨_,e,(h.put w c' h1 h2 h3 h4).1,(h.put w c' h1 h2 h3 h4).2,rfl⟩
end
end Go.Raft
end
section
namespace Go.Proofs.Ytbiidlmhadihlaa
open Go.AM Go.Raft Try
abbrev mG (f:FuncId) (args:List V) (S:St) (v:V):Prop:=Gives prog aW aX f args S v
theorem aKe (x:Int):wr .i64 ((BitVec.ofInt IntKind.i64.bits x &&& BitVec.ofInt IntKind.i64.bits 1).toNat)=x % 2:=by
 have h1:(BitVec.ofInt IntKind.i64.bits x &&& BitVec.ofInt IntKind.i64.bits 1).toNat=(x % 2).toNat:=by
  show (BitVec.ofInt 64 x &&& BitVec.ofInt 64 1).toNat=_
  rw [BitVec.toNat_and]
  have h2:(BitVec.ofInt 64 1).toNat=1:=by decide
  rw [h2,Nat.and_one_is_mod,BitVec.toNat_ofInt]
  omega
 rw [h1,cS (by omega) (by omega)]
 omega
theorem g50 (m id:Int) (S:St) (h0:0≤m):mG 50 [.int .i64 m,.int .i64 id] S (.bool (cN m id)):=by
 refine e50 ?_
 simp only [m50,dA,aF]
 refine Ok.pickP (fun c0=>?_) (fun c0=>Ok.ret ⟨by simp [cN,c0],Ext.refl S⟩)
 simp only [aZ,aF]
 refine Ok.pickP (fun c1=>?_) (fun c1=>Ok.ret ⟨by simp [cN,c1],Ext.refl S⟩)
 have hw:wr .u64 id=id:=by unfold wr lo hi;simp only;rw [if_pos (by omega)]
 have hsh:aD prog .shr 3 (.int .i64 m) (.int .u64 id)=.ok (.int .i64 (m / 2 ^ id.toNat)):=by
  simp only [aD,mH,show ¬ id<0 by omega,decide_false,cond_false]
  have:min id.toNat IntKind.i64.bits=id.toNat:=by show min id.toNat 64=_;omega
  rw [this,Int.fdiv_eq_ediv_of_nonneg _ (Int.pow_nonneg (by decide))]
 have han:aD prog .and 3 (.int .i64 (m / 2 ^ id.toNat)) (.int .i64 1)=.ok (.int .i64 (m / 2 ^ id.toNat % 2)):=by
  simp only [aD,bU,cond_true,eE,aKe]
 simp only [aEt,hw,aF,hsh,han,aS,aJ,bR]
 exact Ok.ret ⟨by simp [cN,aUi,c0,c1],Ext.refl S⟩
def oN (n:Int):List V:=[.int .i64 n]
theorem uF {l:List Int}:(l.map oN).length=l.length:=List.length_map ..
theorem aKf (S:St) (n:Int):cK 1 [.int .i64 0] 1 [(0,.int .i64 n)] none S=.ok (.sl S.next 0 1 0 1,⟨S.next+1,S.heap.put S.next (.row 0 1 [oN n])⟩):=by
 unfold cK
 rw [if_pos (by omega)]
 simp only [eJ]
 rfl
def nN (m:Int) (l:List Int) (i:Nat):List Int⊕List Int:=.inr (if cN m (i:Int)=true then l++[(i:Int)] else l)
theorem aWb (m:Int):fF (nN m) id (List.range 7) []=lV m:=by
 show fF (nN m) id [0,1,2,3,4,5,6] []=_
 simp only [fF,nN,lV,ids,id,Int.natCast_zero,List.filter_cons,List.filter_nil]
 have e1:((1:Nat):Int)=1:=rfl
 have e2:((2:Nat):Int)=2:=rfl
 have e3:((3:Nat):Int)=3:=rfl
 have e4:((4:Nat):Int)=4:=rfl
 have e5:((5:Nat):Int)=5:=rfl
 have e6:((6:Nat):Int)=6:=rfl
 simp only [e1,e2,e3,e4,e5,e6]
 cases cN m 0<;>cases cN m 1<;>cases cN m 2<;>cases cN m 3<;>cases cN m 4<;>cases cN m 5<;>cases cN m 6<;>rfl
theorem aWc (m:Int) (S:St) (w:WF S) (h0:0≤m):Does prog aW aX 101 [.int .i64 m] S (fun u S'=>Ext S S'∧Own S S' 1 u ((lV m).map oN)):=by
 refine bA6 ?_
 simp only [aPg]
 rw [←aWb]
 refine Ok.loopL (F:=fun k K=>xL (aE prog aW aX k) k K (.int .i64 m)) (ρ:=List Int) (α:=Nat) (X:=V) (List.range 7) (step:=nN m) (fin:=id) (s:=[])
  (out:=fun k K x S'=>K x S')
  (fun i l vs S'=>∃ u,vs=[u,.int .i64 (i:Int)]∧Ext S S'∧Own S S' 1 u (l.map oN)∧l.length≤i)
  (fun l u S'=>Ext S S'∧Own S S' 1 u (l.map oN)) ?_ ?_ ⟨.nils,rfl,Ext.refl S,Own.nil _ _ _,Nat.le_refl _⟩ (fun x S1 h=>Ok.ret h)
 ·rintro i j l vs S1 ⟨u,rfl,x1,own1,hl⟩ hi
  have hj:i<7∧j=i:=by
   obtain ⟨h1,h2⟩:=List.getElem?_eq_some_iff.1 hi
   rw [List.length_range] at h1
   rw [List.getElem_range] at h2
   exact ⟨h1,h2.symm⟩
  obtain ⟨hj,rfl⟩:=hj
  have hlt:(j:Int)<7:=by omega
  have hw:wr .i64 ((j:Int)+1)=((j+1:Nat):Int):=by rw [cS (by omega) (by omega)];omega
  simp only [xL,aY,aZ,aF,hlt,decide_true,bA]
  refine (g50 m j S1 h0).callL fun S2 x2=>?_
  have x02:=x1.trans x2
  refine OkL.pick (fun h=>?_) (fun h=>?_)
  ·have hnew:=Ext.new (x02.wf w) (.row 0 1 [oN (j:Int)])
   have hel:bY (⟨S2.next+1,S2.heap.put S2.next (.row 0 1 [oN (j:Int)])⟩:St) (.sl S2.next 0 1 0 1)=.ok [oN (j:Int)]:=by
    simp only [bY,eR]
    rfl
   obtain ⟨u',S4,r1,r2,_,r4⟩:=((own1.ext x2).ext hnew).push (b:=8) (x02.trans hnew) w hel (fun c hc=>by rw [List.mem_singleton.1 hc];exact ⟨rfl,rfl⟩) (by simp) (by rw [uF];simp only [List.length_cons,List.length_nil];omega) (by rw [uF];simp only [List.length_cons,List.length_nil];unfold fU;omega)
   simp only [aW1,aKf,aR8,r1,aF,bK,hw]
   refine OkL.next ⟨l++[(j:Int)],by unfold nN;rw [if_pos h],u',rfl,r2,by rw [List.map_append];exact r4,by simp;omega⟩
  ·simp only [bK,hw,aF]
   refine OkL.next ⟨l,by unfold nN;rw [h];rfl,u,rfl,x02,own1.ext x2,by omega⟩
 ·rintro l vs S1 ⟨u,rfl,x1,own1,hl⟩
  refine ⟨u,⟨x1,own1⟩,fun k K bD=>?_⟩
  have hlt:¬ (((List.range 7).length:Nat):Int)<7:=by rw [List.length_range];decide
  simp only [xL,aY,aZ,aF,hlt,decide_false,aK]
theorem g93 (m:Int) (S:St) (w:WF S) (h0:0≤m):mG 93 [.int .i64 m] S (.int .i64 (jF m)):=by
 refine e93 ?_
 simp only [m93]
 refine Does.call (aWc m S w h0) fun u S1 ⟨x1,own1⟩=>?_
 simp only [aKb,own1.sl.lenI,aF]
 exact Ok.ret ⟨rfl,x1⟩
theorem g92 (m:Int) (S:St):mG 92 [.int .i64 m] S (.bool (kD m)):=by
 refine e92 ?_
 simp only [m92,dA,dH,aF]
 refine Ok.pickP (fun c0=>Ok.ret ⟨by simp [kD,c0],Ext.refl S⟩) (fun c0=>Ok.ret ⟨by simp [kD,c0],Ext.refl S⟩)
theorem wR (m:Int):0≤jF m∧jF m≤7:=by
 unfold jF lV
 have:=List.length_filter_le (cN m) ids
 have h7:ids.length=7:=rfl
 omega
theorem aIu {m n:Int} (h0:0≤m) (h1:m≤127) (k0:0≤n) (k1:n≤127):wr .i64 ((BitVec.ofInt IntKind.i64.bits m &&& BitVec.ofInt IntKind.i64.bits n).toNat)=xB m n:=by
 have all:∀ a:Nat,a<128→∀ b:Nat,b<128→((a &&& b:Nat):Int)=xB (a:Int) (b:Int):=by decide +kernel
 have hm:m=(m.toNat:Int):=by omega
 have hn:n=(n.toNat:Int):=by omega
 have e:(BitVec.ofInt IntKind.i64.bits m &&& BitVec.ofInt IntKind.i64.bits n).toNat=m.toNat &&& n.toNat:=by
  show (BitVec.ofInt 64 m &&& BitVec.ofInt 64 n).toNat=_
  rw [BitVec.toNat_and,BitVec.toNat_ofInt,BitVec.toNat_ofInt]
  congr 1<;>omega
 have hle:m.toNat &&& n.toNat≤m.toNat:=Nat.and_le_left
 rw [e,cS (by omega) (by omega),all _ (by omega) _ (by omega),←hm,←hn]
theorem aCr {m n:Int} (h0:0≤m) (h1:m≤127) (k0:0≤n) (k1:n≤127):0≤xB m n:=by
 rw [←aIu h0 h1 k0 k1]
 have hle:(BitVec.ofInt IntKind.i64.bits m &&& BitVec.ofInt IntKind.i64.bits n).toNat≤127:=by
  show (BitVec.ofInt 64 m &&& BitVec.ofInt 64 n).toNat≤_
  rw [BitVec.toNat_and,BitVec.toNat_ofInt,BitVec.toNat_ofInt]
  exact Nat.le_trans Nat.and_le_left (by omega)
 rw [cS (by omega) (by omega)]
 omega
theorem g84 (m yes:Int) (S:St) (w:WF S) (k0:0≤yes) (k1:yes≤127):mG 84 [.int .i64 m,.int .i64 yes] S (.bool (jG m yes)):=by
 refine e84 ?_
 simp only [m84]
 refine (g92 m S).call fun S1 x1=>?_
 refine Ok.pick (fun h=>?_) (fun h=>Ok.ret ⟨by unfold jG;rw [h];rfl,x1⟩)
 have hs:=h
 simp only [kD,Bool.and_eq_true,decide_eq_true_eq] at hs
 have han:aD prog .and 3 (.int .i64 m) (.int .i64 yes)=.ok (.int .i64 (xB m yes)):=by
  simp only [aD,bU,cond_true,eE,aIu (show 0≤m by omega) hs.2 k0 k1]
 simp only [han,aF]
 refine (g93 _ S1 (x1.wf w) (aCr (by omega) hs.2 k0 k1)).call fun S2 x2=>?_
 have c1:=wR (xB m yes)
 have hw:wr .i64 (2*jF (xB m yes))=2*jF (xB m yes):=cS (by omega) (by omega)
 simp only [aK0,hw,aF]
 refine (g93 m S2 ((x1.trans x2).wf w) (by omega)).call fun S3 x3=>?_
 simp only [bX,aF]
 exact Ok.ret ⟨by unfold jG;rw [h];rfl,x1.trans (x2.trans x3)⟩
theorem g34 (d:Int) (S:St):mG 34 [.int .i64 d] S (.int .i64 (cV d)):=by
 refine e34 ?_
 obtain ⟨r0,r1⟩:=sX d
 have ht:-11<d.tmod 11∧d.tmod 11<11:=by
  have:=Int.tmod_eq_emod (a:=d) (b:=11)
  have h1:=Int.emod_nonneg d (b:=11) (by omega)
  have h2:=Int.emod_lt_of_pos d (b:=11) (by omega)
  split at this<;>omega
 simp only [m34,aK1 _ _ _ _ _ (by decide:(11:Int)≠0),aZ,bK,aF]
 refine Ok.pickP (fun h=>Ok.ret ⟨?_,Ext.refl S⟩) (fun h=>Ok.ret ⟨?_,Ext.refl S⟩)
 ·have e:wr .i64 (d.tmod 11+11)=d.tmod 11+11:=cS (by omega) (by omega)
  unfold cV;rw [if_pos h,e,cS (by omega) (by omega)]
 ·unfold cV;rw [if_neg h,cS (by omega) (by omega)]
def nB (b len:Int) (i:Nat) (x:Entry):(Int×Int)⊕Nat:=if x.members=0 then .inr (i+1) else .inl (x.members,b+(len - i))
theorem aAa (x:Entry):∀ (l:List Entry) (b:Int) (r:Int×Int),ofL b (l++[x]) r=if x.members=0 then ofL b l r else (x.members,b+l.length+1)
 | [],b,r=>by simp [ofL]
 | y::l,b,r=>by
  simp only [List.cons_append,ofL,aAa x l,List.length_cons]
  split
  ·rfl
  ·congr 1;push_cast;omega
theorem aRb (b:Int) (r:Int×Int):∀ (n:Nat) (l:List Entry) (i:Nat),l.length=n→fF (nB b ((l.length+i:Nat):Int)) (fun _=>r) l.reverse i=ofL b l r:=by
 intro n
 induction n with
 | zero=>
  intro l i h
  have:l=[]:=List.length_eq_zero_iff.1 h
  subst this
  rfl
 | succ n ih=>
  intro l i h
  obtain ⟨m,x,rfl⟩:∃ m x,l=m++[x]:=by
   rcases List.eq_nil_or_concat l with rfl | ⟨m,p,rfl⟩
   ·simp at h
   ·exact ⟨m,p,by simp⟩
  simp only [List.length_append,List.length_cons,List.length_nil] at h
  rw [List.reverse_append,aAa]
  simp only [List.reverse_cons,List.reverse_nil,List.nil_append,List.singleton_append,fF,nB]
  split
  ·rename_i s hs
   split at hs
   ·cases hs
   ·rename_i hm
    cases hs
    rw [if_neg hm]
    congr 1
    simp only [List.length_append,List.length_cons,List.length_nil]
    push_cast;omega
  ·rename_i s hs
   split at hs
   ·rename_i hm
    cases hs
    rw [if_pos hm]
    have:=ih m (i+1) (by omega)
    have e:(m++[x]).length+i=m.length+(i+1):=by simp;omega
    rw [e]
    exact this
   ·cases hs
theorem g49 (h:Hard) (lv:V) (S:St) (w:WF S) (hs:Sl S 3 lv (h.log.map bM)) (hl:h.log.length≤1000000) (b0:0≤h.base) (b1:h.base≤1099511627776):mG 49 [.agg (aV h lv)] S (.tup [.int .i64 (eP h).1,.int .i64 (eP h).2]):=by
 refine e49 ?_
 have ho:=dG h hs.one
 have hln:(aV h lv).length=7:=rfl
 obtain ⟨S1,hn1,x1,hg1,hnx1⟩:=nb w 7 (aV h lv)
 have w1:=x1.wf w
 have hs1:=hs.ext x1
 have ldl:∀ {T:St},T.heap.get S.next=some (.row 0 7 [aV h lv])→aR none (.ptr S.next 0 0 (0+6)) T=.ok lv:=fun hg=>by rw [bB _ _ _ _ _ (bC hg)];rfl
 have ldb:∀ {T:St},T.heap.get S.next=some (.row 0 7 [aV h lv])→aR none (.ptr S.next 0 0 (0+2)) T=.ok (.int .i64 h.base):=fun hg=>by rw [bB _ _ _ _ _ (bC hg)];rfl
 have ldm:∀ {T:St},T.heap.get S.next=some (.row 0 7 [aV h lv])→aR none (.ptr S.next 0 0 (0+4)) T=.ok (.int .i64 h.members):=fun hg=>by rw [bB _ _ _ _ _ (bC hg)];rfl
 have hw1:wr .i64 ((h.log.length:Int) - 1)=(h.log.length:Int) - 1:=cS (by omega) (by omega)
 simp only [m49,bH,ho,hln,aJ,hn1,aF,cO,aG,eC,ldl hg1,eA,hs1.lenI,cE,hw1]
 have hall:eP h=fF (nB h.base ((h.log.length+0:Nat):Int)) (fun _=>(h.members,h.base)) h.log.reverse 0:=(aRb h.base (h.members,h.base) _ h.log 0 rfl).symm
 rw [hall]
 have hrl:h.log.reverse.length=h.log.length:=List.length_reverse
 refine Ok.loop (F:=fun k K=>zQ (aE prog aW aX k) k K (.ptr S.next 0 0 0)) (ρ:=Int×Int) (α:=Entry) (X:=Int×Int) h.log.reverse (step:=nB h.base ((h.log.length+0:Nat):Int)) (fin:=fun _=>(h.members,h.base)) (s:=0)
  (out:=fun k K x S'=>K (.tup [.int .i64 x.1,.int .i64 x.2]) S')
  (fun i n vs T=>n=i∧vs=[.int .i64 0,.int .i64 0,.int .i64 ((h.log.length:Int) - 1 - i)]∧Ext S1 T)
  (fun r x T=>r=x∧Ext S1 T) ?_ ?_ ⟨rfl,by simp,Ext.refl _⟩ (fun x T ⟨e,xt⟩=>Ok.ret ⟨by rw [e],x1.trans xt⟩)
 ·rintro i x n vs T ⟨rfl,rfl,xt⟩ hi
  have hil:n<h.log.length:=by have:=(List.getElem?_eq_some_iff.1 hi).1;omega
  have hge:(0:Int)≤(h.log.length:Int) - 1 - (n:Int):=by omega
  obtain ⟨j,hj⟩:∃ j:Nat,(h.log.length:Int) - 1 - (n:Int)=(j:Int):=⟨h.log.length - 1 - n,by omega⟩
  have hgj:(0:Int)≤(j:Int):=by omega
  have hjx:h.log[j]?=some x:=by
   rw [List.getElem?_reverse hil] at hi
   rw [show j=h.log.length - 1 - n by omega];exact hi
  have xb:Ext T (⟨T.next+13,T.heap⟩:St):=(Ext.refl T).bump 13
  have gt:=xt.old _ _ hg1
  have gb:=xb.old _ _ gt
  obtain ⟨p,hp,hat,_,_⟩:=((hs1.ext xt).ext xb).elem hjx
  have hat0:aR none (xA 1 p) T=.ok (.int .i64 x.members):=by
   obtain ⟨p',hp',hat',_,_⟩:=(hs1.ext xt).elem hjx
   rw [hp] at hp';cases hp'
   rw [hat'.load];rfl
  have hat1:aR none (xA 1 p) (⟨T.next+13,T.heap⟩:St)=.ok (.int .i64 x.members):=by rw [hat.load];rfl
  have hw2:wr .i64 ((j:Int) - 1)=(h.log.length:Int) - 1 - ((n+1:Nat):Int):=by rw [cS (by omega) (by omega)];push_cast;omega
  have hw3:wr .i64 (h.base+(j:Int))=h.base+(j:Int):=cS (by omega) (by omega)
  have hw4:wr .i64 (h.base+(j:Int)+1)=h.base+((h.log.length:Int) - n):=by rw [cS (by omega) (by omega)];omega
  have pre:∀ (k:Nat) (K:KS) (bD:Ag),zQ (aE prog aW aX k) k K (.ptr S.next 0 0 0) [.int .i64 0,.int .i64 0,.int .i64 ((h.log.length:Int) - 1 - n)] T bD=if x.members=0 then bD [.int .i64 0,.int .i64 0,.int .i64 ((h.log.length:Int) - 1 - ((n+1:Nat):Int))] T else K (.tup [.int .i64 x.members,.int .i64 (h.base+((h.log.length:Int) - n))]) (⟨T.next+13,T.heap⟩:St):=by
   intro k K bD
   simp only [zQ,aY,dA,aF,hj,hgj,decide_true,bA,cO,dM,aG,eC,ldl gt,ldl gb,hj,oL,hp,aEy,hat.advW,cR,hat0,hat1,ldb gb,aS,aJ,cJ,bK,cE,hw2,hw3,hw4]
   by_cases c:x.members=0
   ·simp only [c,decide_true,Bool.not_true,aK,if_true]
   ·simp only [c,decide_false,Bool.not_false,bA,if_false]
  refine ⟨0,?_⟩
  by_cases c:x.members=0
  ·exact .inr ⟨n+1,[.int .i64 0,.int .i64 0,.int .i64 ((h.log.length:Int) - 1 - ((n+1:Nat):Int))],T,by unfold nB;rw [if_pos c],⟨rfl,rfl,xt⟩,fun k K bD _=>by rw [pre,if_pos c]⟩
  ·exact .inl ⟨(x.members,h.base+((h.log.length:Int) - n)),(x.members,h.base+((h.log.length:Int) - n)),(⟨T.next+13,T.heap⟩:St),by unfold nB;rw [if_neg c];simp,⟨rfl,xt.trans xb⟩,fun k K bD _=>by rw [pre,if_neg c]⟩
 ·rintro n vs T ⟨rfl,rfl,xt⟩
  have hge:¬ (0:Int)≤(h.log.length:Int) - 1 - ((h.log.reverse.length:Nat):Int):=by omega
  have xb:Ext T (⟨T.next+6,T.heap⟩:St):=(Ext.refl T).bump 6
  have gb:=xb.old _ _ (xt.old _ _ hg1)
  refine ⟨0,(h.members,h.base),(⟨T.next+6,T.heap⟩:St),⟨rfl,xt.trans xb⟩,fun k K bD _=>?_⟩
  simp only [zQ,aY,dA,aF,hge,decide_false,aK,mY,dM,aG,cR,ldm gb,ldb gb]
theorem aBk (n a b:Int) (S:St):mG 103 [.int .i64 n,.int .i64 a,.int .i64 b] S (.bool (nC n a b)):=by
 refine bA8 ?_
 simp only [aPk,dA,dH,aF]
 refine Ok.pickP (fun c0=>Ok.ret ⟨by simp [nC,c0],Ext.refl S⟩) (fun c0=>Ok.ret ⟨by simp [nC,c0],Ext.refl S⟩)
theorem nO (s:List UInt8):(s == ([]:List UInt8))=decide (s=[]):=by cases s<;>simp
theorem g95 (x:Entry) (b t:Int) (S:St) (w:WF S):mG 95 [.agg (bM x),.int .i64 b,.int .i64 t] S (.bool (nM x b t)):=by
 refine e95 ?_
 have ho:aU (bM x)=true:=rfl
 have hln:(bM x).length=3:=rfl
 obtain ⟨S1,hn1,x1,hg1,hnx1⟩:=nb w 3 (bM x)
 have v0:aR none (.ptr S.next 0 0 (0+0)) S1=.ok (.int .i64 x.term):=by rw [bB _ _ _ _ _ (bC hg1)];rfl
 have v1:aR none (.ptr S.next 0 0 (0+1)) S1=.ok (.int .i64 x.members):=by rw [bB _ _ _ _ _ (bC hg1)];rfl
 have v2:aR none (.ptr S.next 0 0 (0+2)) S1=.ok (.str x.data):=by rw [bB _ _ _ _ _ (bC hg1)];rfl
 have hl9:bZ prog 9 (.str x.data) S1=.ok (.int .i64 x.data.length):=qS (by kernel_rfl) _ _
 simp only [m95,bH,ho,hln,aJ,hn1,aF,jQ,aEy,aEz,aG,cR,uE,v0,v1,v2,hl9,aZ,bX,dH,aS,gN,bR,mP,nO]
 refine Ok.pickP (fun c=>Ok.ret ⟨by rw [nM,decide_eq_false (by omega:¬ 1≤x.term)];rfl,x1⟩) fun c1=>?_
 refine Ok.pickP (fun c=>Ok.ret ⟨by rw [nM,decide_eq_true (by omega:1≤x.term),decide_eq_false (by omega:¬ b≤x.term)];rfl,x1⟩) fun c2=>?_
 refine Ok.pickP (fun c=>Ok.ret ⟨by rw [nM,decide_eq_true (by omega:1≤x.term),decide_eq_true (by omega:b≤x.term),decide_eq_false (by omega:¬ x.term≤t)];rfl,x1⟩) fun c3=>?_
 have hp:nM x b t=(decide (0≤x.members)&&(decide (x.members≤127)&&(decide (x.data.length≤1100)&&(decide (x.members=0)||decide (x.data=[]))))):=by
  rw [nM,decide_eq_true (by omega:1≤x.term),decide_eq_true (by omega:b≤x.term),decide_eq_true (by omega:x.term≤t)];rfl
 rw [hp]
 refine Ok.pickP (fun c=>Ok.ret ⟨by rw [decide_eq_false (by omega:¬ 0≤x.members)];rfl,x1⟩) fun c4=>?_
 refine Ok.pickP (fun c=>Ok.ret ⟨by rw [decide_eq_true (by omega:0≤x.members),decide_eq_false (by omega:¬ x.members≤127)];rfl,x1⟩) fun c5=>?_
 rw [decide_eq_true (by omega:0≤x.members),decide_eq_true (by omega:x.members≤127)]
 refine Ok.pickP (fun c=>?_) (fun c=>Ok.ret ⟨by rw [decide_eq_false (by omega:¬ x.data.length≤1100)];rfl,x1⟩)
 rw [decide_eq_true (by omega:x.data.length≤1100)]
 refine Ok.pickP (fun c=>Ok.ret ⟨by rw [decide_eq_true c];rfl,x1⟩) (fun c=>Ok.ret ⟨by rw [decide_eq_false c];rfl,x1⟩)
def kT (h:Hard):Prop:=0≤h.term∧h.term≤1099511627776∧-1≤h.vote∧h.vote<7∧1≤h.members∧h.members≤127∧0≤h.base∧h.base≤1099511627776∧0≤h.baseTerm∧h.baseTerm≤h.term∧(h.baseTerm=0↔h.base=0)∧h.log.length≤200∧(h.log.length:Int)≤1099511627776 - h.base
theorem aQ2 {h:Hard} (q:¬ kT h):rQ h=false:=by
 cases e:rQ h with
 | false=>rfl
 | true=>
  simp only [rQ,Bool.and_eq_true,decide_eq_true_eq] at e
  exact absurd ⟨e.1,e.2.1,e.2.2.1,e.2.2.2.1,e.2.2.2.2.1,e.2.2.2.2.2.1,e.2.2.2.2.2.2.1,e.2.2.2.2.2.2.2.1,e.2.2.2.2.2.2.2.2.1,e.2.2.2.2.2.2.2.2.2.1,e.2.2.2.2.2.2.2.2.2.2.1,e.2.2.2.2.2.2.2.2.2.2.2.1,e.2.2.2.2.2.2.2.2.2.2.2.2.1⟩ q
theorem aGz {h:Hard} (q:kT h):rQ h=fY h.term h.log h.baseTerm:=by
 obtain ⟨a1,a2,a3,a4,a5,a6,a7,a8,a9,a10,a11,a12,a13⟩:=q
 unfold rQ
 rw [decide_eq_true a1,decide_eq_true a2,decide_eq_true a3,decide_eq_true a4,decide_eq_true a5,decide_eq_true a6,decide_eq_true a7,decide_eq_true a8,decide_eq_true a9,decide_eq_true a10,decide_eq_true a11,decide_eq_true a12,decide_eq_true a13]
 rfl
def jJ (t:Int) (b:Int) (x:Entry):Bool⊕Int:=if nM x b t=true then .inr x.term else .inl false
theorem aQ3 (t:Int):∀ (l:List Entry) (b:Int),fF (jJ t) (fun _=>true) l b=fY t l b
 | [],b=>rfl
 | x::l,b=>by
  simp only [fF,jJ,fY]
  cases nM x b t with
  | true=>simp only [if_true,Bool.true_and];exact aQ3 t l _
  | false=>rfl
theorem bAh:(fun a b=>aD prog .neq 4 (.bool a) (.bool b))=fun a b=>.ok (.bool (!(a == b))):=by kernel_rfl
theorem bAi:(fun a b=>aD prog .eql 4 (.bool a) (.bool b))=fun a b=>.ok (.bool (a == b)):=by kernel_rfl
theorem jU (a b:Bool):aD prog .neq 4 (.bool a) (.bool b)=.ok (.bool (!(a == b))):=congrFun (congrFun bAh a) b
theorem lG (a b:Bool):aD prog .eql 4 (.bool a) (.bool b)=.ok (.bool (a == b)):=congrFun (congrFun bAi a) b
theorem g67 (h:Hard) (lv:V) (S:St) (w:WF S) (hs:Sl S 3 lv (h.log.map bM)) (hl:h.log.length≤1000000):mG 67 [.agg (aV h lv)] S (.bool (rQ h)):=by
 refine e67 ?_
 have ho:=dG h hs.one
 have hln:(aV h lv).length=7:=rfl
 obtain ⟨S1,hn1,x1,hg1,hnx1⟩:=nb w 7 (aV h lv)
 have w1:=x1.wf w
 have hs1:=hs.ext x1
 have v0:∀ {T:St},T.heap.get S.next=some (.row 0 7 [aV h lv])→aR none (.ptr S.next 0 0 (0+0)) T=.ok (.int .i64 h.term):=fun hg=>by rw [bB _ _ _ _ _ (bC hg)];rfl
 have v1:aR none (.ptr S.next 0 0 (0+1)) S1=.ok (.int .i64 h.vote):=by rw [bB _ _ _ _ _ (bC hg1)];rfl
 have v2:aR none (.ptr S.next 0 0 (0+2)) S1=.ok (.int .i64 h.base):=by rw [bB _ _ _ _ _ (bC hg1)];rfl
 have v3:aR none (.ptr S.next 0 0 (0+3)) S1=.ok (.int .i64 h.baseTerm):=by rw [bB _ _ _ _ _ (bC hg1)];rfl
 have v4:aR none (.ptr S.next 0 0 (0+4)) S1=.ok (.int .i64 h.members):=by rw [bB _ _ _ _ _ (bC hg1)];rfl
 have v6:aR none (.ptr S.next 0 0 (0+6)) S1=.ok lv:=by rw [bB _ _ _ _ _ (bC hg1)];rfl
 have no:∀ (q:¬ kT h),(V.bool false=V.bool (rQ h)):=fun q=>by rw [aQ2 q]
 simp only [m67,bH,ho,hln,aJ,hn1,aF,eO,kM,dM,mX,mY,cO,aG,cR,eC,v0 hg1,v1,v2,v3,v4,v6,eA,hs1.lenI,aZ,bX,dA,bR,cE,aS,eL,jU]
 refine Ok.pickP (fun c=>Ok.ret ⟨no fun q=>by unfold kT at q;omega,x1⟩) fun c1=>?_
 refine Ok.pickP (fun c=>Ok.ret ⟨no fun q=>by unfold kT at q;omega,x1⟩) fun c2=>?_
 refine Ok.pickP (fun c=>Ok.ret ⟨no fun q=>by unfold kT at q;omega,x1⟩) fun c3=>?_
 refine Ok.pickP (fun c=>Ok.ret ⟨no fun q=>by unfold kT at q;omega,x1⟩) fun c4=>?_
 refine Ok.pickP (fun c=>Ok.ret ⟨no fun q=>by unfold kT at q;omega,x1⟩) fun c5=>?_
 refine Ok.pickP (fun c=>Ok.ret ⟨no fun q=>by unfold kT at q;omega,x1⟩) fun c6=>?_
 refine Ok.pickP (fun c=>Ok.ret ⟨no fun q=>by unfold kT at q;omega,x1⟩) fun c7=>?_
 refine Ok.pickP (fun c=>Ok.ret ⟨no fun q=>by unfold kT at q;omega,x1⟩) fun c8=>?_
 refine Ok.pickP (fun c=>Ok.ret ⟨no fun q=>by unfold kT at q;omega,x1⟩) fun c9=>?_
 refine Ok.pickP (fun c=>Ok.ret ⟨no fun q=>by unfold kT at q;omega,x1⟩) fun c10=>?_
 refine Ok.pick (fun c=>Ok.ret ⟨no fun q=>?_,x1⟩) fun c11=>?_
 ·have q11:=q.2.2.2.2.2.2.2.2.2.2.1
  by_cases e:h.base=0
  ·simp [q11.2 e,e] at c
  ·have e2:¬ h.baseTerm=0:=fun e2=>e (q11.1 e2)
   simp [e,e2] at c
 have q11:h.baseTerm=0↔h.base=0:=by
  by_cases e:h.base=0<;>by_cases e2:h.baseTerm=0<;>simp [e,e2] at c11 ⊢
 have hwb:wr .i64 (1099511627776 - h.base)=1099511627776 - h.base:=cS (by omega) (by omega)
 refine Ok.pickP (fun c=>Ok.ret ⟨no fun q=>by unfold kT at q;omega,x1⟩) fun c12=>?_
 simp only [hwb]
 refine Ok.pickP (fun c=>Ok.ret ⟨no fun q=>by unfold kT at q;omega,x1⟩) fun c13=>?_
 have hyes:rQ h=fY h.term h.log h.baseTerm:=aGz ⟨by omega,by omega,by omega,by omega,by omega,by omega,by omega,by omega,by omega,by omega,q11,by omega,by omega⟩
 rw [hyes,←aQ3]
 refine Ok.loopL (F:=fun k K=>aEd (aE prog aW aX k) k K (.ptr S.next 0 0 0) lv (.int .i64 h.log.length)) (ρ:=Bool) (α:=Entry) (X:=Bool) h.log (step:=jJ h.term) (fin:=fun _=>true) (s:=h.baseTerm)
  (out:=fun k K x S'=>K (.bool x) S')
  (fun i b vs T=>vs=[.bool false,.int .i64 b,.int .i64 (i:Int)]∧Ext S1 T)
  (fun r x T=>r=x∧Ext S1 T) ?_ ?_ ⟨rfl,Ext.refl _⟩ (fun x T ⟨e,xt⟩=>Ok.ret ⟨by rw [e],x1.trans xt⟩)
 ·rintro i x b vs T ⟨rfl,xt⟩ hi
  have hil:i<h.log.length:=(List.getElem?_eq_some_iff.1 hi).1
  have hlt:(i:Int)<(h.log.length:Int):=by omega
  have hw:wr .i64 ((i:Int)+1)=((i+1:Nat):Int):=by rw [cS (by omega) (by omega)];omega
  obtain ⟨p,hp,hld,hst,hxv,hv⟩:=(hs1.ext xt).var (xt.wf w1) hi [.int .i64 0,.int .i64 0,.str []] rfl
  generalize T.var 3 [.int .i64 0,.int .i64 0,.str []] (bM x)=T2 at hst hxv hv
  have x02:=xt.trans hxv
  have u0:aR (some 3) (.ptr T.next 0 0 0) T2=.ok (.agg (bM x)):=by rw [hv _ (Ext.refl _)];exact cM _ _ rfl
  simp only [aEd,aY,aZ,aF,hlt,decide_true,bA,oL,hp,aBh,hld,eJ,aUf,hst,u0,eO,aG,cR,v0 (x02.old _ _ hg1)]
  refine (g95 x b h.term T2 (x02.wf w1)).callL fun T3 x3=>?_
  have u1:aR none (.ptr T.next 0 0 (0+0)) T3=.ok (.int .i64 x.term):=by rw [hv _ x3];rfl
  simp only [dS,aF]
  refine OkL.pick (fun c=>OkL.stop false ⟨false,?_,rfl,x02.trans x3⟩ (by intros;rfl)) (fun c=>?_)
  ·unfold jJ;rw [if_neg (by simpa using c)]
  ·simp only [jQ,aG,aF,u1,bK,hw]
   exact OkL.next ⟨x.term,by unfold jJ;rw [if_pos (by simpa using c)],rfl,x02.trans x3⟩
 ·rintro b vs T ⟨rfl,xt⟩
  have hlt:¬ (h.log.length:Int)<(h.log.length:Int):=by omega
  refine ⟨true,⟨rfl,xt⟩,fun k K bD=>?_⟩
  simp only [aEd,aY,aZ,aF,hlt,decide_false,aK]
theorem g33 (h:Hard) (lv:V) (S:St) (w:WF S) (hs:Sl S 3 lv (h.log.map bM)) (hl:h.log.length≤1000000):mG 33 [.agg (aV h lv)] S (.bool (fQ h)):=by
 refine e33 ?_
 have ho:=dG h hs.one
 have hln:(aV h lv).length=7:=rfl
 obtain ⟨S1,hn1,x1,hg1,hnx1⟩:=nb w 7 (aV h lv)
 have w1:=x1.wf w
 have va:aR (some 7) (.ptr S.next 0 0 0) S1=.ok (.agg (aV h lv)):=by rw [bB _ _ _ _ _ (bC hg1)];exact cM _ _ hln
 simp only [m33,bH,ho,hln,aJ,hn1,aF,mE,va]
 refine (g67 h lv S1 w1 (hs.ext x1) hl).call fun S2 x2=>?_
 have g2:=x2.old _ _ hg1
 have v2:aR none (.ptr S.next 0 0 (0+2)) S2=.ok (.int .i64 h.base):=by rw [bB _ _ _ _ _ (bC g2)];rfl
 have v5:aR none (.ptr S.next 0 0 (0+5)) S2=.ok (.str h.snap):=by rw [bB _ _ _ _ _ (bC g2)];rfl
 have hl9:bZ prog 9 (.str h.snap) S2=.ok (.int .i64 h.snap.length):=qS (by kernel_rfl) _ _
 have x02:=x1.trans x2
 refine Ok.pick (fun c=>?_) (fun c=>Ok.ret ⟨by unfold fQ;rw [c];rfl,x02⟩)
 simp only [dM,kN,aG,aF,cR,uE,v2,v5,hl9,gN,aS,eL,aJ,mP,nO,bR,lG,dH]
 have hiff:(decide (h.snap=[]) == decide (h.base=0))=decide (h.snap=[]↔h.base=0):=by
  by_cases e:h.snap=[]<;>by_cases e2:h.base=0<;>simp [e,e2]
 rw [hiff]
 refine Ok.pickP (fun c2=>Ok.ret ⟨?_,x02⟩) (fun c2=>Ok.ret ⟨by unfold fQ;rw [c,decide_eq_false c2];rfl,x02⟩)
 unfold fQ
 rw [c,decide_eq_true c2]
 congr 1
 simp only [Bool.true_and,decide_eq_decide]
 omega
theorem aNv {m n:Int} (h0:0≤m) (h1:m≤127) (k0:0≤n) (k1:n≤127):wr .i64 ((BitVec.ofInt IntKind.i64.bits m ^^^ BitVec.ofInt IntKind.i64.bits n).toNat)=aLv m n∧0≤aLv m n:=by
 have all:∀ a:Nat,a<128→∀ b:Nat,b<128→((a ^^^ b:Nat):Int)=aLv (a:Int) (b:Int)∧a ^^^ b<128:=by decide +kernel
 have hm:m=(m.toNat:Int):=by omega
 have hn:n=(n.toNat:Int):=by omega
 have e:(BitVec.ofInt IntKind.i64.bits m ^^^ BitVec.ofInt IntKind.i64.bits n).toNat=m.toNat ^^^ n.toNat:=by
  show (BitVec.ofInt 64 m ^^^ BitVec.ofInt 64 n).toNat=_
  rw [BitVec.toNat_xor,BitVec.toNat_ofInt,BitVec.toNat_ofInt]
  congr 1<;>omega
 obtain ⟨a1,a2⟩:=all m.toNat (by omega) n.toNat (by omega)
 rw [←hm,←hn] at a1
 rw [e,cS (by omega) (by omega),←a1]
 exact ⟨rfl,by omega⟩
theorem g61 (m n:Int) (S:St) (w:WF S):mG 61 [.int .i64 m,.int .i64 n] S (.bool (mF m n)):=by
 refine e61 ?_
 simp only [m61]
 refine (g92 m S).call fun S1 x1=>?_
 refine Ok.pick (fun h=>?_) (fun h=>Ok.ret ⟨by unfold mF;rw [h];rfl,x1⟩)
 refine (g92 n S1).call fun S2 x2=>?_
 have x02:=x1.trans x2
 refine Ok.pick (fun h'=>?_) (fun h'=>Ok.ret ⟨by unfold mF;rw [h,h'];rfl,x02⟩)
 have a:=h
 have b:=h'
 simp only [kD,Bool.and_eq_true,decide_eq_true_eq] at a b
 obtain ⟨q1,q2⟩:=aNv (m:=m) (n:=n) (by omega) a.2 (by omega) b.2
 have han:aD prog .xor 3 (.int .i64 m) (.int .i64 n)=.ok (.int .i64 (aLv m n)):=by
  simp only [aD,bU,cond_true,eE,q1]
 simp only [han,aF]
 refine (g93 _ S2 (x02.wf w) q2).call fun S3 x3=>?_
 simp only [aS,aJ,bR,aF]
 exact Ok.ret ⟨by unfold mF;rw [h,h'];rfl,x02.trans x3⟩
section
theorem cB (m:Letter) {ev:V} (h:ev.one=true):aU (aO m ev)=true:=by
 simp only [aO,aU,List.all_cons,List.all_nil,h,Bool.and_true]
 rfl
section
variable {S:St} {a:Nat} {m:Letter} {ev:V} (h:S.heap.get a=some (.row 0 13 [aO m ev]))
include h
theorem jV:aR none (.ptr a 0 0 (0+0)) S=.ok (.int .i64 m.kind):=by rw [bB _ _ _ _ _ (bC h)];rfl
theorem cG:aR none (.ptr a 0 0 (0+1)) S=.ok (.int .i64 m.from'):=by rw [bB _ _ _ _ _ (bC h)];rfl
theorem aH0:aR none (.ptr a 0 0 (0+2)) S=.ok (.int .i64 m.to):=by rw [bB _ _ _ _ _ (bC h)];rfl
theorem kP:aR none (.ptr a 0 0 (0+3)) S=.ok (.int .i64 m.term):=by rw [bB _ _ _ _ _ (bC h)];rfl
theorem bI:aR none (.ptr a 0 0 (0+4)) S=.ok (.int .i64 m.index):=by rw [bB _ _ _ _ _ (bC h)];rfl
theorem gB:aR none (.ptr a 0 0 (0+5)) S=.ok (.int .i64 m.at'):=by rw [bB _ _ _ _ _ (bC h)];rfl
theorem fL:aR none (.ptr a 0 0 (0+6)) S=.ok (.int .i64 m.commit):=by rw [bB _ _ _ _ _ (bC h)];rfl
theorem dW:aR none (.ptr a 0 0 (0+7)) S=.ok (.int .i64 m.members):=by rw [bB _ _ _ _ _ (bC h)];rfl
theorem gL:aR none (.ptr a 0 0 (0+8)) S=.ok (.int .i64 m.off):=by rw [bB _ _ _ _ _ (bC h)];rfl
theorem fH:aR none (.ptr a 0 0 (0+9)) S=.ok (.int .i64 m.size):=by rw [bB _ _ _ _ _ (bC h)];rfl
theorem mR:aR none (.ptr a 0 0 (0+10)) S=.ok (.bool m.yes):=by rw [bB _ _ _ _ _ (bC h)];rfl
theorem hM:aR none (.ptr a 0 0 (0+11)) S=.ok (.str m.data):=by rw [bB _ _ _ _ _ (bC h)];rfl
theorem fI:aR none (.ptr a 0 0 (0+12)) S=.ok ev:=by rw [bB _ _ _ _ _ (bC h)];rfl
theorem nP:aR (some 13) (.ptr a 0 0 0) S=.ok (.agg (aO m ev)):=by rw [bB _ _ _ _ _ (bC h)];exact cM _ _ rfl
end
theorem aH1 (a b:Bool):(a == b)=decide (a=b):=by cases a<;>cases b<;>rfl
theorem aAb (a b:List UInt8):(a == b)=decide (a=b):=by
 by_cases h:a=b
 ·subst h;simp
 ·simp [h]
theorem aLw (m n:Letter) (u v:V) (S:St) (w:WF S) (hu:Sl S 3 u (m.entries.map bM)) (hv:Sl S 3 v (n.entries.map bM)):mG 107 [.agg (aO m u),.agg (aO n v)] S (.bool (lW m n)):=by
 refine bAc ?_
 have ho:=cB m hu.one
 have ho2:=cB n hv.one
 have hln:(aO m u).length=13:=rfl
 have hln2:(aO n v).length=13:=rfl
 obtain ⟨S1,hn1,x1,hg1,hnx1⟩:=nb w 13 (aO m u)
 obtain ⟨S2,hn2,x2,hg2,hnx2⟩:=nb (x1.wf w) 13 (aO n v)
 have x02:=x1.trans x2
 have g1:=x2.old _ _ hg1
 simp only [aPs,bH,ho,ho2,hln,hln2,aJ,hn1,hn2,aF,eV,cI,fE,oG,pX,iK,mZ,jY,kY,aG,eC,cR,ld4,uE,fI g1,fI hg2,bI g1,bI hg2,gB g1,gB hg2,fL g1,fL hg2,dW g1,dW hg2,gL g1,gL hg2,fH g1,fH hg2,mR g1,mR hg2,hM g1,hM hg2,
  eA,(hu.ext x02).lenI,(hv.ext x02).lenI,aS,eL,gN,cJ,bR,lG,mP,aH1,aAb]
 unfold lW
 refine Ok.pickN (fun c=>Ok.ret ⟨by rw [decide_eq_false (by omega)];rfl,x02⟩) fun c=>?_
 rw [decide_eq_true (by omega:m.entries.length=n.entries.length)]
 refine Ok.pickP (fun c=>?_) (fun c=>Ok.ret ⟨by rw [decide_eq_false c];rfl,x02⟩)
 rw [decide_eq_true c]
 refine Ok.pickP (fun c=>?_) (fun c=>Ok.ret ⟨by rw [decide_eq_false c];rfl,x02⟩)
 rw [decide_eq_true c]
 refine Ok.pickP (fun c=>?_) (fun c=>Ok.ret ⟨by rw [decide_eq_false c];rfl,x02⟩)
 rw [decide_eq_true c]
 refine Ok.pickP (fun c=>?_) (fun c=>Ok.ret ⟨by rw [decide_eq_false c];rfl,x02⟩)
 rw [decide_eq_true c]
 refine Ok.pickP (fun c=>?_) (fun c=>Ok.ret ⟨by rw [decide_eq_false c];rfl,x02⟩)
 rw [decide_eq_true c]
 refine Ok.pickP (fun c=>?_) (fun c=>Ok.ret ⟨by rw [decide_eq_false c];rfl,x02⟩)
 rw [decide_eq_true c]
 refine Ok.pickP (fun c=>?_) (fun c=>Ok.ret ⟨by rw [decide_eq_false c];rfl,x02⟩)
 rw [decide_eq_true c]
 exact Ok.ret ⟨rfl,x02⟩
end
theorem bAk (m:Letter) (u:V) (S:St) (w:WF S) (hu:Sl S 3 u (m.entries.map bM)):mG 102 [.agg (aO m u)] S (.bool (gG m)):=by
 refine bA7 ?_
 have ho:=cB m hu.one
 have hln:(aO m u).length=13:=rfl
 obtain ⟨S1,hn1,x1,g1,hnx1⟩:=nb w 13 (aO m u)
 have w1:=x1.wf w
 have hu1:=hu.ext x1
 obtain ⟨z,hz⟩:∃ z:List V,z=[.int .i64 0,.int .i64 0,.int .i64 0,.int .i64 0,.int .i64 0,.int .i64 0,.int .i64 0,.int .i64 0,.int .i64 0,.int .i64 0,.bool false,.str [],.nils]:=⟨_,rfl⟩
 have b1:∀ a b:Int,dX [.int .i64 0,.int .i64 0,.int .i64 0,.int .i64 0,.int .i64 0,.int .i64 0,.int .i64 0,.int .i64 0,.int .i64 0,.int .i64 0,.bool false,.str [],.nils] [(0,1),(1,1),(2,1),(3,1),(4,1),(5,1),(6,1),(7,1),(8,1),(9,1),(10,1),(11,1),(12,1)] [(4,.int .i64 a),(5,.int .i64 b)]=.ok (.agg (aO { Letter.zero with index:=a,at':=b } .nils)):=fun _ _=>rfl
 have b2:∀ y:Bool,dX [.int .i64 0,.int .i64 0,.int .i64 0,.int .i64 0,.int .i64 0,.int .i64 0,.int .i64 0,.int .i64 0,.int .i64 0,.int .i64 0,.bool false,.str [],.nils] [(0,1),(1,1),(2,1),(3,1),(4,1),(5,1),(6,1),(7,1),(8,1),(9,1),(10,1),(11,1),(12,1)] [(10,.bool y)]=.ok (.agg (aO { Letter.zero with yes:=y } .nils)):=fun _=>rfl
 have b4:∀ (y:Bool) (a:Int),dX [.int .i64 0,.int .i64 0,.int .i64 0,.int .i64 0,.int .i64 0,.int .i64 0,.int .i64 0,.int .i64 0,.int .i64 0,.int .i64 0,.bool false,.str [],.nils] [(0,1),(1,1),(2,1),(3,1),(4,1),(5,1),(6,1),(7,1),(8,1),(9,1),(10,1),(11,1),(12,1)] [(10,.bool y),(4,.int .i64 a)]=.ok (.agg (aO { Letter.zero with yes:=y,index:=a } .nils)):=fun _ _=>rfl
 have b5:∀ (a b c d e:Int) (s:List UInt8),dX [.int .i64 0,.int .i64 0,.int .i64 0,.int .i64 0,.int .i64 0,.int .i64 0,.int .i64 0,.int .i64 0,.int .i64 0,.int .i64 0,.bool false,.str [],.nils] [(0,1),(1,1),(2,1),(3,1),(4,1),(5,1),(6,1),(7,1),(8,1),(9,1),(10,1),(11,1),(12,1)] [(4,.int .i64 a),(5,.int .i64 b),(7,.int .i64 c),(8,.int .i64 d),(9,.int .i64 e),(11,.str s)]=.ok (.agg (aO { Letter.zero with index:=a,at':=b,members:=c,off:=d,size:=e,data:=s } .nils)):=fun _ _ _ _ _ _=>rfl
 have b6:∀ (a b:Int),dX [.int .i64 0,.int .i64 0,.int .i64 0,.int .i64 0,.int .i64 0,.int .i64 0,.int .i64 0,.int .i64 0,.int .i64 0,.int .i64 0,.bool false,.str [],.nils] [(0,1),(1,1),(2,1),(3,1),(4,1),(5,1),(6,1),(7,1),(8,1),(9,1),(10,1),(11,1),(12,1)] [(4,.int .i64 a),(8,.int .i64 b)]=.ok (.agg (aO { Letter.zero with index:=a,off:=b } .nils)):=fun _ _=>rfl
 have b3:dX [.int .i64 0,.int .i64 0,.int .i64 0,.int .i64 0,.int .i64 0,.int .i64 0,.int .i64 0,.int .i64 0,.int .i64 0,.int .i64 0,.bool false,.str [],.nils] [(0,1),(1,1),(2,1),(3,1),(4,1),(5,1),(6,1),(7,1),(8,1),(9,1),(10,1),(11,1),(12,1)] [(4,.int .i64 m.index),(5,.int .i64 m.at'),(12,u),(6,.int .i64 m.commit)]=.ok (.agg (aO { Letter.zero with index:=m.index,at':=m.at',entries:=m.entries,commit:=m.commit } u)):=by
  rcases hu.is with ⟨e,_⟩ | e | ⟨a,ver,off,el,e,_⟩<;>(rw [e];rfl)
 simp only [aPi,bH,ho,hln,aJ,hn1,aF,lT,cI,fE,oG,pX,iK,mZ,jY,kY,eV,aG,cR,ld4,uE,eC,uD,jV g1,nP g1,bI g1,gB g1,fL g1,dW g1,gL g1,fH g1,mR g1,hM g1,fI g1,aS,bR,jB,b1,b2,b3,b4,b5,b6]
 unfold gG
 refine Ok.pickP (fun c=>?_) (fun c1=>?_)
 ·rw [if_pos c];exact (aLw m _ u _ S1 w1 hu1 (Sl.nilv _ _)).call fun S2 x2=>Ok.ret ⟨rfl,x1.trans x2⟩
 rw [if_neg c1]
 refine Ok.pickP (fun c=>?_) (fun c2=>?_)
 ·rw [if_pos c];exact (aLw m _ u _ S1 w1 hu1 (Sl.nilv _ _)).call fun S2 x2=>Ok.ret ⟨rfl,x1.trans x2⟩
 rw [if_neg c2]
 refine Ok.pickP (fun c=>?_) (fun c3=>?_)
 ·rw [if_pos c];exact (aLw m { Letter.zero with index:=m.index,at':=m.at',entries:=m.entries,commit:=m.commit } u u S1 w1 hu1 hu1).call fun S2 x2=>Ok.ret ⟨rfl,x1.trans x2⟩
 rw [if_neg c3]
 refine Ok.pickP (fun c=>?_) (fun c4=>?_)
 ·rw [if_pos c];exact (aLw m _ u _ S1 w1 hu1 (Sl.nilv _ _)).call fun S2 x2=>Ok.ret ⟨rfl,x1.trans x2⟩
 rw [if_neg c4]
 refine Ok.pickP (fun c=>?_) (fun c5=>?_)
 ·rw [if_pos c];exact (aLw m _ u _ S1 w1 hu1 (Sl.nilv _ _)).call fun S2 x2=>Ok.ret ⟨rfl,x1.trans x2⟩
 rw [if_neg c5]
 refine Ok.pickP (fun c=>?_) (fun c6=>?_)
 ·rw [if_pos c];exact (aLw m _ u _ S1 w1 hu1 (Sl.nilv _ _)).call fun S2 x2=>Ok.ret ⟨rfl,x1.trans x2⟩
 rw [if_neg c6]
 exact Ok.ret ⟨rfl,x1⟩
end Go.Proofs.Ytbiidlmhadihlaa
end
section
namespace Go.Raft
open Go.AM
set_option linter.unusedVariables false
set_option linter.unusedSectionVars false
set_option linter.unusedSimpArgs false
set_option maxRecDepth 100000
variable [Guard]
theorem kF {α:Type} {l:List α} (h:l.length=7):∃ a b c d e f g,l=[a,b,c,d,e,f,g]:=by
 match l,h with
 | [a,b,c,d,e,f,g],_=>exact ⟨a,b,c,d,e,f,g,rfl⟩
theorem eB (c:Core) (lv wv ov:V) (h:c.peers.length=7):(bW c lv wv ov).length=37:=by
 obtain ⟨p0,p1,p2,p3,p4,p5,p6,e⟩:=kF h
 simp only [bW,e];rfl
theorem oO (c:Core) (lv wv ov:V) (h:c.peers.length=7) {f:Nat} (hf:f<7):
  (bW c lv wv ov)[14+f*3]?=some (.int .i64 (c.peers.getD f ⟨0,0,0⟩).next)∧(bW c lv wv ov)[14+f*3+1]?=some (.int .i64 (c.peers.getD f ⟨0,0,0⟩).mtch)∧(bW c lv wv ov)[14+f*3+2]?=some (.int .i64 (c.peers.getD f ⟨0,0,0⟩).off) ∧
  ((bW c lv wv ov).drop (14+f*3)).take 3=jT (c.peers.getD f ⟨0,0,0⟩):=by
 obtain ⟨p0,p1,p2,p3,p4,p5,p6,e⟩:=kF h
 simp only [bW,e]
 match f,hf with
 | 0,_=>exact ⟨rfl,rfl,rfl,rfl⟩
 | 1,_=>exact ⟨rfl,rfl,rfl,rfl⟩
 | 2,_=>exact ⟨rfl,rfl,rfl,rfl⟩
 | 3,_=>exact ⟨rfl,rfl,rfl,rfl⟩
 | 4,_=>exact ⟨rfl,rfl,rfl,rfl⟩
 | 5,_=>exact ⟨rfl,rfl,rfl,rfl⟩
 | 6,_=>exact ⟨rfl,rfl,rfl,rfl⟩
theorem qV (c:Core) (lv wv ov:V) (h:c.peers.length=7) {f:Nat} (hf:f<7) (q:Peer) (x:Int):
  splice (bW c lv wv ov) (14+f*3) (jT q)=bW { c with peers:=c.peers.set f q } lv wv ov ∧
  splice (bW c lv wv ov) (14+f*3) [.int .i64 x]=bW { c with peers:=c.peers.set f { c.peers.getD f ⟨0,0,0⟩ with next:=x } } lv wv ov ∧
  splice (bW c lv wv ov) (14+f*3+1) [.int .i64 x]=bW { c with peers:=c.peers.set f { c.peers.getD f ⟨0,0,0⟩ with mtch:=x } } lv wv ov ∧
  splice (bW c lv wv ov) (14+f*3+2) [.int .i64 x]=bW { c with peers:=c.peers.set f { c.peers.getD f ⟨0,0,0⟩ with off:=x } } lv wv ov:=by
 obtain ⟨p0,p1,p2,p3,p4,p5,p6,e⟩:=kF h
 simp only [bW,e]
 match f,hf with
 | 0,_=>exact ⟨rfl,rfl,rfl,rfl⟩
 | 1,_=>exact ⟨rfl,rfl,rfl,rfl⟩
 | 2,_=>exact ⟨rfl,rfl,rfl,rfl⟩
 | 3,_=>exact ⟨rfl,rfl,rfl,rfl⟩
 | 4,_=>exact ⟨rfl,rfl,rfl,rfl⟩
 | 5,_=>exact ⟨rfl,rfl,rfl,rfl⟩
 | 6,_=>exact ⟨rfl,rfl,rfl,rfl⟩
theorem qW (c:Core) (lv wv ov:V) (h:c.peers.length=7) (u:V):
  (bW c lv wv ov)[35]?=some wv∧(bW c lv wv ov)[36]?=some ov∧splice (bW c lv wv ov) 35 [u]=bW c lv u ov∧splice (bW c lv wv ov) 36 [u]=bW c lv wv u:=by
 obtain ⟨p0,p1,p2,p3,p4,p5,p6,e⟩:=kF h
 simp only [bW,e]
 exact ⟨rfl,rfl,rfl,rfl⟩
theorem aIv (c:Core) (lv wv ov:V):((bW c lv wv ov).drop 1).take 7=aV c.h lv:=by
 simp only [bW,aV];rfl
theorem xC (c:Core) (lv wv ov:V) (h:c.peers.length=7):((bW c lv wv ov).drop 14).take 21=(c.peers.map jT).flatten:=by
 obtain ⟨p0,p1,p2,p3,p4,p5,p6,e⟩:=kF h
 simp only [bW,e];rfl
theorem aAc (c:Core) (lv wv ov:V) (g:Hard) (u:V):splice (bW c lv wv ov) 1 (aV g u)=bW { c with h:=g } u wv ov:=by
 simp only [bW,aV];rfl
end Go.Raft
namespace Go.AM
def aiT (P:Program) (t:TypeId):Option (Nat×Nat):=match P.underlying t with
 | some (.array n e)=>(match (P.underlying e).isSome with
  | true=>some (n,sz P e)
  | false=>none)
 | _=>none
def aCs (n w:Nat) (x ix:V):R V:=match lK ix n with
 | none=>.error "index"
 | some k=>match x with
  | .ptr a ver i j=>.ok (.ptr a ver i (j+k*w))
  | .iptr cs j=>.ok (.iptr cs (j+k*w))
  | _=>.error "indexAddr"
theorem qD {P:Program} {t:TypeId} {n w:Nat} (h:aiT P t=some (n,w)) (x ix:V):aP P t x ix=aCs n w x ix:=by
 unfold aiT at h
 unfold aP aCs
 split at h
 ·rename_i n' e he
  split at h
  ·rename_i hs
   cases h
   rw [he]
   simp only [hs,Bool.not_true,cond_false]
   rfl
  ·cases h
 ·cases h
theorem eK {n w a ver i j:Nat} {k:Nat} (hk:k<n) (q:IntKind):aCs n w (.ptr a ver i j) (.int q (k:Int))=.ok (.ptr a ver i (j+k*w)):=by
 simp only [aCs,uB hk]
end Go.AM
end
section
namespace Go.Raft
open Go.AM
section
variable [Guard]
theorem aL (k:Option Nat) (p:V) (n:Nat) (S:St):aR k p (⟨n,S.heap⟩:St)=aR k p S:=rfl
section
variable {S:St} {a:Nat} {c:Core} {lv wv dv ov:V} {rows:List (List V)} (h:CoreAt S a c lv wv dv ov rows)
include h
theorem CoreAt.r_id:aR none (.ptr a 0 0 0) S=.ok (.int .i64 c.id):=h.ld 0 rfl
theorem CoreAt.r_term:aR none (.ptr a 0 0 1) S=.ok (.int .i64 c.h.term):=h.ld 1 rfl
theorem CoreAt.r_vote:aR none (.ptr a 0 0 2) S=.ok (.int .i64 c.h.vote):=h.ld 2 rfl
theorem CoreAt.r_base:aR none (.ptr a 0 0 3) S=.ok (.int .i64 c.h.base):=h.ld 3 rfl
theorem CoreAt.r_baseTerm:aR none (.ptr a 0 0 4) S=.ok (.int .i64 c.h.baseTerm):=h.ld 4 rfl
theorem CoreAt.r_mem:aR none (.ptr a 0 0 5) S=.ok (.int .i64 c.h.members):=h.ld 5 rfl
theorem CoreAt.r_snap:aR none (.ptr a 0 0 6) S=.ok (.str c.h.snap):=h.ld 6 rfl
theorem CoreAt.r_log:aR none (.ptr a 0 0 7) S=.ok lv:=h.ld 7 rfl
theorem CoreAt.r_role:aR none (.ptr a 0 0 8) S=.ok (.int .i64 c.role):=h.ld 8 rfl
theorem CoreAt.r_leads:aR none (.ptr a 0 0 9) S=.ok (.int .i64 c.leads):=h.ld 9 rfl
theorem CoreAt.r_sure:aR none (.ptr a 0 0 10) S=.ok (.int .i64 c.sure):=h.ld 10 rfl
theorem CoreAt.r_drawn:aR none (.ptr a 0 0 11) S=.ok (.int .i64 c.drawn):=h.ld 11 rfl
theorem CoreAt.r_left:aR none (.ptr a 0 0 12) S=.ok (.int .i64 c.left):=h.ld 12 rfl
theorem CoreAt.r_votes:aR none (.ptr a 0 0 13) S=.ok (.int .i64 c.votes):=h.ld 13 rfl
theorem CoreAt.r_way:aR none (.ptr a 0 0 35) S=.ok wv:=h.ld 35 (qW c lv wv ov h.peers .nils).1
theorem CoreAt.r_out:aR none (.ptr a 0 0 36) S=.ok ov:=h.ld 36 (qW c lv wv ov h.peers .nils).2.1
theorem CoreAt.r_hard:aR (some 7) (.ptr a 0 0 1) S=.ok (.agg (aV c.h lv)):=by
 have hl:=eB c lv wv ov h.peers
 rw [bB _ _ _ _ _ (bC h.cell),iY]
 rw [if_pos (by omega),aIv]
theorem CoreAt.r_peers:aR (some 21) (.ptr a 0 0 14) S=.ok (.agg (c.peers.map jT).flatten):=by
 have hl:=eB c lv wv ov h.peers
 rw [bB _ _ _ _ _ (bC h.cell),iY]
 rw [if_pos (by omega),xC c lv wv ov h.peers]
theorem CoreAt.r_next {f:Nat} (hf:f<7):aR none (.ptr a 0 0 (14+f*3)) S=.ok (.int .i64 (c.peers.getD f ⟨0,0,0⟩).next):=h.ld _ (oO c lv wv ov h.peers hf).1
theorem CoreAt.r_mtch {f:Nat} (hf:f<7):aR none (.ptr a 0 0 (14+f*3+1)) S=.ok (.int .i64 (c.peers.getD f ⟨0,0,0⟩).mtch):=h.ld _ (oO c lv wv ov h.peers hf).2.1
theorem CoreAt.r_off {f:Nat} (hf:f<7):aR none (.ptr a 0 0 (14+f*3+2)) S=.ok (.int .i64 (c.peers.getD f ⟨0,0,0⟩).off):=h.ld _ (oO c lv wv ov h.peers hf).2.2.1
theorem CoreAt.r_peer {f:Nat} (hf:f<7):aR (some 3) (.ptr a 0 0 (14+f*3)) S=.ok (.agg (jT (c.peers.getD f ⟨0,0,0⟩))):=by
 have hl:=eB c lv wv ov h.peers
 rw [bB _ _ _ _ _ (bC h.cell),iY]
 rw [if_pos (by omega),(oO c lv wv ov h.peers hf).2.2.2]
theorem CoreAt.set (w:WF S) (k:Nat) (x:Int) (c':Core) (hk:k<14) (hc:splice (bW c lv wv ov) k [.int .i64 x]=bW c' lv wv ov) (h1:c'.h.log=c.h.log) (h2:c'.way=c.way) (h3:c'.out=c.out) (h4:c'.peers.length=7):
  ∃ S',bV 1 (.ptr a 0 0 k) (.int .i64 x) S=.ok S'∧CoreAt S' a c' lv wv dv ov rows∧Mv (own a lv wv dv ov) S (own a lv wv dv ov) S'∧S'.next=S.next:=
 h.st w k _ c' rfl rfl (by rw [eB c lv wv ov h.peers];omega) hc h1 h2 h3 h4
theorem CoreAt.w_term (w:WF S) (x:Int):∃ S',bV 1 (.ptr a 0 0 1) (.int .i64 x) S=.ok S'∧CoreAt S' a { c with h:={ c.h with term:=x } } lv wv dv ov rows∧Mv (own a lv wv dv ov) S (own a lv wv dv ov) S'∧S'.next=S.next:=h.set w 1 x _ (by decide) rfl rfl rfl rfl h.peers
theorem CoreAt.w_vote (w:WF S) (x:Int):∃ S',bV 1 (.ptr a 0 0 2) (.int .i64 x) S=.ok S'∧CoreAt S' a { c with h:={ c.h with vote:=x } } lv wv dv ov rows∧Mv (own a lv wv dv ov) S (own a lv wv dv ov) S'∧S'.next=S.next:=h.set w 2 x _ (by decide) rfl rfl rfl rfl h.peers
theorem CoreAt.w_role (w:WF S) (x:Int):∃ S',bV 1 (.ptr a 0 0 8) (.int .i64 x) S=.ok S'∧CoreAt S' a { c with role:=x } lv wv dv ov rows∧Mv (own a lv wv dv ov) S (own a lv wv dv ov) S'∧S'.next=S.next:=h.set w 8 x _ (by decide) rfl rfl rfl rfl h.peers
theorem CoreAt.w_leads (w:WF S) (x:Int):∃ S',bV 1 (.ptr a 0 0 9) (.int .i64 x) S=.ok S'∧CoreAt S' a { c with leads:=x } lv wv dv ov rows∧Mv (own a lv wv dv ov) S (own a lv wv dv ov) S'∧S'.next=S.next:=h.set w 9 x _ (by decide) rfl rfl rfl rfl h.peers
theorem CoreAt.w_sure (w:WF S) (x:Int):∃ S',bV 1 (.ptr a 0 0 10) (.int .i64 x) S=.ok S'∧CoreAt S' a { c with sure:=x } lv wv dv ov rows∧Mv (own a lv wv dv ov) S (own a lv wv dv ov) S'∧S'.next=S.next:=h.set w 10 x _ (by decide) rfl rfl rfl rfl h.peers
theorem CoreAt.w_drawn (w:WF S) (x:Int):∃ S',bV 1 (.ptr a 0 0 11) (.int .i64 x) S=.ok S'∧CoreAt S' a { c with drawn:=x } lv wv dv ov rows∧Mv (own a lv wv dv ov) S (own a lv wv dv ov) S'∧S'.next=S.next:=h.set w 11 x _ (by decide) rfl rfl rfl rfl h.peers
theorem CoreAt.w_left (w:WF S) (x:Int):∃ S',bV 1 (.ptr a 0 0 12) (.int .i64 x) S=.ok S'∧CoreAt S' a { c with left:=x } lv wv dv ov rows∧Mv (own a lv wv dv ov) S (own a lv wv dv ov) S'∧S'.next=S.next:=h.set w 12 x _ (by decide) rfl rfl rfl rfl h.peers
theorem CoreAt.w_votes (w:WF S) (x:Int):∃ S',bV 1 (.ptr a 0 0 13) (.int .i64 x) S=.ok S'∧CoreAt S' a { c with votes:=x } lv wv dv ov rows∧Mv (own a lv wv dv ov) S (own a lv wv dv ov) S'∧S'.next=S.next:=h.set w 13 x _ (by decide) rfl rfl rfl rfl h.peers
theorem CoreAt.w_peer (w:WF S) {f:Nat} (hf:f<7) (p:Peer):∃ S',bV 3 (.ptr a 0 0 (14+f*3)) (.agg (jT p)) S=.ok S'∧CoreAt S' a { c with peers:=c.peers.set f p } lv wv dv ov rows∧Mv (own a lv wv dv ov) S (own a lv wv dv ov) S'∧S'.next=S.next:=by
 have hl:=eB c lv wv ov h.peers
 have e:=dD (x:=.agg (jT p)) (j:=14+f*3) (m:=3) h.cell rfl rfl (by omega)
 rw [bH,(qV c lv wv ov h.peers hf p 0).1] at e
 have hp:({ c with peers:=c.peers.set f p }:Core).peers.length=7:=by show (c.peers.set f p).length=7;rw [List.length_set];exact h.peers
 exact ⟨_,e,(h.put w { c with peers:=c.peers.set f p } rfl rfl rfl hp).1,(h.put w { c with peers:=c.peers.set f p } rfl rfl rfl hp).2,rfl⟩
theorem CoreAt.w_next (w:WF S) {f:Nat} (hf:f<7) (x:Int):∃ S',bV 1 (.ptr a 0 0 (14+f*3)) (.int .i64 x) S=.ok S'∧CoreAt S' a { c with peers:=c.peers.set f { c.peers.getD f ⟨0,0,0⟩ with next:=x } } lv wv dv ov rows∧Mv (own a lv wv dv ov) S (own a lv wv dv ov) S'∧S'.next=S.next:=
 h.st w _ _ _ rfl rfl (by rw [eB c lv wv ov h.peers];omega) (qV c lv wv ov h.peers hf ⟨0,0,0⟩ x).2.1 rfl rfl rfl (by show (c.peers.set f _).length=7;rw [List.length_set];exact h.peers)
theorem CoreAt.w_mtch (w:WF S) {f:Nat} (hf:f<7) (x:Int):∃ S',bV 1 (.ptr a 0 0 (14+f*3+1)) (.int .i64 x) S=.ok S'∧CoreAt S' a { c with peers:=c.peers.set f { c.peers.getD f ⟨0,0,0⟩ with mtch:=x } } lv wv dv ov rows∧Mv (own a lv wv dv ov) S (own a lv wv dv ov) S'∧S'.next=S.next:=
 h.st w _ _ _ rfl rfl (by rw [eB c lv wv ov h.peers];omega) (qV c lv wv ov h.peers hf ⟨0,0,0⟩ x).2.2.1 rfl rfl rfl (by show (c.peers.set f _).length=7;rw [List.length_set];exact h.peers)
theorem CoreAt.w_off (w:WF S) {f:Nat} (hf:f<7) (x:Int):∃ S',bV 1 (.ptr a 0 0 (14+f*3+2)) (.int .i64 x) S=.ok S'∧CoreAt S' a { c with peers:=c.peers.set f { c.peers.getD f ⟨0,0,0⟩ with off:=x } } lv wv dv ov rows∧Mv (own a lv wv dv ov) S (own a lv wv dv ov) S'∧S'.next=S.next:=
 h.st w _ _ _ rfl rfl (by rw [eB c lv wv ov h.peers];omega) (qV c lv wv ov h.peers hf ⟨0,0,0⟩ x).2.2.2 rfl rfl rfl (by show (c.peers.set f _).length=7;rw [List.length_set];exact h.peers)
end
end
section
variable [Guard]
def KeepW (n:Nat) (S S':St):Prop:=∀ y ver el,S.heap.get y=some (.row ver n el)→S'.heap.get y=some (.row ver n el)
theorem KeepW.trans {n:Nat} {A B C:St} (h:KeepW n A B) (k:KeepW n B C):KeepW n A C:=fun y ver el g=>k y ver el (h y ver el g)
theorem KeepW.ext {n:Nat} {A B:St} (x:Ext A B):KeepW n A B:=fun y ver el g=>x.old _ _ g
theorem KeepW.put {n m:Nat} {S:St} {a ver:Nat} {el:List (List V)} (g:S.heap.get a=some (.row ver m el)) (hne:n≠m) (b:Blk):KeepW n S ⟨S.next,S.heap.put a b⟩:=by
 intro y ver' el' h
 show (S.heap.put a b).get y=_
 rw [Tr.get_put_neB _ _ _ _ trivial (fun e=>by subst e;rw [g] at h;injection h with h;injection h with _ h;exact hne h.symm)];exact h
theorem Mn.keepW {S S':St} {n:Nat} {v:V} {es:List (List V)} (h:Mn S n v es) (hn:S.next≤S'.next) (k:KeepW n S S'):Mn S' n v es:=by
 refine ⟨?_,h.len⟩
 rcases h.is with h1 | ⟨a,ver,tl,h1,h2,h3,h4⟩
 ·exact .inl h1
 ·exact .inr ⟨a,ver,tl,h1,h2,Nat.lt_of_lt_of_le h3 hn,k _ _ _ h4⟩
theorem WayAt.keepW {S S':St} {way:Option Inst} {wv dv:V} (h:WayAt S way wv dv) (hn:S.next≤S'.next) (k4:KeepW 4 S S') (k1:KeepW 1 S S'):WayAt S' way wv dv:=by
 unfold WayAt at h ⊢
 split at h
 ·exact h
 ·obtain ⟨b,e,g,m⟩:=h
  exact ⟨b,e,k4 _ _ _ g,m.keepW hn k1⟩
theorem Mn.pushAt {S:St} {n b:Nat} {v u:V} {es:List (List V)} {cs:List V} (h:Mn S n v es) (w:WF S) (hu:bY S u=.ok [cs]) (hc:cs.length=n∧aU cs=true) {k:Nat} (hk2:k<S.next) (hk3:S.heap.get k=none)
  (h1:(es.length+1)*b≤35184372088832) (h2:es.length+1<fU):∃ v' S',gP n b v u (some k) S=.ok (v',S')∧WF S'∧S'.next=S.next∧Mn S' n v' (es++[cs])∧(bJ v'=some k∨bJ v'=bJ v)∧(∀ y,y≠k→bJ v≠some y→S'.heap.get y=S.heap.get y)∧∀ m,m≠n→KeepW m S S':=by
 obtain ⟨v',S',q1,q2,q3,q4,q5,q6⟩:=Own.pushAt (b:=b) h (aIt w) aCq hu (fun c hc'=>by rw [List.mem_singleton.1 hc'];exact hc) (by simp) (Nat.zero_le k) hk2 hk3 h1 h2
 refine ⟨v',S',q1,q2.wf aCq,q3,q4,q5,q6,fun m hm y ver el g=>?_⟩
 by_cases e:y=k
 ·subst e;rw [hk3] at g;cases g
 ·rw [q6 y e (fun e2=>h.neRow g (Ne.symm hm) e2)];exact g
theorem Mn.push {S:St} {n b:Nat} {v u:V} {es cs:List (List V)} (h:Mn S n v es) (w:WF S) (hu:bY S u=.ok cs) (hc:∀ c,c∈cs→c.length=n∧aU c=true) (hne:cs≠[])
  (h1:(es.length+cs.length)*b≤35184372088832) (h2:es.length+cs.length<fU):∃ v' S',gP n b v u none S=.ok (v',S')∧WF S'∧S.next≤S'.next∧Mn S' n v' (es++cs)∧(bJ v'=some S.next∨bJ v'=bJ v)∧(∀ y,y<S.next→bJ v≠some y→S'.heap.get y=S.heap.get y)∧∀ m,m≠n→KeepW m S S':=by
 obtain ⟨v',S',q1,q2,q3,q4,q5,q6⟩:=Own.pushG (b:=b) h (aIt w) aCq hu hc hne h1 h2
 refine ⟨v',S',q1,q2.wf aCq,q6,q3,q4,q5,fun m hm y ver el g=>?_⟩
 rw [q5 y (w _ _ g) (fun e2=>h.neRow g (Ne.symm hm) e2)];exact g
section
variable {S:St} {a:Nat} {c:Core} {lv wv dv ov:V} {rows:List (List V)} (h:CoreAt S a c lv wv dv ov rows)
include h
theorem CoreAt.w_out (w:WF S) {S1:St} (w1:WF S1) (hn:S.next≤S1.next) (hk:∀ y b,S.heap.get y=some b→bJ ov≠some y→S1.heap.get y=some b) {ov':V} {rows':List (List V)} (hout:Mn S1 13 ov' rows') (hone:ov'.cells=[ov']∧ov'.one=true) (hb:∀ y,bJ ov'=some y→bJ ov=some y∨S.next≤y)
  {out':List Letter} (hlets:All2 (LetAt S (bJ lv)) out' rows') (hgd:Gd S1 rows'):
  ∃ S2,bV 1 (.ptr a 0 0 36) ov' S1=.ok S2∧CoreAt S2 a { c with out:=out' } lv wv dv ov' rows'∧Mv (own a lv wv dv ov) S (own a lv wv dv ov') S2∧S2.next=S1.next:=by
 have hl:=eB c lv wv ov h.peers
 have ga:S1.heap.get a=some (.row 0 37 [bW c lv wv ov]):=hk _ _ h.cell (h.out.neRow h.cell (by decide))
 have e:=dD (x:=ov') (j:=36) (m:=1) ga (by rw [hone.1];rfl) (by rw [hone.1];simp [aU,hone.2]) (by omega)
 rw [hone.1,(qW c lv wv ov h.peers ov').2.2.2] at e
 have kk:∀ n,n≠13→n≠37→KeepW n S (⟨S1.next,S1.heap.put a (.row 0 37 [bW c lv wv ov'])⟩:St):=fun n h1 h2=>
  KeepW.trans (fun y ver el g=>hk _ _ g (h.out.neRow g (Ne.symm h1))) (KeepW.put ga h2 _)
 refine ⟨_,e,⟨Tr.get_put_sameB _ _ _ trivial,h.peers,h.log.keepW hn (kk 3 (by decide) (by decide)),h.way.keepW hn (kk 4 (by decide) (by decide)) (kk 1 (by decide) (by decide)),hout.keepW (Nat.le_refl _) (KeepW.put ga (by decide) _),All2.imp (fun m cs q=>q.keep (fun y ver el _ g=>kk 3 (by decide) (by decide) _ _ _ g) (fun y _ h=>h) w) hlets,hgd⟩,⟨⟨fun y b hy hb'=>?_,hn,fun _=>(But.put (w1 _ _ ga) _).wf w1⟩,fun y hy=>?_⟩,rfl⟩
 ·show (S1.heap.put a _).get y=some b
  rw [Tr.get_put_neB _ _ _ _ trivial (fun e=>hy (.inl e))]
  exact hk y b hb' (fun e=>hy (.inr (.inr (.inr (.inr e)))))
 ·rcases hy with hy | hy | hy | hy | hy
  ·exact .inl (.inl hy)
  ·exact .inl (.inr (.inl hy))
  ·exact .inl (.inr (.inr (.inl hy)))
  ·exact .inl (.inr (.inr (.inr (.inl hy))))
  ·rcases hb y hy with h1 | h1
   ·exact .inl (.inr (.inr (.inr (.inr h1))))
   ·exact .inr h1
theorem CoreAt.w_log (w:WF S) {S1:St} (w1:WF S1) (hn:S.next≤S1.next) (hk:∀ y b,S.heap.get y=some b→bJ lv≠some y→S1.heap.get y=some b) {lv':V} {l':List Entry} (hlog:Mn S1 3 lv' (l'.map bM)) (hone:lv'.cells=[lv']∧lv'.one=true) (hb:∀ y,bJ lv'=some y→bJ lv=some y∨S.next≤y):
  ∃ S2,bV 1 (.ptr a 0 0 7) lv' S1=.ok S2∧CoreAt S2 a { c with h:={ c.h with log:=l' } } lv' wv dv ov rows∧Mv (own a lv wv dv ov) S (own a lv' wv dv ov) S2∧S2.next=S1.next:=by
 have hl:=eB c lv wv ov h.peers
 have ga:S1.heap.get a=some (.row 0 37 [bW c lv wv ov]):=hk _ _ h.cell (h.log.neRow h.cell (by decide))
 have e:=dD (x:=lv') (j:=7) (m:=1) ga (by rw [hone.1];rfl) (by rw [hone.1];simp [aU,hone.2]) (by omega)
 have hsp:splice (bW c lv wv ov) 7 [lv']=bW { c with h:={ c.h with log:=l' } } lv' wv ov:=rfl
 rw [hone.1,hsp] at e
 have kk:∀ n,n≠3→n≠37→KeepW n S (⟨S1.next,S1.heap.put a (.row 0 37 [bW { c with h:={ c.h with log:=l' } } lv' wv ov])⟩:St):=fun n h1 h2=>
  KeepW.trans (fun y ver el g=>hk _ _ g (h.log.neRow g (Ne.symm h1))) (KeepW.put ga h2 _)
 have hlets:All2 (LetAt (⟨S1.next,S1.heap.put a (.row 0 37 [bW { c with h:={ c.h with log:=l' } } lv' wv ov])⟩:St) (bJ lv')) c.out rows:=by
  refine All2.imp (fun m cs q=>q.keep (fun y ver el hy g=>?_) (fun y hy h1 h2=>?_) w) h.lets
  ·exact (KeepW.put ga (by decide) _:KeepW 3 S1 _) _ _ _ (hk _ _ g hy)
  ·rcases hb y h2 with h3 | h3
   ·exact h1 h3
   ·omega
 refine ⟨_,e,⟨Tr.get_put_sameB _ _ _ trivial,h.peers,hlog.keepW (Nat.le_refl _) (KeepW.put ga (by decide) _),h.way.keepW hn (kk 4 (by decide) (by decide)) (kk 1 (by decide) (by decide)),h.out.keepW hn (kk 13 (by decide) (by decide)),hlets,h.gd.mono hn⟩,⟨⟨fun y b hy hb'=>?_,hn,fun _=>(But.put (w1 _ _ ga) _).wf w1⟩,fun y hy=>?_⟩,rfl⟩
 ·show (S1.heap.put a _).get y=some b
  rw [Tr.get_put_neB _ _ _ _ trivial (fun e=>hy (.inl e))]
  exact hk y b hb' (fun e=>hy (.inr (.inl e)))
 ·rcases hy with hy | hy | hy | hy | hy
  ·exact .inl (.inl hy)
  ·rcases hb y hy with h1 | h1
   ·exact .inl (.inr (.inl h1))
   ·exact .inr h1
  ·exact .inl (.inr (.inr (.inl hy)))
  ·exact .inl (.inr (.inr (.inr (.inl hy))))
  ·exact .inl (.inr (.inr (.inr (.inr hy))))
end
theorem Mn.cells {S:St} {n:Nat} {v:V} {es:List (List V)} (h:Mn S n v es):v.cells=[v]∧v.one=true:=⟨dT h.sl,h.sl.one⟩
theorem CoreIn.ext {S S':St} {a:Nat} {c:Core} {O:Nat→Prop} (h:CoreIn S a c O) (w:WF S) (x:Ext S S'):CoreIn S' a c O:=by
 obtain ⟨lv,wv,dv,ov,rows,h,rfl⟩:=h
 exact ⟨lv,wv,dv,ov,rows,h.ext w x,rfl⟩
theorem CoreIn.peers {S:St} {a:Nat} {c:Core} {O:Nat→Prop} (h:CoreIn S a c O):c.peers.length=7:=by
 obtain ⟨lv,wv,dv,ov,rows,h,rfl⟩:=h
 exact h.peers
end
end Go.Raft
end
section
namespace Go.AM
open Go.Raft
section
variable [Guard]
theorem aAd {P : Program} {t : TypeId} {n : Nat} (h : esT P t = some n) (lo hi : Option V) : eF P t .nils lo hi = (match gE 0 lo hi with
      | .ok _ => .ok .nils
      | .error e => .error e) := by
  unfold esT at h
  unfold eF
  split at h
  · rename_i e he
    rw [cond_eq_ite] at h
    split at h
    · rename_i hs
      cases h
      rw [he]
      simp only [hs, Bool.not_true, cond_false]
      rfl
    · cases h
  · cases h
theorem aH2 {P : Program} {t : TypeId} (h : rM P t = true) (s : List UInt8) (lo hi : Option V) : eF P t (.str s) lo hi = (match gE s.length lo hi with
      | .ok (l, h) => .ok (.str ((s.take h).drop l))
      | .error e => .error e) := by
  unfold rM at h
  unfold eF
  split at h
  · rename_i he
    rw [he]
    rfl
  · cases h
theorem lH {len:Nat} {l:Int} (k:IntKind) (h0:0≤l) (h1:l≤len):gE len (some (.int k l)) none=.ok (l.toNat,len):=by
 simp only [gE,h0,h1,decide_true,Bool.and_self,cond_true]
theorem lI {len:Nat} {l:Int} (k:IntKind) (h0:0≤l) (h1:l≤len):gE len none (some (.int k l))=.ok (0,l.toNat):=by
 simp only [gE,h0,h1,decide_true,Bool.and_self,cond_true]
theorem oP {P:Program} {t:TypeId} {n:Nat} (ht:esT P t=some n) {S:St} {v:V} {es:List (List V)} (h:Sl S n v es) {lo hi:Option V} {i j:Nat} (hb:gE es.length lo hi=.ok (i,j)) (hij:i≤j) (hj:j≤es.length):
  ∃ u,eF P t v lo hi=.ok u∧Sl S n u ((es.take j).drop i)∧∀ y,bJ u=some y→bJ v=some y:=by
 have hlen:∀ cs,cs∈(es.take j).drop i→cs.length=n∧aU cs=true:=fun cs hc=>h.len cs (List.mem_of_mem_take (List.mem_of_mem_drop hc))
 have hlen2:((es.take j).drop i).length=j - i:=by simp;omega
 rcases h.is with ⟨rfl,rfl⟩ | rfl | ⟨a,ver,off,elems,rfl,h2,h3,h4⟩
 ·refine ⟨.nils,by rw [aAd ht];simp only [List.length_nil] at hb;rw [hb],⟨.inl ⟨rfl,by simp⟩,hlen⟩,fun y hy=>by cases hy⟩
 ·refine ⟨.imm ((es.take j).drop i),by rw [aIl ht es (gO h.len).1,hb],⟨.inr (.inl rfl),hlen⟩,fun y hy=>by cases hy⟩
 ·refine ⟨.sl a ver n (off+i) (j - i),by rw [aCl ht,hb],⟨.inr (.inr ⟨a,ver,off+i,elems,by rw [hlen2],h2,by rw [hlen2];omega,?_⟩),hlen⟩,fun y hy=>hy⟩
  rw [hlen2,←h4,List.take_take,List.drop_take,List.drop_drop,Nat.min_eq_left hj]
theorem aUk {P:Program} {t:TypeId} {n:Nat} (ht:esT P t=some n) {S:St} {v:V} {es:List (List V)} (h:Mn S n v es) {k:IntKind} {l:Int} (h0:0≤l) (h1:l≤es.length):
  ∃ u,eF P t v none (some (.int k l))=.ok u∧Mn S n u (es.take l.toNat)∧bJ u=bJ v:=by
 have hb:=lI (len:=es.length) (l:=l) k h0 h1
 have hlen:∀ cs,cs∈es.take l.toNat→cs.length=n∧aU cs=true:=fun cs hc=>h.len cs (List.mem_of_mem_take hc)
 have hlen2:(es.take l.toNat).length=l.toNat:=by simp;omega
 rcases h.is with ⟨rfl,rfl⟩ | ⟨a,ver,tl,rfl,h2,h3,h4⟩
 ·refine ⟨.nils,by rw [aAd ht];simp only [List.length_nil] at hb;rw [hb],⟨.inl ⟨rfl,by simp⟩,hlen⟩,rfl⟩
 ·refine ⟨.sl a ver n 0 (l.toNat),by rw [aCl ht,hb];rfl,⟨.inr ⟨a,ver,es.drop l.toNat++tl,by rw [hlen2],h2,h3,?_⟩,hlen⟩,rfl⟩
  rw [h4,←List.append_assoc,List.take_append_drop]
theorem lZ (k:IntKind) (a b:Int):uP [.int k a,.int k b]=.ok (.int k (min a b)):=by
 simp only [uP,bU,cond_true]
 congr 2
 omega
theorem uG (k:IntKind) (a b:Int):aB5 [.int k a,.int k b]=.ok (.int k (max a b)):=by
 simp only [aB5,bU,cond_true]
 congr 2
 omega
end
end Go.AM
end
section
namespace Go.Proofs.Ytbiidlmhadihlaa
open Go.AM Go.Raft Try
section
variable [Guard]
abbrev Meth (f:FuncId) (args:List V) (a:Nat) (c':Core) (S:St) (O:Nat→Prop) (v:V):Prop:=Does prog aW aX f args S fun u S'=>u=v∧∃ O',CoreIn S' a c' O'∧Mv O S O' S'
theorem Meth.call {f:FuncId} {args:List V} {a:Nat} {c':Core} {S:St} {O:Nat→Prop} {v:V} (h:Meth f args a c' S O v) (w:WF S) {G:Nat→KS→V→St→An} {R:V→St→Prop} (k:∀ S' O',WF S'→CoreIn S' a c' O'→Mv O S O' S'→Ok (fun k K=>G k K v S') R):
  Ok (fun k K=>aE prog aW aX k f args S (fun v S=>G k K v S)) R:=Does.call h fun u S' ⟨e,O',h1,h2⟩=>by subst e;exact k S' O' (h2.wf w) h1 h2
theorem Meth.callL {X:Type} {out:Nat→KS→X→St→An} {Q:Turn X→Prop} {f:FuncId} {args:List V} {a:Nat} {c':Core} {S:St} {O:Nat→Prop} {v:V} (h:Meth f args a c' S O v) (w:WF S) {G:Nat→KS→Ag→V→St→An} (k:∀ S' O',WF S'→CoreIn S' a c' O'→Mv O S O' S'→OkL out (fun k K bD=>G k K bD v S') Q):
  OkL out (fun k K bD=>aE prog aW aX k f args S (fun v S=>G k K bD v S)) Q:=OkL.call h fun u S' ⟨e,O',h1,h2⟩=>by subst e;exact k S' O' (h2.wf w) h1 h2
section
variable {S:St} {a:Nat} {c:Core} {O:Nat→Prop}
theorem bAl (w:WF S) (h:CoreIn S a c O):Meth 106 [.ptr a 0 0 0] a c.rest S O (.tup []):=by
 obtain ⟨lv,wv,dv,ov,rows,h,rfl⟩:=h
 obtain ⟨S1,q1,h1,m1,n1⟩:=h.w_role w 1
 have w1:=m1.wf w
 obtain ⟨S2,q2,h2,m2,n2⟩:=h1.w_leads w1 (-1)
 have w2:=m2.wf w1
 obtain ⟨S3,q3,h3,m3,n3⟩:=h2.w_left w2 c.drawn
 refine bAb ?_
 simp only [aPq,aI,aA3,hJ,sU,oK,aG,aF,cR,mD,Nat.reduceAdd,h.r_drawn,q1,q2,q3]
 exact Ok.ret ⟨rfl,_,⟨lv,wv,dv,ov,rows,h3,rfl⟩,(m1.trans w m2).trans w m3⟩
theorem g89 (f:Int) (w:WF S) (h:CoreIn S a c O):Meth 89 [.ptr a 0 0 0,.int .i64 f] a (c.hear f) S O (.tup []):=by
 obtain ⟨lv,wv,dv,ov,rows,h,rfl⟩:=h
 obtain ⟨S1,q1,h1,m1,n1⟩:=h.w_role w 1
 have w1:=m1.wf w
 obtain ⟨S2,q2,h2,m2,n2⟩:=h1.w_leads w1 f
 have w2:=m2.wf w1
 obtain ⟨S3,q3,h3,m3,n3⟩:=h2.w_left w2 c.drawn
 refine e89 ?_
 simp only [m89,aI,aA3,hJ,sU,oK,aG,aF,cR,mD,Nat.reduceAdd,h.r_drawn,q1,q2,q3]
 exact Ok.ret ⟨rfl,_,⟨lv,wv,dv,ov,rows,h3,rfl⟩,(m1.trans w m2).trans w m3⟩
theorem cZ (ok:Hok c.h):0≤c.last∧c.last≤1099511627776:=by
 have:=ok.b0;have:=ok.li;unfold Core.last cF;omega
theorem aWe (h:CoreIn S a c O) (b0:0≤c.h.base) (b1:c.h.base≤1099511627776) (ll:c.h.log.length≤1000):mG 46 [.ptr a 0 0 0] S (.int .i64 c.last):=by
 obtain ⟨lv,wv,dv,ov,rows,h,rfl⟩:=h
 have hw:wr .i64 (c.h.base+c.h.log.length)=c.last:=cS (by omega) (by omega)
 refine e46 ?_
 simp only [m46,aI,dV,dM,cO,aG,aF,cR,eC,Nat.reduceAdd,aL,h.r_base,h.r_log,eA,h.log.sl.lenI,bK,hw]
 exact Ok.ret ⟨rfl,(Ext.refl S).bump 13⟩
theorem g46 (h:CoreIn S a c O) (ok:Hok c.h):mG 46 [.ptr a 0 0 0] S (.int .i64 c.last):=aWe h ok.b0 ok.b1 (Nat.le_trans ok.ll (by decide))
theorem aWf (h:CoreIn S a c O) (hb:0≤c.h.base) (b1:c.h.base≤1099511627776) (ll:c.h.log.length≤1000) {n:Int} (h1:c.h.base≤n) (h2:n≤c.last):mG 62 [.ptr a 0 0 0,.int .i64 n] S (.int .i64 (c.term n)):=by
 obtain ⟨lv,wv,dv,ov,rows,h,rfl⟩:=h
 have hl2:c.last=c.h.base+c.h.log.length:=rfl
 refine e62 ?_
 simp only [m62,aI,dV,dM,mX,cO,jQ,aG,aF,cR,eC,Nat.reduceAdd,aL,h.r_base,h.r_log,h.r_baseTerm,aS,aJ,bR]
 refine Ok.pickP (fun e=>Ok.ret ⟨by unfold Core.term termH;rw [if_pos e],Ext.refl S⟩) (fun e=>?_)
 obtain ⟨x,hx⟩:=mQ (h:=c.h) (n:=n) (by omega) h2
 obtain ⟨j,hj⟩:∃ j:Nat,n - c.h.base - 1=(j:Int):=⟨(n - c.h.base - 1).toNat,by omega⟩
 have hjx:c.h.log[j]?=some x:=by rw [hj] at hx;exact hx
 have hw1:wr .i64 (n - c.h.base)=n - c.h.base:=cS (by omega) (by omega)
 have hw2:wr .i64 (n - c.h.base - 1)=(j:Int):=by rw [cS (by omega) (by omega)];exact hj
 obtain ⟨p,hp,hat,_,_⟩:=h.log.sl.elem hjx
 have hat0:aR none (xA 0 p) S=.ok (.int .i64 x.term):=by rw [hat.load];rfl
 simp only [cE,hw1,hw2,aF,oL,hp,jQ,hat.advW,hat0]
 have ht:c.term n=x.term:=by unfold Core.term;exact iB (by omega) hx
 exact Ok.ret ⟨by rw [ht],(Ext.refl S).bump 17⟩
theorem g62 (h:CoreIn S a c O) (ok:Hok c.h) {n:Int} (h1:c.h.base≤n) (h2:n≤c.last):mG 62 [.ptr a 0 0 0,.int .i64 n] S (.int .i64 (c.term n)):=aWf h ok.b0 ok.b1 (Nat.le_trans ok.ll (by decide)) h1 h2
theorem g47 (w:WF S) (h:CoreIn S a c O) (ok:Hok c.h):mG 47 [.ptr a 0 0 0] S (.int .i64 c.members):=by
 obtain ⟨lv,wv,dv,ov,rows,h,rfl⟩:=h
 have hl:=ok.ll
 refine e47 ?_
 simp only [m47,aI,dV,aG,aF,mE,Nat.reduceAdd,h.r_hard]
 refine (g49 c.h lv S w h.log.sl (by omega) ok.b0 ok.b1).call fun S1 x1=>?_
 exact Ok.ret ⟨rfl,x1⟩
end
end
section
section
variable {S:St} {a:Nat} {c:Core} {O:Nat→Prop}
def Apart (S:St) (O:Nat→Prop) (m:Letter) (ev:V):Prop:=Sl S 3 ev (m.entries.map bM)∧∀ y,bJ ev=some y→¬ O y
variable [Guard]
def vW (S:St) (O:Nat→Prop) (m:Letter) (ev:V):Prop:=Apart S O m ev∧∀ y,bJ ev=some y→Guard.n≤y
theorem Apart.nil (S:St) (O:Nat→Prop) {m:Letter} (h:m.entries=[]):vW S O m .nils:=⟨⟨by rw [h];exact Sl.nilv S 3,fun y hy=>by cases hy⟩,fun y hy=>by cases hy⟩
theorem Gd.app {S S':St} {rows:List (List V)} (h:Gd S rows) (hn:S.next≤S'.next) (m:Letter) {ev:V} (he:∀ y,bJ ev=some y→Guard.n≤y):Gd S' (rows++[aO m ev]):=
 ⟨Nat.le_trans h.1 hn,fun r hr ev' h1 y hy=>by
  rcases List.mem_append.1 hr with hr | hr
  ·exact h.2 r hr ev' h1 y hy
  ·rw [List.mem_singleton.1 hr] at h1
   have h2:ev=ev':=by injection h1
   subst h2;exact he y hy⟩
theorem Apart.mv {S S':St} {O O':Nat→Prop} {m:Letter} {ev:V} (h:Apart S O m ev) (w:WF S) (k:Mv O S O' S'):Apart S' O' m ev:=by
 refine ⟨k.sl h.1 h.2,fun y hy hO=>?_⟩
 rcases k.own y hO with h1 | h1
 ·exact h.2 y hy h1
 ·have:=aKd w h.1 y hy;omega
theorem Apart.ext {S S':St} {O:Nat→Prop} {m:Letter} {ev:V} (h:Apart S O m ev) (x:Ext S S'):Apart S' O m ev:=⟨h.1.ext x,h.2⟩
theorem sZ {lv wv dv ov:V} {rows:List (List V)} (w:WF S) (h:CoreAt S a c lv wv dv ov rows) {y:Nat} (hy:own a lv wv dv ov y):y<S.next:=by
 rcases hy with rfl | hy | hy | hy | hy
 ·exact h.lt w
 ·exact (h.log.blk hy).1
 ·have hw:=h.way
  unfold WayAt at hw
  split at hw
  ·rw [hw.1] at hy;cases hy
  ·obtain ⟨b,e,g,m⟩:=hw
   rw [e] at hy;cases hy;exact w _ _ g
 ·have hw:=h.way
  unfold WayAt at hw
  split at hw
  ·rw [hw.2] at hy;cases hy
  ·obtain ⟨b,e,g,m⟩:=hw
   exact (m.blk hy).1
 ·exact (h.out.blk hy).1
theorem g86 (m:Letter) (ev:V) (w:WF S) (h:CoreIn S a c O) (hmp:vW S O m ev) (hl:c.out.length≤1000000):Meth 86 [.ptr a 0 0 0,.agg (aO m ev)] a (c.post m) S O (.tup []):=by
 obtain ⟨lv,wv,dv,ov,rows,h,rfl⟩:=h
 obtain ⟨hm,hg⟩:=hmp
 have ho:=cB m hm.1.one
 have hln:(aO m ev).length=13:=rfl
 obtain ⟨S1,hn1,x1,hg1,hnx1⟩:=nb w 13 (aO m ev)
 have w1:=x1.wf w
 have xb:Ext S (⟨S1.next+13,S1.heap⟩:St):=x1.bump 13
 have e1:=dD (S:=(⟨S1.next+13,S1.heap⟩:St)) (x:=.int .i64 c.id) (j:=1) (m:=1) hg1 rfl rfl (by rw [hln];omega)
 have c1:splice (aO m ev) 1 (V.int .i64 c.id).cells=aO { m with from':=c.id } ev:=rfl
 rw [c1] at e1
 have x2:Ext S (⟨S1.next+13,S1.heap.put S.next (.row 0 13 [aO { m with from':=c.id } ev])⟩:St):=xb.set (Nat.le_refl _) (by show S.next<S1.next+13;omega) w _
 have hg2:(⟨S1.next+13,S1.heap.put S.next (.row 0 13 [aO { m with from':=c.id } ev])⟩:St).heap.get S.next=some (.row 0 13 [aO { m with from':=c.id } ev]):=Tr.get_put_sameB _ _ _ trivial
 generalize (⟨S1.next+13,S1.heap.put S.next (.row 0 13 [aO { m with from':=c.id } ev])⟩:St)=S2 at e1 x2 hg2
 have e2:=dD (S:=S2) (x:=.int .i64 c.h.term) (j:=3) (m:=1) hg2 rfl rfl (by show 3+1≤13;omega)
 have c2:splice (aO { m with from':=c.id } ev) 3 (V.int .i64 c.h.term).cells=aO { m with from':=c.id,term:=c.h.term } ev:=rfl
 rw [c2] at e2
 have hlt2:S.next<S2.next:=by have:=x2.wf w _ _ hg2;exact this
 have x3:Ext S (⟨S2.next,S2.heap.put S.next (.row 0 13 [aO { m with from':=c.id,term:=c.h.term } ev])⟩:St):=x2.set (Nat.le_refl _) hlt2 w _
 have hg3:(⟨S2.next,S2.heap.put S.next (.row 0 13 [aO { m with from':=c.id,term:=c.h.term } ev])⟩:St).heap.get S.next=some (.row 0 13 [aO { m with from':=c.id,term:=c.h.term } ev]):=Tr.get_put_sameB _ _ _ trivial
 generalize (⟨S2.next,S2.heap.put S.next (.row 0 13 [aO { m with from':=c.id,term:=c.h.term } ev])⟩:St)=S3 at e2 x3 hg3
 have w3:=x3.wf w
 have h1:=h.ext w x1
 have h2:=h.ext w x2
 have h3:=h.ext w x3
 have ho':aU (aO { m with from':=c.id,term:=c.h.term } ev)=true:=ho
 have hfree:(⟨S3.next+11,S3.heap⟩:St).heap.get (S3.next+7)=none:=jE w3 11 (S3.next+7) (by omega)
 have e3:=gZ (⟨S3.next+11,S3.heap⟩:St) (S3.next+6) 13 (aO { m with from':=c.id,term:=c.h.term } ev) rfl ho' (by omega)
 have x4:Ext S3 (⟨S3.next+11,S3.heap.put (S3.next+6) (.row 0 13 [aO { m with from':=c.id,term:=c.h.term } ev])⟩:St):=
  ((Ext.refl S3).bump 11).set (by omega) (by show S3.next+6<S3.next+11;omega) w3 _
 have hel:bY (⟨S3.next+11,S3.heap.put (S3.next+6) (.row 0 13 [aO { m with from':=c.id,term:=c.h.term } ev])⟩:St) (.sl (S3.next+6) 0 13 0 1)=.ok [aO { m with from':=c.id,term:=c.h.term } ev]:=by
  simp only [bY,eR]
  rfl
 have hf7:(⟨S3.next+11,S3.heap.put (S3.next+6) (.row 0 13 [aO { m with from':=c.id,term:=c.h.term } ev])⟩:St).heap.get (S3.next+7)=none:=by
  show (S3.heap.put _ _).get _=none
  rw [Tr.get_put_neB _ _ _ _ trivial (by omega)];exact hfree
 have hn4:S3.next+7<(⟨S3.next+11,S3.heap.put (S3.next+6) (.row 0 13 [aO { m with from':=c.id,term:=c.h.term } ev])⟩:St).next:=by show S3.next+7<S3.next+11;omega
 simp only at e3
 generalize (⟨S3.next+11,S3.heap.put (S3.next+6) (.row 0 13 [aO { m with from':=c.id,term:=c.h.term } ev])⟩:St)=S4 at e3 x4 hel hf7 hn4
 have x04:=x3.trans x4
 have w4:=x04.wf w
 have h4:=h.ext w x04
 have hrl:rows.length=c.out.length:=h.lets.len.symm
 obtain ⟨ov',S5,e5,w5,n5,o5,b5,k5,_⟩:=Mn.pushAt (b:=128) h4.out w4 hel ⟨rfl,ho'⟩ hn4 hf7 (by omega) (by unfold fU;omega)
 have hk5:∀ y b,S.heap.get y=some b→bJ ov≠some y→S5.heap.get y=some b:=fun y b hy hb=>by
  have hlt:=w y b hy
  rw [k5 y (by have:=x3.next;omega) hb];exact x04.old _ _ hy
 obtain ⟨S6,e6,h6,m6,n6⟩:=h.w_out w w5 (by rw [n5];exact x04.next) hk5 o5 o5.cells (fun y hy=>by
  rcases b5 with b5 | b5
  ·rw [b5] at hy;cases hy;exact .inr (by have:=x3.next;omega)
  ·rw [b5] at hy;exact .inl hy) (All2.app (a:={ m with from':=c.id,term:=c.h.term }) ⟨ev,rfl,hm.1,fun y hy he=>hm.2 y hy (.inr (.inl he))⟩ h.lets) (Gd.app h.gd (by rw [n5];exact x04.next) _ hg)
 refine e86 ?_
 simp only [m86,bH,ho,hln,aJ,hn1,aF,aI,oJ,dV,aKa,eO,cW,kO,aG,cR,aPx,uD,mD,aPy,Nat.reduceAdd,aL,h1.r_id,h1.r_term,h2.r_term,h3.r_out,e1,e2,bO,nP hg3,aW0,e3,aR7,e5,e6]
 exact Ok.ret ⟨rfl,_,⟨lv,wv,dv,ov',_,h6,rfl⟩,m6⟩
end
end
section
variable [Guard]
theorem aAe {α:Type} (p:α→Bool):∀ (all acc:List α),fF (fun (l:List α) (f:α)=>(.inr (if p f=true then l++[f] else l):List α⊕List α)) id all acc=acc++all.filter p
 | [],acc=>by simp [fF]
 | f::all,acc=>by
  simp only [fF,aAe p all,List.filter_cons]
  cases p f<;>simp
theorem eN {c:Core} (ok:Hok c.h):1≤c.members∧c.members≤127:=by
 have h:=(fA _ _ _).1 ok.fl
 exact qC c.h.log c.h.base (c.h.members,c.h.base) (fun x hx=>⟨(h.1 x hx).m0,(h.1 x hx).m1⟩) ⟨ok.m0,ok.m1⟩
theorem aCt {m f:Int} (h:f∈lV m):0≤f∧f<7:=by
 have:=(List.mem_filter.1 h).1
 simp only [ids,List.mem_cons,List.not_mem_nil,or_false] at this
 omega
theorem aIw {c:Core} {f:Int} (h:f∈c.others):0≤f∧f<7∧f≠c.id:=by
 obtain ⟨h1,h2⟩:=List.mem_filter.1 h
 exact ⟨(aCt h1).1,(aCt h1).2,by simpa using h2⟩
theorem vX (m:Int):(lV m).length≤7:=List.length_filter_le _ _
theorem aNw {S S2:St} {u:V} {l:List Int} (w:WF S) (x02:Ext S S2) (own1:Own S S2 1 u (l.map oN)) (hl:l.length≤1000) (f:Int):
  ∃ u' S4,gP 1 8 u (.sl S2.next 0 1 0 1) none (⟨S2.next+1,S2.heap.put S2.next (.row 0 1 [oN f])⟩:St)=.ok (u',S4)∧Ext S S4∧Own S S4 1 u' ((l++[f]).map oN):=by
 have hnew:=Ext.new (x02.wf w) (.row 0 1 [oN f])
 have hel:bY (⟨S2.next+1,S2.heap.put S2.next (.row 0 1 [oN f])⟩:St) (.sl S2.next 0 1 0 1)=.ok [oN f]:=by
  simp only [bY,eR]
  rfl
 obtain ⟨u',S4,r1,r2,_,r4⟩:=(own1.ext hnew).push (b:=8) (x02.trans hnew) w hel (fun c hc=>by rw [List.mem_singleton.1 hc];exact ⟨rfl,rfl⟩) (by simp) (by rw [uF];simp only [List.length_cons,List.length_nil];omega) (by rw [uF];simp only [List.length_cons,List.length_nil];unfold fU;omega)
 exact ⟨u',S4,r1,r2,by rw [List.map_append];exact r4⟩
section
variable {S:St} {a:Nat} {c:Core} {O:Nat→Prop}
theorem g82 (w:WF S) (h:CoreIn S a c O) (ok:Hok c.h):Does prog aW aX 82 [.ptr a 0 0 0] S (fun u S'=>Ext S S'∧Own S S' 1 u (c.others.map oN)):=by
 refine e82 ?_
 simp only [m82]
 refine (g47 w h ok).call fun S1 x1=>?_
 have w1:=x1.wf w
 refine Does.call (aWc c.members S1 w1 (by have:=eN ok;omega)) fun u S2 ⟨x2,own2⟩=>?_
 have x02:=x1.trans x2
 simp only [aKb,own2.sl.lenI,aF]
 have hrun:fF (fun (l:List Int) (f:Int)=>(.inr (if (!decide (f=c.id))=true then l++[f] else l):List Int⊕List Int)) id (lV c.members) []=c.others:=by
  rw [aAe (fun f=>!decide (f=c.id))];rfl
 rw [←hrun]
 refine Ok.loopL (F:=fun k K=>aEn (aE prog aW aX k) k K (.ptr a 0 0 0) u (.int .i64 (lV c.members).length)) (ρ:=List Int) (α:=Int) (X:=V) (lV c.members) (fin:=id) (s:=[])
  (out:=fun k K x S'=>K x S')
  (fun i l vs S'=>∃ v,vs=[v,.int .i64 (i:Int)]∧Ext S2 S'∧Own S2 S' 1 v (l.map oN)∧l.length≤i)
  (fun l v S'=>Ext S S'∧Own S S' 1 v (l.map oN)) ?_ ?_ ⟨.nils,rfl,Ext.refl _,Own.nil _ _ _,Nat.le_refl _⟩ (fun x S1 h=>Ok.ret h)
 ·rintro i f l vs S3 ⟨v,rfl,x3,own3,hl⟩ hi
  have hil:=(List.getElem?_eq_some_iff.1 hi).1
  have hlm:=vX c.members
  have hlt:(i:Int)<((lV c.members).length:Int):=by omega
  have hw:wr .i64 ((i:Int)+1)=((i+1:Nat):Int):=by rw [cS (by omega) (by omega)];omega
  have x03:=x02.trans x3
  obtain ⟨lv,wv,dv,ov,rows,h3,_⟩:=h.ext w x03
  obtain ⟨p,hp,hat,_,_⟩:=(own2.sl.ext x3).elem hi
  have hat0:aR none p S3=.ok (.int .i64 f):=by rw [hat.load0];rfl
  simp only [aEn,aY,aZ,aF,hlt,decide_true,bA,aUe,hp,cR,hat0,aI,oJ,aG,Nat.reduceAdd,h3.r_id,aS,aJ,cJ]
  refine OkL.pick (fun e=>?_) (fun e=>?_)
  ·obtain ⟨u',S4,r1,r2,r4⟩:=aNw (x02.wf w) x3 own3 (by omega) f
   simp only [aW1,aKf,aR8,r1,aF,bK,hw]
   refine OkL.next ⟨l++[f],by simp only [e,if_true],u',rfl,r2,r4,by simp;omega⟩
  ·simp only [bK,hw,aF]
   exact OkL.next ⟨l,by simp only [e];rfl,v,rfl,x3,own3,by omega⟩
 ·rintro l vs S3 ⟨v,rfl,x3,own3,hl⟩
  refine ⟨v,⟨x02.trans x3,own3.weaken x02.next⟩,fun k K bD=>?_⟩
  have hlt:¬ (((lV c.members).length:Nat):Int)<(lV c.members).length:=by omega
  simp only [aEn,aY,aZ,aF,hlt,decide_false,aK]
end
end
section
variable [Guard]
theorem aAf (x i:V):aP prog 85 x i=aCs 7 3 x i:=qD (by kernel_rfl) x i
theorem aBl:esT prog 22=some 3:=by kernel_rfl
theorem aUl:rM prog 9=true:=by kernel_rfl
theorem aWg (s : List UInt8) (lo hi : Option V) : eF prog 9 (.str s) lo hi = (match gE s.length lo hi with
      | .ok (l, h) => .ok (.str ((s.take h).drop l))
      | .error e => .error e) := aH2 aUl s lo hi
theorem kG (s:List UInt8) (S:St):bZ prog 9 (.str s) S=.ok (.int .i64 s.length):=qS aUl s S
theorem aKh (f b bt mb off sz:Int) (d:List UInt8):dX [.int .i64 0,.int .i64 0,.int .i64 0,.int .i64 0,.int .i64 0,.int .i64 0,.int .i64 0,.int .i64 0,.int .i64 0,.int .i64 0,.bool false,.str [],.nils] [(0,1),(1,1),(2,1),(3,1),(4,1),(5,1),(6,1),(7,1),(8,1),(9,1),(10,1),(11,1),(12,1)] [(0,.int .i64 5),(2,.int .i64 f),(4,.int .i64 b),(5,.int .i64 bt),(7,.int .i64 mb),(8,.int .i64 off),(9,.int .i64 sz),(11,.str d)]=
  .ok (.agg (aO { Letter.zero with kind:=5,to:=f,index:=b,at':=bt,members:=mb,off:=off,size:=sz,data:=d } .nils)):=rfl
theorem aNx {S:St} {u:V} {l:List Entry} (hu:Mn S 3 u (l.map bM)) (f i t com:Int):dX [.int .i64 0,.int .i64 0,.int .i64 0,.int .i64 0,.int .i64 0,.int .i64 0,.int .i64 0,.int .i64 0,.int .i64 0,.int .i64 0,.bool false,.str [],.nils] [(0,1),(1,1),(2,1),(3,1),(4,1),(5,1),(6,1),(7,1),(8,1),(9,1),(10,1),(11,1),(12,1)] [(0,.int .i64 3),(2,.int .i64 f),(4,.int .i64 i),(5,.int .i64 t),(12,u),(6,.int .i64 com)]=
  .ok (.agg (aO { Letter.zero with kind:=3,to:=f,index:=i,at':=t,entries:=l,commit:=com } u)):=by
 rcases hu.is with ⟨rfl,_⟩ | ⟨a,ver,tl,rfl,_⟩<;>rfl
section
variable {S:St} {a:Nat} {c:Core} {O:Nat→Prop}
theorem g83 {f:Int} (w:WF S) (h:CoreIn S a c O) (ok:Hok c.h) (hl:c.out.length≤1000000) (f0:0≤f) (f1:f<7) (hp:Pok c (c.peer f)):Meth 83 [.ptr a 0 0 0,.int .i64 f] a (c.send f) S O (.tup []):=by
 obtain ⟨n,rfl⟩:∃ n:Nat,f=(n:Int):=⟨f.toNat,by omega⟩
 have hn:n<7:=by omega
 have hpe:c.peers.getD n ⟨0,0,0⟩=c.peer (n:Int):=rfl
 obtain ⟨lv,wv,dv,ov,rows,h,rfl⟩:=h
 have hr:=cZ ok
 have hb:=ok.b0
 obtain ⟨S1,S2,q1,q2,x2,hg2,hn2⟩:=vb w 3 [.int .i64 0,.int .i64 0,.int .i64 0] (.agg (jT (c.peer (n:Int)))) rfl rfl rfl
 rw [bH] at hg2
 have w2:=x2.wf w
 have h2:=h.ext w x2
 have v0:∀ {T:St},T.heap.get S.next=some (.row 0 3 [jT (c.peer (n:Int))])→aR none (.ptr S.next 0 0 0) T=.ok (.int .i64 (c.peer (n:Int)).next):=fun hg=>by rw [bB _ _ _ _ _ (bC hg)];rfl
 have v2:aR none (.ptr S.next 0 0 2) S2=.ok (.int .i64 (c.peer (n:Int)).off):=by rw [bB _ _ _ _ _ (bC hg2)];rfl
 have hp2:=h.r_peer hn
 rw [hpe] at hp2
 refine e83 ?_
 simp only [m83,aI,pY,dV,jC,dM,kN,mX,mY,cO,aF0,aIo,aG,aF,Nat.reduceAdd,Nat.add_zero,aAf,eK hn,aZy,hp2,q1,aLs,q2,aL,cR,uE,eC,v0 hg2,h2.r_base,dH]
 refine Ok.pickP (fun e=>?_) (fun e=>?_)
 ·
  have ho:(c.peer (n:Int)).off≤c.h.snap.length:=by rcases hp.o1 with h1 | h1<;>omega
  have hb1:=lH (len:=c.h.snap.length) .i64 hp.o0 ho
  have hb2:=lI (len:=(c.h.snap.drop (c.peer (n:Int)).off.toNat).length) (l:=min ((c.h.snap.drop (c.peer (n:Int)).off.toNat).length:Int) 600) .i64 (by omega) (by omega)
  have ht:((c.h.snap.drop (c.peer (n:Int)).off.toNat).take (min ((c.h.snap.drop (c.peer (n:Int)).off.toNat).length:Int) 600).toNat)=(c.h.snap.drop (c.peer (n:Int)).off.toNat).take 600:=by
   by_cases hq:(c.h.snap.drop (c.peer (n:Int)).off.toNat).length≤600
   ·rw [List.take_of_length_le hq,List.take_of_length_le (by omega)]
   ·congr 1;omega
  simp only [h2.r_snap,aF,v2,aWg,hb1,List.take_length,h2.r_baseTerm,h2.r_mem,h2.r_base,kG,lZ,hb2,List.drop_zero,ht,jB,aKh]
  have xb:Ext S2 (⟨S2.next+49,S2.heap⟩:St):=(Ext.refl S2).bump 49
  have hs:c.send (n:Int)=c.post { Letter.zero with kind:=5,to:=(n:Int),index:=c.h.base,at':=c.h.baseTerm,members:=c.h.members,off:=(c.peer (n:Int)).off,size:=c.h.snap.length,data:=(c.h.snap.drop (c.peer (n:Int)).off.toNat).take 600 }:=by
   unfold Core.send;simp only;rw [if_pos e]
  rw [hs]
  refine Meth.call (g86 (O:=own a lv wv dv ov) _ .nils (xb.wf w2) ⟨lv,wv,dv,ov,rows,h2.ext w2 xb,rfl⟩ (Apart.nil _ _ rfl) hl) (xb.wf w2) fun S3 O3 w3 h3 m3=>?_
  exact Ok.ret ⟨rfl,O3,h3,(Mv.of (x2.trans xb)).trans w m3⟩
 ·
  have hnx:=hp.n1
  have hi0:(0:Int)≤(c.peer (n:Int)).next - c.h.base - 1:=by omega
  have hlast:c.last=c.h.base+c.h.log.length:=rfl
  have hle:(c.peer (n:Int)).next - c.h.base - 1≤((c.h.log.map bM).length:Int):=by rw [List.length_map];omega
  have hw1:wr .i64 ((c.peer (n:Int)).next - c.h.base)=(c.peer (n:Int)).next - c.h.base:=cS (by omega) (by omega)
  have hw2:wr .i64 ((c.peer (n:Int)).next - c.h.base - 1)=(c.peer (n:Int)).next - c.h.base - 1:=cS (by omega) (by omega)
  have hw3:wr .i64 ((c.peer (n:Int)).next - 1)=(c.peer (n:Int)).next - 1:=cS (by omega) (by omega)
  obtain ⟨u1,r1,l1,b1⟩:=oP aBl h2.log.sl (lH .i64 hi0 hle) (by omega) (Nat.le_refl _)
  rw [List.take_length] at l1
  generalize hk:((c.peer (n:Int)).next - c.h.base - 1).toNat=k at l1
  have l1':Sl S2 3 u1 ((c.h.log.drop k).map bM):=by rw [List.map_drop];exact l1
  have hmin:(0:Int)≤min ((c.h.log.drop k).length:Int) 8:=by omega
  obtain ⟨u2,r2,l2,b2⟩:=oP aBl l1' (lI (l:=min ((c.h.log.drop k).length:Int) 8) .i64 hmin (by rw [List.length_map];omega)) (by omega) (by rw [List.length_map];omega)
  have hes:(((c.h.log.drop k).map bM).take (min ((c.h.log.drop k).length:Int) 8).toNat).drop 0=((c.h.log.drop k).take 8).map bM:=by
   rw [List.drop_zero,←List.map_take]
   congr 1
   by_cases hq:(c.h.log.drop k).length≤8
   ·rw [List.take_of_length_le hq,List.take_of_length_le (by omega)]
   ·congr 1;omega
  rw [hes] at l2
  have hlen8:((c.h.log.drop k).take 8).length≤8:=by simp;omega
  have xb:Ext S2 (⟨S2.next+24,S2.heap⟩:St):=(Ext.refl S2).bump 24
  obtain ⟨u3,S4,r3,x4,o4⟩:=(l2.ext xb).copy (b:=32) (xb.wf w2) (by rw [List.length_map];omega) (by rw [List.length_map];unfold fU;omega)
  have x24:=xb.trans x4
  have w4:=x24.wf w2
  have xc:Ext S4 (⟨S4.next+17,S4.heap⟩:St):=(Ext.refl S4).bump 17
  have h4:=h2.ext w2 x24
  have g4:=x24.old _ _ hg2
  simp only [h2.r_log,aF,v0 hg2,h2.r_base,cE,hw1,hw2,r1,eA,l1'.lenI,lZ,r2,kR,r3,aL,v0 g4,hw3,h4.r_sure]
  refine (g62 (O:=own a lv wv dv ov) ⟨lv,wv,dv,ov,rows,h4.ext w4 xc,rfl⟩ ok (n:=(c.peer (n:Int)).next - 1) (by omega) (by omega)).call fun S5 x5=>?_
  have x45:=xc.trans x5
  have h5:=h4.ext w4 x45
  have w5:=x45.wf w4
  have g5:=x45.old _ _ g4
  have o5:Mn S5 3 u3 (((c.h.log.drop k).take 8).map bM):=(o4.ext x45).weaken (Nat.zero_le _)
  have hap:vW S5 (own a lv wv dv ov) { Letter.zero with kind:=3,to:=(n:Int),index:=(c.peer (n:Int)).next - 1,at':=c.term ((c.peer (n:Int)).next - 1),entries:=(c.h.log.drop k).take 8,commit:=c.sure } u3:=by
   refine ⟨⟨o5.sl,fun y hy hO=>?_⟩,fun y hy=>?_⟩
   ·have h1:=sZ w2 h2 hO
    have h3:=(jD o4 hy).1
    have h3':S2.next+24≤y:=h3
    omega
   ·have h3:=(jD o4 hy).1
    have h3':S2.next+24≤y:=h3
    have h4':=h2.gd.1
    omega
  simp only [h5.r_sure,v0 g5,aF,bO,aJ,jB,aNx o5]
  have hs:c.send (n:Int)=c.post { Letter.zero with kind:=3,to:=(n:Int),index:=(c.peer (n:Int)).next - 1,at':=c.term ((c.peer (n:Int)).next - 1),entries:=(c.h.log.drop k).take 8,commit:=c.sure }:=by
   unfold Core.send;simp only;rw [if_neg e,hk]
  rw [hs]
  refine Meth.call (g86 (O:=own a lv wv dv ov) _ u3 w5 ⟨lv,wv,dv,ov,rows,h5,rfl⟩ hap hl) w5 fun S6 O6 w6 h6 m6=>?_
  exact Ok.ret ⟨rfl,O6,h6,(Mv.of (x2.trans (x24.trans x45))).trans w m6⟩
end
end
section
variable [Guard]
theorem jK {α σ:Type} (g:σ→α→σ):∀ (l:List α) (s:σ),fF (fun s a=>(.inr (g s a):σ⊕σ)) id l s=l.foldl g s
 | [],s=>rfl
 | a::l,s=>by simp only [fF,List.foldl_cons,jK g l]
theorem mS {c:Core} (h:c.peers.length=7) {f:Int} (f0:0≤f) (f1:f<7):c.peer f∈c.peers:=by
 unfold Core.peer
 rw [List.getD_eq_getElem?_getD,List.getElem?_eq_getElem (by omega)]
 exact List.getElem_mem _
theorem vY {S S':St} {O O':Nat→Prop} {n:Nat} {u:V} {es:List (List V)} (w:WF S) (hs:Sl S n u es) (h:∀ y,bJ u=some y→¬ O y) (k:Mv O S O' S'):Sl S' n u es∧∀ y,bJ u=some y→¬ O' y:=by
 refine ⟨k.sl hs h,fun y hy hO=>?_⟩
 rcases k.own y hO with h1 | h1
 ·exact h y hy h1
 ·have:=aKd w hs y hy;omega
theorem kZ {S:St} {a:Nat} {c:Core} {O:Nat→Prop} (w:WF S) (h:CoreIn S a c O):∀ y,O y→y<S.next:=by
 obtain ⟨lv,wv,dv,ov,rows,h,rfl⟩:=h
 exact fun y hy=>sZ w h hy
section
variable {S:St} {a:Nat} {c:Core} {O:Nat→Prop}
structure Told (g:Core→Int→Core) (a:Nat) (c:Core) (S:St) (O:Nat→Prop) (u:V) (i:Nat) (d:Core) (vs:List V) (S':St):Prop where
 vs:vs=[.int .i64 (i:Int)]
 wf:WF S'
 core:∃ O',CoreIn S' a d O'∧Mv O S O' S'∧∀ y,bJ u=some y→¬ O' y
 sent:Sent c d
 out:d.out.length≤c.out.length+i
theorem g48 (w:WF S) (h:CoreIn S a c O) (ok:Hok c.h) (hl:c.out.length≤999990) (hp:c.role=3→∀ p∈c.peers,Pok c p):Meth 48 [.ptr a 0 0 0] a c.spread S O (.tup []):=by
 have hc:=h
 obtain ⟨lv,wv,dv,ov,rows,h,hO⟩:=h
 refine e48 ?_
 simp only [m48,aI,hJ,aG,aF,Nat.reduceAdd,cR,h.r_role,aS,aJ,cJ]
 refine Ok.pickN (fun e=>Ok.ret ⟨rfl,O,by unfold Core.spread;rw [if_neg e];exact hc,Mv.refl O S⟩) (fun e=>?_)
 have hsp:c.spread=c.others.foldl Core.send c:=by unfold Core.spread;rw [if_pos e]
 refine Does.call (g82 w hc ok) fun u S1 ⟨x1,own1⟩=>?_
 have w1:=x1.wf w
 simp only [aKb,own1.sl.lenI,aF]
 rw [hsp,←jK]
 refine Ok.loopL (F:=fun k K=>aE8 (aE prog aW aX k) k K (.ptr a 0 0 0) u (.int .i64 c.others.length)) (ρ:=Core) (α:=Int) (X:=Core) c.others (step:=fun d f=>.inr (d.send f)) (fin:=id) (s:=c)
  (out:=fun k K x S'=>K (.tup []) S')
  (fun i d vs S'=>Told Core.send a c S O u i d vs S'∧Sl S' 1 u (c.others.map oN))
  (fun d x S'=>d=x∧∃ O',CoreIn S' a d O'∧Mv O S O' S') ?_ ?_ ⟨⟨rfl,w1,⟨O,hc.ext w x1,Mv.of x1,fun y hy hOy=>?_⟩,Sent.refl c,Nat.le_refl _⟩,own1.sl⟩ (fun x S' ⟨e,O',h1,h2⟩=>Ok.ret ⟨rfl,O',e▸h1,h2⟩)
 ·rintro i f d vs S2 ⟨⟨rfl,w2,⟨O2,h2,m2,f2⟩,s2,l2⟩,sl2⟩ hi
  have hil:=(List.getElem?_eq_some_iff.1 hi).1
  have hlt:(i:Int)<(c.others.length:Int):=by omega
  have hol:c.others.length≤7:=Nat.le_trans (List.length_filter_le _ _) (vX _)
  have hw:wr .i64 ((i:Int)+1)=((i+1:Nat):Int):=by rw [cS (by omega) (by omega)];omega
  obtain ⟨p,hp',hat,_,_⟩:=sl2.elem hi
  have hat0:aR none p S2=.ok (.int .i64 f):=by rw [hat.load0];rfl
  have hf:=aIw (List.mem_of_getElem? hi)
  have hpk:Pok d (d.peer f):=Pok.of s2.h (hp e _ (by rw [←s2.peers];exact mS h2.peers hf.1 hf.2.1))
  simp only [aE8,aY,aZ,aF,hlt,decide_true,bA,aUe,hp',cR,hat0]
  refine Meth.callL (g83 w2 h2 (by rw [s2.h];exact ok) (by omega) hf.1 hf.2.1 hpk) w2 fun S3 O3 w3 h3 m3=>?_
  simp only [bK,hw,aF]
  obtain ⟨sl3,f3⟩:=vY w2 sl2 f2 m3
  refine OkL.next ⟨d.send f,rfl,⟨rfl,w3,⟨O3,h3,m2.trans w m3,f3⟩,s2.trans (Sent.send d f),?_⟩,sl3⟩
  have:(d.send f).out.length=d.out.length+1:=by
   unfold Core.send;simp only;split<;>simp [Core.post]
  omega
 ·rintro d vs S2 ⟨⟨rfl,w2,⟨O2,h2,m2,f2⟩,s2,l2⟩,sl2⟩
  refine ⟨d,⟨rfl,O2,h2,m2⟩,fun k K bD=>?_⟩
  have hlt:¬ (((c.others.length:Nat):Int))<c.others.length:=by omega
  simp only [aE8,aY,aZ,aF,hlt,decide_false,aK]
 ·have h1:=(jD own1 hy).1
  have h2:=kZ w hc y hOy
  omega
end
end
section
variable [Guard]
theorem aIx:(fun (p0 p1 p2 p3 p4 p5 p6:Peer)=>(List.range 7).map fun (i:Nat)=>oZ prog 85 (.agg ([p0,p1,p2,p3,p4,p5,p6].map jT).flatten) (.int .i64 (i:Int)))=fun p0 p1 p2 p3 p4 p5 p6=>[.ok (.agg (jT p0)),.ok (.agg (jT p1)),.ok (.agg (jT p2)),.ok (.agg (jT p3)),.ok (.agg (jT p4)),.ok (.agg (jT p5)),.ok (.agg (jT p6))]:=by kernel_rfl
theorem aH3 {l:List Peer} (h:l.length=7) {i:Nat} (hi:i<7):oZ prog 85 (.agg (l.map jT).flatten) (.int .i64 (i:Int))=.ok (.agg (jT (l.getD i ⟨0,0,0⟩))):=by
 obtain ⟨p0,p1,p2,p3,p4,p5,p6,rfl⟩:=kF h
 have e:=congrFun (congrFun (congrFun (congrFun (congrFun (congrFun (congrFun aIx p0) p1) p2) p3) p4) p5) p6
 have e2:=congrArg (fun l=>l[i]?) e
 simp only [List.getElem?_map,List.getElem?_range hi,Option.map_some] at e2
 match i,hi with
 | 0,_=>exact Option.some.inj e2
 | 1,_=>exact Option.some.inj e2
 | 2,_=>exact Option.some.inj e2
 | 3,_=>exact Option.some.inj e2
 | 4,_=>exact Option.some.inj e2
 | 5,_=>exact Option.some.inj e2
 | 6,_=>exact Option.some.inj e2
def lA (l:List Peer) (n:Int) (yes:Int) (i:Nat):Int⊕Int:=.inr (if n≤(l.getD i ⟨0,0,0⟩).mtch then yes+2 ^ i else yes)
theorem aWh {l:List Peer} (h:l.length=7) (n:Int):fF (lA l n) id (List.range 7) 0=aA5 l 0 n:=by
 obtain ⟨p0,p1,p2,p3,p4,p5,p6,rfl⟩:=kF h
 show fF (lA [p0,p1,p2,p3,p4,p5,p6] n) id [0,1,2,3,4,5,6] 0=_
 simp only [fF,lA,aA5,id,List.getD_cons_zero,List.getD_cons_succ]
 split<;>split<;>split<;>split<;>split<;>split<;>split<;>rfl
theorem aNy {y:Int} {i:Nat} (h0:0≤y) (h1:y<2 ^ i) (hi:i<7):wr .i64 ((BitVec.ofInt IntKind.i64.bits y ||| BitVec.ofInt IntKind.i64.bits ((2:Int) ^ i)).toNat)=y+2 ^ i:=by
 have all:∀ i:Nat,i<7→∀ a:Nat,a<128→a<2 ^ i→(a ||| 2 ^ i:Nat)=a+2 ^ i:=by decide +kernel
 have hp:(2:Int) ^ i≤64:=(qB hi).2
 have hc:((2 ^ i:Nat):Int)=(2:Int) ^ i:=by push_cast;rfl
 have hy:y=(y.toNat:Int):=by omega
 have e:(BitVec.ofInt IntKind.i64.bits y ||| BitVec.ofInt IntKind.i64.bits ((2:Int) ^ i)).toNat=y.toNat ||| 2 ^ i:=by
  show (BitVec.ofInt 64 y ||| BitVec.ofInt 64 ((2:Int) ^ i)).toNat=_
  rw [BitVec.toNat_or,BitVec.toNat_ofInt,BitVec.toNat_ofInt]
  congr 1<;>omega
 rw [e,all i hi y.toNat (by omega) (by omega),cS (by omega) (by omega)]
 push_cast
 omega
theorem xO {i:Nat} (hi:i<7):aD prog .shl 3 (.int .i64 1) (.int .u64 (i:Int))=.ok (.int .i64 ((2:Int) ^ i)):=by
 have hp:=qB hi
 have:min ((i:Int).toNat) IntKind.i64.bits=i:=by show min ((i:Int).toNat) 64=_;omega
 simp only [aD,mH,show ¬ (i:Int)<0 by omega,decide_false,cond_false,this,Int.one_mul]
 rw [cS (by omega) (by omega)]
theorem wru (i:Nat) (h7:i<7):wr .u64 (i:Int)=(i:Int):=by unfold wr lo hi;simp only;rw [if_pos (by omega)]
def mA (c:Core) (m:Int) (s:Int) (i:Nat):Int⊕Int:=if c.last - i≤s then .inl s else .inr (if c.term (c.last - i)=c.h.term∧jG m (aA5 c.peers 0 (c.last - i))=true then c.last - i else s)
theorem aRc (c:Core) (m:Int):∀ (k i:Nat) (s:Int),fF (mA c m) id ((List.range' i k)) s=jL c m k (c.last - i) s
 | 0,i,s=>rfl
 | k+1,i,s=>by
  rw [List.range'_succ]
  simp only [fF,jL,mA]
  by_cases h:c.last - (i:Int)≤s
  ·rw [if_pos h,if_pos h]
  ·rw [if_neg h,if_neg h]
   simp only
   rw [aRc c m k (i+1)]
   congr 1
   push_cast;omega
theorem aAg {l:List Peer} (h:l.length=7) (n:Int):0≤aA5 l 0 n∧aA5 l 0 n≤127:=by
 obtain ⟨p0,p1,p2,p3,p4,p5,p6,rfl⟩:=kF h
 simp only [aA5]
 split<;>split<;>split<;>split<;>split<;>split<;>split<;>decide
section
variable {S:St} {a:Nat} {c:Core} {O:Nat→Prop}
structure LookI (a:Nat) (c:Core) (O:Nat→Prop) (S:St) (s:Int) (S':St):Prop where
 wf:WF S'
 core:CoreIn S' a { c with sure:=s } O
 mv:Mv O S O S'
 s0:c.sure≤s
 s1:s≤c.last
theorem g90 (w:WF S) (h:CoreIn S a c O) (ok:Hok c.h) (hs0:c.h.base≤c.sure) (hs1:c.sure≤c.last):Meth 90 [.ptr a 0 0 0] a c.look S O (.tup []):=by
 have hin:=h
 obtain ⟨lv,wv,dv,ov,rows,h,hO⟩:=h
 have hr:=cZ ok
 have hb:=ok.b0
 have hmr:=eN ok
 have hl:=ok.ll
 have hpl:=h.peers
 refine e90 ?_
 simp only [m90,aI,dV,aG,aF,Nat.reduceAdd,mE,h.r_hard]
 refine (g49 c.h lv S w h.log.sl (by omega) ok.b0 ok.b1).call fun S1 x1=>?_
 have w1:=x1.wf w
 have in1:=hin.ext w x1
 simp only [eH,List.getElem?_cons_zero,List.getElem?_cons_succ,iP]
 refine (g46 in1 ok).call fun S2 x2=>?_
 have x02:=x1.trans x2
 have w2:=x2.wf w1
 have in2:=hin.ext w x02
 have hk:((c.last - c.sure).toNat:Int)=c.last - c.sure:=by omega
 have hm:(eP c.h).1=c.members:=rfl
 refine Ok.loopL (F:=fun k K=>sQ (aE prog aW aX k) k K (.ptr a 0 0 0) (.int .i64 (eP c.h).1) (.int .i64 (eP c.h).2)) (ρ:=Int) (α:=Nat) (X:=Int) (List.range' 0 (c.last - c.sure).toNat) (step:=mA c (eP c.h).1) (fin:=id) (s:=c.sure)
  (out:=fun k K n S'=>sQ (aE prog aW aX k) k K (.ptr a 0 0 0) (.int .i64 (eP c.h).1) (.int .i64 (eP c.h).2) [.int .i64 n] S' (fun _ _=>none))
  (fun i s vs S'=>vs=[.int .i64 (c.last - i)]∧LookI a c O S s S')
  (fun s n S'=>n≤s∧LookI a c O S s S') ?_ ?_ ⟨by simp,⟨w2,in2,Mv.of x02,Int.le_refl _,hs1⟩⟩ (fun n S3 ⟨hn,L⟩=>?_)
 ·rintro i j s vs S3 ⟨rfl,L⟩ hi
  obtain ⟨hil,hj⟩:=List.getElem?_eq_some_iff.1 hi
  rw [List.length_range'] at hil
  rw [List.getElem_range'] at hj
  have hj:j=i:=by omega
  subst hj
  have hin3:=L.core
  obtain ⟨lv,wv,dv,ov,rows,h3,hO3⟩:=L.core
  have hlt:c.last - (j:Int)≥c.h.base:=by omega
  generalize hq:c.last - (j:Int)=n
  have hnn:c.last - ((j+1:Nat):Int)=n - 1:=by rw [←hq];push_cast;omega
  have hw:wr .i64 (n - 1)=n - 1:=cS (by omega) (by omega)
  by_cases hd:n≤s
  ·exact OkL.stop n ⟨s,by unfold mA;rw [hq,if_pos hd],hd,L⟩ (fun k K bD=>by
    have hdec:¬ s<n:=by omega
    simp only [sQ,aY,aI,jC,aG,Nat.reduceAdd,aF,cR,h3.r_sure,bX,hdec,decide_false,aK])
  ·have hdec:s<n:=by omega
   simp only [sQ,aY,aI,jC,pY,aG,Nat.reduceAdd,aF,cR,h3.r_sure,bX,hdec,decide_true,bA,aZz,h3.r_peers]
   have hy7:=aAg hpl n
   refine OkL.loop (F:=fun k K ag=>sP (aE prog aW aX k) k K ag (.ptr a 0 0 0) (.int .i64 (eP c.h).1) (.int .i64 (eP c.h).2) (.int .i64 n) (.agg (c.peers.map jT).flatten)) (ρ:=Int) (α:=Nat) (Y:=Int) (List.range 7) (step:=lA c.peers n) (fin:=id) (s:=0)
    (out2:=fun k K ag y S'=>sP (aE prog aW aX k) k K ag (.ptr a 0 0 0) (.int .i64 (eP c.h).1) (.int .i64 (eP c.h).2) (.int .i64 n) (.agg (c.peers.map jT).flatten) [.int .i64 y,.int .i64 7] S' (fun _ _=>none))
    (fun i y vs S'=>vs=[.int .i64 y,.int .i64 (i:Int)]∧Ext S3 S'∧0≤y∧y<2 ^ i)
    (fun r y S'=>r=y∧Ext S3 S') ?_ ?_ ⟨rfl,Ext.refl _,by omega,by decide⟩ (fun y S4 ⟨hy,x4⟩=>?_)
   ·rintro i i' y vs S4 ⟨rfl,x4,y0,y1⟩ hi'
    obtain ⟨hil',hj'⟩:=List.getElem?_eq_some_iff.1 hi'
    rw [List.length_range] at hil'
    rw [List.getElem_range] at hj'
    subst hj'
    have w4:=x4.wf L.wf
    obtain ⟨S5,S6,q1,q2,x6,hg6,hn6⟩:=vb w4 3 [.int .i64 0,.int .i64 0,.int .i64 0] (.agg (jT (c.peers.getD i ⟨0,0,0⟩))) rfl rfl rfl
    have v1:aR none (.ptr S4.next 0 0 1) S6=.ok (.int .i64 (c.peers.getD i ⟨0,0,0⟩).mtch):=by rw [bB _ _ _ _ _ (bC hg6)];rfl
    have hlt':(i:Int)<7:=by omega
    have hw':wr .i64 ((i:Int)+1)=((i+1:Nat):Int):=by rw [cS (by omega) (by omega)];omega
    have hpow:(2:Int) ^ (i+1)=2*2 ^ i:=by rw [Int.pow_succ];omega
    refine ⟨0,.inr ?_⟩
    by_cases hd':n≤(c.peers.getD i ⟨0,0,0⟩).mtch
    ·refine ⟨y+2 ^ i,[.int .i64 (y+2 ^ i),.int .i64 ((i+1:Nat):Int)],S6,by unfold lA;rw [if_pos hd'],⟨rfl,x4.trans x6,by omega,by omega⟩,fun k K ag bD _=>?_⟩
     have hor:aD prog .or 3 (.int .i64 y) (.int .i64 ((2:Int) ^ i))=.ok (.int .i64 (y+2 ^ i)):=by
      simp only [aD,bU,cond_true,eE,aNy y0 y1 hil']
     simp only [sP,aY,aZ,hlt',decide_true,bA,aF,aH3 hpl hil',q1,aLs,q2,aA2,aG,Nat.reduceAdd,cR,v1,dA,hd',aEt,wru i hil',xO hil',hor,bK,hw']
    ·refine ⟨y,[.int .i64 y,.int .i64 ((i+1:Nat):Int)],S6,by unfold lA;rw [if_neg hd'],⟨rfl,x4.trans x6,by omega,by omega⟩,fun k K ag bD _=>?_⟩
     simp only [sP,aY,aZ,hlt',decide_true,bA,aF,aH3 hpl hil',q1,aLs,q2,aA2,aG,Nat.reduceAdd,cR,v1,dA,hd',decide_false,aK,bK,hw']
   ·rintro y vs S4 ⟨rfl,x4,y0,y1⟩
    refine ⟨0,y,S4,⟨rfl,x4⟩,fun k K ag bD _=>?_⟩
    have hlt':¬ (((List.range 7).length:Nat):Int)<7:=by rw [List.length_range];decide
    have hlt7:¬ (7:Int)<7:=by decide
    simp only [sP,aY,aZ,hlt',hlt7,decide_false,aK,aF]
   ·rw [aWh hpl] at hy
    subst hy
    have w4:=x4.wf L.wf
    have in4:=hin3.ext L.wf x4
    have h4:=h3.ext L.wf x4
    have hlt7:¬ (7:Int)<7:=by decide
    have xb:Ext S4 (⟨S4.next+14,S4.heap⟩:St):=(Ext.refl S4).bump 14
    simp only [sP,aY,aZ,hlt7,decide_false,aK,aF,aI,dV,eO,aG,Nat.reduceAdd,cR,aL,h4.r_term]
    refine (g62 (in4.ext w4 xb) ok (n:=n) (by show c.h.base≤n;omega) (by show n≤c.last;omega)).callL fun S5 x5=>?_
    have x45:=xb.trans x5
    have w5:=x45.wf w4
    have h5:=h4.ext w4 x45
    have x35:=x4.trans x45
    have hterm:({ c with sure:=s }:Core).term n=c.term n:=rfl
    simp only [h5.r_term,aF,bO,aJ,aS,bR,hterm]
    have no:(S6:St)→(∀ (p:Prop),¬ (c.term n=c.h.term∧jG (eP c.h).1 (aA5 c.peers 0 n)=true)→mA c (eP c.h).1 s j=.inr s):=fun _ p e=>by unfold mA;rw [hq,if_neg hd,if_neg e]
    refine OkL.pickP (fun e=>?_) (fun e=>?_)
    ·refine (g84 _ _ S5 w5 hy7.1 hy7.2).callL fun S6 x6=>?_
     have w6:=x6.wf w5
     have h6:=h5.ext w5 x6
     have x36:=x35.trans x6
     refine OkL.pick (fun e2=>?_) (fun e2=>?_)
     ·obtain ⟨S7,q7,h7,m7,n7⟩:=h6.w_sure w6 n
      rw [←hO3] at m7
      simp only [aI,jC,aG,Nat.reduceAdd,aF,mD,q7,cE,hw]
      exact OkL.next ⟨n,by unfold mA;rw [hq,if_neg hd,if_pos ⟨e,e2⟩],by rw [hnn],⟨m7.wf w6,⟨_,_,_,_,_,h7,hO3⟩,(L.mv.trans w (Mv.of x36)).trans w m7,by have:=L.s0;omega,by omega⟩⟩
     ·simp only [cE,hw,aF]
      exact OkL.next ⟨s,no S6 True (fun e3=>by rw [e2] at e3;exact absurd e3.2 (by decide)),by rw [hnn],⟨w6,hin3.ext L.wf x36,L.mv.trans w (Mv.of x36),L.s0,L.s1⟩⟩
    ·simp only [aIm,aK,cE,hw,aF]
     exact OkL.next ⟨s,no S5 True (fun e3=>e e3.1),by rw [hnn],⟨w5,hin3.ext L.wf x35,L.mv.trans w (Mv.of x35),L.s0,L.s1⟩⟩
 ·rintro s vs S3 ⟨rfl,L⟩
  rw [List.length_range',hk]
  refine ⟨c.last - (c.last - c.sure),⟨by have:=L.s0;show _≤s;omega,L⟩,fun k K bD=>?_⟩
  obtain ⟨lv,wv,dv,ov,rows,h3,hO3⟩:=L.core
  have hdec:¬ s<c.last - (c.last - c.sure):=by have:=L.s0;omega
  simp only [sQ,aY,aI,jC,aG,Nat.reduceAdd,aF,cR,h3.r_sure,bX,hdec,decide_false,aK]
 ·rw [aRc] at hn L
  have e0:c.last - ((0:Nat):Int)=c.last:=by simp
  rw [e0] at hn L
  generalize hsv:jL c (eP c.h).1 (c.last - c.sure).toNat c.last c.sure=s at hn L
  have hin3:=L.core
  obtain ⟨lv,wv,dv,ov,rows,h3,hO3⟩:=L.core
  have hdec:¬ s<n:=by omega
  simp only [sQ,aY,aI,jC,oJ,aG,Nat.reduceAdd,aF,cR,h3.r_sure,h3.r_id,bX,hdec,decide_false,aK]
  refine (g50 _ _ S3 (by rw [hm];omega)).call fun S4 x4=>?_
  have w4:=x4.wf L.wf
  have in4:=hin3.ext L.wf x4
  have h4:=h3.ext L.wf x4
  have mv4:=L.mv.trans w (Mv.of x4)
  simp only [dS,aF]
  have hlook:c.look=if cN (eP c.h).1 c.id=false∧(eP c.h).2≤s then ({ c with sure:=s }:Core).rest else { c with sure:=s }:=by
   unfold Core.look;simp only;rw [hsv]
  refine Ok.pick (fun e=>?_) (fun e=>?_)
  ·simp only [h4.r_sure,aF,dH]
   refine Ok.pickP (fun e2=>?_) (fun e2=>?_)
   ·refine Meth.call (bAl w4 in4) w4 fun S5 O5 w5 in5 m5=>Ok.ret ⟨rfl,O5,?_,mv4.trans w m5⟩
    rw [hlook,if_pos ⟨by simpa using e,e2⟩];exact in5
   ·refine Ok.ret ⟨rfl,O,?_,mv4⟩
    rw [hlook,if_neg (fun q=>e2 q.2)];exact in4
  ·refine Ok.ret ⟨rfl,O,?_,mv4⟩
   rw [hlook,if_neg (fun q=>by rw [q.1] at e;cases e)];exact in4
end
end
end Go.Proofs.Ytbiidlmhadihlaa
end
section
namespace Go.Raft
open Go.AM
section
variable [Guard]
theorem CoreAt.push {S:St} {a:Nat} {c:Core} {lv wv dv ov:V} {rows:List (List V)} (h:CoreAt S a c lv wv dv ov rows) (w:WF S) (x:Entry) (z:List V) (n k1 k2:Nat) (hk1:k1<n) (hk2:k2<n) (hk:k2≠k1) (hl:c.h.log.length≤1000000):
  ∃ S1 lv' S2 S3,cK 3 z 1 [(0,.agg (bM x))] (some (S.next+k1)) (⟨S.next+n,S.heap⟩:St)=.ok (.sl (S.next+k1) 0 3 0 1,S1)∧gP 3 32 lv (.sl (S.next+k1) 0 3 0 1) (some (S.next+k2)) S1=.ok (lv',S2)∧bV 1 (.ptr a 0 0 7) lv' S2=.ok S3 ∧
   CoreAt S3 a { c with h:={ c.h with log:=c.h.log++[x] } } lv' wv dv ov rows∧Mv (own a lv wv dv ov) S (own a lv' wv dv ov) S3:=by
 have hfree:(⟨S.next+n,S.heap⟩:St).heap.get (S.next+k2)=none:=jE w n (S.next+k2) (by omega)
 have e3:=gZ (⟨S.next+n,S.heap⟩:St) (S.next+k1) 3 (bM x) rfl rfl (by omega) z
 have x4:Ext S (⟨S.next+n,S.heap.put (S.next+k1) (.row 0 3 [bM x])⟩:St):=
  ((Ext.refl S).bump n).set (by omega) (by show S.next+k1<S.next+n;omega) w _
 have hel:bY (⟨S.next+n,S.heap.put (S.next+k1) (.row 0 3 [bM x])⟩:St) (.sl (S.next+k1) 0 3 0 1)=.ok [bM x]:=by
  simp only [bY,eR]
  rfl
 have hf7:(⟨S.next+n,S.heap.put (S.next+k1) (.row 0 3 [bM x])⟩:St).heap.get (S.next+k2)=none:=by
  show (S.heap.put _ _).get _=none
  rw [Tr.get_put_neB _ _ _ _ trivial (by omega)];exact hfree
 have hn4:S.next+k2<(⟨S.next+n,S.heap.put (S.next+k1) (.row 0 3 [bM x])⟩:St).next:=by show S.next+k2<S.next+n;omega
 simp only at e3
 generalize (⟨S.next+n,S.heap.put (S.next+k1) (.row 0 3 [bM x])⟩:St)=S1 at e3 x4 hel hf7 hn4
 have w1:=x4.wf w
 have h1:=h.ext w x4
 have hll:(c.h.log.map bM).length=c.h.log.length:=List.length_map ..
 obtain ⟨lv',S2,e5,w5,n5,o5,b5,k5,_⟩:=Mn.pushAt (b:=32) h1.log w1 hel ⟨rfl,rfl⟩ hn4 hf7 (by omega) (by unfold fU;omega)
 have o5':Mn S2 3 lv' ((c.h.log++[x]).map bM):=by rw [List.map_append];exact o5
 obtain ⟨S3,e6,h6,m6,n6⟩:=h.w_log w w5 (by rw [n5];exact x4.next) (fun y b hy hb=>by
  have hlt:=w y b hy
  rw [k5 y (by omega) hb];exact x4.old _ _ hy) o5' o5'.cells (fun y hy=>by
  rcases b5 with b5 | b5
  ·rw [b5] at hy;cases hy;exact .inr (by omega)
  ·rw [b5] at hy;exact .inl hy)
 exact ⟨S1,lv',S2,S3,e3,e5,e6,h6,m6⟩
theorem CoreAt.push2 {S:St} {a:Nat} {c:Core} {lv wv dv ov:V} {rows:List (List V)} (h:CoreAt S a c lv wv dv ov rows) (w:WF S) {l:List Entry} {u:V} (hu:Mn S 3 u (l.map bM)) (hub:bJ u=bJ lv) (x:Entry) (z:List V) (n k1 k2:Nat) (hk1:k1<n) (hk2:k2<n) (hk:k2≠k1) (hl:l.length≤1000000):
  ∃ S1 lv' S2 S3,cK 3 z 1 [(0,.agg (bM x))] (some (S.next+k1)) (⟨S.next+n,S.heap⟩:St)=.ok (.sl (S.next+k1) 0 3 0 1,S1)∧gP 3 32 u (.sl (S.next+k1) 0 3 0 1) (some (S.next+k2)) S1=.ok (lv',S2)∧bV 1 (.ptr a 0 0 7) lv' S2=.ok S3 ∧
   CoreAt S3 a { c with h:={ c.h with log:=l++[x] } } lv' wv dv ov rows∧Mv (own a lv wv dv ov) S (own a lv' wv dv ov) S3:=by
 have hfree:(⟨S.next+n,S.heap⟩:St).heap.get (S.next+k2)=none:=jE w n (S.next+k2) (by omega)
 have e3:=gZ (⟨S.next+n,S.heap⟩:St) (S.next+k1) 3 (bM x) rfl rfl (by omega) z
 have x4:Ext S (⟨S.next+n,S.heap.put (S.next+k1) (.row 0 3 [bM x])⟩:St):=
  ((Ext.refl S).bump n).set (by omega) (by show S.next+k1<S.next+n;omega) w _
 have hel:bY (⟨S.next+n,S.heap.put (S.next+k1) (.row 0 3 [bM x])⟩:St) (.sl (S.next+k1) 0 3 0 1)=.ok [bM x]:=by
  simp only [bY,eR]
  rfl
 have hf7:(⟨S.next+n,S.heap.put (S.next+k1) (.row 0 3 [bM x])⟩:St).heap.get (S.next+k2)=none:=by
  show (S.heap.put _ _).get _=none
  rw [Tr.get_put_neB _ _ _ _ trivial (by omega)];exact hfree
 have hn4:S.next+k2<(⟨S.next+n,S.heap.put (S.next+k1) (.row 0 3 [bM x])⟩:St).next:=by show S.next+k2<S.next+n;omega
 simp only at e3
 generalize (⟨S.next+n,S.heap.put (S.next+k1) (.row 0 3 [bM x])⟩:St)=S1 at e3 x4 hel hf7 hn4
 have w1:=x4.wf w
 have h1:=h.ext w x4
 have hll:(l.map bM).length=l.length:=List.length_map ..
 obtain ⟨lv',S2,e5,w5,n5,o5,b5,k5,_⟩:=Mn.pushAt (b:=32) (Mn.fr hu x4.next fun y b _=>x4.old y b) w1 hel ⟨rfl,rfl⟩ hn4 hf7 (by omega) (by unfold fU;omega)
 have o5':Mn S2 3 lv' ((l++[x]).map bM):=by rw [List.map_append];exact o5
 obtain ⟨S3,e6,h6,m6,n6⟩:=h.w_log w w5 (by rw [n5];exact x4.next) (fun y b hy hb=>by
  have hlt:=w y b hy
  rw [k5 y (by omega) (by rw [hub];exact hb)];exact x4.old _ _ hy) o5' o5'.cells (fun y hy=>by
  rcases b5 with b5 | b5
  ·rw [b5] at hy;cases hy;exact .inr (by omega)
  ·rw [b5,hub] at hy;exact .inl hy)
 exact ⟨S1,lv',S2,S3,e3,e5,e6,h6,m6⟩
end
end Go.Raft
end
section
namespace Go.Proofs.Ytbiidlmhadihlaa
open Go.AM Go.Raft Try
section
variable [Guard]
theorem qX (c:Core):c.look.h=c.h∧c.look.peers=c.peers∧c.look.out=c.out∧c.look.id=c.id∧(c.look.role=3→c.role=3):=by
 unfold Core.look
 simp only
 split
 ·exact ⟨rfl,rfl,rfl,rfl,fun e=>absurd e (by show ¬ (1:Int)=3;decide)⟩
 ·exact ⟨rfl,rfl,rfl,rfl,fun e=>e⟩
theorem wS (t:Int):dX [.int .i64 0,.int .i64 0,.str []] [(0,1),(1,1),(2,1)] [(0,.int .i64 t)]=.ok (.agg (bM ⟨t,0,[]⟩)):=rfl
theorem aKi (l:List Peer) (h:l.length=7) (p:Peer):(List.range 7).foldl (fun l i=>l.set i p) l=List.replicate 7 p:=by
 obtain ⟨p0,p1,p2,p3,p4,p5,p6,rfl⟩:=kF h
 rfl
section
variable {S:St} {a:Nat} {c:Core} {O:Nat→Prop}
theorem g60 (w:WF S) (h:CoreIn S a c O) (ok:Hok c.h) (i0:0≤c.id) (i1:c.id<7) (hs0:c.h.base≤c.sure) (hs1:c.sure≤c.last) (hl:c.out.length≤999990) (hp:c.role=3→∀ p∈c.peers,Pok c p):Meth 60 [.ptr a 0 0 0] a c.own S O (.tup []):=by
 obtain ⟨n,hn⟩:∃ n:Nat,c.id=(n:Int):=⟨c.id.toNat,by omega⟩
 have hn7:n<7:=by omega
 have hin:=h
 obtain ⟨lv,wv,dv,ov,rows,h,hO⟩:=h
 have xb:Ext S (⟨S.next+12,S.heap⟩:St):=(Ext.refl S).bump 12
 refine e60 ?_
 simp only [m60,aI,oJ,pY,aG,aF,Nat.reduceAdd,cR,aL,h.r_id]
 refine (g46 (hin.ext w xb) ok).call fun S1 x1=>?_
 have x01:=xb.trans x1
 have w1:=x01.wf w
 have h1:=h.ext w x01
 obtain ⟨S2,q2,h2,m2,n2⟩:=h1.w_mtch w1 hn7 c.last
 simp only [h1.r_id,aF,bO,aJ,hn,aAf,eK hn7,aA2,aG,mD,q2]
 have w2:=m2.wf w1
 have hset:({ c with peers:=c.peers.set n { c.peers.getD n ⟨0,0,0⟩ with mtch:=c.last } }:Core)=c.setPeer c.id { c.peer c.id with mtch:=c.last }:=by
  unfold Core.setPeer Core.peer;rw [hn];rfl
 rw [hset] at h2
 have in2:CoreIn S2 a (c.setPeer c.id { c.peer c.id with mtch:=c.last }) O:=⟨_,_,_,_,_,h2,hO⟩
 rw [←hO] at m2
 have mv2:=(Mv.of (O:=O) x01).trans w m2
 refine Meth.call (g90 w2 in2 ok hs0 hs1) w2 fun S3 O3 w3 in3 m3=>?_
 obtain ⟨e1,e2,e3,e4,e5⟩:=qX (c.setPeer c.id { c.peer c.id with mtch:=c.last })
 refine Meth.call (g48 w3 in3 (by rw [e1];exact ok) (by rw [e3];exact hl) (fun hr p hpm=>?_)) w3 fun S4 O4 w4 in4 m4=>?_
 ·rw [e2] at hpm
  have hr':=e5 hr
  rcases List.mem_or_eq_of_mem_set hpm with hpm | rfl
  ·exact Pok.of (c:=c) (by rw [e1];rfl) (hp hr' p hpm)
  ·have q:=hp hr' _ (mS h.peers i0 i1)
   have hbase:=ok.b0
   exact Pok.of (c:=c) (by rw [e1];rfl) ⟨by show 0≤c.last;omega,by show c.last≤c.last;omega,q.n0,q.n1,q.o0,q.o1⟩
 ·exact Ok.ret ⟨rfl,O4,in4,(mv2.trans w m3).trans w m4⟩
theorem g85 (w:WF S) (h:CoreIn S a c O) (ok:Hok c.h) (i0:0≤c.id) (i1:c.id<7) (ht:1≤c.h.term) (hs0:c.h.base≤c.sure) (hs1:c.sure≤c.last) (hl:c.out.length≤999990):Meth 85 [.ptr a 0 0 0] a c.lead S O (.tup []):=by
 have hr:=cZ ok
 have hb:=ok.b0
 obtain ⟨lv,wv,dv,ov,rows,h,rfl⟩:=h
 obtain ⟨S1,q1,h1,m1,n1⟩:=h.w_role w 3
 have w1:=m1.wf w
 obtain ⟨S2,q2,h2,m2,n2⟩:=h1.w_leads w1 c.id
 have w2:=m2.wf w1
 obtain ⟨S3,q3,h3,m3,n3⟩:=h2.w_left w2 3
 have w3:=m3.wf w2
 have mv3:=(m1.trans w m2).trans w m3
 refine e85 ?_
 simp only [m85,aI,oJ,hJ,sU,oK,aG,aF,Nat.reduceAdd,cR,mD,h.r_id,q1,q2,q3]
 generalize hc1:({ c with role:=3,leads:=c.id,left:=3 }:Core)=c1 at h3
 have e1:c1.h=c.h:=by rw [←hc1]
 have el:c1.last=c.last:=by unfold Core.last;rw [e1]
 have ok1:Hok c1.h:=by rw [e1];exact ok
 have hpl:c1.peers.length=7:=h3.peers
 refine Ok.loopL (F:=fun k K=>vS (aE prog aW aX k) k K (.ptr a 0 0 0)) (ρ:=List Peer) (α:=Nat) (X:=List Peer) (List.range 7) (step:=fun l i=>.inr (l.set i ⟨c.last+1,0,0⟩)) (fin:=id) (s:=c1.peers)
  (out:=fun k K l S'=>vS (aE prog aW aX k) k K (.ptr a 0 0 0) [.int .i64 7] S' (fun _ _=>none))
  (fun i l vs S'=>vs=[.int .i64 (i:Int)]∧WF S'∧l.length=7∧CoreIn S' a { c1 with peers:=l } (own a lv wv dv ov)∧Mv (own a lv wv dv ov) S (own a lv wv dv ov) S')
  (fun l x S'=>WF S'∧l.length=7∧CoreIn S' a { c1 with peers:=l } (own a lv wv dv ov)∧Mv (own a lv wv dv ov) S (own a lv wv dv ov) S') ?_ ?_ ⟨rfl,w3,hpl,⟨lv,wv,dv,ov,rows,h3,rfl⟩,mv3⟩ (fun l S4 ⟨w4,hl7,in4,mv4⟩=>?_)
 ·rintro i i' l vs S4 ⟨rfl,w4,hl7,in4,mv4⟩ hi
  obtain ⟨hil,hj⟩:=List.getElem?_eq_some_iff.1 hi
  rw [List.length_range] at hil
  rw [List.getElem_range] at hj
  subst hj
  have hlt:(i:Int)<7:=by omega
  have hw:wr .i64 ((i:Int)+1)=((i+1:Nat):Int):=by rw [cS (by omega) (by omega)];omega
  have hwl:wr .i64 (c1.last+1)=c1.last+1:=cS (by omega) (by omega)
  have xb:Ext S4 (⟨S4.next+10,S4.heap⟩:St):=(Ext.refl S4).bump 10
  simp only [vS,aY,aZ,aF,hlt,decide_true,bA,aI,pY,aG,Nat.reduceAdd]
  refine (g46 (in4.ext w4 xb) ok1).callL fun S5 x5=>?_
  have x45:=xb.trans x5
  have w5:=x45.wf w4
  obtain ⟨lv',wv',dv',ov',rows',h5,hO5⟩:=in4.ext w4 x45
  obtain ⟨S6,q6,h6,m6,n6⟩:=h5.w_peer w5 hil ⟨c1.last+1,0,0⟩
  rw [←hO5] at m6
  have hbd:bQ prog 84 [(0,.int .i64 (c1.last+1))]=.ok (.agg (jT ⟨c1.last+1,0,0⟩)):=by rw [aUc];rfl
  have hlast:({ c1 with peers:=l }:Core).last=c1.last:=rfl
  simp only [hlast,bK,hwl,hw,aF,hbd,aAf,eK hil,aLs,q6]
  exact OkL.next ⟨l.set i ⟨c.last+1,0,0⟩,rfl,rfl,m6.wf w5,by rw [List.length_set];exact hl7,⟨lv',wv',dv',ov',rows',by rw [el] at h6;exact h6,hO5⟩,(mv4.trans w (Mv.of x45)).trans w m6⟩
 ·rintro l vs S4 ⟨rfl,w4,hl7,in4,mv4⟩
  have hlt:¬ (((List.range 7).length:Nat):Int)<7:=by rw [List.length_range];decide
  have hlt7:¬ (7:Int)<7:=by decide
  refine ⟨l,⟨w4,hl7,in4,mv4⟩,fun k K bD=>?_⟩
  simp only [vS,aY,aZ,aF,hlt,hlt7,decide_false,aK]
 ·rw [jK,aKi _ hpl] at in4
  have hlt7:¬ (7:Int)<7:=by decide
  simp only [vS,aY,aZ,aF,hlt7,decide_false,aK]
  generalize hc2:({ c1 with peers:=List.replicate 7 ⟨c.last+1,0,0⟩ }:Core)=c2 at in4
  have e2:c2.h=c.h:=by rw [←hc2];exact e1
  have el2:c2.last=c.last:=by unfold Core.last;rw [e2]
  have ok2:Hok c2.h:=by rw [e2];exact ok
  have hc2':c2={ c with role:=3,leads:=c.id,left:=3,peers:=List.replicate 7 ⟨c.last+1,0,0⟩ }:=by rw [←hc2,←hc1]
  have hpk:∀ p∈c2.peers,p=⟨c.last+1,0,0⟩:=fun p hp=>by rw [hc2'] at hp;exact List.eq_of_mem_replicate hp
  have hlead:c.lead=(if c.last<1099511627776∧c.h.log.length<200 then { c2 with h:={ c2.h with log:=c2.h.log++[⟨c2.h.term,0,[]⟩] } } else c2).own:=by unfold Core.lead;rw [hc2']
  refine (g46 in4 ok2).call fun S5 x5=>?_
  have w5:=x5.wf w4
  have in5:=in4.ext w4 x5
  have hin5:=in5
  obtain ⟨lv',wv',dv',ov',rows',h5,hO5⟩:=in5
  have mv5:=mv4.trans w (Mv.of x5)
  have fin0:¬ (c.last<1099511627776∧c.h.log.length<200)→Ok (fun k K=>aE prog aW aX k 60 [.ptr a 0 0 0] S5 fun t31 S32=>K (.tup []) S32) (fun u S'=>u=.tup []∧∃ O',CoreIn S' a c.lead O'∧Mv (own a lv wv dv ov) S O' S'):=fun hno=>by
   rw [hlead,if_neg hno]
   refine Meth.call (g60 w5 hin5 ok2 (by rw [hc2'];exact i0) (by rw [hc2'];exact i1) (by rw [hc2'];exact hs0) (by rw [el2,hc2'];exact hs1) (by rw [hc2'];exact hl) (fun _ p hp=>?_)) w5 fun S6 O6 w6 in6 m6=>Ok.ret ⟨rfl,O6,in6,mv5.trans w m6⟩
   rw [hpk p hp]
   exact ⟨Int.le_refl _,by show 0≤c2.last;omega,by show 1≤c.last+1;omega,by show c.last+1≤c2.last+1;omega,Int.le_refl _,.inr rfl⟩
  simp only [el2]
  refine Ok.pickP (fun e=>?_) (fun e=>?_)
  ·simp only [aI,dV,cO,aG,Nat.reduceAdd,aF,eC,h5.r_log,eA,h5.log.sl.lenI,aZ,e2]
   by_cases e3:((c.h.log.length:Nat):Int)<200
   ·obtain ⟨S6,lv6,S7,S8,r1,r2,r3,h8,m8⟩:=h5.push w5 ⟨c2.h.term,0,[]⟩ [.int .i64 0,.int .i64 0,.str []] 18 12 13 (by decide) (by decide) (by decide) (by rw [e2];have:=ok.ll;omega)
    have w8:=m8.wf w5
    simp only [zX,e3,decide_true,bA,aI,dV,cO,eO,aG,Nat.reduceAdd,aF,eC,cR,aL,h5.r_log,h5.r_term,aLp,wS,aA0,r1,kR,r2,sV,r3]
    rw [hlead,if_pos ⟨e,by omega⟩]
    rw [←hO5] at m8
    have okp:=Hok.push ok (x:=⟨c.h.term,0,[]⟩) ⟨ht,Int.le_refl _,Int.le_refl _,by show (0:Int)≤127;omega,by simp,.inl rfl⟩ rfl (by omega) e
    refine Meth.call (g60 w8 ⟨_,_,_,_,_,h8,rfl⟩ (by show Hok { c2.h with log:=_ };rw [e2];exact okp) (by rw [hc2'];exact i0) (by rw [hc2'];exact i1) (by rw [hc2'];exact hs0) ?_ (by rw [hc2'];exact hl) (fun _ p hp=>?_)) w8 fun S9 O9 w9 in9 m9=>Ok.ret ⟨rfl,O9,in9,(mv5.trans w m8).trans w m9⟩
    ·rw [hc2'];unfold Core.last cF at hs1 ⊢;simp;omega
    ·rw [hpk p hp]
     have hlen:({ c2 with h:={ c2.h with log:=c2.h.log++[⟨c2.h.term,0,[]⟩] } }:Core).last=c.last+1:=by rw [hc2'];unfold Core.last cF;simp;omega
     exact ⟨Int.le_refl _,by rw [hlen];show 0≤c.last+1;omega,by show 1≤c.last+1;omega,by rw [hlen];show c.last+1≤c.last+1+1;omega,Int.le_refl _,.inr rfl⟩
   ·simp only [zX,e3,decide_false,aK]
    exact fin0 (fun q=>e3 (by omega))
  ·simp only [zX,aK]
   exact fin0 (fun q=>e q.1)
end
end
section
variable [Guard]
theorem aNz (f i t:Int):dX [.int .i64 0,.int .i64 0,.int .i64 0,.int .i64 0,.int .i64 0,.int .i64 0,.int .i64 0,.int .i64 0,.int .i64 0,.int .i64 0,.bool false,.str [],.nils] [(0,1),(1,1),(2,1),(3,1),(4,1),(5,1),(6,1),(7,1),(8,1),(9,1),(10,1),(11,1),(12,1)] [(0,.int .i64 1),(2,.int .i64 f),(4,.int .i64 i),(5,.int .i64 t)]=
  .ok (.agg (aO { Letter.zero with kind:=1,to:=f,index:=i,at':=t } .nils)):=rfl
theorem aIy {a b i k:Nat} (h:a≤b+i) (hb:b≤999990) (hi:i<k) (hk:k≤7):a≤1000000:=by omega
theorem aH4 (c:Core) (m:Letter):(c.post m).out.length=c.out.length+1:=by simp [Core.post]
section
variable {S:St} {a:Nat} {c:Core} {O:Nat→Prop}
theorem g51 (w:WF S) (h:CoreIn S a c O) (ok:Hok c.h) (i0:0≤c.id) (i1:c.id<7) (ht:c.h.term<1099511627776) (hs0:c.h.base≤c.sure) (hs1:c.sure≤c.last) (hl:c.out.length≤999990):Meth 51 [.ptr a 0 0 0] a c.stand S O (.tup []):=by
 have hr:=cZ ok
 have hb:=ok.b0
 have ht0:=ok.t0
 obtain ⟨n,hn⟩:∃ n:Nat,c.id=(n:Int):=⟨c.id.toNat,by omega⟩
 have hn7:n<7:=by omega
 have hw:wr .i64 (c.h.term+1)=c.h.term+1:=cS (by omega) (by omega)
 have hpow:=qB hn7
 obtain ⟨lv,wv,dv,ov,rows,h,rfl⟩:=h
 obtain ⟨S1,q1,h1,m1,n1⟩:=h.w_term w (c.h.term+1)
 have w1:=m1.wf w
 have xb:Ext S1 (⟨S1.next+27,S1.heap⟩:St):=(Ext.refl S1).bump 27
 have wb:=xb.wf w1
 have hb1:=h1.ext w1 xb
 obtain ⟨S2,q2,h2',m2,n2⟩:=hb1.w_vote wb c.id
 have h2:CoreAt S2 a { c with h:={ c.h with term:=c.h.term+1,vote:=c.id } } lv wv dv ov rows:=h2'
 clear h2'
 have w2:=m2.wf wb
 obtain ⟨S3,q3,h3',m3,n3⟩:=h2.w_role w2 2
 have h3:CoreAt S3 a { c with h:={ c.h with term:=c.h.term+1,vote:=c.id },role:=2 } lv wv dv ov rows:=h3'
 clear h3'
 have w3:=m3.wf w2
 obtain ⟨S4,q4,h4',m4,n4⟩:=h3.w_leads w3 (-1)
 have h4:CoreAt S4 a { c with h:={ c.h with term:=c.h.term+1,vote:=c.id },role:=2,leads:=-1 } lv wv dv ov rows:=h4'
 clear h4'
 have w4:=m4.wf w3
 obtain ⟨S5,q5,h5',m5,n5⟩:=h4.w_votes w4 (2 ^ n)
 have h5:CoreAt S5 a { c with h:={ c.h with term:=c.h.term+1,vote:=c.id },role:=2,leads:=-1,votes:=(2:Int) ^ n } lv wv dv ov rows:=h5'
 clear h5'
 have w5:=m5.wf w4
 have mv5:=((((m1.trans w (Mv.of xb)).trans w m2).trans w m3).trans w m4).trans w m5
 generalize hc1:({ c with h:={ c.h with term:=c.h.term+1,vote:=c.id },role:=2,leads:=-1,votes:=(2:Int) ^ n }:Core)=c1 at h5
 have xb5:Ext S5 (⟨S5.next+7,S5.heap⟩:St):=(Ext.refl S5).bump 7
 have hw2:wr .u64 (n:Int)=(n:Int):=wru n hn7
 refine e51 ?_
 simp only [m51,aI,oJ,dV,hJ,sU,aNq,eO,kM,aG,aF,Nat.reduceAdd,cR,mD,h.r_term,bK,hw,q1,aL,h1.r_id,aEt,hn,hw2,xO hn7]
 rw [hn] at q2
 have hid1:({ c with h:={ c.h with term:=c.h.term+1 } }:Core).id=(n:Int):=hn
 simp only [hid1,hw2,xO hn7,aF,q2,q3,q4,q5,aL,h5.r_votes]
 have ok1:Hok c1.h:=by
  rw [←hc1]
  have k:=ok
  exact ⟨by show 0≤c.h.term+1;omega,by show c.h.term+1≤_;omega,by show -1≤c.id;omega,by show c.id<7;omega,k.m0,k.m1,k.b0,k.b1,k.bt0,by show c.h.baseTerm≤c.h.term+1;have:=k.bt1;omega,k.btz,k.ll,k.li,lY (by show c.h.term≤c.h.term+1;omega) k.fl,k.sz,k.sl⟩
 have el1:c1.last=c.last:=by rw [←hc1];rfl
 have hv1:c1.votes=2 ^ n:=by rw [←hc1]
 have hstand:c.stand=(if jG c1.members c1.votes=true then c1.lead else c1.others.foldl (fun d f=>d.post { Letter.zero with kind:=1,to:=f,index:=d.last,at':=d.term d.last }) c1):=by
  unfold Core.stand;simp only
  rw [show c.id.toNat=n by omega,hc1,hv1]
 have in5:CoreIn S5 a c1 (own a lv wv dv ov):=⟨_,_,_,_,_,h5,rfl⟩
 refine (g47 (xb5.wf w5) (in5.ext w5 xb5) ok1).call fun S6 x6=>?_
 have x56:=xb5.trans x6
 have w6:=x56.wf w5
 have h6:=h5.ext w5 x56
 have in6:=in5.ext w5 x56
 simp only [h6.r_votes,aF,bO,aJ]
 refine (g84 _ _ S6 w6 (by rw [hv1];omega) (by rw [hv1];omega)).call fun S7 x7=>?_
 have w7:=x7.wf w6
 have in7:=in6.ext w6 x7
 have mv7:=mv5.trans w (Mv.of (x56.trans x7))
 have eid:c1.id=c.id:=by rw [←hc1]
 have esure:c1.sure=c.sure:=by rw [←hc1]
 have eout:c1.out=c.out:=by rw [←hc1]
 have hl1:c1.out.length≤999990:=by rw [eout];exact hl
 have ebase:c1.h.base=c.h.base:=by rw [←hc1]
 rw [hstand]
 refine Ok.pick (fun e=>?_) (fun e=>?_)
 ·rw [if_pos e]
  exact Meth.call (g85 w7 in7 ok1 (by rw [eid];exact i0) (by rw [eid];exact i1) (by rw [←hc1];show 1≤c.h.term+1;omega) (by rw [ebase,esure];exact hs0) (by rw [esure,el1];exact hs1) (by rw [eout];exact hl)) w7 fun S8 O8 w8 in8 m8=>Ok.ret ⟨rfl,O8,in8,mv7.trans w m8⟩
 ·rw [e,if_neg (by decide)]
  refine Does.call (g82 w7 in7 ok1) fun u S8 ⟨x8,own8⟩=>?_
  have w8:=x8.wf w7
  simp only [aKb,own8.sl.lenI,aF]
  rw [←jK]
  have hlen7:c1.others.length≤7:=Nat.le_trans (List.length_filter_le _ _) (vX _)
  refine Ok.loopL (F:=fun k K=>aE9 (aE prog aW aX k) k K (.ptr a 0 0 0) u (.int .i64 c1.others.length)) (ρ:=Core) (α:=Int) (X:=Core) c1.others (fin:=id) (s:=c1)
   (out:=fun k K x S'=>K (.tup []) S')
   (fun i d vs S'=>Told Core.send a c1 S7 (own a lv wv dv ov) u i d vs S'∧Sl S' 1 u (c1.others.map oN))
   (fun d x S'=>d=x∧∃ O',CoreIn S' a d O'∧Mv (own a lv wv dv ov) S7 O' S') ?_ ?_ ⟨⟨rfl,w8,⟨_,in7.ext w7 x8,Mv.of x8,fun y hy hOy=>?_⟩,Sent.refl c1,Nat.le_refl _⟩,own8.sl⟩ (fun x S' ⟨e,O',h1,h2⟩=>Ok.ret ⟨rfl,O',e▸h1,mv7.trans w h2⟩)
  ·rintro i f d vs S9 ⟨⟨rfl,w9,⟨O9,h9,m9,f9⟩,s9,l9⟩,sl9⟩ hi
   have hil:=(List.getElem?_eq_some_iff.1 hi).1
   have hlt:(i:Int)<(c1.others.length:Int):=by omega
   have hwi:wr .i64 ((i:Int)+1)=((i+1:Nat):Int):=by rw [cS (by omega) (by omega)];omega
   obtain ⟨p,hp',hat,_,_⟩:=sl9.elem hi
   have hat0:aR none p S9=.ok (.int .i64 f):=by rw [hat.load0];rfl
   have okd:Hok d.h:=by rw [s9.h];exact ok1
   simp only [aE9,aY,aZ,aF,hlt,decide_true,bA,aUe,hp',cR,hat0]
   refine (g46 h9 okd).callL fun Sa xa=>?_
   have wa:=xa.wf w9
   have ina:=h9.ext w9 xa
   refine (g46 ina okd).callL fun Sb xb=>?_
   have wb:=xb.wf wa
   have inb:=ina.ext wa xb
   refine (g62 inb okd (n:=d.last) (by have:=okd.li;unfold Core.last cF;omega) (Int.le_refl _)).callL fun Sc xc=>?_
   have wc:=xc.wf wb
   have inc:=inb.ext wb xc
   have xac:=xa.trans (xb.trans xc)
   simp only [jB,aNz,aF]
   refine Meth.callL (g86 _ .nils wc inc (Apart.nil _ _ rfl) (aIy l9 hl1 hil hlen7)) wc fun Sd Od wd ind md=>?_
   simp only [bK,hwi,aF]
   obtain ⟨sld,fd⟩:=vY wc (sl9.ext xac) f9 md
   refine OkL.next ⟨_,rfl,⟨rfl,wd,⟨Od,ind,(m9.trans w7 (Mv.of xac)).trans w7 md,fd⟩,s9.trans (Sent.post d _),?_⟩,sld⟩
   rw [aH4];exact Nat.add_le_add_right l9 1
  ·rintro d vs S9 ⟨⟨rfl,w9,⟨O9,h9,m9,f9⟩,s9,l9⟩,sl9⟩
   refine ⟨d,⟨rfl,O9,h9,m9⟩,fun k K bD=>?_⟩
   have hlt:¬ (((c1.others.length:Nat):Int))<c1.others.length:=by omega
   simp only [aE9,aY,aZ,aF,hlt,decide_false,aK]
  ·have h1:=(jD own8 hy).1
   have h2:=kZ w7 in7 y hOy
   omega
end
end
section
variable [Guard]
section
variable {S:St} {a:Nat} {c:Core} {O:Nat→Prop}
theorem g18 (cH:Int) (w:WF S) (h:CoreIn S a c O) (I:Inv c) (hl:c.out.length≤999990):Meth 18 [.ptr a 0 0 0,.int .i64 cH] a (c.tick cH) S O (.tup []):=by
 have ok:=I.h
 have f0:=I.f0
 have f1:=I.f1
 have hmr:=eN ok
 obtain ⟨lv,wv,dv,ov,rows,h,rfl⟩:=h
 have hw:wr .i64 (c.left - 1)=c.left - 1:=cS (by omega) (by omega)
 obtain ⟨S1,q1,h1,m1,n1⟩:=h.w_left w (c.left - 1)
 have w1:=m1.wf w
 refine e18 ?_
 simp only [m18,aI,oK,hJ,aG,aF,Nat.reduceAdd,cR,mD,h.r_left,cE,hw,q1,h1.r_left,bX]
 have htick:c.tick cH=(if 0<c.left - 1 then { c with left:=c.left - 1 } else if c.role=3 then ({ c with left:=3 }:Core).spread else
  if c.h.term<1099511627776∧(cN c.members c.id=true∨c.sure<(eP c.h).2) then ({ c with drawn:=cV cH,left:=cV cH }:Core).stand else { c with drawn:=cV cH,left:=cV cH }):=rfl
 rw [htick]
 refine Ok.pickP (fun e=>Ok.ret ⟨rfl,_,⟨_,_,_,_,_,by rw [if_pos e];exact h1,rfl⟩,m1⟩) (fun e=>?_)
 rw [if_neg e]
 simp only [h1.r_role,aF,aS,aJ,bR]
 refine Ok.pickP (fun e2=>?_) (fun e2=>?_)
 ·rw [if_pos e2]
  obtain ⟨S2,q2,h2',m2,n2⟩:=h1.w_left w1 3
  have h2:CoreAt S2 a { c with left:=3 } lv wv dv ov rows:=h2'
  clear h2'
  simp only [aI,oK,aG,aF,Nat.reduceAdd,mD,q2]
  have w2:=m2.wf w1
  exact Meth.call (g48 w2 ⟨_,_,_,_,_,h2,rfl⟩ ok hl (fun hr p hp=>Pok.of (c:=c) (d:={ c with left:=3 }) rfl (I.pr hr p hp))) w2 fun S3 O3 w3 in3 m3=>Ok.ret ⟨rfl,O3,in3,(m1.trans w m2).trans w m3⟩
 ·rw [if_neg e2]
  refine (g34 cH S1).call fun S2 x2=>?_
  have w2:=x2.wf w1
  have h2:=h1.ext w1 x2
  obtain ⟨S3,q3,h3',m3,n3⟩:=h2.w_drawn w2 (cV cH)
  have h3:CoreAt S3 a { c with left:=c.left - 1,drawn:=cV cH } lv wv dv ov rows:=h3'
  clear h3'
  have w3:=m3.wf w2
  obtain ⟨S4,q4,h4',m4,n4⟩:=h3.w_left w3 (cV cH)
  have h4:CoreAt S4 a { c with drawn:=cV cH,left:=cV cH } lv wv dv ov rows:=h4'
  clear h4'
  have w4:=m4.wf w3
  have mv4:=((m1.trans w (Mv.of x2)).trans w m3).trans w m4
  generalize hc4:({ c with drawn:=cV cH,left:=cV cH }:Core)=c4 at h4
  have e4:c4.h=c.h:=by rw [←hc4]
  have eid:c4.id=c.id:=by rw [←hc4]
  have es:c4.sure=c.sure:=by rw [←hc4]
  have eo:c4.out=c.out:=by rw [←hc4]
  have hll:=ok.ll
  simp only [aI,aA3,oK,dV,aG,aF,Nat.reduceAdd,cR,mD,q3,h3.r_drawn,q4,mE,h4.r_hard]
  rw [e4]
  refine (g49 c.h lv S4 w4 (by rw [←e4];exact h4.log.sl) (by omega) ok.b0 ok.b1).call fun S5 x5=>?_
  have w5:=x5.wf w4
  have h5:=h4.ext w4 x5
  have in5:CoreIn S5 a c4 (own a lv wv dv ov):=⟨_,_,_,_,_,h5,rfl⟩
  have mv5:=mv4.trans w (Mv.of x5)
  have hm:(eP c.h).1=c.members:=rfl
  simp only [eH,List.getElem?_cons_zero,List.getElem?_cons_succ,iP,aI,dV,oJ,eO,aG,aF,Nat.reduceAdd,cR,h5.r_term,h5.r_id,aZ,e4,eid]
  have stand:(S6:St)→(x:Ext S5 S6)→(e3:c.h.term<1099511627776∧(cN c.members c.id=true∨c.sure<(eP c.h).2))→Ok (fun k K=>aE prog aW aX k 51 [.ptr a 0 0 0] S6 fun t31 S32=>K (.tup []) S32) (fun u S'=>u=.tup []∧∃ O',CoreIn S' a (if c.h.term<1099511627776∧(cN c.members c.id=true∨c.sure<(eP c.h).2) then c4.stand else c4) O'∧Mv (own a lv wv dv ov) S O' S'):=fun S6 x e3=>by
   rw [if_pos e3]
   have w6:=x.wf w5
   exact Meth.call (g51 w6 (in5.ext w5 x) (by rw [e4];exact ok) (by rw [eid];exact I.i0) (by rw [eid];exact I.i1) (by rw [e4];exact e3.1) (by rw [e4,es];exact I.s0) (by unfold Core.last;rw [e4,es];exact I.s1) (by rw [eo];exact hl)) w6 fun S7 O7 w7 in7 m7=>Ok.ret ⟨rfl,O7,in7,(mv5.trans w (Mv.of x)).trans w m7⟩
  refine Ok.pickP (fun e3=>?_) (fun e3=>?_)
  ·refine (g50 _ _ S5 (by rw [hm];omega)).call fun S6 x6=>?_
   have h6:=h5.ext w5 x6
   refine Ok.pick (fun e5=>?_) (fun e5=>?_)
   ·exact stand S6 x6 ⟨e3,.inl e5⟩
   ·simp only [aI,jC,aG,Nat.reduceAdd,cR,h6.r_sure,aF,bX,es]
    refine Ok.pickP (fun e6=>?_) (fun e6=>?_)
    ·exact stand S6 x6 ⟨e3,.inr e6⟩
    ·refine Ok.ret ⟨rfl,_,?_,mv5.trans w (Mv.of x6)⟩
     rw [if_neg (fun q=>by
      rcases q.2 with q | q
      ·rw [hm] at e5;rw [e5] at q;cases q
      ·exact e6 q)]
     exact in5.ext w5 x6
  ·refine Ok.ret ⟨rfl,_,?_,mv5⟩
   rw [if_neg (fun q=>e3 q.1)]
   exact in5
end
end
section
variable [Guard]
theorem Sl.isv {S:St} {n:Nat} {v:V} {es:List (List V)} (h:Sl S n v es):v=.nils∨(∃ a,v=.imm a)∨∃ a b d e f,v=.sl a b d e f:=by
 rcases h.is with ⟨h,_⟩ | h | ⟨a,ver,off,elems,h,_⟩
 ·exact .inl h
 ·exact .inr (.inl ⟨_,h⟩)
 ·exact .inr (.inr ⟨_,_,_,_,_,h⟩)
theorem aQ5 {u:V} (hu:u=.nils∨(∃ a,u=.imm a)∨∃ a b d e f,u=.sl a b d e f) (t i at':Int) (l:List Entry):dX [.int .i64 0,.int .i64 0,.int .i64 0,.int .i64 0,.int .i64 0,.str [],.nils] [(0,1),(1,1),(2,1),(3,1),(4,1),(5,1),(6,1)] [(0,.int .i64 t),(1,.int .i64 (-1)),(2,.int .i64 i),(3,.int .i64 at'),(4,.int .i64 1),(6,u)]=
  .ok (.agg (aV ⟨t,-1,i,at',1,[],l⟩ u)):=by
 rcases hu with rfl | ⟨a,rfl⟩ | ⟨a,b,d,e,f,rfl⟩<;>rfl
theorem bAn (m:Letter) (u:V) (S:St) (w:WF S) (hu:Sl S 3 u (m.entries.map bM)) (i0:0≤m.index) (i1:m.index≤1099511627776):mG 104 [.agg (aO m u)] S (.bool (gK m)):=by
 have ho:=cB m hu.one
 have hln:(aO m u).length=13:=rfl
 obtain ⟨S1,hn1,x1,hg1,hnx1⟩:=nb w 13 (aO m u)
 have w1:=x1.wf w
 have hw:wr .i64 (1099511627776 - m.index)=1099511627776 - m.index:=cS (by omega) (by omega)
 refine bA9 ?_
 simp only [aPm,bH,ho,hln,aJ,hn1,aF,eV,kO,cI,fE,aG,eC,cR,fI hg1,bI hg1,kP hg1,gB hg1,eA,hu.lenI,bX,cE,hw]
 refine Ok.pickP (fun e=>Ok.ret ⟨by unfold gK;rw [decide_eq_false (by omega)];rfl,x1⟩) (fun e=>?_)
 refine Ok.pickP (fun e2=>Ok.ret ⟨by unfold gK;rw [decide_eq_true (by omega:m.entries.length≤8),decide_eq_false (by omega)];rfl,x1⟩) (fun e2=>?_)
 have hE:gK m=fQ ⟨m.term,-1,m.index,m.at',1,if 0<m.index then [115] else [],m.entries⟩:=by
  unfold gK;rw [decide_eq_true (by omega:m.entries.length≤8),decide_eq_true (by omega:(m.entries.length:Int)≤1099511627776 - m.index)];rfl
 rw [hE]
 have hoH:=dG ⟨m.term,-1,m.index,m.at',1,[],m.entries⟩ hu.one
 obtain ⟨S2,S3,q1,q2,x3,hg3,hn3⟩:=vb w1 7 [.int .i64 0,.int .i64 0,.int .i64 0,.int .i64 0,.int .i64 0,.str [],.nils] (.agg (aV ⟨m.term,-1,m.index,m.at',1,[],m.entries⟩ u)) rfl rfl hoH
 rw [bH] at hg3
 have w3:=x3.wf w1
 have x03:=x1.trans x3
 have g3:=x3.old _ _ hg1
 simp only [aVz,aQ5 (Sl.isv hu) m.term m.index m.at' m.entries,q1,q2,aF,aLr,bI g3]
 refine Ok.pickP (fun e3=>?_) (fun e3=>?_)
 ·rw [if_pos e3]
  have e5:=dD (S:=S3) (x:=.str [115]) (j:=0+5) (m:=1) hg3 rfl rfl (by show 0+5+1≤7;omega)
  have c5:splice (aV ⟨m.term,-1,m.index,m.at',1,[],m.entries⟩ u) (0+5) (V.str [115]).cells=aV ⟨m.term,-1,m.index,m.at',1,[115],m.entries⟩ u:=rfl
  rw [c5] at e5
  have hlt:S1.next<S3.next:=w3 _ _ hg3
  have x4:Ext S (⟨S3.next,S3.heap.put S1.next (.row 0 7 [aV ⟨m.term,-1,m.index,m.at',1,[115],m.entries⟩ u])⟩:St):=x03.set x1.next hlt w _
  have va:aR (some 7) (.ptr S1.next 0 0 0) (⟨S3.next,S3.heap.put S1.next (.row 0 7 [aV ⟨m.term,-1,m.index,m.at',1,[115],m.entries⟩ u])⟩:St)=.ok (.agg (aV ⟨m.term,-1,m.index,m.at',1,[115],m.entries⟩ u)):=by
   rw [uC];exact cM _ _ rfl
  simp only [kN,aG,aF,st9,e5,mE,va]
  refine (g33 ⟨m.term,-1,m.index,m.at',1,[115],m.entries⟩ u _ (x4.wf w) (hu.ext x4) (by show m.entries.length≤1000000;omega)).call fun S5 x5=>?_
  exact Ok.ret ⟨rfl,x4.trans x5⟩
 ·rw [if_neg e3]
  have va:aR (some 7) (.ptr S1.next 0 0 0) S3=.ok (.agg (aV ⟨m.term,-1,m.index,m.at',1,[],m.entries⟩ u)):=by rw [bB _ _ _ _ _ (bC hg3)];exact cM _ _ rfl
  simp only [mE,va,aF]
  refine (g33 ⟨m.term,-1,m.index,m.at',1,[],m.entries⟩ u S3 w3 (hu.ext x03) (by show m.entries.length≤1000000;omega)).call fun S5 x5=>?_
  exact Ok.ret ⟨rfl,x03.trans x5⟩
theorem bAo (m:Letter) (u:V) (S:St) (w:WF S) (hu:Sl S 3 u (m.entries.map bM)):mG 105 [.agg (aO m u)] S (.bool (jH m)):=by
 have ho:=cB m hu.one
 have hln:(aO m u).length=13:=rfl
 obtain ⟨S1,hn1,x1,hg1,hnx1⟩:=nb w 13 (aO m u)
 refine bAa ?_
 simp only [aPo,bH,ho,hln,aJ,hn1,aF,cI,fE,pX,iK,mZ,kY,aG,uE,cR,bI hg1,gB hg1,dW hg1,aS,bR]
 refine Ok.pickP (fun e=>Ok.ret ⟨by unfold jH;rw [decide_eq_false (by simpa using e)];rfl,x1⟩) (fun e=>?_)
 refine Ok.pickP (fun e2=>Ok.ret ⟨by unfold jH;rw [decide_eq_true e,decide_eq_false (by simpa using e2)];rfl,x1⟩) (fun e2=>?_)
 refine (aBk _ _ _ S1).call fun S2 x2=>?_
 have x02:=x1.trans x2
 have g2:=x2.old _ _ hg1
 simp only [dS,aF]
 refine Ok.pick (fun e3=>Ok.ret ⟨by unfold jH;rw [decide_eq_true e,decide_eq_true e2,show nC m.members 1 127=false by simpa using e3];rfl,x02⟩) (fun e3=>?_)
 have e3':nC m.members 1 127=true:=by simpa using e3
 simp only [fH g2,aF]
 refine (aBk _ _ _ S2).call fun S3 x3=>?_
 have x03:=x02.trans x3
 have g3:=x3.old _ _ g2
 simp only [dS,aF]
 refine Ok.pick (fun e4=>Ok.ret ⟨by unfold jH;rw [decide_eq_true e,decide_eq_true e2,e3',show nC m.size 1 65536=false by simpa using e4];rfl,x03⟩) (fun e4=>?_)
 have e4':nC m.size 1 65536=true:=by simpa using e4
 have r4:=e4'
 simp only [nC,Bool.and_eq_true,decide_eq_true_eq] at r4
 have hw1:wr .i64 (m.size - 1)=m.size - 1:=cS (by omega) (by omega)
 simp only [gL g3,fH g3,aF,cE,hw1]
 refine (aBk _ _ _ S3).call fun S4 x4=>?_
 have x04:=x03.trans x4
 have g4:=x4.old _ _ g3
 simp only [dS,aF]
 refine Ok.pick (fun e5=>Ok.ret ⟨by unfold jH;rw [decide_eq_true e,decide_eq_true e2,e3',e4',show nC m.off 0 (m.size - 1)=false by simpa using e5];rfl,x04⟩) (fun e5=>?_)
 have e5':nC m.off 0 (m.size - 1)=true:=by simpa using e5
 have r5:=e5'
 simp only [nC,Bool.and_eq_true,decide_eq_true_eq] at r5
 have hw2:wr .i64 (m.size - m.off)=m.size - m.off:=cS (by omega) (by omega)
 have hP:jH m=(decide (1≤m.data.length)&&(decide (m.data.length≤600)&&decide ((m.data.length:Int)≤m.size - m.off))):=by
  unfold jH;rw [decide_eq_true e,decide_eq_true e2,e3',e4',e5'];rfl
 rw [hP]
 simp only [hM g4,gL g4,fH g4,aF,kG,dA,dH,cE,hw2]
 refine Ok.pickP (fun e6=>?_) (fun e6=>Ok.ret ⟨by rw [decide_eq_false (by omega)];rfl,x04⟩)
 rw [decide_eq_true (by omega:1≤m.data.length)]
 refine Ok.pickP (fun e7=>?_) (fun e7=>Ok.ret ⟨by rw [decide_eq_false (by omega)];rfl,x04⟩)
 rw [decide_eq_true (by omega:m.data.length≤600)]
 exact Ok.ret ⟨rfl,x04⟩
end
section
variable [Guard]
theorem aQ6 (p q:Prop) [Decidable p] [Decidable q]:(decide p == decide q)=decide (p↔q):=by
 by_cases a:p<;>by_cases b:q<;>simp [a,b]
theorem g87 (m:Letter) (u:V) (S:St) (w:WF S) (hu:Sl S 3 u (m.entries.map bM)):mG 87 [.agg (aO m u)] S (.bool (dB m)):=by
 have ho:=cB m hu.one
 have hln:(aO m u).length=13:=rfl
 obtain ⟨S1,hn1,x1,hg1,hnx1⟩:=nb w 13 (aO m u)
 have w1:=x1.wf w
 refine e87 ?_
 simp only [m87,bH,ho,hln,aJ,hn1,aF,lT,cW,vU,kO,cI,fE,oG,iK,aG,uD,cR,nP hg1]
 refine (bAk m u S1 w1 (hu.ext x1)).call fun S2 x2=>?_
 have x02:=x1.trans x2
 have g2:=x2.old _ _ hg1
 simp only [dS,aF]
 refine Ok.pick (fun e=>Ok.ret ⟨by unfold dB;rw [show gG m=false by simpa using e];rfl,x02⟩) (fun e=>?_)
 have k0:gG m=true:=by simpa using e
 simp only [cG g2,aF]
 refine (aBk _ _ _ S2).call fun S3 x3=>?_
 have x03:=x02.trans x3
 have g3:=x3.old _ _ g2
 simp only [dS,aF]
 refine Ok.pick (fun e=>Ok.ret ⟨by unfold dB;rw [k0,show nC m.from' 0 6=false by simpa using e];rfl,x03⟩) (fun e=>?_)
 have k2:nC m.from' 0 6=true:=by simpa using e
 simp only [aH0 g3,aF]
 refine (aBk _ _ _ S3).call fun S4 x4=>?_
 have x04:=x03.trans x4
 have g4:=x4.old _ _ g3
 simp only [dS,aF]
 refine Ok.pick (fun e=>Ok.ret ⟨by unfold dB;rw [k0,k2,show nC m.to 0 6=false by simpa using e];rfl,x04⟩) (fun e=>?_)
 have k3:nC m.to 0 6=true:=by simpa using e
 simp only [cG g4,aH0 g4,aF,aS,aJ,bR]
 refine Ok.pickP (fun e=>Ok.ret ⟨by unfold dB;rw [k0,k2,k3,decide_eq_false (by simpa using e)];rfl,x04⟩) (fun e=>?_)
 have kd:decide (m.from'≠m.to)=true:=decide_eq_true e
 simp only [kP g4,aF]
 refine (aBk _ _ _ S4).call fun S5 x5=>?_
 have x05:=x04.trans x5
 have g5:=x5.old _ _ g4
 simp only [dS,aF]
 refine Ok.pick (fun e=>Ok.ret ⟨by unfold dB;rw [k0,k2,k3,kd,show nC m.term 1 1099511627776=false by simpa using e];rfl,x05⟩) (fun e=>?_)
 have k4:nC m.term 1 1099511627776=true:=by simpa using e
 simp only [bI g5,aF]
 refine (aBk _ _ _ S5).call fun S6 x6=>?_
 have x06:=x05.trans x6
 have g6:=x6.old _ _ g5
 simp only [dS,aF]
 refine Ok.pick (fun e=>Ok.ret ⟨by unfold dB;rw [k0,k2,k3,kd,k4,show nC m.index 0 1099511627776=false by simpa using e];rfl,x06⟩) (fun e=>?_)
 have k5:nC m.index 0 1099511627776=true:=by simpa using e
 simp only [gB g6,kP g6,aF]
 refine (aBk _ _ _ S6).call fun S7 x7=>?_
 have x07:=x06.trans x7
 have g7:=x7.old _ _ g6
 simp only [dS,aF]
 refine Ok.pick (fun e=>Ok.ret ⟨by unfold dB;rw [k0,k2,k3,kd,k4,k5,show nC m.at' 0 m.term=false by simpa using e];rfl,x07⟩) (fun e=>?_)
 have k6:nC m.at' 0 m.term=true:=by simpa using e
 simp only [fL g7,aF]
 refine (aBk _ _ _ S7).call fun S8 x8=>?_
 have x08:=x07.trans x8
 have g8:=x8.old _ _ g7
 simp only [dS,aF]
 refine Ok.pick (fun e=>Ok.ret ⟨by unfold dB;rw [k0,k2,k3,kd,k4,k5,k6,show nC m.commit 0 1099511627776=false by simpa using e];rfl,x08⟩) (fun e=>?_)
 have k7:nC m.commit 0 1099511627776=true:=by simpa using e
 have r4:=k5
 have r5:=k4
 simp only [nC,Bool.and_eq_true,decide_eq_true_eq] at r4 r5
 have w8:=x08.wf w
 have hR:dB m=(if m.kind=1 then decide (m.at'=0↔m.index=0) else if m.kind=3 then decide (m.at'=0↔m.index=0)&&gK m else if m.kind=5 then jH m else if m.kind=6 then decide (m.index≠0)&&nC m.off 0 65536 else true):=by
  unfold dB;rw [k0,k2,k3,kd,k4,k5,k6,k7];rfl
 rw [hR]
 simp only [jV g8,gB g8,bI g8,gL g8,nP g8,aF,aS,eL,aJ,bR,lG,aQ6]
 refine Ok.pickP (fun e=>Ok.ret ⟨by rw [if_pos e],x08⟩) (fun e=>?_)
 rw [if_neg e]
 refine Ok.pickP (fun e1=>?_) (fun e1=>?_)
 ·rw [if_pos e1]
  refine Ok.pickP (fun e2=>?_) (fun e2=>Ok.ret ⟨by rw [decide_eq_false e2];rfl,x08⟩)
  rw [decide_eq_true e2]
  refine (bAn m u S8 w8 (hu.ext x08) r4.1 r4.2).call fun S9 x9=>?_
  exact Ok.ret ⟨rfl,x08.trans x9⟩
 rw [if_neg e1]
 refine Ok.pickP (fun e2=>?_) (fun e2=>?_)
 ·rw [if_pos e2]
  refine (bAo m u S8 w8 (hu.ext x08)).call fun S9 x9=>?_
  exact Ok.ret ⟨rfl,x08.trans x9⟩
 rw [if_neg e2]
 refine Ok.pickP (fun e3=>?_) (fun e3=>Ok.ret ⟨by rw [if_neg e3],x08⟩)
 rw [if_pos e3]
 simp only [cJ,aF]
 refine Ok.pickN (fun e4=>?_) (fun e4=>Ok.ret ⟨by rw [decide_eq_false (by simpa using e4)];rfl,x08⟩)
 rw [decide_eq_true (by simpa using e4)]
 refine (aBk _ _ _ S8).call fun S9 x9=>?_
 exact Ok.ret ⟨rfl,x08.trans x9⟩
end
section
variable [Guard]
theorem fR {S S':St} {O O':Nat→Prop} {b:Nat} {x:Blk} (w:WF S) (hb:S.heap.get b=some x) (hno:¬ O b) (k:Mv O S O' S'):S'.heap.get b=some x∧¬ O' b:=by
 refine ⟨k.keep b x hno hb,fun hO=>?_⟩
 rcases k.own b hO with h1 | h1
 ·exact hno h1
 ·have:=w b x hb;omega
abbrev zL:List V:=[.int .i64 0,.int .i64 0,.int .i64 0,.int .i64 0,.int .i64 0,.int .i64 0,.int .i64 0,.int .i64 0,.int .i64 0,.int .i64 0,.bool false,.str [],.nils]
abbrev pL:List (Nat×Nat):=[(0,1),(1,1),(2,1),(3,1),(4,1),(5,1),(6,1),(7,1),(8,1),(9,1),(10,1),(11,1),(12,1)]
theorem aRd (k f:Int):dX zL pL [(0,.int .i64 k),(2,.int .i64 f)]=.ok (.agg (aO { Letter.zero with kind:=k,to:=f } .nils)):=rfl
theorem qE (k f i:Int):dX zL pL [(0,.int .i64 k),(2,.int .i64 f),(4,.int .i64 i)]=.ok (.agg (aO { Letter.zero with kind:=k,to:=f,index:=i } .nils)):=rfl
theorem aF7 (k f:Int) (y:Bool):dX zL pL [(0,.int .i64 k),(2,.int .i64 f),(10,.bool y)]=.ok (.agg (aO { Letter.zero with kind:=k,to:=f,yes:=y } .nils)):=rfl
theorem xP (k f i:Int) (y:Bool):dX zL pL [(0,.int .i64 k),(2,.int .i64 f),(10,.bool y),(4,.int .i64 i)]=.ok (.agg (aO { Letter.zero with kind:=k,to:=f,yes:=y,index:=i } .nils)):=rfl
theorem aKj (k f i o:Int):dX zL pL [(0,.int .i64 k),(2,.int .i64 f),(4,.int .i64 i),(8,.int .i64 o)]=.ok (.agg (aO { Letter.zero with kind:=k,to:=f,index:=i,off:=o } .nils)):=rfl
section
variable {S:St} {a:Nat} {c:Core} {O:Nat→Prop}
theorem g52 (m:Letter) (ev:V) (w:WF S) (h:CoreIn S a c O) (I:Inv c) (he:Sl S 3 ev (m.entries.map bM)):mG 52 [.ptr a 0 0 0,.agg (aO m ev)] S (.bool (c.passed m)):=by
 have ho:=cB m he.one
 have hln:(aO m ev).length=13:=rfl
 obtain ⟨S1,hn1,x1,hg1,hnx1⟩:=nb w 13 (aO m ev)
 have w1:=x1.wf w
 have xb:Ext S1 (⟨S1.next+12,S1.heap⟩:St):=(Ext.refl S1).bump 12
 have x1b:=x1.trans xb
 have hw:wr .i64 (c.drawn - c.left)=c.drawn - c.left:=by have:=I.d0;have:=I.d1;have:=I.f0;have:=I.f1;exact cS (by omega) (by omega)
 refine e52 ?_
 simp only [m52,bH,ho,hln,aJ,hn1,aF,uD,aL,nP hg1]
 refine (g87 m ev _ (xb.wf w1) (he.ext x1b)).call fun S3 x3=>?_
 have x03:=x1b.trans x3
 have g3:=x3.old _ _ (xb.old _ _ hg1)
 obtain ⟨lv,wv,dv,ov,rows,h3,_⟩:=h.ext w x03
 have xe:Ext S (⟨S3.next+30,S3.heap⟩:St):=x03.bump 30
 simp only [dS,aF]
 refine Ok.pick (fun e=>Ok.ret ⟨by unfold Core.passed;rw [if_pos (.inl (by simpa using e))],x03⟩) (fun e=>?_)
 simp only [aI,oJ,hJ,sU,aA3,oK,lT,vU,aG,Nat.reduceAdd,aF,cR,aL,aH0 g3,jV g3,h3.r_id,h3.r_role,h3.r_leads,h3.r_drawn,h3.r_left,aS,aJ,cJ,bR,cE,hw,aZ]
 refine Ok.pickN (fun e2=>Ok.ret ⟨by unfold Core.passed;rw [if_pos (.inr e2)],x03⟩) (fun e2=>?_)
 have hp:c.passed m=(decide (m.kind=1)&&(decide (c.role=3)||(decide (c.leads≠-1)&&decide (c.drawn - c.left<10)))):=by
  unfold Core.passed;rw [if_neg (fun q=>by
   rcases q with q | q
   ·rw [q] at e;cases e
   ·exact q e2)]
 rw [hp]
 refine Ok.pickP (fun e3=>?_) (fun e3=>Ok.ret ⟨by rw [decide_eq_false e3];rfl,xe⟩)
 rw [decide_eq_true e3]
 refine Ok.pickP (fun e4=>Ok.ret ⟨by rw [decide_eq_true e4];rfl,xe⟩) (fun e4=>?_)
 rw [decide_eq_false e4]
 refine Ok.pickN (fun e5=>Ok.ret ⟨by rw [decide_eq_true e5];rfl,xe⟩) (fun e5=>Ok.ret ⟨by rw [decide_eq_false (fun q=>q e5)];rfl,xe⟩)
theorem g53 (m:Letter) (ev:V) (w:WF S) (h:CoreIn S a c O) (ok:Hok c.h) (he:Sl S 3 ev (m.entries.map bM)) (hl:c.out.length≤999990):Meth 53 [.ptr a 0 0 0,.agg (aO m ev)] a (c.late m) S O (.tup []):=by
 have ho:=cB m he.one
 have hln:(aO m ev).length=13:=rfl
 obtain ⟨S1,hn1,x1,hg1,hnx1⟩:=nb w 13 (aO m ev)
 have w1:=x1.wf w
 have in1:=h.ext w x1
 refine e53 ?_
 simp only [m53,bH,ho,hln,aJ,hn1,aF,lT,cW,aG,cR,jV hg1,cG hg1,aS,bR,jB,aRd]
 unfold Core.late
 refine Ok.pickP (fun e=>?_) (fun e=>?_)
 ·rw [if_pos e]
  exact Meth.call (g86 _ .nils w1 in1 (Apart.nil _ _ rfl) (by omega)) w1 fun S2 O2 w2 in2 m2=>Ok.ret ⟨rfl,O2,in2,(Mv.of x1).trans w m2⟩
 rw [if_neg e]
 have ack:(m.kind=3∨m.kind=5)→Ok (fun k K=>zR (aE prog aW aX k) k K (.ptr a 0 0 0) (.ptr S.next 0 0 0) (.bool true) S1) (fun u S'=>u=.tup []∧∃ O',CoreIn S' a (if m.kind=3∨m.kind=5 then c.post { Letter.zero with kind:=4,to:=m.from',index:=c.last } else c) O'∧Mv O S O' S'):=fun hk=>by
  have xb:Ext S1 (⟨S1.next+7,S1.heap⟩:St):=(Ext.refl S1).bump 7
  rw [if_pos hk]
  simp only [zR,bA,cW,aG,aF,cR,aL,cG hg1]
  refine (g46 (in1.ext w1 xb) ok).call fun S2 x2=>?_
  have x12:=xb.trans x2
  have g2:=x12.old _ _ hg1
  have w2:=x12.wf w1
  simp only [cG g2,aF,bO,aJ,jB,qE]
  exact Meth.call (g86 _ .nils w2 (in1.ext w1 x12) (Apart.nil _ _ rfl) (by omega)) w2 fun S3 O3 w3 in3 m3=>Ok.ret ⟨rfl,O3,in3,(Mv.of (x1.trans x12)).trans w m3⟩
 refine Ok.pickP (fun e2=>ack (.inl e2)) (fun e2=>?_)
 by_cases e3:m.kind=5
 ·simp only [e3,decide_true]
  have:=ack (.inr e3)
  simp only [e3] at this
  exact this
 ·simp only [e3,decide_false,zR,aK,or_false,if_neg e2]
  exact Ok.ret ⟨rfl,O,in1,Mv.of x1⟩
theorem j54 (m:Letter) (ev:V) (yes:Bool) {b:Nat} (w:WF S) (h:CoreIn S a c O) (hb:S.heap.get b=some (.row 0 13 [aO m ev])) (hno:¬ O b) (hl:c.out.length≤999990):
  Ok (fun k K=>iZ (aE prog aW aX k) k K (.ptr a 0 0 0) (.ptr b 0 0 0) (.bool yes) S) (fun u S'=>u=.tup []∧∃ O',CoreIn S' a ((if yes=true then { c with h:={ c.h with vote:=m.from' },left:=c.drawn } else c:Core).post { Letter.zero with kind:=2,to:=m.from',yes:=yes }) O'∧Mv O S O' S'):=by
 have hin:=h
 obtain ⟨lv,wv,dv,ov,rows,h,rfl⟩:=h
 cases yes with
 | true=>
  have xb:Ext S (⟨S.next+15,S.heap⟩:St):=(Ext.refl S).bump 15
  have wb:=xb.wf w
  obtain ⟨S1,q1,h1,m1,n1⟩:=(h.ext w xb).w_vote wb m.from'
  have w1:=m1.wf wb
  obtain ⟨S2,q2,h2',m2,n2⟩:=h1.w_left w1 c.drawn
  have h2:CoreAt S2 a { c with h:={ c.h with vote:=m.from' },left:=c.drawn } lv wv dv ov rows:=h2'
  clear h2'
  have w2:=m2.wf w1
  have mv2:=((Mv.of (O:=own a lv wv dv ov) xb).trans w m1).trans w m2
  have g2:=(fR w hb hno mv2).1
  simp only [iZ,aEa,bA,aI,cW,aA3,dV,oK,kM,aG,Nat.reduceAdd,aF,cR,mD,aL,cG hb,h.r_drawn,q1,q2,cG g2,jB,aF7,if_true]
  exact Meth.call (g86 _ .nils w2 ⟨_,_,_,_,_,h2,rfl⟩ (Apart.nil _ _ rfl) (by show c.out.length≤1000000;omega)) w2 fun S3 O3 w3 in3 m3=>Ok.ret ⟨rfl,O3,in3,mv2.trans w m3⟩
 | false=>
  simp only [iZ,aEa,aK,cW,aG,Nat.reduceAdd,aF,cR,cG hb,jB,aF7]
  exact Meth.call (g86 _ .nils w hin (Apart.nil _ _ rfl) (by omega)) w fun S3 O3 w3 in3 m3=>Ok.ret ⟨rfl,O3,in3,m3⟩
theorem g54 (m:Letter) (ev:V) (w:WF S) (h:CoreIn S a c O) (ok:Hok c.h) (he:Sl S 3 ev (m.entries.map bM)) (hl:c.out.length≤999990):Meth 54 [.ptr a 0 0 0,.agg (aO m ev)] a (c.asked m) S O (.tup []):=by
 have ho:=cB m he.one
 have hln:(aO m ev).length=13:=rfl
 have hr:=cZ ok
 have hb0:=ok.b0
 obtain ⟨S1,hn1,x1,hg1,hnx1⟩:=nb w 13 (aO m ev)
 have w1:=x1.wf w
 have in1:=h.ext w x1
 have hno:¬ O S.next:=fun hO=>by have:=kZ w h _ hO;omega
 refine e54 ?_
 simp only [m54,bH,ho,hln,aJ,hn1,aF]
 refine (g46 in1 ok).call fun S2 x2=>?_
 have w2:=x2.wf w1
 have in2:=in1.ext w1 x2
 refine (g62 in2 ok (n:=c.last) (by unfold Core.last cF;omega) (Int.le_refl _)).call fun S4 x4=>?_
 have w4:=x4.wf w2
 have x04:=(x1.trans x2).trans x4
 have xb:Ext S4 (⟨S4.next+36,S4.heap⟩:St):=(Ext.refl S4).bump 36
 have x05:=x04.trans xb
 have w5:=xb.wf w4
 have in5:=h.ext w x05
 have g4:=x4.old _ _ (x2.old _ _ hg1)
 have g5:(⟨S4.next+36,S4.heap⟩:St).heap.get S.next=some (.row 0 13 [aO m ev]):=g4
 obtain ⟨lv,wv,dv,ov,rows,h4,_⟩:=h.ext w x04
 simp only [aI,dV,kM,cW,cI,fE,aG,Nat.reduceAdd,aF,cR,aL,h4.r_vote,cG g4,gB g4,bI g4,aS,aJ,bR,bX]
 have fin:∀ (S6:St) (x6:Ext S S6) (hb6:S6.heap.get S.next=some (.row 0 13 [aO m ev])) (yes:Bool),yes=((decide (c.h.vote=-1)||decide (c.h.vote=m.from'))&&(decide (c.term c.last<m.at')||(decide (m.at'=c.term c.last)&&decide (c.last≤m.index))))→
   Ok (fun k K=>iZ (aE prog aW aX k) k K (.ptr a 0 0 0) (.ptr S.next 0 0 0) (.bool yes) S6) (fun u S'=>u=.tup []∧∃ O',CoreIn S' a (c.asked m) O'∧Mv O S O' S'):=fun S6 x6 hb6 yes hy=>by
  have hA:c.asked m=(if yes=true then { c with h:={ c.h with vote:=m.from' },left:=c.drawn } else c:Core).post { Letter.zero with kind:=2,to:=m.from',yes:=yes }:=by
   unfold Core.asked;simp only;rw [←hy]
  rw [hA]
  exact (j54 m ev yes (x6.wf w) (h.ext w x6) hb6 hno hl).mono fun u S' ⟨e,O',i',m'⟩=>⟨e,O',i',(Mv.of x6).trans w m'⟩
 have second:∀ (v:Bool),v=true→(decide (c.h.vote=-1)||decide (c.h.vote=m.from'))=v→Ok (fun k K=>aC (.bool (decide (c.term c.last<m.at'))) (iZ (aE prog aW aX k) k K (.ptr a 0 0 0) (.ptr S.next 0 0 0) (.bool true) (⟨S4.next+36,S4.heap⟩:St))
   (aC (.bool (decide (m.at'=c.term c.last))) (aE prog aW aX k 46 [.ptr a 0 0 0] (⟨S4.next+36,S4.heap⟩:St) fun t31 S32=>dR (aR none (.ptr S.next 0 0 4) S32) fun t33=>bG (bN (.int .i64 m.index) t33) (dR (aD prog .geq 3 (.int .i64 m.index) t31) fun t34=>iZ (aE prog aW aX k) k K (.ptr a 0 0 0) (.ptr S.next 0 0 0) t34 S32))
    (iZ (aE prog aW aX k) k K (.ptr a 0 0 0) (.ptr S.next 0 0 0) (.bool false) (⟨S4.next+36,S4.heap⟩:St)))) (fun u S'=>u=.tup []∧∃ O',CoreIn S' a (c.asked m) O'∧Mv O S O' S'):=fun v hv hvv=>by
  subst hv
  refine Ok.pickP (fun e2=>fin _ x05 g5 true (by rw [hvv,decide_eq_true e2];rfl)) (fun e2=>?_)
  refine Ok.pickP (fun e3=>?_) (fun e3=>fin _ x05 g5 false (by rw [hvv,decide_eq_false e2,decide_eq_false e3];rfl))
  refine (g46 in5 ok).call fun S6 x6=>?_
  have g6:=x6.old _ _ g5
  have v4:aR none (.ptr S.next 0 0 4) S6=.ok (.int .i64 m.index):=bI g6
  simp only [v4,aF,bO,aJ,dA]
  exact fin S6 (x05.trans x6) g6 _ (by rw [hvv,decide_eq_false e2,decide_eq_true e3];rfl)
 refine Ok.pickP (fun e=>second true rfl (by rw [decide_eq_true e];rfl)) (fun e=>?_)
 refine Ok.pickP (fun e2=>second true rfl (by rw [decide_eq_true e2];simp)) (fun e2=>fin _ x05 g5 false (by rw [decide_eq_false e,decide_eq_false e2];rfl))
end
end
section
variable [Guard]
theorem aO0 {v:Int} {n:Nat} (h0:0≤v) (h1:v≤127) (hn:n<7):wr .i64 ((BitVec.ofInt IntKind.i64.bits v ||| BitVec.ofInt IntKind.i64.bits ((2:Int) ^ n)).toNat)=kE v (n:Int):=by
 have all:∀ a:Nat,a<128→∀ b:Nat,b<7→((a ||| 2 ^ b:Nat):Int)=kE (a:Int) (b:Int)∧(a ||| 2 ^ b)<128:=by decide +kernel
 have hp:=qB hn
 have hc:((2 ^ n:Nat):Int)=(2:Int) ^ n:=by push_cast;rfl
 have hv:v=(v.toNat:Int):=by omega
 have e:(BitVec.ofInt IntKind.i64.bits v ||| BitVec.ofInt IntKind.i64.bits ((2:Int) ^ n)).toNat=v.toNat ||| 2 ^ n:=by
  show (BitVec.ofInt 64 v ||| BitVec.ofInt 64 ((2:Int) ^ n)).toNat=_
  rw [BitVec.toNat_or,BitVec.toNat_ofInt,BitVec.toNat_ofInt]
  congr 1<;>omega
 obtain ⟨a1,a2⟩:=all v.toNat (by omega) n hn
 rw [e,cS (by omega) (by omega),a1,←hv]
section
variable {S:St} {a:Nat} {c:Core} {O:Nat→Prop}
theorem g55 (m:Letter) (ev:V) (w:WF S) (h:CoreIn S a c O) (I:Inv c) (ok:Lok m) (he:Sl S 3 ev (m.entries.map bM)) (hl:c.out.length≤999990):Meth 55 [.ptr a 0 0 0,.agg (aO m ev)] a (c.voted m) S O (.tup []):=by
 have ho:=cB m he.one
 have hln:(aO m ev).length=13:=rfl
 have f0:=ok.f0
 have f1:=ok.f1
 obtain ⟨n,hn⟩:∃ n:Nat,m.from'=(n:Int):=⟨m.from'.toNat,by omega⟩
 have hn7:n<7:=by omega
 obtain ⟨S1,hn1,x1,hg1,hnx1⟩:=nb w 13 (aO m ev)
 have w1:=x1.wf w
 have in1:=h.ext w x1
 have hin1:=in1
 obtain ⟨lv,wv,dv,ov,rows,h1,hO⟩:=in1
 have xb:Ext S1 (⟨S1.next+12,S1.heap⟩:St):=(Ext.refl S1).bump 12
 have wb:=xb.wf w1
 obtain ⟨S2,q2,h2,m2,n2⟩:=(h1.ext w1 xb).w_votes wb (kE c.votes m.from')
 rw [←hO] at m2
 have w2:=m2.wf wb
 have hor:aD prog .or 3 (.int .i64 c.votes) (.int .i64 ((2:Int) ^ n))=.ok (.int .i64 (kE c.votes m.from')):=by
  rw [hn];simp only [aD,bU,cond_true,eE,aO0 I.v0 I.v1 hn7]
 have xb2:Ext S2 (⟨S2.next+7,S2.heap⟩:St):=(Ext.refl S2).bump 7
 have hvr:=sY I.v0 I.v1 f0 (by omega:m.from'<7)
 refine e55 ?_
 simp only [m55,bH,ho,hln,aJ,hn1,aF,aI,hJ,aNq,jY,cW,aG,Nat.reduceAdd,cR,ld4,aL,h1.r_role,mR hg1,aS,cJ,dS,h1.r_votes,cG hg1,hn,aEt,wru n hn7,xO hn7,hor]
 rw [←hn]
 simp only [mD,q2,aF,aL,h2.r_votes]
 have hvo:c.voted m=if c.role≠2∨m.yes=false then c else if jG ({ c with votes:=kE c.votes m.from' }:Core).members (kE c.votes m.from')=true then ({ c with votes:=kE c.votes m.from' }:Core).lead else { c with votes:=kE c.votes m.from' }:=rfl
 rw [hvo]
 refine Ok.pickN (fun e=>Ok.ret ⟨rfl,O,by rw [if_pos (.inl e)];exact hin1,Mv.of x1⟩) (fun e=>?_)
 refine Ok.pick (fun e2=>Ok.ret ⟨rfl,O,by rw [if_pos (.inr (by simpa using e2))];exact hin1,Mv.of x1⟩) (fun e2=>?_)
 rw [if_neg (fun q=>by
  rcases q with q | q
  ·exact q e
  ·rw [q] at e2;cases e2)]
 have mv2:=(Mv.of (O:=O) (x1.trans xb)).trans w m2
 have in2:CoreIn S2 a { c with votes:=kE c.votes m.from' } O:=⟨_,_,_,_,_,h2,hO⟩
 refine (g47 (xb2.wf w2) (in2.ext w2 xb2) I.h).call fun S3 x3=>?_
 have x23:=xb2.trans x3
 have w3:=x23.wf w2
 have h3:=h2.ext w2 x23
 simp only [h3.r_votes,aF,bO,aJ]
 refine (g84 _ _ S3 w3 hvr.1 hvr.2).call fun S4 x4=>?_
 have w4:=x4.wf w3
 have in4:=in2.ext w2 (x23.trans x4)
 have mv4:=mv2.trans w (Mv.of (x23.trans x4))
 refine Ok.pick (fun e3=>?_) (fun e3=>?_)
 ·rw [if_pos e3]
  exact Meth.call (g85 w4 in4 I.h I.i0 I.i1 (by show 1≤c.h.term;exact I.tm (by rw [e];decide)) I.s0 I.s1 hl) w4 fun S5 O5 w5 in5 m5=>Ok.ret ⟨rfl,O5,in5,mv4.trans w m5⟩
 ·rw [if_neg (fun q=>by rw [q] at e3;cases e3)]
  exact Ok.ret ⟨rfl,O,in4,mv4⟩
theorem aF8 {x:Int} {i n:Nat} (i0:0≤x) (i1:x≤1099511627776) (hi:i<n) (hn:n≤8):wr .i64 ((i:Int)+1)=((i+1:Nat):Int)∧wr .i64 (x+1)=x+1∧wr .i64 (x+1+i)=x+1+i:=
 ⟨by rw [cS (by omega) (by omega)];omega,cS (by omega) (by omega),cS (by omega) (by omega)⟩
def eX (c:Core) (n:Int) (x:Entry):Bool⊕Int:=if c.h.base≤n∧n≤c.sure∧c.term n≠x.term then .inl true else .inr (n+1)
theorem aAh (c:Core):∀ (l:List Entry) (n:Int),fF (eX c) (fun _=>false) l n=jI c l n
 | [],n=>rfl
 | x::l,n=>by
  simp only [fF,eX,jI]
  by_cases h:c.h.base≤n∧n≤c.sure∧c.term n≠x.term
  ·rw [if_pos h,if_pos h]
  ·rw [if_neg h,if_neg h];exact aAh c l _
theorem g88 (m:Letter) (ev:V) (w:WF S) (h:CoreIn S a c O) (I:Inv c) (ok:Lok m) (hk:m.kind=3) (he:Sl S 3 ev (m.entries.map bM)):mG 88 [.ptr a 0 0 0,.agg (aO m ev)] S (.bool (jI c m.entries (m.index+1))):=by
 have ho:=cB m he.one
 have hln:(aO m ev).length=13:=rfl
 have hr:=cZ I.h
 have hb0:=I.h.b0
 have hs1:=I.s1
 have i0:=ok.i0
 have i1:=ok.i1
 have hlen:=(ok.k3 hk).2.1
 obtain ⟨S1,hn1,x1,hg1,hnx1⟩:=nb w 13 (aO m ev)
 have w1:=x1.wf w
 have he1:=he.ext x1
 refine e88 ?_
 simp only [m88,bH,ho,hln,aJ,hn1,aF,eV,aG,eC,fI hg1,eA,he.lenI]
 rw [←aAh]
 refine Ok.loopL (F:=fun k K=>aEo (aE prog aW aX k) k K (.ptr a 0 0 0) (.ptr S.next 0 0 0) ev (.int .i64 m.entries.length)) (ρ:=Bool) (α:=Entry) (X:=Bool) m.entries (step:=eX c) (fin:=fun _=>false) (s:=m.index+1)
  (out:=fun k K x S'=>K (.bool x) S')
  (fun i n vs S'=>vs=[.bool false,.int .i64 (i:Int)]∧n=m.index+1+i∧Ext S1 S')
  (fun r x S'=>r=x∧Ext S1 S') ?_ ?_ ⟨rfl,by simp,Ext.refl _⟩ (fun x S' ⟨e,x'⟩=>Ok.ret ⟨by rw [e],x1.trans x'⟩)
 ·rintro i x n vs S2 ⟨rfl,rfl,x2⟩ hi
  have hil:=(List.getElem?_eq_some_iff.1 hi).1
  have hlt:(i:Int)<(m.entries.length:Int):=by omega
  obtain ⟨hw,hw1,hw2⟩:=aF8 i0 i1 hil hlen
  have w2:=x2.wf w1
  obtain ⟨p,hp,hld,hst,hxv,hv⟩:=(he1.ext x2).var w2 hi [.int .i64 0,.int .i64 0,.str []] rfl
  generalize S2.var 3 [.int .i64 0,.int .i64 0,.str []] (bM x)=S3 at hst hxv hv
  have x13:=x2.trans hxv
  have w3:=x13.wf w1
  have g3:=x13.old _ _ hg1
  have x03:=x1.trans x13
  have in3:=h.ext w x03
  have hin3:=in3
  obtain ⟨lv,wv,dv,ov,rows,h3,hO⟩:=in3
  have xb:Ext S3 (⟨S3.next+23,S3.heap⟩:St):=(Ext.refl S3).bump 23
  have hnx:m.index+1+((i+1:Nat):Int)=m.index+1+i+1:=by push_cast;omega
  simp only [aEo,aY,aZ,aF,hlt,decide_true,bA,oL,hp,aBh,hld,eJ,aUf,hst,cI,aG,cR,bI g3,bK,hw1,hw2,hw,aI,dV,jC,dM,jQ,Nat.reduceAdd,aL,h3.r_base,h3.r_sure,dA,dH]
  have go:∀ (S':St),Ext S1 S'→¬ (c.h.base≤m.index+1+i∧m.index+1+i≤c.sure∧c.term (m.index+1+i)≠x.term)→OkL (fun k K x S'=>K (V.bool x) S') (fun k K bD=>bD [V.bool false,V.int .i64 ((i+1:Nat):Int)] S') (pZ (eX c) (fun i n vs S'=>vs=[V.bool false,V.int .i64 (i:Int)]∧n=m.index+1+i∧Ext S1 S') (fun r x S'=>r=x∧Ext S1 S') i (m.index+1+i) x):=fun S' x' hno=>
   OkL.next ⟨m.index+1+i+1,by unfold eX;rw [if_neg hno],rfl,hnx.symm,x'⟩
  refine OkL.pickP (fun e=>?_) (fun e=>go _ (x13.trans xb) (fun q=>e q.1))
  refine OkL.pickP (fun e2=>?_) (fun e2=>go _ (x13.trans xb) (fun q=>e2 q.2.1))
  have u0:∀ {T:St},Ext S3 T→aR none (.ptr S2.next 0 0 0) T=.ok (.int .i64 x.term):=fun xt=>by rw [hv _ xt];rfl
  simp only [u0 (Ext.refl _),aF]
  refine (g62 (hin3.ext w3 xb) I.h (n:=m.index+1+i) e (Int.le_trans e2 hs1)).callL fun S4 x4=>?_
  have x34:=xb.trans x4
  simp only [u0 x34,aF,bO,aJ,aS,cJ]
  refine OkL.pickN (fun e3=>OkL.stop true ⟨true,by unfold eX;rw [if_pos ⟨e,e2,e3⟩],rfl,x13.trans x34⟩ (by intros;rfl)) (fun e3=>go _ (x13.trans x34) (fun q=>q.2.2 e3))
 ·rintro n vs S2 ⟨rfl,rfl,x2⟩
  have hlt:¬ (m.entries.length:Int)<(m.entries.length:Int):=by omega
  refine ⟨false,⟨rfl,x2⟩,fun k K bD=>?_⟩
  simp only [aEo,aY,aZ,aF,hlt,decide_false,aK]
end
end
section
variable [Guard]
def fB (s:(Hard×Int)×Int) (x:Entry):(Hard×Int)⊕((Hard×Int)×Int):=
 if s.1.1.base<s.2∧(cF s.1.1<s.2∨termH s.1.1 s.2≠x.term) then
  (if 200<s.2 - s.1.1.base then .inl s.1 else .inr (({ s.1.1 with log:=s.1.1.log.take (s.2 - s.1.1.base - 1).toNat++[x] },s.2),s.2+1))
 else .inr ((s.1.1,s.2),s.2+1)
theorem aF9:∀ (l:List Entry) (n:Int) (h:Hard) (to:Int),fF fB (fun s=>s.1) l ((h,to),n)=eI l n h to
 | [],n,h,to=>rfl
 | x::l,n,h,to=>by
  simp only [fF,fB,eI]
  by_cases h1:h.base<n∧(cF h<n∨termH h n≠x.term)
  ·rw [if_pos h1,if_pos h1]
   by_cases h2:200<n - h.base
   ·rw [if_pos h2,if_pos h2]
   ·rw [if_neg h2,if_neg h2];exact aF9 l _ _ _
  ·rw [if_neg h1,if_neg h1];exact aF9 l _ _ _
structure OnWay (h0 h:Hard) (to n:Int):Prop where
 b:h.base=h0.base
 b0:0≤h.base
 b1:h.base≤1099511627776
 ll:h.log.length≤200
 n0:1≤n
 n1:n - 1≤cF h
 n2:n≤1099511627777
theorem OnWay.push {h0 h:Hard} {to n:Int} (o:OnWay h0 h to n) (hn:n≤1099511627776) (h1:h.base<n) (h2:¬ 200<n - h.base) (x:Entry):OnWay h0 { h with log:=h.log.take (n - h.base - 1).toNat++[x] } n (n+1):=by
 obtain ⟨b,b0,b1,ll,n0,n1,n2⟩:=o
 have hl:(h.log.take (n - h.base - 1).toNat).length=(n - h.base - 1).toNat:=by unfold cF at n1;rw [List.length_take];omega
 refine ⟨b,b0,b1,?_,by omega,?_,by omega⟩
 ·show (h.log.take (n - h.base - 1).toNat++[x]).length≤200
  rw [List.length_append,hl,List.length_singleton];omega
 ·show n+1 - 1≤h.base+((h.log.take (n - h.base - 1).toNat++[x]).length:Nat)
  rw [List.length_append,hl,List.length_singleton];omega
theorem OnWay.next2 {h0 h:Hard} {to n:Int} (o:OnWay h0 h to n) (hn:n≤1099511627776) (h1:n≤h.base∨n≤cF h) (to':Int):OnWay h0 h to' (n+1):=by
 obtain ⟨b,b0,b1,ll,n0,n1,n2⟩:=o
 refine ⟨b,b0,b1,ll,by omega,?_,by omega⟩
 have:h.base≤cF h:=by unfold cF;omega
 omega
theorem OnWay.wr1 {h0 h:Hard} {to n:Int} (o:OnWay h0 h to n):wr .i64 (n - h.base)=n - h.base∧wr .i64 (n - h.base - 1)=n - h.base - 1:=by
 obtain ⟨b,b0,b1,ll,n0,n1,n2⟩:=o
 exact ⟨cS (by omega) (by omega),cS (by omega) (by omega)⟩
theorem OnWay.cut {h0 h:Hard} {to n:Int} (o:OnWay h0 h to n) (h1:h.base<n):0≤n - h.base - 1∧n - h.base - 1≤((h.log.map bM).length:Int):=by
 obtain ⟨b,b0,b1,ll,n0,n1,n2⟩:=o
 unfold cF at n1
 rw [List.length_map]
 omega
theorem aAi (x:Int) (i:Nat):x+1+((i+1:Nat):Int)=x+1+i+1:=by push_cast;omega
theorem aO1 {x:Int} {i n:Nat} (hi:i<n) (h:(n:Int)≤1099511627776 - x):x+1+i≤1099511627776:=by omega
section
variable {S:St} {a:Nat} {c:Core} {O:Nat→Prop}
theorem aKk (f i:Int) (y:Bool):dX zL pL [(0,.int .i64 4),(2,.int .i64 f),(10,.bool y),(4,.int .i64 i)]=.ok (.agg (aO { Letter.zero with kind:=4,to:=f,yes:=y,index:=i } .nils)):=rfl
theorem j56 (m:Letter) (ev:V) (to:Int) {b:Nat} (w:WF S) (h:CoreIn S a c O) (hb:S.heap.get b=some (.row 0 13 [aO m ev])) (hno:¬ O b) (hl:c.out.length≤999990):
  Ok (fun k K=>vJ (aE prog aW aX k) k K (.ptr a 0 0 0) (.ptr b 0 0 0) (.int .i64 to) S) (fun u S'=>u=.tup []∧∃ O',CoreIn S' a (({ c with sure:=max c.sure (min m.commit to) }:Core).post { Letter.zero with kind:=4,to:=m.from',yes:=true,index:=to }) O'∧Mv O S O' S'):=by
 obtain ⟨lv,wv,dv,ov,rows,h,rfl⟩:=h
 have xb:Ext S (⟨S.next+13,S.heap⟩:St):=(Ext.refl S).bump 13
 have wb:=xb.wf w
 obtain ⟨S1,q1,h1,m1,n1⟩:=(h.ext w xb).w_sure wb (max c.sure (min m.commit to))
 have w1:=m1.wf wb
 have mv1:=(Mv.of (O:=own a lv wv dv ov) xb).trans w m1
 have g1:=(fR w hb hno mv1).1
 simp only [vJ,aI,jC,oG,cW,aG,Nat.reduceAdd,aF,cR,aL,h.r_sure,fL hb,lZ,uG,mD,q1,cG g1,jB,aKk]
 exact Meth.call (g86 _ .nils w1 ⟨_,_,_,_,_,h1,rfl⟩ (Apart.nil _ _ rfl) (by show c.out.length≤1000000;omega)) w1 fun S2 O2 w2 in2 m2=>Ok.ret ⟨rfl,O2,in2,mv1.trans w m2⟩
end
end
section
variable [Guard]
section
variable {S:St} {a:Nat} {c:Core} {O:Nat→Prop}
structure EnterI (a:Nat) (c:Core) (O:Nat→Prop) (S:St) (b:Nat) (m:Letter) (ev:V) (h:Hard) (S':St) (O':Nat→Prop):Prop where
 wf:WF S'
 core:CoreIn S' a { c with h:=h } O'
 mv:Mv O S O' S'
 box:S'.heap.get b=some (.row 0 13 [aO m ev])
 no:¬ O' b
 ents:Sl S' 3 ev (m.entries.map bM)
 off:∀ y,bJ ev=some y→¬ O' y
theorem EnterI.next {b:Nat} {m:Letter} {ev:V} {h h':Hard} {S' S'':St} {O' O'':Nat→Prop} (w:WF S) (e:EnterI a c O S b m ev h S' O') (i:CoreIn S'' a { c with h:=h' } O'') (k:Mv O' S' O'' S''):EnterI a c O S b m ev h' S'' O'':=by
 obtain ⟨b1,b2⟩:=fR e.wf e.box e.no k
 obtain ⟨s1,s2⟩:=vY e.wf e.ents e.off k
 exact ⟨k.wf e.wf,i,e.mv.trans w k,b1,b2,s1,s2⟩
theorem l56 (m:Letter) (ev:V) {b:Nat} (w:WF S) (E:EnterI a c O S b m ev c.h S O) (b0:0≤c.h.base) (b1:c.h.base≤1099511627776) (ll:c.h.log.length≤200) (i0:0≤m.index) (i1:m.index≤1099511627776) (hlen:m.entries.length≤8) (hli:(m.entries.length:Int)≤1099511627776 - m.index) (hix:m.index≤c.last) (hl:c.out.length≤999990):
  Ok (fun k K=>cQ k [.int .i64 m.index,.int .i64 0] S (zS (aE prog aW aX k) k K (.ptr a 0 0 0) (.ptr b 0 0 0) ev (.int .i64 m.entries.length))) (fun u S'=>u=.tup []∧∃ O',CoreIn S' a (({ c with h:=(eI m.entries (m.index+1) c.h m.index).1,sure:=max c.sure (min m.commit (eI m.entries (m.index+1) c.h m.index).2) }:Core).post { Letter.zero with kind:=4,to:=m.from',yes:=true,index:=(eI m.entries (m.index+1) c.h m.index).2 }) O'∧Mv O S O' S'):=by
 rw [←aF9]
 refine Ok.loopL (F:=fun k K=>zS (aE prog aW aX k) k K (.ptr a 0 0 0) (.ptr b 0 0 0) ev (.int .i64 m.entries.length)) (ρ:=Hard×Int) (α:=Entry) (X:=Hard×Int) m.entries (step:=fB) (fin:=fun s=>s.1) (s:=((c.h,m.index),m.index+1))
  (out:=fun k K r S'=>vJ (aE prog aW aX k) k K (.ptr a 0 0 0) (.ptr b 0 0 0) (.int .i64 r.2) S')
  (fun i s vs S'=>vs=[.int .i64 s.1.2,.int .i64 (i:Int)]∧s.2=m.index+1+i∧OnWay c.h s.1.1 s.1.2 s.2∧∃ O',EnterI a c O S b m ev s.1.1 S' O')
  (fun r x S'=>r=x∧∃ O',EnterI a c O S b m ev r.1 S' O') ?_ ?_ ⟨rfl,by simp,⟨rfl,b0,b1,ll,by show 1≤m.index+1;omega,by show m.index+1 - 1≤cF c.h;unfold Core.last at hix;omega,by show m.index+1≤_;omega⟩,O,E⟩ (fun r S' ⟨e,O',E'⟩=>?_)
 ·rintro i x ⟨⟨h,to⟩,n⟩ vs S2 ⟨rfl,hn,ow,O2,E2⟩ hi
  simp only at hn ow E2
  have hil:=(List.getElem?_eq_some_iff.1 hi).1
  have hlt:(i:Int)<(m.entries.length:Int):=Int.ofNat_lt.2 hil
  obtain ⟨hw,hw1,hw2⟩:=aF8 i0 i1 hil hlen
  rw [←hn] at hw2
  have hnn:m.index+1+((i+1:Nat):Int)=n+1:=by rw [aAi,←hn]
  have hnle:n≤1099511627776:=by rw [hn];exact aO1 hil hli
  have w2:=E2.wf
  obtain ⟨p,hp,hld,hst,hxv,hv⟩:=E2.ents.var w2 hi [.int .i64 0,.int .i64 0,.str []] rfl
  generalize S2.var 3 [.int .i64 0,.int .i64 0,.str []] (bM x)=S3 at hst hxv hv
  have w3:=hxv.wf w2
  have g3:=hxv.old _ _ E2.box
  have in3:=E2.core.ext w2 hxv
  have hin3:=in3
  obtain ⟨lv,wv,dv,ov,rows,h3,hO⟩:=in3
  have xb:Ext S3 (⟨S3.next+21,S3.heap⟩:St):=(Ext.refl S3).bump 21
  obtain ⟨hs1,hs2⟩:=ow.wr1
  have ll':=Nat.le_trans ow.ll (by decide:200≤1000)
  have u0:∀ {T:St},Ext S3 T→aR none (.ptr S2.next 0 0 0) T=.ok (.int .i64 x.term):=fun xt=>by rw [hv _ xt];rfl
  have ua:∀ {T:St},Ext S3 T→aR (some 3) (.ptr S2.next 0 0 0) T=.ok (.agg (bM x)):=fun xt=>by rw [hv _ xt];exact cM _ _ rfl
  have j2:∀ (S4:St),Ext S3 S4→∀ q:Bool,q=decide (h.base<n∧(cF h<n∨termH h n≠x.term))→OkL (fun k K r S'=>vJ (aE prog aW aX k) k K (.ptr a 0 0 0) (.ptr b 0 0 0) (.int .i64 r.2) S')
    (fun k K bD=>vK (aE prog aW aX k) k K bD (.ptr a 0 0 0) (.ptr b 0 0 0) (.int .i64 to) (.ptr S2.next 0 0 0) (.int .i64 n) ev (.int .i64 m.entries.length) (.int .i64 i) (.bool q) S4)
    (pZ fB (fun i s vs S'=>vs=[.int .i64 s.1.2,.int .i64 (i:Int)]∧s.2=m.index+1+i∧OnWay c.h s.1.1 s.1.2 s.2∧∃ O',EnterI a c O S b m ev s.1.1 S' O') (fun (r x:Hard×Int) S'=>r=x∧∃ O',EnterI a c O S b m ev r.1 S' O') i ((h,to),n) x):=fun S4 x4 q hq=>by
   have w4:=x4.wf w3
   have in4:=hin3.ext w3 x4
   have h4:=h3.ext w3 x4
   have E4:=E2.next w in4 (Mv.of (hxv.trans x4))
   by_cases hc:h.base<n∧(cF h<n∨termH h n≠x.term)
   ·rw [hq,decide_eq_true hc]
    simp only [vK,bA,aI,dV,dM,cO,aG,Nat.reduceAdd,aF,cR,h4.r_base,cE,hs1,bX]
    refine OkL.pickP (fun e=>OkL.stop (h,to) ⟨(h,to),by unfold fB;simp only;rw [if_pos hc,if_pos e],rfl,O2,E4⟩ (by intros;rfl)) (fun e=>?_)
    obtain ⟨k0,k1⟩:=ow.cut hc.1
    obtain ⟨u,r1,o1,bu⟩:=aUk (k:=.i64) aBl h4.log k0 k1
    have o1':Mn S4 3 u ((h.log.take (n - h.base - 1).toNat).map bM):=by rw [List.map_take];exact o1
    have hlt':(h.log.take (n - h.base - 1).toNat).length≤1000000:=by rw [List.length_take];exact Nat.le_trans (Nat.min_le_right _ _) (Nat.le_trans ow.ll (by decide))
    obtain ⟨S5,lv',S6,S7,q5,q6,q7,h7,m7⟩:=h4.push2 w4 o1' bu x [.int .i64 0,.int .i64 0,.str []] 22 16 17 (by decide) (by decide) (by decide) hlt'
    rw [←hO] at m7
    simp only [aL,h4.r_log,h4.r_base,aF,cE,hs1,hs2,eC,aBh,ua x4,r1,aA0,q5,kR,q6,sV,q7,bK,hw]
    exact OkL.next ⟨(({ h with log:=h.log.take (n - h.base - 1).toNat++[x] },n),n+1),by unfold fB;simp only;rw [if_pos hc,if_neg e],rfl,hnn.symm,ow.push hnle hc.1 e x,_,E4.next w ⟨_,_,_,_,_,h7,rfl⟩ m7⟩
   ·rw [hq,decide_eq_false hc]
    simp only [vK,aK,bK,hw,aF]
    refine OkL.next ⟨((h,n),n+1),by unfold fB;simp only;rw [if_neg hc],rfl,hnn.symm,ow.next2 hnle ?_ n,O2,E4⟩
    by_cases e1:h.base<n
    ·by_cases e2:cF h<n
     ·exact absurd ⟨e1,.inl e2⟩ hc
     ·exact .inr (Int.not_lt.1 e2)
    ·exact .inl (Int.not_lt.1 e1)
  simp only [zS,aY,aZ,aF,hlt,decide_true,bA,oL,hp,aBh,hld,eJ,aUf,hst,cI,aG,cR,bI g3,bK,hw1,←hn,hw2,hw,aI,dV,dM,jQ,Nat.reduceAdd,aL,h3.r_base,bX]
  refine OkL.pickP (fun e=>?_) (fun e=>j2 _ xb false (decide_eq_false (fun q=>e q.1)).symm)
  refine (aWe (hin3.ext w3 xb) ow.b0 ow.b1 ll').callL fun S5 x5=>?_
  have x35:=xb.trans x5
  have hlast:({ c with h:=h }:Core).last=cF h:=rfl
  simp only [hlast]
  refine OkL.pickP (fun e2=>j2 _ x35 true (decide_eq_true (show h.base<n∧(cF h<n∨termH h n≠x.term) from ⟨e,.inl e2⟩)).symm) (fun e2=>?_)
  simp only [u0 x35,aF]
  refine (aWf (hin3.ext w3 x35) ow.b0 ow.b1 ll' (n:=n) (Int.le_of_lt e) (Int.not_lt.1 e2)).callL fun S6 x6=>?_
  have x36:=x35.trans x6
  have hterm:({ c with h:=h }:Core).term n=termH h n:=rfl
  simp only [u0 x36,aF,bO,aJ,aS,cJ,hterm]
  refine j2 _ x36 _ ?_
  by_cases e3:termH h n=x.term
  ·rw [decide_eq_true e3,decide_eq_false (fun q=>by
    rcases q.2 with q | q
    ·exact e2 q
    ·exact q e3)];rfl
  ·rw [decide_eq_false e3,decide_eq_true ⟨e,.inr e3⟩];rfl
 ·rintro ⟨⟨h,to⟩,n⟩ vs S2 ⟨rfl,hn,ow,O2,E2⟩
  have hlt:¬ (m.entries.length:Int)<(m.entries.length:Int):=Int.lt_irrefl _
  refine ⟨(h,to),⟨rfl,O2,E2⟩,fun k K bD=>?_⟩
  simp only [zS,aY,aZ,aF,hlt,decide_false,aK]
 ·subst e
  exact (j56 m ev _ E'.wf E'.core E'.box E'.no hl).mono fun u S3 ⟨e,O3,i3,m3⟩=>⟨e,O3,i3,E'.mv.trans w m3⟩
end
end
section
variable [Guard]
theorem dN {n:Nat} (h:n≤999990):n≤1000000:=Nat.le_trans h (by decide)
section
variable {S:St} {a:Nat} {c:Core} {O:Nat→Prop}
theorem bAp (m:Letter) (ev:V) {b:Nat} (w:WF S) (E:EnterI a c O S b m ev c.h S O) (I:Inv c) (ok:Lok m) (hk:m.kind=3) (hl:c.out.length≤999990) (hix:m.index≤c.last) (q:Bool) (hq:q=decide (c.h.base≤m.index∧c.term m.index≠m.at')):
  Ok (fun k K=>vL (aE prog aW aX k) k K (.ptr a 0 0 0) (.ptr b 0 0 0) (.bool q) S) (fun u S'=>u=.tup []∧∃ O',CoreIn S' a (if c.h.base≤m.index∧c.term m.index≠m.at' then c.post { Letter.zero with kind:=4,to:=m.from',index:=m.index - 1 } else
   ({ c with h:=(eI m.entries (m.index+1) c.h m.index).1,sure:=max c.sure (min m.commit (eI m.entries (m.index+1) c.h m.index).2) }:Core).post { Letter.zero with kind:=4,to:=m.from',yes:=true,index:=(eI m.entries (m.index+1) c.h m.index).2 }) O'∧Mv O S O' S'):=by
 have i0:=ok.i0
 have i1:=ok.i1
 have hw:wr .i64 (m.index - 1)=m.index - 1:=cS (by omega) (by omega)
 have hk3:=ok.k3 hk
 by_cases hc:c.h.base≤m.index∧c.term m.index≠m.at'
 ·rw [hq,decide_eq_true hc,if_pos hc]
  simp only [vL,bA,cW,cI,aG,Nat.reduceAdd,aF,cR,cG E.box,bI E.box,cE,hw,jB,qE]
  exact Meth.call (g86 _ .nils w E.core (Apart.nil _ _ rfl) (dN hl)) w fun S2 O2 w2 in2 m2=>Ok.ret ⟨rfl,O2,in2,m2⟩
 ·rw [hq,decide_eq_false hc,if_neg hc]
  simp only [vL,aK,cI,eV,aG,Nat.reduceAdd,aF,cR,eC,bI E.box,fI E.box,eA,E.ents.lenI]
  exact l56 m ev w E I.h.b0 I.h.b1 I.h.ll i0 i1 hk3.2.1 hk3.2.2.1 hix hl
theorem g56 (m:Letter) (ev:V) (w:WF S) (h:CoreIn S a c O) (I:Inv c) (ok:Lok m) (hk:m.kind=3) (he:Apart S O m ev) (hl:c.out.length≤999990):Meth 56 [.ptr a 0 0 0,.agg (aO m ev)] a (c.appended m) S O (.tup []):=by
 have ho:=cB m he.1.one
 have hln:(aO m ev).length=13:=rfl
 obtain ⟨S1,hn1,x1,hg1,hnx1⟩:=nb w 13 (aO m ev)
 have w1:=x1.wf w
 have in1:=h.ext w x1
 have hin1:=in1
 have hno:¬ O S.next:=fun hO=>absurd (kZ w h _ hO) (Nat.lt_irrefl _)
 obtain ⟨lv,wv,dv,ov,rows,h1,hO⟩:=in1
 have hap:=he.ext x1
 refine e56 ?_
 simp only [m56,bH,ho,hln,aJ,hn1,aF,aI,hJ,aG,Nat.reduceAdd,cR,uD,h1.r_role,nP hg1,aS,bR]
 unfold Core.appended
 refine Ok.pickP (fun e=>Ok.ret ⟨rfl,O,by rw [if_pos e];exact hin1,Mv.of x1⟩) (fun e=>?_)
 rw [if_neg e]
 refine (g88 m ev w1 hin1 I ok hk hap.1).call fun S2 x2=>?_
 have w2:=x2.wf w1
 have x02:=x1.trans x2
 have in2:=hin1.ext w1 x2
 have g2:=x2.old _ _ hg1
 refine Ok.pick (fun e2=>Ok.ret ⟨rfl,O,by rw [if_pos e2];exact in2,Mv.of x02⟩) (fun e2=>?_)
 rw [if_neg (fun q=>by rw [q] at e2;cases e2)]
 simp only [cW,aG,Nat.reduceAdd,aF,cR,cG g2]
 refine Meth.call (g89 m.from' w2 in2) w2 fun S3 O3 w3 in3 m3=>?_
 obtain ⟨g3,no3⟩:=fR w2 g2 hno m3
 have ap3:=(he.ext x02).mv w2 m3
 have mv3:=(Mv.of (O:=O) x02).trans w m3
 have I3:=(I.hear ok.f0 ok.f1).1
 generalize hc3:c.hear m.from'=c3 at in3 I3
 have hl3:c3.out.length≤999990:=by rw [←hc3];exact hl
 have xb:Ext S3 (⟨S3.next+5,S3.heap⟩:St):=(Ext.refl S3).bump 5
 simp only [cI,aG,Nat.reduceAdd,aF,cR,aL,bI g3]
 refine (g46 (in3.ext w3 xb) I3.h).call fun S4 x4=>?_
 have x34:=xb.trans x4
 have w4:=x34.wf w3
 have g4:=x34.old _ _ g3
 have in4:=in3.ext w3 x34
 simp only [bI g4,aF,bO,aJ,bX]
 refine Ok.pickP (fun e3=>?_) (fun e3=>?_)
 ·rw [if_pos e3]
  have xc:Ext S4 (⟨S4.next+7,S4.heap⟩:St):=(Ext.refl S4).bump 7
  simp only [cW,aG,Nat.reduceAdd,aF,cR,aL,cG g4]
  refine (g46 (in4.ext w4 xc) I3.h).call fun S5 x5=>?_
  have x45:=xc.trans x5
  have w5:=x45.wf w4
  have g5:=x45.old _ _ g4
  simp only [cG g5,aF,bO,aJ,jB,qE]
  exact Meth.call (g86 _ .nils w5 (in4.ext w4 x45) (Apart.nil _ _ rfl) (dN hl3)) w5 fun S6 O6 w6 in6 m6=>Ok.ret ⟨rfl,O6,in6,(mv3.trans w (Mv.of (x34.trans x45))).trans w m6⟩
 ·rw [if_neg e3]
  have xc:Ext S4 (⟨S4.next+17,S4.heap⟩:St):=(Ext.refl S4).bump 17
  have fin:∀ (S5:St),Ext S4 S5→∀ q:Bool,q=decide (c3.h.base≤m.index∧c3.term m.index≠m.at')→Ok (fun k K=>vL (aE prog aW aX k) k K (.ptr a 0 0 0) (.ptr S.next 0 0 0) (.bool q) S5) (fun u S'=>u=.tup []∧∃ O',CoreIn S' a (if c3.h.base≤m.index∧c3.term m.index≠m.at' then c3.post { Letter.zero with kind:=4,to:=m.from',index:=m.index - 1 } else
   ({ c3 with h:=(eI m.entries (m.index+1) c3.h m.index).1,sure:=max c3.sure (min m.commit (eI m.entries (m.index+1) c3.h m.index).2) }:Core).post { Letter.zero with kind:=4,to:=m.from',yes:=true,index:=(eI m.entries (m.index+1) c3.h m.index).2 }) O'∧Mv O S O' S'):=fun S5 x5 q hq=>by
   have w5:=x5.wf w4
   have x35:=x34.trans x5
   have ap5:=ap3.ext x35
   exact (bAp m ev w5 ⟨w5,in4.ext w4 x5,Mv.refl _ _,x5.old _ _ g4,no3,ap5.1,ap5.2⟩ I3 ok hk hl3 (Int.not_lt.1 e3) q hq).mono fun u S6 ⟨e,O6,i6,m6⟩=>⟨e,O6,i6,(mv3.trans w (Mv.of x35)).trans w m6⟩
  obtain ⟨lv',wv',dv',ov',rows',h4,_⟩:=in4
  simp only [cI,fE,aG,Nat.reduceAdd,aF,cR,aL,bI g4,gB g4,aI,dV,dM,h4.r_base,dA]
  refine Ok.pickP (fun e4=>?_) (fun e4=>fin _ xc false (decide_eq_false (fun q=>e4 q.1)).symm)
  refine (g62 ((in3.ext w3 x34).ext w4 xc) I3.h (n:=m.index) e4 (Int.not_lt.1 e3)).call fun S5 x5=>?_
  have x45:=xc.trans x5
  have g5:=x45.old _ _ g4
  simp only [gB g5,aF,bO,aJ,aS,cJ]
  refine fin S5 x45 _ ?_
  by_cases e5:c3.term m.index=m.at'
  ·rw [decide_eq_true e5,decide_eq_false (fun q=>q.2 e5)];rfl
  ·rw [decide_eq_false e5,decide_eq_true (show c3.h.base≤m.index∧c3.term m.index≠m.at' from ⟨e4,e5⟩)];rfl
end
end
end Go.Proofs.Ytbiidlmhadihlaa
end
