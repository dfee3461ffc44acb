import Derived.ChangeArms
import Derived.ProofKit
import Derived.Test.YtbiidlmhadihlaaX2
set_option linter.unusedSimpArgs false
set_option linter.unusedVariables false
set_option linter.unusedSectionVars false
set_option maxRecDepth 100000
section
namespace Go.Raft
open Go.AM
section
variable [Guard]
def KeepW (n:Nat) (S S':St):Prop:=∀ y ver el,S.heap.get y=some (.row ver n el)→S'.heap.get y=some (.row ver n el)
theorem KeepW.trans {n:Nat} {A B C:St} (h:KeepW n A B) (k:KeepW n B C):KeepW n A C:=fun y ver el g=>k y ver el (h y ver el g)
theorem KeepW.ext {n:Nat} {A B:St} (x:Ext A B):KeepW n A B:=fun y ver el g=>x.old _ _ g
theorem KeepW.put {n m:Nat} {S:St} {a ver:Nat} {el:List (List V)} (g:S.heap.get a=some (.row ver m el)) (hne:n≠m) (b:Blk):KeepW n S ⟨S.next,S.heap.put a b⟩:=by
 intro y ver' el' h
 show (S.heap.put a b).get y=_
 rw [Tr.get_put_neB _ _ _ _ trivial (fun e=>by subst e;rw [g] at h;injection h with h;injection h with _ h;exact hne h.symm)];exact h
theorem Mn.keepW {S S':St} {n:Nat} {v:V} {es:List (List V)} (h:Mn S n v es) (hn:S.next≤S'.next) (k:KeepW n S S'):Mn S' n v es:=by
 refine ⟨?_,h.len⟩
 rcases h.is with h1 | ⟨a,ver,tl,h1,h2,h3,h4⟩
 ·exact .inl h1
 ·exact .inr ⟨a,ver,tl,h1,h2,Nat.lt_of_lt_of_le h3 hn,k _ _ _ h4⟩
theorem WayAt.keepW {S S':St} {way:Option Inst} {wv dv:V} (h:WayAt S way wv dv) (hn:S.next≤S'.next) (k4:KeepW 4 S S') (k1:KeepW 1 S S'):WayAt S' way wv dv:=by
 unfold WayAt at h ⊢
 split at h
 ·exact h
 ·obtain ⟨b,e,g,m⟩:=h
  exact ⟨b,e,k4 _ _ _ g,m.keepW hn k1⟩
theorem Mn.pushAt {S:St} {n b:Nat} {v u:V} {es:List (List V)} {cs:List V} (h:Mn S n v es) (w:WF S) (hu:bO S u=.ok [cs]) (hc:cs.length=n∧aH cs=true) {k:Nat} (hk2:k<S.next) (hk3:S.heap.get k=none)
  (h1:(es.length+1)*b≤35184372088832) (h2:es.length+1<eV):∃ v' S',fN n b v u (some k) S=.ok (v',S')∧WF S'∧S'.next=S.next∧Mn S' n v' (es++[cs])∧(aO v'=some k∨aO v'=aO v)∧(∀ y,y≠k→aO v≠some y→S'.heap.get y=S.heap.get y)∧∀ m,m≠n→KeepW m S S':=by
 obtain ⟨v',S',q1,q2,q3,q4,q5,q6⟩:=Own.pushAt (b:=b) h (aBw w) uB hu (fun c hc'=>by rw [List.mem_singleton.1 hc'];exact hc) (by simp) (Nat.zero_le k) hk2 hk3 h1 h2
 refine ⟨v',S',q1,q2.wf uB,q3,q4,q5,q6,fun m hm y ver el g=>?_⟩
 by_cases e:y=k
 ·subst e;rw [hk3] at g;cases g
 ·rw [q6 y e (fun e2=>h.neRow g (Ne.symm hm) e2)];exact g
theorem Mn.push {S:St} {n b:Nat} {v u:V} {es cs:List (List V)} (h:Mn S n v es) (w:WF S) (hu:bO S u=.ok cs) (hc:∀ c,c∈cs→c.length=n∧aH c=true) (hne:cs≠[])
  (h1:(es.length+cs.length)*b≤35184372088832) (h2:es.length+cs.length<eV):∃ v' S',fN n b v u none S=.ok (v',S')∧WF S'∧S.next≤S'.next∧Mn S' n v' (es++cs)∧(aO v'=some S.next∨aO v'=aO v)∧(∀ y,y<S.next→aO v≠some y→S'.heap.get y=S.heap.get y)∧∀ m,m≠n→KeepW m S S':=by
 obtain ⟨v',S',q1,q2,q3,q4,q5,q6⟩:=Own.pushG (b:=b) h (aBw w) uB hu hc hne h1 h2
 refine ⟨v',S',q1,q2.wf uB,q6,q3,q4,q5,fun m hm y ver el g=>?_⟩
 rw [q5 y (w _ _ g) (fun e2=>h.neRow g (Ne.symm hm) e2)];exact g
section
variable {S:St} {a:Nat} {c:Core} {lv wv dv ov:V} {rows:List (List V)} (h:CoreAt S a c lv wv dv ov rows)
include h
theorem CoreAt.w_out (w:WF S) {S1:St} (w1:WF S1) (hn:S.next≤S1.next) (hk:∀ y b,S.heap.get y=some b→aO ov≠some y→S1.heap.get y=some b) {ov':V} {rows':List (List V)} (hout:Mn S1 13 ov' rows') (hone:ov'.cells=[ov']∧ov'.one=true) (hb:∀ y,aO ov'=some y→aO ov=some y∨S.next≤y)
  {out':List Letter} (hlets:All2 (LetAt S (aO lv)) out' rows') (hgd:Gd S1 rows'):
  ∃ S2,bG 1 (.ptr a 0 0 36) ov' S1=.ok S2∧CoreAt S2 a { c with out:=out' } lv wv dv ov' rows'∧Mv (own a lv wv dv ov) S (own a lv wv dv ov') S2∧S2.next=S1.next:=by
 have hl:=cU c lv wv ov h.peers
 have ga:S1.heap.get a=some (.row 0 37 [bI c lv wv ov]):=hk _ _ h.cell (h.out.neRow h.cell (by decide))
 have e:=dE (x:=ov') (j:=36) (m:=1) ga (by rw [hone.1];rfl) (by rw [hone.1];simp [aH,hone.2]) (by omega)
 rw [hone.1,(nT c lv wv ov h.peers ov').2.2.2] at e
 have kk:∀ n,n≠13→n≠37→KeepW n S (⟨S1.next,S1.heap.put a (.row 0 37 [bI c lv wv ov'])⟩:St):=fun n h1 h2=>
  KeepW.trans (fun y ver el g=>hk _ _ g (h.out.neRow g (Ne.symm h1))) (KeepW.put ga h2 _)
 refine ⟨_,e,⟨Tr.get_put_sameB _ _ _ trivial,h.peers,h.log.keepW hn (kk 3 (by decide) (by decide)),h.way.keepW hn (kk 4 (by decide) (by decide)) (kk 1 (by decide) (by decide)),hout.keepW (Nat.le_refl _) (KeepW.put ga (by decide) _),All2.imp (fun m cs q=>q.keep (fun y ver el _ g=>kk 3 (by decide) (by decide) _ _ _ g) (fun y _ h=>h) w) hlets,hgd⟩,⟨⟨fun y b hy hb'=>?_,hn,fun _=>(But.put (w1 _ _ ga) _).wf w1⟩,fun y hy=>?_⟩,rfl⟩
 ·show (S1.heap.put a _).get y=some b
  rw [Tr.get_put_neB _ _ _ _ trivial (fun e=>hy (.inl e))]
  exact hk y b hb' (fun e=>hy (.inr (.inr (.inr (.inr e)))))
 ·rcases hy with hy | hy | hy | hy | hy
  ·exact .inl (.inl hy)
  ·exact .inl (.inr (.inl hy))
  ·exact .inl (.inr (.inr (.inl hy)))
  ·exact .inl (.inr (.inr (.inr (.inl hy))))
  ·rcases hb y hy with h1 | h1
   ·exact .inl (.inr (.inr (.inr (.inr h1))))
   ·exact .inr h1
theorem CoreAt.w_log (w:WF S) {S1:St} (w1:WF S1) (hn:S.next≤S1.next) (hk:∀ y b,S.heap.get y=some b→aO lv≠some y→S1.heap.get y=some b) {lv':V} {l':List Entry} (hlog:Mn S1 3 lv' (l'.map bV)) (hone:lv'.cells=[lv']∧lv'.one=true) (hb:∀ y,aO lv'=some y→aO lv=some y∨S.next≤y):
  ∃ S2,bG 1 (.ptr a 0 0 7) lv' S1=.ok S2∧CoreAt S2 a { c with h:={ c.h with log:=l' } } lv' wv dv ov rows∧Mv (own a lv wv dv ov) S (own a lv' wv dv ov) S2∧S2.next=S1.next:=by
 have hl:=cU c lv wv ov h.peers
 have ga:S1.heap.get a=some (.row 0 37 [bI c lv wv ov]):=hk _ _ h.cell (h.log.neRow h.cell (by decide))
 have e:=dE (x:=lv') (j:=7) (m:=1) ga (by rw [hone.1];rfl) (by rw [hone.1];simp [aH,hone.2]) (by omega)
 have hsp:splice (bI c lv wv ov) 7 [lv']=bI { c with h:={ c.h with log:=l' } } lv' wv ov:=rfl
 rw [hone.1,hsp] at e
 have kk:∀ n,n≠3→n≠37→KeepW n S (⟨S1.next,S1.heap.put a (.row 0 37 [bI { c with h:={ c.h with log:=l' } } lv' wv ov])⟩:St):=fun n h1 h2=>
  KeepW.trans (fun y ver el g=>hk _ _ g (h.log.neRow g (Ne.symm h1))) (KeepW.put ga h2 _)
 have hlets:All2 (LetAt (⟨S1.next,S1.heap.put a (.row 0 37 [bI { c with h:={ c.h with log:=l' } } lv' wv ov])⟩:St) (aO lv')) c.out rows:=by
  refine All2.imp (fun m cs q=>q.keep (fun y ver el hy g=>?_) (fun y hy h1 h2=>?_) w) h.lets
  ·exact (KeepW.put ga (by decide) _:KeepW 3 S1 _) _ _ _ (hk _ _ g hy)
  ·rcases hb y h2 with h3 | h3
   ·exact h1 h3
   ·omega
 refine ⟨_,e,⟨Tr.get_put_sameB _ _ _ trivial,h.peers,hlog.keepW (Nat.le_refl _) (KeepW.put ga (by decide) _),h.way.keepW hn (kk 4 (by decide) (by decide)) (kk 1 (by decide) (by decide)),h.out.keepW hn (kk 13 (by decide) (by decide)),hlets,h.gd.mono hn⟩,⟨⟨fun y b hy hb'=>?_,hn,fun _=>(But.put (w1 _ _ ga) _).wf w1⟩,fun y hy=>?_⟩,rfl⟩
 ·show (S1.heap.put a _).get y=some b
  rw [Tr.get_put_neB _ _ _ _ trivial (fun e=>hy (.inl e))]
  exact hk y b hb' (fun e=>hy (.inr (.inl e)))
 ·rcases hy with hy | hy | hy | hy | hy
  ·exact .inl (.inl hy)
  ·rcases hb y hy with h1 | h1
   ·exact .inl (.inr (.inl h1))
   ·exact .inr h1
  ·exact .inl (.inr (.inr (.inl hy)))
  ·exact .inl (.inr (.inr (.inr (.inl hy))))
  ·exact .inl (.inr (.inr (.inr (.inr hy))))
end
theorem Mn.cells {S:St} {n:Nat} {v:V} {es:List (List V)} (h:Mn S n v es):v.cells=[v]∧v.one=true:=⟨iR h.sl,h.sl.one⟩
theorem CoreIn.ext {S S':St} {a:Nat} {c:Core} {O:Nat→Prop} (h:CoreIn S a c O) (w:WF S) (x:Ext S S'):CoreIn S' a c O:=by
 obtain ⟨lv,wv,dv,ov,rows,h,rfl⟩:=h
 exact ⟨lv,wv,dv,ov,rows,h.ext w x,rfl⟩
theorem CoreIn.peers {S:St} {a:Nat} {c:Core} {O:Nat→Prop} (h:CoreIn S a c O):c.peers.length=7:=by
 obtain ⟨lv,wv,dv,ov,rows,h,rfl⟩:=h
 exact h.peers
end
end Go.Raft
end
section
namespace Go.AM
open Go.Raft
section
variable [Guard]
theorem pY {P : Program} {t : TypeId} {n : Nat} (h : esT P t = some n) (lo hi : Option V) : dP P t .nils lo hi = (match eU 0 lo hi with
      | .ok _ => .ok .nils
      | .error e => .error e) := by
  unfold esT at h
  unfold dP
  split at h
  · rename_i e he
    rw [cond_eq_ite] at h
    split at h
    · rename_i hs
      cases h
      rw [he]
      simp only [hs, Bool.not_true, cond_false]
      rfl
    · cases h
  · cases h
theorem aE0 {P : Program} {t : TypeId} (h : oM P t = true) (s : List UInt8) (lo hi : Option V) : dP P t (.str s) lo hi = (match eU s.length lo hi with
      | .ok (l, h) => .ok (.str ((s.take h).drop l))
      | .error e => .error e) := by
  unfold oM at h
  unfold dP
  split at h
  · rename_i he
    rw [he]
    rfl
  · cases h
theorem tE {len:Nat} {l:Int} (k:IntKind) (h0:0≤l) (h1:l≤len):eU len (some (.int k l)) none=.ok (l.toNat,len):=by
 simp only [eU,h0,h1,decide_true,Bool.and_self,cond_true]
theorem tF {len:Nat} {l:Int} (k:IntKind) (h0:0≤l) (h1:l≤len):eU len none (some (.int k l))=.ok (0,l.toNat):=by
 simp only [eU,h0,h1,decide_true,Bool.and_self,cond_true]
theorem aFo {P:Program} {t:TypeId} {n:Nat} (ht:esT P t=some n) {S:St} {v:V} {es:List (List V)} (h:Sl S n v es) {lo hi:Option V} {i j:Nat} (hb:eU es.length lo hi=.ok (i,j)) (hij:i≤j) (hj:j≤es.length):
  ∃ u,dP P t v lo hi=.ok u∧Sl S n u ((es.take j).drop i)∧∀ y,aO u=some y→aO v=some y:=by
 have hlen:∀ cs,cs∈(es.take j).drop i→cs.length=n∧aH cs=true:=fun cs hc=>h.len cs (List.mem_of_mem_take (List.mem_of_mem_drop hc))
 have hlen2:((es.take j).drop i).length=j - i:=by simp;omega
 rcases h.is with ⟨rfl,rfl⟩ | rfl | ⟨a,ver,off,elems,rfl,h2,h3,h4⟩
 ·refine ⟨.nils,by rw [pY ht];simp only [List.length_nil] at hb;rw [hb],⟨.inl ⟨rfl,by simp⟩,hlen⟩,fun y hy=>by cases hy⟩
 ·refine ⟨.imm ((es.take j).drop i),by rw [aFf ht es (eT h.len).1,hb],⟨.inr (.inl rfl),hlen⟩,fun y hy=>by cases hy⟩
 ·refine ⟨.sl a ver n (off+i) (j - i),by rw [sO ht,hb],⟨.inr (.inr ⟨a,ver,off+i,elems,by rw [hlen2],h2,by rw [hlen2];omega,?_⟩),hlen⟩,fun y hy=>hy⟩
  rw [hlen2,←h4,List.take_take,List.drop_take,List.drop_drop,Nat.min_eq_left hj]
theorem aQa {P:Program} {t:TypeId} {n:Nat} (ht:esT P t=some n) {S:St} {v:V} {es:List (List V)} (h:Mn S n v es) {k:IntKind} {l:Int} (h0:0≤l) (h1:l≤es.length):
  ∃ u,dP P t v none (some (.int k l))=.ok u∧Mn S n u (es.take l.toNat)∧aO u=aO v:=by
 have hb:=tF (len:=es.length) (l:=l) k h0 h1
 have hlen:∀ cs,cs∈es.take l.toNat→cs.length=n∧aH cs=true:=fun cs hc=>h.len cs (List.mem_of_mem_take hc)
 have hlen2:(es.take l.toNat).length=l.toNat:=by simp;omega
 rcases h.is with ⟨rfl,rfl⟩ | ⟨a,ver,tl,rfl,h2,h3,h4⟩
 ·refine ⟨.nils,by rw [pY ht];simp only [List.length_nil] at hb;rw [hb],⟨.inl ⟨rfl,by simp⟩,hlen⟩,rfl⟩
 ·refine ⟨.sl a ver n 0 (l.toNat),by rw [sO ht,hb];rfl,⟨.inr ⟨a,ver,es.drop l.toNat++tl,by rw [hlen2],h2,h3,?_⟩,hlen⟩,rfl⟩
  rw [h4,←List.append_assoc,List.take_append_drop]
theorem rQ (k:IntKind) (a b:Int):yF [.int k a,.int k b]=.ok (.int k (min a b)):=by
 simp only [yF,bR,cond_true]
 congr 2
 omega
theorem aE1 (k:IntKind) (a b:Int):aC5 [.int k a,.int k b]=.ok (.int k (max a b)):=by
 simp only [aC5,bR,cond_true]
 congr 2
 omega
end
end Go.AM
end
section
namespace Go.Proofs.Ytbiidlmhadihlaa
open Go.AM Go.Raft Try
section
variable [Guard]
abbrev Meth (f:FuncId) (args:List V) (a:Nat) (c':Core) (S:St) (O:Nat→Prop) (v:V):Prop:=Does prog bD bE f args S fun u S'=>u=v∧∃ O',CoreIn S' a c' O'∧Mv O S O' S'
theorem Meth.call {f:FuncId} {args:List V} {a:Nat} {c':Core} {S:St} {O:Nat→Prop} {v:V} (h:Meth f args a c' S O v) (w:WF S) {G:Nat→KS→V→St→An} {R:V→St→Prop} (k:∀ S' O',WF S'→CoreIn S' a c' O'→Mv O S O' S'→Ok (fun k K=>G k K v S') R):
  Ok (fun k K=>aC prog bD bE k f args S (fun v S=>G k K v S)) R:=Does.call h fun u S' ⟨e,O',h1,h2⟩=>by subst e;exact k S' O' (h2.wf w) h1 h2
theorem Meth.callL {X:Type} {out:Nat→KS→X→St→An} {Q:Turn X→Prop} {f:FuncId} {args:List V} {a:Nat} {c':Core} {S:St} {O:Nat→Prop} {v:V} (h:Meth f args a c' S O v) (w:WF S) {G:Nat→KS→Ag→V→St→An} (k:∀ S' O',WF S'→CoreIn S' a c' O'→Mv O S O' S'→OkL out (fun k K aK=>G k K aK v S') Q):
  OkL out (fun k K aK=>aC prog bD bE k f args S (fun v S=>G k K aK v S)) Q:=OkL.call h fun u S' ⟨e,O',h1,h2⟩=>by subst e;exact k S' O' (h2.wf w) h1 h2
section
variable {S:St} {a:Nat} {c:Core} {O:Nat→Prop}
theorem aV4 (w:WF S) (h:CoreIn S a c O):Meth 106 [.ptr a 0 0 0] a c.rest S O (.tup []):=by
 obtain ⟨lv,wv,dv,ov,rows,h,rfl⟩:=h
 obtain ⟨S1,q1,h1,m1,n1⟩:=h.w_role w 1
 have w1:=m1.wf w
 obtain ⟨S2,q2,h2,m2,n2⟩:=h1.w_leads w1 (-1)
 have w2:=m2.wf w1
 obtain ⟨S3,q3,h3,m3,n3⟩:=h2.w_left w2 c.drawn
 refine aUu ?_
 simp only [aMl,aQ,xE,fW,pU,lG,aJ,aF,eQ,st3,Nat.reduceAdd,h.r_drawn,q1,q2,q3]
 exact Ok.ret ⟨rfl,_,⟨lv,wv,dv,ov,rows,h3,rfl⟩,(m1.trans w m2).trans w m3⟩
theorem g89 (f:Int) (w:WF S) (h:CoreIn S a c O):Meth 89 [.ptr a 0 0 0,.int .i64 f] a (c.hear f) S O (.tup []):=by
 obtain ⟨lv,wv,dv,ov,rows,h,rfl⟩:=h
 obtain ⟨S1,q1,h1,m1,n1⟩:=h.w_role w 1
 have w1:=m1.wf w
 obtain ⟨S2,q2,h2,m2,n2⟩:=h1.w_leads w1 f
 have w2:=m2.wf w1
 obtain ⟨S3,q3,h3,m3,n3⟩:=h2.w_left w2 c.drawn
 refine e89 ?_
 simp only [m89,aQ,xE,fW,pU,lG,aJ,aF,eQ,st3,Nat.reduceAdd,h.r_drawn,q1,q2,q3]
 exact Ok.ret ⟨rfl,_,⟨lv,wv,dv,ov,rows,h3,rfl⟩,(m1.trans w m2).trans w m3⟩
theorem fH (ok:Hok c.h):0≤c.last∧c.last≤1099511627776:=by
 have:=ok.b0;have:=ok.li;unfold Core.last bZ;omega
theorem aSa (h:CoreIn S a c O) (b0:0≤c.h.base) (b1:c.h.base≤1099511627776) (ll:c.h.log.length≤1000):xM 46 [.ptr a 0 0 0] S (.int .i64 c.last):=by
 obtain ⟨lv,wv,dv,ov,rows,h,rfl⟩:=h
 have hw:wr .i64 (c.h.base+c.h.log.length)=c.last:=dC (by omega) (by omega)
 refine e46 ?_
 simp only [m46,aQ,dL,fP,iJ,aJ,aF,eQ,oA,Nat.reduceAdd,aS,h.r_base,h.r_log,rK,h.log.sl.lenI,cG,hw]
 exact Ok.ret ⟨rfl,(Ext.refl S).bump 13⟩
theorem g46 (h:CoreIn S a c O) (ok:Hok c.h):xM 46 [.ptr a 0 0 0] S (.int .i64 c.last):=aSa h ok.b0 ok.b1 (Nat.le_trans ok.ll (by decide))
theorem aSb (h:CoreIn S a c O) (hb:0≤c.h.base) (b1:c.h.base≤1099511627776) (ll:c.h.log.length≤1000) {n:Int} (h1:c.h.base≤n) (h2:n≤c.last):xM 62 [.ptr a 0 0 0,.int .i64 n] S (.int .i64 (c.term n)):=by
 obtain ⟨lv,wv,dv,ov,rows,h,rfl⟩:=h
 have hl2:c.last=c.h.base+c.h.log.length:=rfl
 refine e62 ?_
 simp only [m62,aQ,dL,fP,wY,iJ,sV,aJ,aF,eQ,oA,Nat.reduceAdd,aS,h.r_base,h.r_log,h.r_baseTerm,bF,aP,cK]
 refine Ok.pickP (fun e=>Ok.ret ⟨by unfold Core.term termH;rw [if_pos e],Ext.refl S⟩) (fun e=>?_)
 obtain ⟨x,hx⟩:=rL (h:=c.h) (n:=n) (by omega) h2
 obtain ⟨j,hj⟩:∃ j:Nat,n - c.h.base - 1=(j:Int):=⟨(n - c.h.base - 1).toNat,by omega⟩
 have hjx:c.h.log[j]?=some x:=by rw [hj] at hx;exact hx
 have hw1:wr .i64 (n - c.h.base)=n - c.h.base:=dC (by omega) (by omega)
 have hw2:wr .i64 (n - c.h.base - 1)=(j:Int):=by rw [dC (by omega) (by omega)];exact hj
 obtain ⟨p,hp,hat,_,_⟩:=h.log.sl.elem hjx
 have hat0:aM none (adv 0 p) S=.ok (.int .i64 x.term):=by rw [hat.load];rfl
 simp only [dK,hw1,hw2,aF,aKj,hp,sV,hat.advW,hat0]
 have ht:c.term n=x.term:=by unfold Core.term;exact iX (by omega) hx
 exact Ok.ret ⟨by rw [ht],(Ext.refl S).bump 17⟩
theorem g62 (h:CoreIn S a c O) (ok:Hok c.h) {n:Int} (h1:c.h.base≤n) (h2:n≤c.last):xM 62 [.ptr a 0 0 0,.int .i64 n] S (.int .i64 (c.term n)):=aSb h ok.b0 ok.b1 (Nat.le_trans ok.ll (by decide)) h1 h2
theorem g47 (w:WF S) (h:CoreIn S a c O) (ok:Hok c.h):xM 47 [.ptr a 0 0 0] S (.int .i64 c.members):=by
 obtain ⟨lv,wv,dv,ov,rows,h,rfl⟩:=h
 have hl:=ok.ll
 refine e47 ?_
 simp only [m47,aQ,dL,aJ,aF,yQ,Nat.reduceAdd,h.r_hard]
 refine (g49 c.h lv S w h.log.sl (by omega) ok.b0 ok.b1).call fun S1 x1=>?_
 exact Ok.ret ⟨rfl,x1⟩
end
end
section
section
variable {S:St} {a:Nat} {c:Core} {O:Nat→Prop}
def Apart (S:St) (O:Nat→Prop) (m:Letter) (ev:V):Prop:=Sl S 3 ev (m.entries.map bV)∧∀ y,aO ev=some y→¬ O y
variable [Guard]
def aFq (S:St) (O:Nat→Prop) (m:Letter) (ev:V):Prop:=Apart S O m ev∧∀ y,aO ev=some y→Guard.n≤y
theorem Apart.nil (S:St) (O:Nat→Prop) {m:Letter} (h:m.entries=[]):aFq S O m .nils:=⟨⟨by rw [h];exact Sl.nilv S 3,fun y hy=>by cases hy⟩,fun y hy=>by cases hy⟩
theorem Gd.app {S S':St} {rows:List (List V)} (h:Gd S rows) (hn:S.next≤S'.next) (m:Letter) {ev:V} (he:∀ y,aO ev=some y→Guard.n≤y):Gd S' (rows++[aG m ev]):=
 ⟨Nat.le_trans h.1 hn,fun r hr ev' h1 y hy=>by
  rcases List.mem_append.1 hr with hr | hr
  ·exact h.2 r hr ev' h1 y hy
  ·rw [List.mem_singleton.1 hr] at h1
   have h2:ev=ev':=by injection h1
   subst h2;exact he y hy⟩
theorem Apart.mv {S S':St} {O O':Nat→Prop} {m:Letter} {ev:V} (h:Apart S O m ev) (w:WF S) (k:Mv O S O' S'):Apart S' O' m ev:=by
 refine ⟨k.sl h.1 h.2,fun y hy hO=>?_⟩
 rcases k.own y hO with h1 | h1
 ·exact h.2 y hy h1
 ·have:=aDt w h.1 y hy;omega
theorem Apart.ext {S S':St} {O:Nat→Prop} {m:Letter} {ev:V} (h:Apart S O m ev) (x:Ext S S'):Apart S' O m ev:=⟨h.1.ext x,h.2⟩
theorem aFr {lv wv dv ov:V} {rows:List (List V)} (w:WF S) (h:CoreAt S a c lv wv dv ov rows) {y:Nat} (hy:own a lv wv dv ov y):y<S.next:=by
 rcases hy with rfl | hy | hy | hy | hy
 ·exact h.lt w
 ·exact (h.log.blk hy).1
 ·have hw:=h.way
  unfold WayAt at hw
  split at hw
  ·rw [hw.1] at hy;cases hy
  ·obtain ⟨b,e,g,m⟩:=hw
   rw [e] at hy;cases hy;exact w _ _ g
 ·have hw:=h.way
  unfold WayAt at hw
  split at hw
  ·rw [hw.2] at hy;cases hy
  ·obtain ⟨b,e,g,m⟩:=hw
   exact (m.blk hy).1
 ·exact (h.out.blk hy).1
theorem g86 (m:Letter) (ev:V) (w:WF S) (h:CoreIn S a c O) (hmp:aFq S O m ev) (hl:c.out.length≤1000000):Meth 86 [.ptr a 0 0 0,.agg (aG m ev)] a (c.post m) S O (.tup []):=by
 obtain ⟨lv,wv,dv,ov,rows,h,rfl⟩:=h
 obtain ⟨hm,hg⟩:=hmp
 have ho:=cD m hm.1.one
 have hln:(aG m ev).length=13:=rfl
 obtain ⟨S1,hn1,x1,hg1,hnx1⟩:=nb w 13 (aG m ev)
 have w1:=x1.wf w
 have xb:Ext S (⟨S1.next+13,S1.heap⟩:St):=x1.bump 13
 have e1:=dE (S:=(⟨S1.next+13,S1.heap⟩:St)) (x:=.int .i64 c.id) (j:=1) (m:=1) hg1 rfl rfl (by rw [hln];omega)
 have c1:splice (aG m ev) 1 (V.int .i64 c.id).cells=aG { m with from':=c.id } ev:=rfl
 rw [c1] at e1
 have x2:Ext S (⟨S1.next+13,S1.heap.put S.next (.row 0 13 [aG { m with from':=c.id } ev])⟩:St):=xb.set (Nat.le_refl _) (by show S.next<S1.next+13;omega) w _
 have hg2:(⟨S1.next+13,S1.heap.put S.next (.row 0 13 [aG { m with from':=c.id } ev])⟩:St).heap.get S.next=some (.row 0 13 [aG { m with from':=c.id } ev]):=Tr.get_put_sameB _ _ _ trivial
 generalize (⟨S1.next+13,S1.heap.put S.next (.row 0 13 [aG { m with from':=c.id } ev])⟩:St)=S2 at e1 x2 hg2
 have e2:=dE (S:=S2) (x:=.int .i64 c.h.term) (j:=3) (m:=1) hg2 rfl rfl (by show 3+1≤13;omega)
 have c2:splice (aG { m with from':=c.id } ev) 3 (V.int .i64 c.h.term).cells=aG { m with from':=c.id,term:=c.h.term } ev:=rfl
 rw [c2] at e2
 have hlt2:S.next<S2.next:=by have:=x2.wf w _ _ hg2;exact this
 have x3:Ext S (⟨S2.next,S2.heap.put S.next (.row 0 13 [aG { m with from':=c.id,term:=c.h.term } ev])⟩:St):=x2.set (Nat.le_refl _) hlt2 w _
 have hg3:(⟨S2.next,S2.heap.put S.next (.row 0 13 [aG { m with from':=c.id,term:=c.h.term } ev])⟩:St).heap.get S.next=some (.row 0 13 [aG { m with from':=c.id,term:=c.h.term } ev]):=Tr.get_put_sameB _ _ _ trivial
 generalize (⟨S2.next,S2.heap.put S.next (.row 0 13 [aG { m with from':=c.id,term:=c.h.term } ev])⟩:St)=S3 at e2 x3 hg3
 have w3:=x3.wf w
 have h1:=h.ext w x1
 have h2:=h.ext w x2
 have h3:=h.ext w x3
 have ho':aH (aG { m with from':=c.id,term:=c.h.term } ev)=true:=ho
 have hfree:(⟨S3.next+11,S3.heap⟩:St).heap.get (S3.next+7)=none:=nR w3 11 (S3.next+7) (by omega)
 have e3:=mS (⟨S3.next+11,S3.heap⟩:St) (S3.next+6) 13 (aG { m with from':=c.id,term:=c.h.term } ev) rfl ho' (by omega)
 have x4:Ext S3 (⟨S3.next+11,S3.heap.put (S3.next+6) (.row 0 13 [aG { m with from':=c.id,term:=c.h.term } ev])⟩:St):=
  ((Ext.refl S3).bump 11).set (by omega) (by show S3.next+6<S3.next+11;omega) w3 _
 have hel:bO (⟨S3.next+11,S3.heap.put (S3.next+6) (.row 0 13 [aG { m with from':=c.id,term:=c.h.term } ev])⟩:St) (.sl (S3.next+6) 0 13 0 1)=.ok [aG { m with from':=c.id,term:=c.h.term } ev]:=by
  simp only [bO,fG]
  rfl
 have hf7:(⟨S3.next+11,S3.heap.put (S3.next+6) (.row 0 13 [aG { m with from':=c.id,term:=c.h.term } ev])⟩:St).heap.get (S3.next+7)=none:=by
  show (S3.heap.put _ _).get _=none
  rw [Tr.get_put_neB _ _ _ _ trivial (by omega)];exact hfree
 have hn4:S3.next+7<(⟨S3.next+11,S3.heap.put (S3.next+6) (.row 0 13 [aG { m with from':=c.id,term:=c.h.term } ev])⟩:St).next:=by show S3.next+7<S3.next+11;omega
 simp only at e3
 generalize (⟨S3.next+11,S3.heap.put (S3.next+6) (.row 0 13 [aG { m with from':=c.id,term:=c.h.term } ev])⟩:St)=S4 at e3 x4 hel hf7 hn4
 have x04:=x3.trans x4
 have w4:=x04.wf w
 have h4:=h.ext w x04
 have hrl:rows.length=c.out.length:=h.lets.len.symm
 obtain ⟨ov',S5,e5,w5,n5,o5,b5,k5,_⟩:=Mn.pushAt (b:=128) h4.out w4 hel ⟨rfl,ho'⟩ hn4 hf7 (by omega) (by unfold eV;omega)
 have hk5:∀ y b,S.heap.get y=some b→aO ov≠some y→S5.heap.get y=some b:=fun y b hy hb=>by
  have hlt:=w y b hy
  rw [k5 y (by have:=x3.next;omega) hb];exact x04.old _ _ hy
 obtain ⟨S6,e6,h6,m6,n6⟩:=h.w_out w w5 (by rw [n5];exact x04.next) hk5 o5 o5.cells (fun y hy=>by
  rcases b5 with b5 | b5
  ·rw [b5] at hy;cases hy;exact .inr (by have:=x3.next;omega)
  ·rw [b5] at hy;exact .inl hy) (All2.app (a:={ m with from':=c.id,term:=c.h.term }) ⟨ev,rfl,hm.1,fun y hy he=>hm.2 y hy (.inr (.inl he))⟩ h.lets) (Gd.app h.gd (by rw [n5];exact x04.next) _ hg)
 refine e86 ?_
 simp only [m86,bL,ho,hln,aP,hn1,aF,aQ,mU,dL,aH5,lF,eH,xA,aJ,eQ,aRz,xF,st3,aS3,Nat.reduceAdd,aS,h1.r_id,h1.r_term,h2.r_term,h3.r_out,e1,e2,cO,rP hg3,aUh,e3,aRr,e5,e6]
 exact Ok.ret ⟨rfl,_,⟨lv,wv,dv,ov',_,h6,rfl⟩,m6⟩
end
end
section
variable [Guard]
theorem xS {α:Type} (p:α→Bool):∀ (all acc:List α),gC (fun (l:List α) (f:α)=>(.inr (if p f=true then l++[f] else l):List α⊕List α)) id all acc=acc++all.filter p
 | [],acc=>by simp [gC]
 | f::all,acc=>by
  simp only [gC,xS p all,List.filter_cons]
  cases p f<;>simp
theorem jZ {c:Core} (ok:Hok c.h):1≤c.members∧c.members≤127:=by
 have h:=(eJ _ _ _).1 ok.fl
 exact nA c.h.log c.h.base (c.h.members,c.h.base) (fun x hx=>⟨(h.1 x hx).m0,(h.1 x hx).m1⟩) ⟨ok.m0,ok.m1⟩
theorem aAb {m f:Int} (h:f∈jK m):0≤f∧f<7:=by
 have:=(List.mem_filter.1 h).1
 simp only [ids,List.mem_cons,List.not_mem_nil,or_false] at this
 omega
theorem aFs {c:Core} {f:Int} (h:f∈c.others):0≤f∧f<7∧f≠c.id:=by
 obtain ⟨h1,h2⟩:=List.mem_filter.1 h
 exact ⟨(aAb h1).1,(aAb h1).2,by simpa using h2⟩
theorem tG (m:Int):(jK m).length≤7:=List.length_filter_le _ _
theorem aKw {S S2:St} {u:V} {l:List Int} (w:WF S) (x02:Ext S S2) (own1:Own S S2 1 u (l.map lI)) (hl:l.length≤1000) (f:Int):
  ∃ u' S4,fN 1 8 u (.sl S2.next 0 1 0 1) none (⟨S2.next+1,S2.heap.put S2.next (.row 0 1 [lI f])⟩:St)=.ok (u',S4)∧Ext S S4∧Own S S4 1 u' ((l++[f]).map lI):=by
 have hnew:=Ext.new (x02.wf w) (.row 0 1 [lI f])
 have hel:bO (⟨S2.next+1,S2.heap.put S2.next (.row 0 1 [lI f])⟩:St) (.sl S2.next 0 1 0 1)=.ok [lI f]:=by
  simp only [bO,fG]
  rfl
 obtain ⟨u',S4,r1,r2,_,r4⟩:=(own1.ext hnew).push (b:=8) (x02.trans hnew) w hel (fun c hc=>by rw [List.mem_singleton.1 hc];exact ⟨rfl,rfl⟩) (by simp) (by rw [rM];simp only [List.length_cons,List.length_nil];omega) (by rw [rM];simp only [List.length_cons,List.length_nil];unfold eV;omega)
 exact ⟨u',S4,r1,r2,by rw [List.map_append];exact r4⟩
section
variable {S:St} {a:Nat} {c:Core} {O:Nat→Prop}
theorem g82 (w:WF S) (h:CoreIn S a c O) (ok:Hok c.h):Does prog bD bE 82 [.ptr a 0 0 0] S (fun u S'=>Ext S S'∧Own S S' 1 u (c.others.map lI)):=by
 refine e82 ?_
 simp only [m82]
 refine (g47 w h ok).call fun S1 x1=>?_
 have w1:=x1.wf w
 refine Does.call (aS7 c.members S1 w1 (by have:=jZ ok;omega)) fun u S2 ⟨x2,own2⟩=>?_
 have x02:=x1.trans x2
 simp only [aH7,own2.sl.lenI,aF]
 have hrun:gC (fun (l:List Int) (f:Int)=>(.inr (if (!decide (f=c.id))=true then l++[f] else l):List Int⊕List Int)) id (jK c.members) []=c.others:=by
  rw [xS (fun f=>!decide (f=c.id))];rfl
 rw [←hrun]
 refine Ok.loopL (F:=fun k K=>aBj (aC prog bD bE k) k K (.ptr a 0 0 0) u (.int .i64 (jK c.members).length)) (ρ:=List Int) (α:=Int) (X:=V) (jK c.members) (fin:=id) (s:=[])
  (out:=fun k K x S'=>K x S')
  (fun i l vs S'=>∃ v,vs=[v,.int .i64 (i:Int)]∧Ext S2 S'∧Own S2 S' 1 v (l.map lI)∧l.length≤i)
  (fun l v S'=>Ext S S'∧Own S S' 1 v (l.map lI)) ?_ ?_ ⟨.nils,rfl,Ext.refl _,Own.nil _ _ _,Nat.le_refl _⟩ (fun x S1 h=>Ok.ret h)
 ·rintro i f l vs S3 ⟨v,rfl,x3,own3,hl⟩ hi
  have hil:=(List.getElem?_eq_some_iff.1 hi).1
  have hlm:=tG c.members
  have hlt:(i:Int)<((jK c.members).length:Int):=by omega
  have hw:wr .i64 ((i:Int)+1)=((i+1:Nat):Int):=by rw [dC (by omega) (by omega)];omega
  have x03:=x02.trans x3
  obtain ⟨lv,wv,dv,ov,rows,h3,_⟩:=h.ext w x03
  obtain ⟨p,hp,hat,_,_⟩:=(own2.sl.ext x3).elem hi
  have hat0:aM none p S3=.ok (.int .i64 f):=by rw [hat.load0];rfl
  simp only [aBj,bH,bK,aF,hlt,decide_true,bQ,aQ5,hp,eQ,hat0,aQ,mU,aJ,Nat.reduceAdd,h3.r_id,bF,aP,eX]
  refine OkL.pick (fun e=>?_) (fun e=>?_)
  ·obtain ⟨u',S4,r1,r2,r4⟩:=aKw (x02.wf w) x3 own3 (by omega) f
   simp only [aRw,aHa,aO4,r1,aF,cG,hw]
   refine OkL.next ⟨l++[f],by simp only [e,if_true],u',rfl,r2,r4,by simp;omega⟩
  ·simp only [cG,hw,aF]
   exact OkL.next ⟨l,by simp only [e];rfl,v,rfl,x3,own3,by omega⟩
 ·rintro l vs S3 ⟨v,rfl,x3,own3,hl⟩
  refine ⟨v,⟨x02.trans x3,own3.weaken x02.next⟩,fun k K aK=>?_⟩
  have hlt:¬ (((jK c.members).length:Nat):Int)<(jK c.members).length:=by omega
  simp only [aBj,bH,bK,aF,hlt,decide_false,aU]
end
end
section
variable [Guard]
theorem aE2 (x i:V):bA prog 85 x i=aDz 7 3 x i:=xR (by kernel_rfl) x i
theorem aMy:esT prog 22=some 3:=by kernel_rfl
theorem aMz:oM prog 9=true:=by kernel_rfl
theorem aV5 (s : List UInt8) (lo hi : Option V) : dP prog 9 (.str s) lo hi = (match eU s.length lo hi with
      | .ok (l, h) => .ok (.str ((s.take h).drop l))
      | .error e => .error e) := aE0 aMz s lo hi
theorem aKx (s:List UInt8) (S:St):dI prog 9 (.str s) S=.ok (.int .i64 s.length):=sN aMz s S
theorem aN0 (f b bt mb off sz:Int) (d:List UInt8):dB [.int .i64 0,.int .i64 0,.int .i64 0,.int .i64 0,.int .i64 0,.int .i64 0,.int .i64 0,.int .i64 0,.int .i64 0,.int .i64 0,.bool false,.str [],.nils] [(0,1),(1,1),(2,1),(3,1),(4,1),(5,1),(6,1),(7,1),(8,1),(9,1),(10,1),(11,1),(12,1)] [(0,.int .i64 5),(2,.int .i64 f),(4,.int .i64 b),(5,.int .i64 bt),(7,.int .i64 mb),(8,.int .i64 off),(9,.int .i64 sz),(11,.str d)]=
  .ok (.agg (aG { Letter.zero with kind:=5,to:=f,index:=b,at':=bt,members:=mb,off:=off,size:=sz,data:=d } .nils)):=rfl
theorem aQc {S:St} {u:V} {l:List Entry} (hu:Mn S 3 u (l.map bV)) (f i t com:Int):dB [.int .i64 0,.int .i64 0,.int .i64 0,.int .i64 0,.int .i64 0,.int .i64 0,.int .i64 0,.int .i64 0,.int .i64 0,.int .i64 0,.bool false,.str [],.nils] [(0,1),(1,1),(2,1),(3,1),(4,1),(5,1),(6,1),(7,1),(8,1),(9,1),(10,1),(11,1),(12,1)] [(0,.int .i64 3),(2,.int .i64 f),(4,.int .i64 i),(5,.int .i64 t),(12,u),(6,.int .i64 com)]=
  .ok (.agg (aG { Letter.zero with kind:=3,to:=f,index:=i,at':=t,entries:=l,commit:=com } u)):=by
 rcases hu.is with ⟨rfl,_⟩ | ⟨a,ver,tl,rfl,_⟩<;>rfl
section
variable {S:St} {a:Nat} {c:Core} {O:Nat→Prop}
theorem g83 {f:Int} (w:WF S) (h:CoreIn S a c O) (ok:Hok c.h) (hl:c.out.length≤1000000) (f0:0≤f) (f1:f<7) (hp:Pok c (c.peer f)):Meth 83 [.ptr a 0 0 0,.int .i64 f] a (c.send f) S O (.tup []):=by
 obtain ⟨n,rfl⟩:∃ n:Nat,f=(n:Int):=⟨f.toNat,by omega⟩
 have hn:n<7:=by omega
 have hpe:c.peers.getD n ⟨0,0,0⟩=c.peer (n:Int):=rfl
 obtain ⟨lv,wv,dv,ov,rows,h,rfl⟩:=h
 have hr:=fH ok
 have hb:=ok.b0
 obtain ⟨S1,S2,q1,q2,x2,hg2,hn2⟩:=vb w 3 [.int .i64 0,.int .i64 0,.int .i64 0] (.agg (iD (c.peer (n:Int)))) rfl rfl rfl
 rw [bL] at hg2
 have w2:=x2.wf w
 have h2:=h.ext w x2
 have v0:∀ {T:St},T.heap.get S.next=some (.row 0 3 [iD (c.peer (n:Int))])→aM none (.ptr S.next 0 0 0) T=.ok (.int .i64 (c.peer (n:Int)).next):=fun hg=>by rw [aX _ _ _ _ _ (aR hg)];rfl
 have v2:aM none (.ptr S.next 0 0 2) S2=.ok (.int .i64 (c.peer (n:Int)).off):=by rw [aX _ _ _ _ _ (aR hg2)];rfl
 have hp2:=h.r_peer hn
 rw [hpe] at hp2
 refine e83 ?_
 simp only [m83,aQ,sW,dL,iK,fP,pR,wY,wZ,iJ,aBp,aKh,aJ,aF,Nat.reduceAdd,Nat.add_zero,aE2,nD hn,aUl,hp2,q1,aKm,q2,aS,eQ,ld9,oA,v0 hg2,h2.r_base,fT]
 refine Ok.pickP (fun e=>?_) (fun e=>?_)
 ·
  have ho:(c.peer (n:Int)).off≤c.h.snap.length:=by rcases hp.o1 with h1 | h1<;>omega
  have hb1:=tE (len:=c.h.snap.length) .i64 hp.o0 ho
  have hb2:=tF (len:=(c.h.snap.drop (c.peer (n:Int)).off.toNat).length) (l:=min ((c.h.snap.drop (c.peer (n:Int)).off.toNat).length:Int) 600) .i64 (by omega) (by omega)
  have ht:((c.h.snap.drop (c.peer (n:Int)).off.toNat).take (min ((c.h.snap.drop (c.peer (n:Int)).off.toNat).length:Int) 600).toNat)=(c.h.snap.drop (c.peer (n:Int)).off.toNat).take 600:=by
   by_cases hq:(c.h.snap.drop (c.peer (n:Int)).off.toNat).length≤600
   ·rw [List.take_of_length_le hq,List.take_of_length_le (by omega)]
   ·congr 1;omega
  simp only [h2.r_snap,aF,v2,aV5,hb1,List.take_length,h2.r_baseTerm,h2.r_mem,h2.r_base,aKx,rQ,hb2,List.drop_zero,ht,rI,aN0]
  have xb:Ext S2 (⟨S2.next+49,S2.heap⟩:St):=(Ext.refl S2).bump 49
  have hs:c.send (n:Int)=c.post { Letter.zero with kind:=5,to:=(n:Int),index:=c.h.base,at':=c.h.baseTerm,members:=c.h.members,off:=(c.peer (n:Int)).off,size:=c.h.snap.length,data:=(c.h.snap.drop (c.peer (n:Int)).off.toNat).take 600 }:=by
   unfold Core.send;simp only;rw [if_pos e]
  rw [hs]
  refine Meth.call (g86 (O:=own a lv wv dv ov) _ .nils (xb.wf w2) ⟨lv,wv,dv,ov,rows,h2.ext w2 xb,rfl⟩ (Apart.nil _ _ rfl) hl) (xb.wf w2) fun S3 O3 w3 h3 m3=>?_
  exact Ok.ret ⟨rfl,O3,h3,(Mv.of (x2.trans xb)).trans w m3⟩
 ·
  have hnx:=hp.n1
  have hi0:(0:Int)≤(c.peer (n:Int)).next - c.h.base - 1:=by omega
  have hlast:c.last=c.h.base+c.h.log.length:=rfl
  have hle:(c.peer (n:Int)).next - c.h.base - 1≤((c.h.log.map bV).length:Int):=by rw [List.length_map];omega
  have hw1:wr .i64 ((c.peer (n:Int)).next - c.h.base)=(c.peer (n:Int)).next - c.h.base:=dC (by omega) (by omega)
  have hw2:wr .i64 ((c.peer (n:Int)).next - c.h.base - 1)=(c.peer (n:Int)).next - c.h.base - 1:=dC (by omega) (by omega)
  have hw3:wr .i64 ((c.peer (n:Int)).next - 1)=(c.peer (n:Int)).next - 1:=dC (by omega) (by omega)
  obtain ⟨u1,r1,l1,b1⟩:=aFo aMy h2.log.sl (tE .i64 hi0 hle) (by omega) (Nat.le_refl _)
  rw [List.take_length] at l1
  generalize hk:((c.peer (n:Int)).next - c.h.base - 1).toNat=k at l1
  have l1':Sl S2 3 u1 ((c.h.log.drop k).map bV):=by rw [List.map_drop];exact l1
  have hmin:(0:Int)≤min ((c.h.log.drop k).length:Int) 8:=by omega
  obtain ⟨u2,r2,l2,b2⟩:=aFo aMy l1' (tF (l:=min ((c.h.log.drop k).length:Int) 8) .i64 hmin (by rw [List.length_map];omega)) (by omega) (by rw [List.length_map];omega)
  have hes:(((c.h.log.drop k).map bV).take (min ((c.h.log.drop k).length:Int) 8).toNat).drop 0=((c.h.log.drop k).take 8).map bV:=by
   rw [List.drop_zero,←List.map_take]
   congr 1
   by_cases hq:(c.h.log.drop k).length≤8
   ·rw [List.take_of_length_le hq,List.take_of_length_le (by omega)]
   ·congr 1;omega
  rw [hes] at l2
  have hlen8:((c.h.log.drop k).take 8).length≤8:=by simp;omega
  have xb:Ext S2 (⟨S2.next+24,S2.heap⟩:St):=(Ext.refl S2).bump 24
  obtain ⟨u3,S4,r3,x4,o4⟩:=(l2.ext xb).copy (b:=32) (xb.wf w2) (by rw [List.length_map];omega) (by rw [List.length_map];unfold eV;omega)
  have x24:=xb.trans x4
  have w4:=x24.wf w2
  have xc:Ext S4 (⟨S4.next+17,S4.heap⟩:St):=(Ext.refl S4).bump 17
  have h4:=h2.ext w2 x24
  have g4:=x24.old _ _ hg2
  simp only [h2.r_log,aF,v0 hg2,h2.r_base,dK,hw1,hw2,r1,rK,l1'.lenI,rQ,r2,aDo,r3,aS,v0 g4,hw3,h4.r_sure]
  refine (g62 (O:=own a lv wv dv ov) ⟨lv,wv,dv,ov,rows,h4.ext w4 xc,rfl⟩ ok (n:=(c.peer (n:Int)).next - 1) (by omega) (by omega)).call fun S5 x5=>?_
  have x45:=xc.trans x5
  have h5:=h4.ext w4 x45
  have w5:=x45.wf w4
  have g5:=x45.old _ _ g4
  have o5:Mn S5 3 u3 (((c.h.log.drop k).take 8).map bV):=(o4.ext x45).weaken (Nat.zero_le _)
  have hap:aFq S5 (own a lv wv dv ov) { Letter.zero with kind:=3,to:=(n:Int),index:=(c.peer (n:Int)).next - 1,at':=c.term ((c.peer (n:Int)).next - 1),entries:=(c.h.log.drop k).take 8,commit:=c.sure } u3:=by
   refine ⟨⟨o5.sl,fun y hy hO=>?_⟩,fun y hy=>?_⟩
   ·have h1:=aFr w2 h2 hO
    have h3:=(sX o4 hy).1
    have h3':S2.next+24≤y:=h3
    omega
   ·have h3:=(sX o4 hy).1
    have h3':S2.next+24≤y:=h3
    have h4':=h2.gd.1
    omega
  simp only [h5.r_sure,v0 g5,aF,cO,aP,rI,aQc o5]
  have hs:c.send (n:Int)=c.post { Letter.zero with kind:=3,to:=(n:Int),index:=(c.peer (n:Int)).next - 1,at':=c.term ((c.peer (n:Int)).next - 1),entries:=(c.h.log.drop k).take 8,commit:=c.sure }:=by
   unfold Core.send;simp only;rw [if_neg e,hk]
  rw [hs]
  refine Meth.call (g86 (O:=own a lv wv dv ov) _ u3 w5 ⟨lv,wv,dv,ov,rows,h5,rfl⟩ hap hl) w5 fun S6 O6 w6 h6 m6=>?_
  exact Ok.ret ⟨rfl,O6,h6,(Mv.of (x2.trans (x24.trans x45))).trans w m6⟩
end
end
section
variable [Guard]
theorem rR {α σ:Type} (g:σ→α→σ):∀ (l:List α) (s:σ),gC (fun s a=>(.inr (g s a):σ⊕σ)) id l s=l.foldl g s
 | [],s=>rfl
 | a::l,s=>by simp only [gC,List.foldl_cons,rR g l]
theorem uY {c:Core} (h:c.peers.length=7) {f:Int} (f0:0≤f) (f1:f<7):c.peer f∈c.peers:=by
 unfold Core.peer
 rw [List.getD_eq_getElem?_getD,List.getElem?_eq_getElem (by omega)]
 exact List.getElem_mem _
theorem aBx {S S':St} {O O':Nat→Prop} {n:Nat} {u:V} {es:List (List V)} (w:WF S) (hs:Sl S n u es) (h:∀ y,aO u=some y→¬ O y) (k:Mv O S O' S'):Sl S' n u es∧∀ y,aO u=some y→¬ O' y:=by
 refine ⟨k.sl hs h,fun y hy hO=>?_⟩
 rcases k.own y hO with h1 | h1
 ·exact h y hy h1
 ·have:=aDt w hs y hy;omega
theorem core_lt {S:St} {a:Nat} {c:Core} {O:Nat→Prop} (w:WF S) (h:CoreIn S a c O):∀ y,O y→y<S.next:=by
 obtain ⟨lv,wv,dv,ov,rows,h,rfl⟩:=h
 exact fun y hy=>aFr w h hy
section
variable {S:St} {a:Nat} {c:Core} {O:Nat→Prop}
structure Told (g:Core→Int→Core) (a:Nat) (c:Core) (S:St) (O:Nat→Prop) (u:V) (i:Nat) (d:Core) (vs:List V) (S':St):Prop where
 vs:vs=[.int .i64 (i:Int)]
 wf:WF S'
 core:∃ O',CoreIn S' a d O'∧Mv O S O' S'∧∀ y,aO u=some y→¬ O' y
 sent:Sent c d
 out:d.out.length≤c.out.length+i
theorem g48 (w:WF S) (h:CoreIn S a c O) (ok:Hok c.h) (hl:c.out.length≤999990) (hp:c.role=3→∀ p∈c.peers,Pok c p):Meth 48 [.ptr a 0 0 0] a c.spread S O (.tup []):=by
 have hc:=h
 obtain ⟨lv,wv,dv,ov,rows,h,hO⟩:=h
 refine e48 ?_
 simp only [m48,aQ,fW,aJ,aF,Nat.reduceAdd,eQ,h.r_role,bF,aP,eX]
 refine Ok.pickN (fun e=>Ok.ret ⟨rfl,O,by unfold Core.spread;rw [if_neg e];exact hc,Mv.refl O S⟩) (fun e=>?_)
 have hsp:c.spread=c.others.foldl Core.send c:=by unfold Core.spread;rw [if_pos e]
 refine Does.call (g82 w hc ok) fun u S1 ⟨x1,own1⟩=>?_
 have w1:=x1.wf w
 simp only [aH7,own1.sl.lenI,aF]
 rw [hsp,←rR]
 refine Ok.loopL (F:=fun k K=>aBe (aC prog bD bE k) k K (.ptr a 0 0 0) u (.int .i64 c.others.length)) (ρ:=Core) (α:=Int) (X:=Core) c.others (step:=fun d f=>.inr (d.send f)) (fin:=id) (s:=c)
  (out:=fun k K x S'=>K (.tup []) S')
  (fun i d vs S'=>Told Core.send a c S O u i d vs S'∧Sl S' 1 u (c.others.map lI))
  (fun d x S'=>d=x∧∃ O',CoreIn S' a d O'∧Mv O S O' S') ?_ ?_ ⟨⟨rfl,w1,⟨O,hc.ext w x1,Mv.of x1,fun y hy hOy=>?_⟩,Sent.refl c,Nat.le_refl _⟩,own1.sl⟩ (fun x S' ⟨e,O',h1,h2⟩=>Ok.ret ⟨rfl,O',e▸h1,h2⟩)
 ·rintro i f d vs S2 ⟨⟨rfl,w2,⟨O2,h2,m2,f2⟩,s2,l2⟩,sl2⟩ hi
  have hil:=(List.getElem?_eq_some_iff.1 hi).1
  have hlt:(i:Int)<(c.others.length:Int):=by omega
  have hol:c.others.length≤7:=Nat.le_trans (List.length_filter_le _ _) (tG _)
  have hw:wr .i64 ((i:Int)+1)=((i+1:Nat):Int):=by rw [dC (by omega) (by omega)];omega
  obtain ⟨p,hp',hat,_,_⟩:=sl2.elem hi
  have hat0:aM none p S2=.ok (.int .i64 f):=by rw [hat.load0];rfl
  have hf:=aFs (List.mem_of_getElem? hi)
  have hpk:Pok d (d.peer f):=Pok.of s2.h (hp e _ (by rw [←s2.peers];exact uY h2.peers hf.1 hf.2.1))
  simp only [aBe,bH,bK,aF,hlt,decide_true,bQ,aQ5,hp',eQ,hat0]
  refine Meth.callL (g83 w2 h2 (by rw [s2.h];exact ok) (by omega) hf.1 hf.2.1 hpk) w2 fun S3 O3 w3 h3 m3=>?_
  simp only [cG,hw,aF]
  obtain ⟨sl3,f3⟩:=aBx w2 sl2 f2 m3
  refine OkL.next ⟨d.send f,rfl,⟨rfl,w3,⟨O3,h3,m2.trans w m3,f3⟩,s2.trans (Sent.send d f),?_⟩,sl3⟩
  have:(d.send f).out.length=d.out.length+1:=by
   unfold Core.send;simp only;split<;>simp [Core.post]
  omega
 ·rintro d vs S2 ⟨⟨rfl,w2,⟨O2,h2,m2,f2⟩,s2,l2⟩,sl2⟩
  refine ⟨d,⟨rfl,O2,h2,m2⟩,fun k K aK=>?_⟩
  have hlt:¬ (((c.others.length:Nat):Int))<c.others.length:=by omega
  simp only [aBe,bH,bK,aF,hlt,decide_false,aU]
 ·have h1:=(sX own1 hy).1
  have h2:=core_lt w hc y hOy
  omega
end
end
section
variable [Guard]
theorem aFt:(fun (p0 p1 p2 p3 p4 p5 p6:Peer)=>(List.range 7).map fun (i:Nat)=>lW prog 85 (.agg ([p0,p1,p2,p3,p4,p5,p6].map iD).flatten) (.int .i64 (i:Int)))=fun p0 p1 p2 p3 p4 p5 p6=>[.ok (.agg (iD p0)),.ok (.agg (iD p1)),.ok (.agg (iD p2)),.ok (.agg (iD p3)),.ok (.agg (iD p4)),.ok (.agg (iD p5)),.ok (.agg (iD p6))]:=by kernel_rfl
theorem aE3 {l:List Peer} (h:l.length=7) {i:Nat} (hi:i<7):lW prog 85 (.agg (l.map iD).flatten) (.int .i64 (i:Int))=.ok (.agg (iD (l.getD i ⟨0,0,0⟩))):=by
 obtain ⟨p0,p1,p2,p3,p4,p5,p6,rfl⟩:=kN h
 have e:=congrFun (congrFun (congrFun (congrFun (congrFun (congrFun (congrFun aFt p0) p1) p2) p3) p4) p5) p6
 have e2:=congrArg (fun l=>l[i]?) e
 simp only [List.getElem?_map,List.getElem?_range hi,Option.map_some] at e2
 match i,hi with
 | 0,_=>exact Option.some.inj e2
 | 1,_=>exact Option.some.inj e2
 | 2,_=>exact Option.some.inj e2
 | 3,_=>exact Option.some.inj e2
 | 4,_=>exact Option.some.inj e2
 | 5,_=>exact Option.some.inj e2
 | 6,_=>exact Option.some.inj e2
def nU (l:List Peer) (n:Int) (yes:Int) (i:Nat):Int⊕Int:=.inr (if n≤(l.getD i ⟨0,0,0⟩).mtch then yes+2 ^ i else yes)
theorem aV6 {l:List Peer} (h:l.length=7) (n:Int):gC (nU l n) id (List.range 7) 0=aBu l 0 n:=by
 obtain ⟨p0,p1,p2,p3,p4,p5,p6,rfl⟩:=kN h
 show gC (nU [p0,p1,p2,p3,p4,p5,p6] n) id [0,1,2,3,4,5,6] 0=_
 simp only [gC,nU,aBu,id,List.getD_cons_zero,List.getD_cons_succ]
 split<;>split<;>split<;>split<;>split<;>split<;>split<;>rfl
theorem aQd {y:Int} {i:Nat} (h0:0≤y) (h1:y<2 ^ i) (hi:i<7):wr .i64 ((BitVec.ofInt IntKind.i64.bits y ||| BitVec.ofInt IntKind.i64.bits ((2:Int) ^ i)).toNat)=y+2 ^ i:=by
 have all:∀ i:Nat,i<7→∀ a:Nat,a<128→a<2 ^ i→(a ||| 2 ^ i:Nat)=a+2 ^ i:=by decide +kernel
 have hp:(2:Int) ^ i≤64:=(sZ hi).2
 have hc:((2 ^ i:Nat):Int)=(2:Int) ^ i:=by push_cast;rfl
 have hy:y=(y.toNat:Int):=by omega
 have e:(BitVec.ofInt IntKind.i64.bits y ||| BitVec.ofInt IntKind.i64.bits ((2:Int) ^ i)).toNat=y.toNat ||| 2 ^ i:=by
  show (BitVec.ofInt 64 y ||| BitVec.ofInt 64 ((2:Int) ^ i)).toNat=_
  rw [BitVec.toNat_or,BitVec.toNat_ofInt,BitVec.toNat_ofInt]
  congr 1<;>omega
 rw [e,all i hi y.toNat (by omega) (by omega),dC (by omega) (by omega)]
 push_cast
 omega
theorem uZ {i:Nat} (hi:i<7):aD prog .shl 3 (.int .i64 1) (.int .u64 (i:Int))=.ok (.int .i64 ((2:Int) ^ i)):=by
 have hp:=sZ hi
 have:min ((i:Int).toNat) IntKind.i64.bits=i:=by show min ((i:Int).toNat) 64=_;omega
 simp only [aD,nF,show ¬ (i:Int)<0 by omega,decide_false,cond_false,this,Int.one_mul]
 rw [dC (by omega) (by omega)]
theorem wru (i:Nat) (h7:i<7):wr .u64 (i:Int)=(i:Int):=by unfold wr lo hi;simp only;rw [if_pos (by omega)]
def jM (c:Core) (m:Int) (s:Int) (i:Nat):Int⊕Int:=if c.last - i≤s then .inl s else .inr (if c.term (c.last - i)=c.h.term∧mV m (aBu c.peers 0 (c.last - i))=true then c.last - i else s)
theorem aO7 (c:Core) (m:Int):∀ (k i:Nat) (s:Int),gC (jM c m) id ((List.range' i k)) s=mY c m k (c.last - i) s
 | 0,i,s=>rfl
 | k+1,i,s=>by
  rw [List.range'_succ]
  simp only [gC,mY,jM]
  by_cases h:c.last - (i:Int)≤s
  ·rw [if_pos h,if_pos h]
  ·rw [if_neg h,if_neg h]
   simp only
   rw [aO7 c m k (i+1)]
   congr 1
   push_cast;omega
theorem aFu {l:List Peer} (h:l.length=7) (n:Int):0≤aBu l 0 n∧aBu l 0 n≤127:=by
 obtain ⟨p0,p1,p2,p3,p4,p5,p6,rfl⟩:=kN h
 simp only [aBu]
 split<;>split<;>split<;>split<;>split<;>split<;>split<;>decide
section
variable {S:St} {a:Nat} {c:Core} {O:Nat→Prop}
structure LookI (a:Nat) (c:Core) (O:Nat→Prop) (S:St) (s:Int) (S':St):Prop where
 wf:WF S'
 core:CoreIn S' a { c with sure:=s } O
 mv:Mv O S O S'
 s0:c.sure≤s
 s1:s≤c.last
theorem g90 (w:WF S) (h:CoreIn S a c O) (ok:Hok c.h) (hs0:c.h.base≤c.sure) (hs1:c.sure≤c.last):Meth 90 [.ptr a 0 0 0] a c.look S O (.tup []):=by
 have hin:=h
 obtain ⟨lv,wv,dv,ov,rows,h,hO⟩:=h
 have hr:=fH ok
 have hb:=ok.b0
 have hmr:=jZ ok
 have hl:=ok.ll
 have hpl:=h.peers
 refine e90 ?_
 simp only [m90,aQ,dL,aJ,aF,Nat.reduceAdd,yQ,h.r_hard]
 refine (g49 c.h lv S w h.log.sl (by omega) ok.b0 ok.b1).call fun S1 x1=>?_
 have w1:=x1.wf w
 have in1:=hin.ext w x1
 simp only [rH,List.getElem?_cons_zero,List.getElem?_cons_succ,aDf]
 refine (g46 in1 ok).call fun S2 x2=>?_
 have x02:=x1.trans x2
 have w2:=x2.wf w1
 have in2:=hin.ext w x02
 have hk:((c.last - c.sure).toNat:Int)=c.last - c.sure:=by omega
 have hm:(ofM c.h).1=c.members:=rfl
 refine Ok.loopL (F:=fun k K=>pQ (aC prog bD bE k) k K (.ptr a 0 0 0) (.int .i64 (ofM c.h).1) (.int .i64 (ofM c.h).2)) (ρ:=Int) (α:=Nat) (X:=Int) (List.range' 0 (c.last - c.sure).toNat) (step:=jM c (ofM c.h).1) (fin:=id) (s:=c.sure)
  (out:=fun k K n S'=>pQ (aC prog bD bE k) k K (.ptr a 0 0 0) (.int .i64 (ofM c.h).1) (.int .i64 (ofM c.h).2) [.int .i64 n] S' (fun _ _=>none))
  (fun i s vs S'=>vs=[.int .i64 (c.last - i)]∧LookI a c O S s S')
  (fun s n S'=>n≤s∧LookI a c O S s S') ?_ ?_ ⟨by simp,⟨w2,in2,Mv.of x02,Int.le_refl _,hs1⟩⟩ (fun n S3 ⟨hn,L⟩=>?_)
 ·rintro i j s vs S3 ⟨rfl,L⟩ hi
  obtain ⟨hil,hj⟩:=List.getElem?_eq_some_iff.1 hi
  rw [List.length_range'] at hil
  rw [List.getElem_range'] at hj
  have hj:j=i:=by omega
  subst hj
  have hin3:=L.core
  obtain ⟨lv,wv,dv,ov,rows,h3,hO3⟩:=L.core
  have hlt:c.last - (j:Int)≥c.h.base:=by omega
  generalize hq:c.last - (j:Int)=n
  have hnn:c.last - ((j+1:Nat):Int)=n - 1:=by rw [←hq];push_cast;omega
  have hw:wr .i64 (n - 1)=n - 1:=dC (by omega) (by omega)
  by_cases hd:n≤s
  ·exact OkL.stop n ⟨s,by unfold jM;rw [hq,if_pos hd],hd,L⟩ (fun k K aK=>by
    have hdec:¬ s<n:=by omega
    simp only [pQ,bH,aQ,iK,aJ,Nat.reduceAdd,aF,eQ,h3.r_sure,dY,hdec,decide_false,aU])
  ·have hdec:s<n:=by omega
   simp only [pQ,bH,aQ,iK,sW,aJ,Nat.reduceAdd,aF,eQ,h3.r_sure,dY,hdec,decide_true,bQ,aUm,h3.r_peers]
   have hy7:=aFu hpl n
   refine OkL.loop (F:=fun k K ag=>pP (aC prog bD bE k) k K ag (.ptr a 0 0 0) (.int .i64 (ofM c.h).1) (.int .i64 (ofM c.h).2) (.int .i64 n) (.agg (c.peers.map iD).flatten)) (ρ:=Int) (α:=Nat) (Y:=Int) (List.range 7) (step:=nU c.peers n) (fin:=id) (s:=0)
    (out2:=fun k K ag y S'=>pP (aC prog bD bE k) k K ag (.ptr a 0 0 0) (.int .i64 (ofM c.h).1) (.int .i64 (ofM c.h).2) (.int .i64 n) (.agg (c.peers.map iD).flatten) [.int .i64 y,.int .i64 7] S' (fun _ _=>none))
    (fun i y vs S'=>vs=[.int .i64 y,.int .i64 (i:Int)]∧Ext S3 S'∧0≤y∧y<2 ^ i)
    (fun r y S'=>r=y∧Ext S3 S') ?_ ?_ ⟨rfl,Ext.refl _,by omega,by decide⟩ (fun y S4 ⟨hy,x4⟩=>?_)
   ·rintro i i' y vs S4 ⟨rfl,x4,y0,y1⟩ hi'
    obtain ⟨hil',hj'⟩:=List.getElem?_eq_some_iff.1 hi'
    rw [List.length_range] at hil'
    rw [List.getElem_range] at hj'
    subst hj'
    have w4:=x4.wf L.wf
    obtain ⟨S5,S6,q1,q2,x6,hg6,hn6⟩:=vb w4 3 [.int .i64 0,.int .i64 0,.int .i64 0] (.agg (iD (c.peers.getD i ⟨0,0,0⟩))) rfl rfl rfl
    have v1:aM none (.ptr S4.next 0 0 1) S6=.ok (.int .i64 (c.peers.getD i ⟨0,0,0⟩).mtch):=by rw [aX _ _ _ _ _ (aR hg6)];rfl
    have hlt':(i:Int)<7:=by omega
    have hw':wr .i64 ((i:Int)+1)=((i+1:Nat):Int):=by rw [dC (by omega) (by omega)];omega
    have hpow:(2:Int) ^ (i+1)=2*2 ^ i:=by rw [Int.pow_succ];omega
    refine ⟨0,.inr ?_⟩
    by_cases hd':n≤(c.peers.getD i ⟨0,0,0⟩).mtch
    ·refine ⟨y+2 ^ i,[.int .i64 (y+2 ^ i),.int .i64 ((i+1:Nat):Int)],S6,by unfold nU;rw [if_pos hd'],⟨rfl,x4.trans x6,by omega,by omega⟩,fun k K ag aK _=>?_⟩
     have hor:aD prog .or 3 (.int .i64 y) (.int .i64 ((2:Int) ^ i))=.ok (.int .i64 (y+2 ^ i)):=by
      simp only [aD,bR,cond_true,dD,aQd y0 y1 hil']
     simp only [pP,bH,bK,hlt',decide_true,bQ,aF,aE3 hpl hil',q1,aKm,q2,xD,aJ,Nat.reduceAdd,eQ,v1,eO,hd',aBm,wru i hil',uZ hil',hor,cG,hw']
    ·refine ⟨y,[.int .i64 y,.int .i64 ((i+1:Nat):Int)],S6,by unfold nU;rw [if_neg hd'],⟨rfl,x4.trans x6,by omega,by omega⟩,fun k K ag aK _=>?_⟩
     simp only [pP,bH,bK,hlt',decide_true,bQ,aF,aE3 hpl hil',q1,aKm,q2,xD,aJ,Nat.reduceAdd,eQ,v1,eO,hd',decide_false,aU,cG,hw']
   ·rintro y vs S4 ⟨rfl,x4,y0,y1⟩
    refine ⟨0,y,S4,⟨rfl,x4⟩,fun k K ag aK _=>?_⟩
    have hlt':¬ (((List.range 7).length:Nat):Int)<7:=by rw [List.length_range];decide
    have hlt7:¬ (7:Int)<7:=by decide
    simp only [pP,bH,bK,hlt',hlt7,decide_false,aU,aF]
   ·rw [aV6 hpl] at hy
    subst hy
    have w4:=x4.wf L.wf
    have in4:=hin3.ext L.wf x4
    have h4:=h3.ext L.wf x4
    have hlt7:¬ (7:Int)<7:=by decide
    have xb:Ext S4 (⟨S4.next+14,S4.heap⟩:St):=(Ext.refl S4).bump 14
    simp only [pP,bH,bK,hlt7,decide_false,aU,aF,aQ,dL,lF,aJ,Nat.reduceAdd,eQ,aS,h4.r_term]
    refine (g62 (in4.ext w4 xb) ok (n:=n) (by show c.h.base≤n;omega) (by show n≤c.last;omega)).callL fun S5 x5=>?_
    have x45:=xb.trans x5
    have w5:=x45.wf w4
    have h5:=h4.ext w4 x45
    have x35:=x4.trans x45
    have hterm:({ c with sure:=s }:Core).term n=c.term n:=rfl
    simp only [h5.r_term,aF,cO,aP,bF,cK,hterm]
    have no:(S6:St)→(∀ (p:Prop),¬ (c.term n=c.h.term∧mV (ofM c.h).1 (aBu c.peers 0 n)=true)→jM c (ofM c.h).1 s j=.inr s):=fun _ p e=>by unfold jM;rw [hq,if_neg hd,if_neg e]
    refine OkL.pickP (fun e=>?_) (fun e=>?_)
    ·refine (g84 _ _ S5 w5 hy7.1 hy7.2).callL fun S6 x6=>?_
     have w6:=x6.wf w5
     have h6:=h5.ext w5 x6
     have x36:=x35.trans x6
     refine OkL.pick (fun e2=>?_) (fun e2=>?_)
     ·obtain ⟨S7,q7,h7,m7,n7⟩:=h6.w_sure w6 n
      rw [←hO3] at m7
      simp only [aQ,iK,aJ,Nat.reduceAdd,aF,st3,q7,dK,hw]
      exact OkL.next ⟨n,by unfold jM;rw [hq,if_neg hd,if_pos ⟨e,e2⟩],by rw [hnn],⟨m7.wf w6,⟨_,_,_,_,_,h7,hO3⟩,(L.mv.trans w (Mv.of x36)).trans w m7,by have:=L.s0;omega,by omega⟩⟩
     ·simp only [dK,hw,aF]
      exact OkL.next ⟨s,no S6 True (fun e3=>by rw [e2] at e3;exact absurd e3.2 (by decide)),by rw [hnn],⟨w6,hin3.ext L.wf x36,L.mv.trans w (Mv.of x36),L.s0,L.s1⟩⟩
    ·simp only [aFg,aU,dK,hw,aF]
     exact OkL.next ⟨s,no S5 True (fun e3=>e e3.1),by rw [hnn],⟨w5,hin3.ext L.wf x35,L.mv.trans w (Mv.of x35),L.s0,L.s1⟩⟩
 ·rintro s vs S3 ⟨rfl,L⟩
  rw [List.length_range',hk]
  refine ⟨c.last - (c.last - c.sure),⟨by have:=L.s0;show _≤s;omega,L⟩,fun k K aK=>?_⟩
  obtain ⟨lv,wv,dv,ov,rows,h3,hO3⟩:=L.core
  have hdec:¬ s<c.last - (c.last - c.sure):=by have:=L.s0;omega
  simp only [pQ,bH,aQ,iK,aJ,Nat.reduceAdd,aF,eQ,h3.r_sure,dY,hdec,decide_false,aU]
 ·rw [aO7] at hn L
  have e0:c.last - ((0:Nat):Int)=c.last:=by simp
  rw [e0] at hn L
  generalize hsv:mY c (ofM c.h).1 (c.last - c.sure).toNat c.last c.sure=s at hn L
  have hin3:=L.core
  obtain ⟨lv,wv,dv,ov,rows,h3,hO3⟩:=L.core
  have hdec:¬ s<n:=by omega
  simp only [pQ,bH,aQ,iK,mU,aJ,Nat.reduceAdd,aF,eQ,h3.r_sure,h3.r_id,dY,hdec,decide_false,aU]
  refine (g50 _ _ S3 (by rw [hm];omega)).call fun S4 x4=>?_
  have w4:=x4.wf L.wf
  have in4:=hin3.ext L.wf x4
  have h4:=h3.ext L.wf x4
  have mv4:=L.mv.trans w (Mv.of x4)
  simp only [fO,aF]
  have hlook:c.look=if cZ (ofM c.h).1 c.id=false∧(ofM c.h).2≤s then ({ c with sure:=s }:Core).rest else { c with sure:=s }:=by
   unfold Core.look;simp only;rw [hsv]
  refine Ok.pick (fun e=>?_) (fun e=>?_)
  ·simp only [h4.r_sure,aF,fT]
   refine Ok.pickP (fun e2=>?_) (fun e2=>?_)
   ·refine Meth.call (aV4 w4 in4) w4 fun S5 O5 w5 in5 m5=>Ok.ret ⟨rfl,O5,?_,mv4.trans w m5⟩
    rw [hlook,if_pos ⟨by simpa using e,e2⟩];exact in5
   ·refine Ok.ret ⟨rfl,O,?_,mv4⟩
    rw [hlook,if_neg (fun q=>e2 q.2)];exact in4
  ·refine Ok.ret ⟨rfl,O,?_,mv4⟩
   rw [hlook,if_neg (fun q=>by rw [q.1] at e;cases e)];exact in4
end
end
end Go.Proofs.Ytbiidlmhadihlaa
end
section
namespace Go.Raft
open Go.AM
section
variable [Guard]
theorem CoreAt.push {S:St} {a:Nat} {c:Core} {lv wv dv ov:V} {rows:List (List V)} (h:CoreAt S a c lv wv dv ov rows) (w:WF S) (x:Entry) (z:List V) (n k1 k2:Nat) (hk1:k1<n) (hk2:k2<n) (hk:k2≠k1) (hl:c.h.log.length≤1000000):
  ∃ S1 lv' S2 S3,cN 3 z 1 [(0,.agg (bV x))] (some (S.next+k1)) (⟨S.next+n,S.heap⟩:St)=.ok (.sl (S.next+k1) 0 3 0 1,S1)∧fN 3 32 lv (.sl (S.next+k1) 0 3 0 1) (some (S.next+k2)) S1=.ok (lv',S2)∧bG 1 (.ptr a 0 0 7) lv' S2=.ok S3 ∧
   CoreAt S3 a { c with h:={ c.h with log:=c.h.log++[x] } } lv' wv dv ov rows∧Mv (own a lv wv dv ov) S (own a lv' wv dv ov) S3:=by
 have hfree:(⟨S.next+n,S.heap⟩:St).heap.get (S.next+k2)=none:=nR w n (S.next+k2) (by omega)
 have e3:=mS (⟨S.next+n,S.heap⟩:St) (S.next+k1) 3 (bV x) rfl rfl (by omega) z
 have x4:Ext S (⟨S.next+n,S.heap.put (S.next+k1) (.row 0 3 [bV x])⟩:St):=
  ((Ext.refl S).bump n).set (by omega) (by show S.next+k1<S.next+n;omega) w _
 have hel:bO (⟨S.next+n,S.heap.put (S.next+k1) (.row 0 3 [bV x])⟩:St) (.sl (S.next+k1) 0 3 0 1)=.ok [bV x]:=by
  simp only [bO,fG]
  rfl
 have hf7:(⟨S.next+n,S.heap.put (S.next+k1) (.row 0 3 [bV x])⟩:St).heap.get (S.next+k2)=none:=by
  show (S.heap.put _ _).get _=none
  rw [Tr.get_put_neB _ _ _ _ trivial (by omega)];exact hfree
 have hn4:S.next+k2<(⟨S.next+n,S.heap.put (S.next+k1) (.row 0 3 [bV x])⟩:St).next:=by show S.next+k2<S.next+n;omega
 simp only at e3
 generalize (⟨S.next+n,S.heap.put (S.next+k1) (.row 0 3 [bV x])⟩:St)=S1 at e3 x4 hel hf7 hn4
 have w1:=x4.wf w
 have h1:=h.ext w x4
 have hll:(c.h.log.map bV).length=c.h.log.length:=List.length_map ..
 obtain ⟨lv',S2,e5,w5,n5,o5,b5,k5,_⟩:=Mn.pushAt (b:=32) h1.log w1 hel ⟨rfl,rfl⟩ hn4 hf7 (by omega) (by unfold eV;omega)
 have o5':Mn S2 3 lv' ((c.h.log++[x]).map bV):=by rw [List.map_append];exact o5
 obtain ⟨S3,e6,h6,m6,n6⟩:=h.w_log w w5 (by rw [n5];exact x4.next) (fun y b hy hb=>by
  have hlt:=w y b hy
  rw [k5 y (by omega) hb];exact x4.old _ _ hy) o5' o5'.cells (fun y hy=>by
  rcases b5 with b5 | b5
  ·rw [b5] at hy;cases hy;exact .inr (by omega)
  ·rw [b5] at hy;exact .inl hy)
 exact ⟨S1,lv',S2,S3,e3,e5,e6,h6,m6⟩
theorem CoreAt.push2 {S:St} {a:Nat} {c:Core} {lv wv dv ov:V} {rows:List (List V)} (h:CoreAt S a c lv wv dv ov rows) (w:WF S) {l:List Entry} {u:V} (hu:Mn S 3 u (l.map bV)) (hub:aO u=aO lv) (x:Entry) (z:List V) (n k1 k2:Nat) (hk1:k1<n) (hk2:k2<n) (hk:k2≠k1) (hl:l.length≤1000000):
  ∃ S1 lv' S2 S3,cN 3 z 1 [(0,.agg (bV x))] (some (S.next+k1)) (⟨S.next+n,S.heap⟩:St)=.ok (.sl (S.next+k1) 0 3 0 1,S1)∧fN 3 32 u (.sl (S.next+k1) 0 3 0 1) (some (S.next+k2)) S1=.ok (lv',S2)∧bG 1 (.ptr a 0 0 7) lv' S2=.ok S3 ∧
   CoreAt S3 a { c with h:={ c.h with log:=l++[x] } } lv' wv dv ov rows∧Mv (own a lv wv dv ov) S (own a lv' wv dv ov) S3:=by
 have hfree:(⟨S.next+n,S.heap⟩:St).heap.get (S.next+k2)=none:=nR w n (S.next+k2) (by omega)
 have e3:=mS (⟨S.next+n,S.heap⟩:St) (S.next+k1) 3 (bV x) rfl rfl (by omega) z
 have x4:Ext S (⟨S.next+n,S.heap.put (S.next+k1) (.row 0 3 [bV x])⟩:St):=
  ((Ext.refl S).bump n).set (by omega) (by show S.next+k1<S.next+n;omega) w _
 have hel:bO (⟨S.next+n,S.heap.put (S.next+k1) (.row 0 3 [bV x])⟩:St) (.sl (S.next+k1) 0 3 0 1)=.ok [bV x]:=by
  simp only [bO,fG]
  rfl
 have hf7:(⟨S.next+n,S.heap.put (S.next+k1) (.row 0 3 [bV x])⟩:St).heap.get (S.next+k2)=none:=by
  show (S.heap.put _ _).get _=none
  rw [Tr.get_put_neB _ _ _ _ trivial (by omega)];exact hfree
 have hn4:S.next+k2<(⟨S.next+n,S.heap.put (S.next+k1) (.row 0 3 [bV x])⟩:St).next:=by show S.next+k2<S.next+n;omega
 simp only at e3
 generalize (⟨S.next+n,S.heap.put (S.next+k1) (.row 0 3 [bV x])⟩:St)=S1 at e3 x4 hel hf7 hn4
 have w1:=x4.wf w
 have h1:=h.ext w x4
 have hll:(l.map bV).length=l.length:=List.length_map ..
 obtain ⟨lv',S2,e5,w5,n5,o5,b5,k5,_⟩:=Mn.pushAt (b:=32) (Mn.fr hu x4.next fun y b _=>x4.old y b) w1 hel ⟨rfl,rfl⟩ hn4 hf7 (by omega) (by unfold eV;omega)
 have o5':Mn S2 3 lv' ((l++[x]).map bV):=by rw [List.map_append];exact o5
 obtain ⟨S3,e6,h6,m6,n6⟩:=h.w_log w w5 (by rw [n5];exact x4.next) (fun y b hy hb=>by
  have hlt:=w y b hy
  rw [k5 y (by omega) (by rw [hub];exact hb)];exact x4.old _ _ hy) o5' o5'.cells (fun y hy=>by
  rcases b5 with b5 | b5
  ·rw [b5] at hy;cases hy;exact .inr (by omega)
  ·rw [b5,hub] at hy;exact .inl hy)
 exact ⟨S1,lv',S2,S3,e3,e5,e6,h6,m6⟩
end
end Go.Raft
end
section
namespace Go.Proofs.Ytbiidlmhadihlaa
open Go.AM Go.Raft Try
section
variable [Guard]
theorem aAc (c:Core):c.look.h=c.h∧c.look.peers=c.peers∧c.look.out=c.out∧c.look.id=c.id∧(c.look.role=3→c.role=3):=by
 unfold Core.look
 simp only
 split
 ·exact ⟨rfl,rfl,rfl,rfl,fun e=>absurd e (by show ¬ (1:Int)=3;decide)⟩
 ·exact ⟨rfl,rfl,rfl,rfl,fun e=>e⟩
theorem aE4 (t:Int):dB [.int .i64 0,.int .i64 0,.str []] [(0,1),(1,1),(2,1)] [(0,.int .i64 t)]=.ok (.agg (bV ⟨t,0,[]⟩)):=rfl
theorem aN1 (l:List Peer) (h:l.length=7) (p:Peer):(List.range 7).foldl (fun l i=>l.set i p) l=List.replicate 7 p:=by
 obtain ⟨p0,p1,p2,p3,p4,p5,p6,rfl⟩:=kN h
 rfl
section
variable {S:St} {a:Nat} {c:Core} {O:Nat→Prop}
theorem g60 (w:WF S) (h:CoreIn S a c O) (ok:Hok c.h) (i0:0≤c.id) (i1:c.id<7) (hs0:c.h.base≤c.sure) (hs1:c.sure≤c.last) (hl:c.out.length≤999990) (hp:c.role=3→∀ p∈c.peers,Pok c p):Meth 60 [.ptr a 0 0 0] a c.own S O (.tup []):=by
 obtain ⟨n,hn⟩:∃ n:Nat,c.id=(n:Int):=⟨c.id.toNat,by omega⟩
 have hn7:n<7:=by omega
 have hin:=h
 obtain ⟨lv,wv,dv,ov,rows,h,hO⟩:=h
 have xb:Ext S (⟨S.next+12,S.heap⟩:St):=(Ext.refl S).bump 12
 refine e60 ?_
 simp only [m60,aQ,mU,sW,aJ,aF,Nat.reduceAdd,eQ,aS,h.r_id]
 refine (g46 (hin.ext w xb) ok).call fun S1 x1=>?_
 have x01:=xb.trans x1
 have w1:=x01.wf w
 have h1:=h.ext w x01
 obtain ⟨S2,q2,h2,m2,n2⟩:=h1.w_mtch w1 hn7 c.last
 simp only [h1.r_id,aF,cO,aP,hn,aE2,nD hn7,xD,aJ,st3,q2]
 have w2:=m2.wf w1
 have hset:({ c with peers:=c.peers.set n { c.peers.getD n ⟨0,0,0⟩ with mtch:=c.last } }:Core)=c.setPeer c.id { c.peer c.id with mtch:=c.last }:=by
  unfold Core.setPeer Core.peer;rw [hn];rfl
 rw [hset] at h2
 have in2:CoreIn S2 a (c.setPeer c.id { c.peer c.id with mtch:=c.last }) O:=⟨_,_,_,_,_,h2,hO⟩
 rw [←hO] at m2
 have mv2:=(Mv.of (O:=O) x01).trans w m2
 refine Meth.call (g90 w2 in2 ok hs0 hs1) w2 fun S3 O3 w3 in3 m3=>?_
 obtain ⟨e1,e2,e3,e4,e5⟩:=aAc (c.setPeer c.id { c.peer c.id with mtch:=c.last })
 refine Meth.call (g48 w3 in3 (by rw [e1];exact ok) (by rw [e3];exact hl) (fun hr p hpm=>?_)) w3 fun S4 O4 w4 in4 m4=>?_
 ·rw [e2] at hpm
  have hr':=e5 hr
  rcases List.mem_or_eq_of_mem_set hpm with hpm | rfl
  ·exact Pok.of (c:=c) (by rw [e1];rfl) (hp hr' p hpm)
  ·have q:=hp hr' _ (uY h.peers i0 i1)
   have hbase:=ok.b0
   exact Pok.of (c:=c) (by rw [e1];rfl) ⟨by show 0≤c.last;omega,by show c.last≤c.last;omega,q.n0,q.n1,q.o0,q.o1⟩
 ·exact Ok.ret ⟨rfl,O4,in4,(mv2.trans w m3).trans w m4⟩
theorem g85 (w:WF S) (h:CoreIn S a c O) (ok:Hok c.h) (i0:0≤c.id) (i1:c.id<7) (ht:1≤c.h.term) (hs0:c.h.base≤c.sure) (hs1:c.sure≤c.last) (hl:c.out.length≤999990):Meth 85 [.ptr a 0 0 0] a c.lead S O (.tup []):=by
 have hr:=fH ok
 have hb:=ok.b0
 obtain ⟨lv,wv,dv,ov,rows,h,rfl⟩:=h
 obtain ⟨S1,q1,h1,m1,n1⟩:=h.w_role w 3
 have w1:=m1.wf w
 obtain ⟨S2,q2,h2,m2,n2⟩:=h1.w_leads w1 c.id
 have w2:=m2.wf w1
 obtain ⟨S3,q3,h3,m3,n3⟩:=h2.w_left w2 3
 have w3:=m3.wf w2
 have mv3:=(m1.trans w m2).trans w m3
 refine e85 ?_
 simp only [m85,aQ,mU,fW,pU,lG,aJ,aF,Nat.reduceAdd,eQ,st3,h.r_id,q1,q2,q3]
 generalize hc1:({ c with role:=3,leads:=c.id,left:=3 }:Core)=c1 at h3
 have e1:c1.h=c.h:=by rw [←hc1]
 have el:c1.last=c.last:=by unfold Core.last;rw [e1]
 have ok1:Hok c1.h:=by rw [e1];exact ok
 have hpl:c1.peers.length=7:=h3.peers
 refine Ok.loopL (F:=fun k K=>sU (aC prog bD bE k) k K (.ptr a 0 0 0)) (ρ:=List Peer) (α:=Nat) (X:=List Peer) (List.range 7) (step:=fun l i=>.inr (l.set i ⟨c.last+1,0,0⟩)) (fin:=id) (s:=c1.peers)
  (out:=fun k K l S'=>sU (aC prog bD bE k) k K (.ptr a 0 0 0) [.int .i64 7] S' (fun _ _=>none))
  (fun i l vs S'=>vs=[.int .i64 (i:Int)]∧WF S'∧l.length=7∧CoreIn S' a { c1 with peers:=l } (own a lv wv dv ov)∧Mv (own a lv wv dv ov) S (own a lv wv dv ov) S')
  (fun l x S'=>WF S'∧l.length=7∧CoreIn S' a { c1 with peers:=l } (own a lv wv dv ov)∧Mv (own a lv wv dv ov) S (own a lv wv dv ov) S') ?_ ?_ ⟨rfl,w3,hpl,⟨lv,wv,dv,ov,rows,h3,rfl⟩,mv3⟩ (fun l S4 ⟨w4,hl7,in4,mv4⟩=>?_)
 ·rintro i i' l vs S4 ⟨rfl,w4,hl7,in4,mv4⟩ hi
  obtain ⟨hil,hj⟩:=List.getElem?_eq_some_iff.1 hi
  rw [List.length_range] at hil
  rw [List.getElem_range] at hj
  subst hj
  have hlt:(i:Int)<7:=by omega
  have hw:wr .i64 ((i:Int)+1)=((i+1:Nat):Int):=by rw [dC (by omega) (by omega)];omega
  have hwl:wr .i64 (c1.last+1)=c1.last+1:=dC (by omega) (by omega)
  have xb:Ext S4 (⟨S4.next+10,S4.heap⟩:St):=(Ext.refl S4).bump 10
  simp only [sU,bH,bK,aF,hlt,decide_true,bQ,aQ,sW,aJ,Nat.reduceAdd]
  refine (g46 (in4.ext w4 xb) ok1).callL fun S5 x5=>?_
  have x45:=xb.trans x5
  have w5:=x45.wf w4
  obtain ⟨lv',wv',dv',ov',rows',h5,hO5⟩:=in4.ext w4 x45
  obtain ⟨S6,q6,h6,m6,n6⟩:=h5.w_peer w5 hil ⟨c1.last+1,0,0⟩
  rw [←hO5] at m6
  have hbd:bM prog 84 [(0,.int .i64 (c1.last+1))]=.ok (.agg (iD ⟨c1.last+1,0,0⟩)):=by rw [aRu];rfl
  have hlast:({ c1 with peers:=l }:Core).last=c1.last:=rfl
  simp only [hlast,cG,hwl,hw,aF,hbd,aE2,nD hil,aKm,q6]
  exact OkL.next ⟨l.set i ⟨c.last+1,0,0⟩,rfl,rfl,m6.wf w5,by rw [List.length_set];exact hl7,⟨lv',wv',dv',ov',rows',by rw [el] at h6;exact h6,hO5⟩,(mv4.trans w (Mv.of x45)).trans w m6⟩
 ·rintro l vs S4 ⟨rfl,w4,hl7,in4,mv4⟩
  have hlt:¬ (((List.range 7).length:Nat):Int)<7:=by rw [List.length_range];decide
  have hlt7:¬ (7:Int)<7:=by decide
  refine ⟨l,⟨w4,hl7,in4,mv4⟩,fun k K aK=>?_⟩
  simp only [sU,bH,bK,aF,hlt,hlt7,decide_false,aU]
 ·rw [rR,aN1 _ hpl] at in4
  have hlt7:¬ (7:Int)<7:=by decide
  simp only [sU,bH,bK,aF,hlt7,decide_false,aU]
  generalize hc2:({ c1 with peers:=List.replicate 7 ⟨c.last+1,0,0⟩ }:Core)=c2 at in4
  have e2:c2.h=c.h:=by rw [←hc2];exact e1
  have el2:c2.last=c.last:=by unfold Core.last;rw [e2]
  have ok2:Hok c2.h:=by rw [e2];exact ok
  have hc2':c2={ c with role:=3,leads:=c.id,left:=3,peers:=List.replicate 7 ⟨c.last+1,0,0⟩ }:=by rw [←hc2,←hc1]
  have hpk:∀ p∈c2.peers,p=⟨c.last+1,0,0⟩:=fun p hp=>by rw [hc2'] at hp;exact List.eq_of_mem_replicate hp
  have hlead:c.lead=(if c.last<1099511627776∧c.h.log.length<200 then { c2 with h:={ c2.h with log:=c2.h.log++[⟨c2.h.term,0,[]⟩] } } else c2).own:=by unfold Core.lead;rw [hc2']
  refine (g46 in4 ok2).call fun S5 x5=>?_
  have w5:=x5.wf w4
  have in5:=in4.ext w4 x5
  have hin5:=in5
  obtain ⟨lv',wv',dv',ov',rows',h5,hO5⟩:=in5
  have mv5:=mv4.trans w (Mv.of x5)
  have fin0:¬ (c.last<1099511627776∧c.h.log.length<200)→Ok (fun k K=>aC prog bD bE k 60 [.ptr a 0 0 0] S5 fun t31 S32=>K (.tup []) S32) (fun u S'=>u=.tup []∧∃ O',CoreIn S' a c.lead O'∧Mv (own a lv wv dv ov) S O' S'):=fun hno=>by
   rw [hlead,if_neg hno]
   refine Meth.call (g60 w5 hin5 ok2 (by rw [hc2'];exact i0) (by rw [hc2'];exact i1) (by rw [hc2'];exact hs0) (by rw [el2,hc2'];exact hs1) (by rw [hc2'];exact hl) (fun _ p hp=>?_)) w5 fun S6 O6 w6 in6 m6=>Ok.ret ⟨rfl,O6,in6,mv5.trans w m6⟩
   rw [hpk p hp]
   exact ⟨Int.le_refl _,by show 0≤c2.last;omega,by show 1≤c.last+1;omega,by show c.last+1≤c2.last+1;omega,Int.le_refl _,.inr rfl⟩
  simp only [el2]
  refine Ok.pickP (fun e=>?_) (fun e=>?_)
  ·simp only [aQ,dL,iJ,aJ,Nat.reduceAdd,aF,oA,h5.r_log,rK,h5.log.sl.lenI,bK,e2]
   by_cases e3:((c.h.log.length:Nat):Int)<200
   ·obtain ⟨S6,lv6,S7,S8,r1,r2,r3,h8,m8⟩:=h5.push w5 ⟨c2.h.term,0,[]⟩ [.int .i64 0,.int .i64 0,.str []] 18 12 13 (by decide) (by decide) (by decide) (by rw [e2];have:=ok.ll;omega)
    have w8:=m8.wf w5
    simp only [wV,e3,decide_true,bQ,aQ,dL,iJ,lF,aJ,Nat.reduceAdd,aF,oA,eQ,aS,h5.r_log,h5.r_term,aUf,aE4,aRv,r1,aDo,r2,aMs,r3]
    rw [hlead,if_pos ⟨e,by omega⟩]
    rw [←hO5] at m8
    have okp:=Hok.push ok (x:=⟨c.h.term,0,[]⟩) ⟨ht,Int.le_refl _,Int.le_refl _,by show (0:Int)≤127;omega,by simp,.inl rfl⟩ rfl (by omega) e
    refine Meth.call (g60 w8 ⟨_,_,_,_,_,h8,rfl⟩ (by show Hok { c2.h with log:=_ };rw [e2];exact okp) (by rw [hc2'];exact i0) (by rw [hc2'];exact i1) (by rw [hc2'];exact hs0) ?_ (by rw [hc2'];exact hl) (fun _ p hp=>?_)) w8 fun S9 O9 w9 in9 m9=>Ok.ret ⟨rfl,O9,in9,(mv5.trans w m8).trans w m9⟩
    ·rw [hc2'];unfold Core.last bZ at hs1 ⊢;simp;omega
    ·rw [hpk p hp]
     have hlen:({ c2 with h:={ c2.h with log:=c2.h.log++[⟨c2.h.term,0,[]⟩] } }:Core).last=c.last+1:=by rw [hc2'];unfold Core.last bZ;simp;omega
     exact ⟨Int.le_refl _,by rw [hlen];show 0≤c.last+1;omega,by show 1≤c.last+1;omega,by rw [hlen];show c.last+1≤c.last+1+1;omega,Int.le_refl _,.inr rfl⟩
   ·simp only [wV,e3,decide_false,aU]
    exact fin0 (fun q=>e3 (by omega))
  ·simp only [wV,aU]
   exact fin0 (fun q=>e q.1)
end
end
section
variable [Guard]
theorem aQe (f i t:Int):dB [.int .i64 0,.int .i64 0,.int .i64 0,.int .i64 0,.int .i64 0,.int .i64 0,.int .i64 0,.int .i64 0,.int .i64 0,.int .i64 0,.bool false,.str [],.nils] [(0,1),(1,1),(2,1),(3,1),(4,1),(5,1),(6,1),(7,1),(8,1),(9,1),(10,1),(11,1),(12,1)] [(0,.int .i64 1),(2,.int .i64 f),(4,.int .i64 i),(5,.int .i64 t)]=
  .ok (.agg (aG { Letter.zero with kind:=1,to:=f,index:=i,at':=t } .nils)):=rfl
theorem aQf {a b i k:Nat} (h:a≤b+i) (hb:b≤999990) (hi:i<k) (hk:k≤7):a≤1000000:=by omega
theorem aKy (c:Core) (m:Letter):(c.post m).out.length=c.out.length+1:=by simp [Core.post]
section
variable {S:St} {a:Nat} {c:Core} {O:Nat→Prop}
theorem g51 (w:WF S) (h:CoreIn S a c O) (ok:Hok c.h) (i0:0≤c.id) (i1:c.id<7) (ht:c.h.term<1099511627776) (hs0:c.h.base≤c.sure) (hs1:c.sure≤c.last) (hl:c.out.length≤999990):Meth 51 [.ptr a 0 0 0] a c.stand S O (.tup []):=by
 have hr:=fH ok
 have hb:=ok.b0
 have ht0:=ok.t0
 obtain ⟨n,hn⟩:∃ n:Nat,c.id=(n:Int):=⟨c.id.toNat,by omega⟩
 have hn7:n<7:=by omega
 have hw:wr .i64 (c.h.term+1)=c.h.term+1:=dC (by omega) (by omega)
 have hpow:=sZ hn7
 obtain ⟨lv,wv,dv,ov,rows,h,rfl⟩:=h
 obtain ⟨S1,q1,h1,m1,n1⟩:=h.w_term w (c.h.term+1)
 have w1:=m1.wf w
 have xb:Ext S1 (⟨S1.next+27,S1.heap⟩:St):=(Ext.refl S1).bump 27
 have wb:=xb.wf w1
 have hb1:=h1.ext w1 xb
 obtain ⟨S2,q2,h2',m2,n2⟩:=hb1.w_vote wb c.id
 have h2:CoreAt S2 a { c with h:={ c.h with term:=c.h.term+1,vote:=c.id } } lv wv dv ov rows:=h2'
 clear h2'
 have w2:=m2.wf wb
 obtain ⟨S3,q3,h3',m3,n3⟩:=h2.w_role w2 2
 have h3:CoreAt S3 a { c with h:={ c.h with term:=c.h.term+1,vote:=c.id },role:=2 } lv wv dv ov rows:=h3'
 clear h3'
 have w3:=m3.wf w2
 obtain ⟨S4,q4,h4',m4,n4⟩:=h3.w_leads w3 (-1)
 have h4:CoreAt S4 a { c with h:={ c.h with term:=c.h.term+1,vote:=c.id },role:=2,leads:=-1 } lv wv dv ov rows:=h4'
 clear h4'
 have w4:=m4.wf w3
 obtain ⟨S5,q5,h5',m5,n5⟩:=h4.w_votes w4 (2 ^ n)
 have h5:CoreAt S5 a { c with h:={ c.h with term:=c.h.term+1,vote:=c.id },role:=2,leads:=-1,votes:=(2:Int) ^ n } lv wv dv ov rows:=h5'
 clear h5'
 have w5:=m5.wf w4
 have mv5:=((((m1.trans w (Mv.of xb)).trans w m2).trans w m3).trans w m4).trans w m5
 generalize hc1:({ c with h:={ c.h with term:=c.h.term+1,vote:=c.id },role:=2,leads:=-1,votes:=(2:Int) ^ n }:Core)=c1 at h5
 have xb5:Ext S5 (⟨S5.next+7,S5.heap⟩:St):=(Ext.refl S5).bump 7
 have hw2:wr .u64 (n:Int)=(n:Int):=wru n hn7
 refine e51 ?_
 simp only [m51,aQ,mU,dL,fW,pU,aKi,lF,wX,aJ,aF,Nat.reduceAdd,eQ,st3,h.r_term,cG,hw,q1,aS,h1.r_id,aBm,hn,hw2,uZ hn7]
 rw [hn] at q2
 have hid1:({ c with h:={ c.h with term:=c.h.term+1 } }:Core).id=(n:Int):=hn
 simp only [hid1,hw2,uZ hn7,aF,q2,q3,q4,q5,aS,h5.r_votes]
 have ok1:Hok c1.h:=by
  rw [←hc1]
  have k:=ok
  exact ⟨by show 0≤c.h.term+1;omega,by show c.h.term+1≤_;omega,by show -1≤c.id;omega,by show c.id<7;omega,k.m0,k.m1,k.b0,k.b1,k.bt0,by show c.h.baseTerm≤c.h.term+1;have:=k.bt1;omega,k.btz,k.ll,k.li,lH (by show c.h.term≤c.h.term+1;omega) k.fl,k.sz,k.sl⟩
 have el1:c1.last=c.last:=by rw [←hc1];rfl
 have hv1:c1.votes=2 ^ n:=by rw [←hc1]
 have hstand:c.stand=(if mV c1.members c1.votes=true then c1.lead else c1.others.foldl (fun d f=>d.post { Letter.zero with kind:=1,to:=f,index:=d.last,at':=d.term d.last }) c1):=by
  unfold Core.stand;simp only
  rw [show c.id.toNat=n by omega,hc1,hv1]
 have in5:CoreIn S5 a c1 (own a lv wv dv ov):=⟨_,_,_,_,_,h5,rfl⟩
 refine (g47 (xb5.wf w5) (in5.ext w5 xb5) ok1).call fun S6 x6=>?_
 have x56:=xb5.trans x6
 have w6:=x56.wf w5
 have h6:=h5.ext w5 x56
 have in6:=in5.ext w5 x56
 simp only [h6.r_votes,aF,cO,aP]
 refine (g84 _ _ S6 w6 (by rw [hv1];omega) (by rw [hv1];omega)).call fun S7 x7=>?_
 have w7:=x7.wf w6
 have in7:=in6.ext w6 x7
 have mv7:=mv5.trans w (Mv.of (x56.trans x7))
 have eid:c1.id=c.id:=by rw [←hc1]
 have esure:c1.sure=c.sure:=by rw [←hc1]
 have eout:c1.out=c.out:=by rw [←hc1]
 have hl1:c1.out.length≤999990:=by rw [eout];exact hl
 have ebase:c1.h.base=c.h.base:=by rw [←hc1]
 rw [hstand]
 refine Ok.pick (fun e=>?_) (fun e=>?_)
 ·rw [if_pos e]
  exact Meth.call (g85 w7 in7 ok1 (by rw [eid];exact i0) (by rw [eid];exact i1) (by rw [←hc1];show 1≤c.h.term+1;omega) (by rw [ebase,esure];exact hs0) (by rw [esure,el1];exact hs1) (by rw [eout];exact hl)) w7 fun S8 O8 w8 in8 m8=>Ok.ret ⟨rfl,O8,in8,mv7.trans w m8⟩
 ·rw [e,if_neg (by decide)]
  refine Does.call (g82 w7 in7 ok1) fun u S8 ⟨x8,own8⟩=>?_
  have w8:=x8.wf w7
  simp only [aH7,own8.sl.lenI,aF]
  rw [←rR]
  have hlen7:c1.others.length≤7:=Nat.le_trans (List.length_filter_le _ _) (tG _)
  refine Ok.loopL (F:=fun k K=>aBf (aC prog bD bE k) k K (.ptr a 0 0 0) u (.int .i64 c1.others.length)) (ρ:=Core) (α:=Int) (X:=Core) c1.others (fin:=id) (s:=c1)
   (out:=fun k K x S'=>K (.tup []) S')
   (fun i d vs S'=>Told Core.send a c1 S7 (own a lv wv dv ov) u i d vs S'∧Sl S' 1 u (c1.others.map lI))
   (fun d x S'=>d=x∧∃ O',CoreIn S' a d O'∧Mv (own a lv wv dv ov) S7 O' S') ?_ ?_ ⟨⟨rfl,w8,⟨_,in7.ext w7 x8,Mv.of x8,fun y hy hOy=>?_⟩,Sent.refl c1,Nat.le_refl _⟩,own8.sl⟩ (fun x S' ⟨e,O',h1,h2⟩=>Ok.ret ⟨rfl,O',e▸h1,mv7.trans w h2⟩)
  ·rintro i f d vs S9 ⟨⟨rfl,w9,⟨O9,h9,m9,f9⟩,s9,l9⟩,sl9⟩ hi
   have hil:=(List.getElem?_eq_some_iff.1 hi).1
   have hlt:(i:Int)<(c1.others.length:Int):=by omega
   have hwi:wr .i64 ((i:Int)+1)=((i+1:Nat):Int):=by rw [dC (by omega) (by omega)];omega
   obtain ⟨p,hp',hat,_,_⟩:=sl9.elem hi
   have hat0:aM none p S9=.ok (.int .i64 f):=by rw [hat.load0];rfl
   have okd:Hok d.h:=by rw [s9.h];exact ok1
   simp only [aBf,bH,bK,aF,hlt,decide_true,bQ,aQ5,hp',eQ,hat0]
   refine (g46 h9 okd).callL fun Sa xa=>?_
   have wa:=xa.wf w9
   have ina:=h9.ext w9 xa
   refine (g46 ina okd).callL fun Sb xb=>?_
   have wb:=xb.wf wa
   have inb:=ina.ext wa xb
   refine (g62 inb okd (n:=d.last) (by have:=okd.li;unfold Core.last bZ;omega) (Int.le_refl _)).callL fun Sc xc=>?_
   have wc:=xc.wf wb
   have inc:=inb.ext wb xc
   have xac:=xa.trans (xb.trans xc)
   simp only [rI,aQe,aF]
   refine Meth.callL (g86 _ .nils wc inc (Apart.nil _ _ rfl) (aQf l9 hl1 hil hlen7)) wc fun Sd Od wd ind md=>?_
   simp only [cG,hwi,aF]
   obtain ⟨sld,fd⟩:=aBx wc (sl9.ext xac) f9 md
   refine OkL.next ⟨_,rfl,⟨rfl,wd,⟨Od,ind,(m9.trans w7 (Mv.of xac)).trans w7 md,fd⟩,s9.trans (Sent.post d _),?_⟩,sld⟩
   rw [aKy];exact Nat.add_le_add_right l9 1
  ·rintro d vs S9 ⟨⟨rfl,w9,⟨O9,h9,m9,f9⟩,s9,l9⟩,sl9⟩
   refine ⟨d,⟨rfl,O9,h9,m9⟩,fun k K aK=>?_⟩
   have hlt:¬ (((c1.others.length:Nat):Int))<c1.others.length:=by omega
   simp only [aBf,bH,bK,aF,hlt,decide_false,aU]
  ·have h1:=(sX own8 hy).1
   have h2:=core_lt w7 in7 y hOy
   omega
end
end
section
variable [Guard]
section
variable {S:St} {a:Nat} {c:Core} {O:Nat→Prop}
theorem g18 (cS:Int) (w:WF S) (h:CoreIn S a c O) (I:Inv c) (hl:c.out.length≤999990):Meth 18 [.ptr a 0 0 0,.int .i64 cS] a (c.tick cS) S O (.tup []):=by
 have ok:=I.h
 have f0:=I.f0
 have f1:=I.f1
 have hmr:=jZ ok
 obtain ⟨lv,wv,dv,ov,rows,h,rfl⟩:=h
 have hw:wr .i64 (c.left - 1)=c.left - 1:=dC (by omega) (by omega)
 obtain ⟨S1,q1,h1,m1,n1⟩:=h.w_left w (c.left - 1)
 have w1:=m1.wf w
 refine e18 ?_
 simp only [m18,aQ,lG,fW,aJ,aF,Nat.reduceAdd,eQ,st3,h.r_left,dK,hw,q1,h1.r_left,dY]
 have htick:c.tick cS=(if 0<c.left - 1 then { c with left:=c.left - 1 } else if c.role=3 then ({ c with left:=3 }:Core).spread else
  if c.h.term<1099511627776∧(cZ c.members c.id=true∨c.sure<(ofM c.h).2) then ({ c with drawn:=cX cS,left:=cX cS }:Core).stand else { c with drawn:=cX cS,left:=cX cS }):=rfl
 rw [htick]
 refine Ok.pickP (fun e=>Ok.ret ⟨rfl,_,⟨_,_,_,_,_,by rw [if_pos e];exact h1,rfl⟩,m1⟩) (fun e=>?_)
 rw [if_neg e]
 simp only [h1.r_role,aF,bF,aP,cK]
 refine Ok.pickP (fun e2=>?_) (fun e2=>?_)
 ·rw [if_pos e2]
  obtain ⟨S2,q2,h2',m2,n2⟩:=h1.w_left w1 3
  have h2:CoreAt S2 a { c with left:=3 } lv wv dv ov rows:=h2'
  clear h2'
  simp only [aQ,lG,aJ,aF,Nat.reduceAdd,st3,q2]
  have w2:=m2.wf w1
  exact Meth.call (g48 w2 ⟨_,_,_,_,_,h2,rfl⟩ ok hl (fun hr p hp=>Pok.of (c:=c) (d:={ c with left:=3 }) rfl (I.pr hr p hp))) w2 fun S3 O3 w3 in3 m3=>Ok.ret ⟨rfl,O3,in3,(m1.trans w m2).trans w m3⟩
 ·rw [if_neg e2]
  refine (g34 cS S1).call fun S2 x2=>?_
  have w2:=x2.wf w1
  have h2:=h1.ext w1 x2
  obtain ⟨S3,q3,h3',m3,n3⟩:=h2.w_drawn w2 (cX cS)
  have h3:CoreAt S3 a { c with left:=c.left - 1,drawn:=cX cS } lv wv dv ov rows:=h3'
  clear h3'
  have w3:=m3.wf w2
  obtain ⟨S4,q4,h4',m4,n4⟩:=h3.w_left w3 (cX cS)
  have h4:CoreAt S4 a { c with drawn:=cX cS,left:=cX cS } lv wv dv ov rows:=h4'
  clear h4'
  have w4:=m4.wf w3
  have mv4:=((m1.trans w (Mv.of x2)).trans w m3).trans w m4
  generalize hc4:({ c with drawn:=cX cS,left:=cX cS }:Core)=c4 at h4
  have e4:c4.h=c.h:=by rw [←hc4]
  have eid:c4.id=c.id:=by rw [←hc4]
  have es:c4.sure=c.sure:=by rw [←hc4]
  have eo:c4.out=c.out:=by rw [←hc4]
  have hll:=ok.ll
  simp only [aQ,xE,lG,dL,aJ,aF,Nat.reduceAdd,eQ,st3,q3,h3.r_drawn,q4,yQ,h4.r_hard]
  rw [e4]
  refine (g49 c.h lv S4 w4 (by rw [←e4];exact h4.log.sl) (by omega) ok.b0 ok.b1).call fun S5 x5=>?_
  have w5:=x5.wf w4
  have h5:=h4.ext w4 x5
  have in5:CoreIn S5 a c4 (own a lv wv dv ov):=⟨_,_,_,_,_,h5,rfl⟩
  have mv5:=mv4.trans w (Mv.of x5)
  have hm:(ofM c.h).1=c.members:=rfl
  simp only [rH,List.getElem?_cons_zero,List.getElem?_cons_succ,aDf,aQ,dL,mU,lF,aJ,aF,Nat.reduceAdd,eQ,h5.r_term,h5.r_id,bK,e4,eid]
  have stand:(S6:St)→(x:Ext S5 S6)→(e3:c.h.term<1099511627776∧(cZ c.members c.id=true∨c.sure<(ofM c.h).2))→Ok (fun k K=>aC prog bD bE k 51 [.ptr a 0 0 0] S6 fun t31 S32=>K (.tup []) S32) (fun u S'=>u=.tup []∧∃ O',CoreIn S' a (if c.h.term<1099511627776∧(cZ c.members c.id=true∨c.sure<(ofM c.h).2) then c4.stand else c4) O'∧Mv (own a lv wv dv ov) S O' S'):=fun S6 x e3=>by
   rw [if_pos e3]
   have w6:=x.wf w5
   exact Meth.call (g51 w6 (in5.ext w5 x) (by rw [e4];exact ok) (by rw [eid];exact I.i0) (by rw [eid];exact I.i1) (by rw [e4];exact e3.1) (by rw [e4,es];exact I.s0) (by unfold Core.last;rw [e4,es];exact I.s1) (by rw [eo];exact hl)) w6 fun S7 O7 w7 in7 m7=>Ok.ret ⟨rfl,O7,in7,(mv5.trans w (Mv.of x)).trans w m7⟩
  refine Ok.pickP (fun e3=>?_) (fun e3=>?_)
  ·refine (g50 _ _ S5 (by rw [hm];omega)).call fun S6 x6=>?_
   have h6:=h5.ext w5 x6
   refine Ok.pick (fun e5=>?_) (fun e5=>?_)
   ·exact stand S6 x6 ⟨e3,.inl e5⟩
   ·simp only [aQ,iK,aJ,Nat.reduceAdd,eQ,h6.r_sure,aF,dY,es]
    refine Ok.pickP (fun e6=>?_) (fun e6=>?_)
    ·exact stand S6 x6 ⟨e3,.inr e6⟩
    ·refine Ok.ret ⟨rfl,_,?_,mv5.trans w (Mv.of x6)⟩
     rw [if_neg (fun q=>by
      rcases q.2 with q | q
      ·rw [hm] at e5;rw [e5] at q;cases q
      ·exact e6 q)]
     exact in5.ext w5 x6
  ·refine Ok.ret ⟨rfl,_,?_,mv5⟩
   rw [if_neg (fun q=>e3 q.1)]
   exact in5
end
end
section
variable [Guard]
theorem Sl.isv {S:St} {n:Nat} {v:V} {es:List (List V)} (h:Sl S n v es):v=.nils∨(∃ a,v=.imm a)∨∃ a b d e f,v=.sl a b d e f:=by
 rcases h.is with ⟨h,_⟩ | h | ⟨a,ver,off,elems,h,_⟩
 ·exact .inl h
 ·exact .inr (.inl ⟨_,h⟩)
 ·exact .inr (.inr ⟨_,_,_,_,_,h⟩)
theorem aN2 {u:V} (hu:u=.nils∨(∃ a,u=.imm a)∨∃ a b d e f,u=.sl a b d e f) (t i at':Int) (l:List Entry):dB [.int .i64 0,.int .i64 0,.int .i64 0,.int .i64 0,.int .i64 0,.str [],.nils] [(0,1),(1,1),(2,1),(3,1),(4,1),(5,1),(6,1)] [(0,.int .i64 t),(1,.int .i64 (-1)),(2,.int .i64 i),(3,.int .i64 at'),(4,.int .i64 1),(6,u)]=
  .ok (.agg (bB ⟨t,-1,i,at',1,[],l⟩ u)):=by
 rcases hu with rfl | ⟨a,rfl⟩ | ⟨a,b,d,e,f,rfl⟩<;>rfl
theorem aV8 (m:Letter) (u:V) (S:St) (w:WF S) (hu:Sl S 3 u (m.entries.map bV)) (i0:0≤m.index) (i1:m.index≤1099511627776):xM 104 [.agg (aG m u)] S (.bool (iB m)):=by
 have ho:=cD m hu.one
 have hln:(aG m u).length=13:=rfl
 obtain ⟨S1,hn1,x1,hg1,hnx1⟩:=nb w 13 (aG m u)
 have w1:=x1.wf w
 have hw:wr .i64 (1099511627776 - m.index)=1099511627776 - m.index:=dC (by omega) (by omega)
 refine aUs ?_
 simp only [aMh,bL,ho,hln,aP,hn1,aF,rJ,xA,dF,jJ,aJ,oA,eQ,tD hg1,bW hg1,xP hg1,oB hg1,rK,hu.lenI,dY,dK,hw]
 refine Ok.pickP (fun e=>Ok.ret ⟨by unfold iB;rw [decide_eq_false (by omega)];rfl,x1⟩) (fun e=>?_)
 refine Ok.pickP (fun e2=>Ok.ret ⟨by unfold iB;rw [decide_eq_true (by omega:m.entries.length≤8),decide_eq_false (by omega)];rfl,x1⟩) (fun e2=>?_)
 have hE:iB m=fX ⟨m.term,-1,m.index,m.at',1,if 0<m.index then [115] else [],m.entries⟩:=by
  unfold iB;rw [decide_eq_true (by omega:m.entries.length≤8),decide_eq_true (by omega:(m.entries.length:Int)≤1099511627776 - m.index)];rfl
 rw [hE]
 have hoH:=eP ⟨m.term,-1,m.index,m.at',1,[],m.entries⟩ hu.one
 obtain ⟨S2,S3,q1,q2,x3,hg3,hn3⟩:=vb w1 7 [.int .i64 0,.int .i64 0,.int .i64 0,.int .i64 0,.int .i64 0,.str [],.nils] (.agg (bB ⟨m.term,-1,m.index,m.at',1,[],m.entries⟩ u)) rfl rfl hoH
 rw [bL] at hg3
 have w3:=x3.wf w1
 have x03:=x1.trans x3
 have g3:=x3.old _ _ hg1
 simp only [aQ1,aN2 (Sl.isv hu) m.term m.index m.at' m.entries,q1,q2,aF,aKl,bW g3]
 refine Ok.pickP (fun e3=>?_) (fun e3=>?_)
 ·rw [if_pos e3]
  have e5:=dE (S:=S3) (x:=.str [115]) (j:=0+5) (m:=1) hg3 rfl rfl (by show 0+5+1≤7;omega)
  have c5:splice (bB ⟨m.term,-1,m.index,m.at',1,[],m.entries⟩ u) (0+5) (V.str [115]).cells=bB ⟨m.term,-1,m.index,m.at',1,[115],m.entries⟩ u:=rfl
  rw [c5] at e5
  have hlt:S1.next<S3.next:=w3 _ _ hg3
  have x4:Ext S (⟨S3.next,S3.heap.put S1.next (.row 0 7 [bB ⟨m.term,-1,m.index,m.at',1,[115],m.entries⟩ u])⟩:St):=x03.set x1.next hlt w _
  have va:aM (some 7) (.ptr S1.next 0 0 0) (⟨S3.next,S3.heap.put S1.next (.row 0 7 [bB ⟨m.term,-1,m.index,m.at',1,[115],m.entries⟩ u])⟩:St)=.ok (.agg (bB ⟨m.term,-1,m.index,m.at',1,[115],m.entries⟩ u)):=by
   rw [aDh];exact dV _ _ rfl
  simp only [pR,aJ,aF,st9,e5,yQ,va]
  refine (g33 ⟨m.term,-1,m.index,m.at',1,[115],m.entries⟩ u _ (x4.wf w) (hu.ext x4) (by show m.entries.length≤1000000;omega)).call fun S5 x5=>?_
  exact Ok.ret ⟨rfl,x4.trans x5⟩
 ·rw [if_neg e3]
  have va:aM (some 7) (.ptr S1.next 0 0 0) S3=.ok (.agg (bB ⟨m.term,-1,m.index,m.at',1,[],m.entries⟩ u)):=by rw [aX _ _ _ _ _ (aR hg3)];exact dV _ _ rfl
  simp only [yQ,va,aF]
  refine (g33 ⟨m.term,-1,m.index,m.at',1,[],m.entries⟩ u S3 w3 (hu.ext x03) (by show m.entries.length≤1000000;omega)).call fun S5 x5=>?_
  exact Ok.ret ⟨rfl,x03.trans x5⟩
theorem aV9 (m:Letter) (u:V) (S:St) (w:WF S) (hu:Sl S 3 u (m.entries.map bV)):xM 105 [.agg (aG m u)] S (.bool (gV m)):=by
 have ho:=cD m hu.one
 have hln:(aG m u).length=13:=rfl
 obtain ⟨S1,hn1,x1,hg1,hnx1⟩:=nb w 13 (aG m u)
 refine aUt ?_
 simp only [aMj,bL,ho,hln,aP,hn1,aF,dF,jJ,aBo,pT,xB,uX,aJ,ld9,eQ,bW hg1,oB hg1,gW hg1,bF,cK]
 refine Ok.pickP (fun e=>Ok.ret ⟨by unfold gV;rw [decide_eq_false (by simpa using e)];rfl,x1⟩) (fun e=>?_)
 refine Ok.pickP (fun e2=>Ok.ret ⟨by unfold gV;rw [decide_eq_true e,decide_eq_false (by simpa using e2)];rfl,x1⟩) (fun e2=>?_)
 refine (yT _ _ _ S1).call fun S2 x2=>?_
 have x02:=x1.trans x2
 have g2:=x2.old _ _ hg1
 simp only [fO,aF]
 refine Ok.pick (fun e3=>Ok.ret ⟨by unfold gV;rw [decide_eq_true e,decide_eq_true e2,show kR m.members 1 127=false by simpa using e3];rfl,x02⟩) (fun e3=>?_)
 have e3':kR m.members 1 127=true:=by simpa using e3
 simp only [nC g2,aF]
 refine (yT _ _ _ S2).call fun S3 x3=>?_
 have x03:=x02.trans x3
 have g3:=x3.old _ _ g2
 simp only [fO,aF]
 refine Ok.pick (fun e4=>Ok.ret ⟨by unfold gV;rw [decide_eq_true e,decide_eq_true e2,e3',show kR m.size 1 65536=false by simpa using e4];rfl,x03⟩) (fun e4=>?_)
 have e4':kR m.size 1 65536=true:=by simpa using e4
 have r4:=e4'
 simp only [kR,Bool.and_eq_true,decide_eq_true_eq] at r4
 have hw1:wr .i64 (m.size - 1)=m.size - 1:=dC (by omega) (by omega)
 simp only [rO g3,nC g3,aF,dK,hw1]
 refine (yT _ _ _ S3).call fun S4 x4=>?_
 have x04:=x03.trans x4
 have g4:=x4.old _ _ g3
 simp only [fO,aF]
 refine Ok.pick (fun e5=>Ok.ret ⟨by unfold gV;rw [decide_eq_true e,decide_eq_true e2,e3',e4',show kR m.off 0 (m.size - 1)=false by simpa using e5];rfl,x04⟩) (fun e5=>?_)
 have e5':kR m.off 0 (m.size - 1)=true:=by simpa using e5
 have r5:=e5'
 simp only [kR,Bool.and_eq_true,decide_eq_true_eq] at r5
 have hw2:wr .i64 (m.size - m.off)=m.size - m.off:=dC (by omega) (by omega)
 have hP:gV m=(decide (1≤m.data.length)&&(decide (m.data.length≤600)&&decide ((m.data.length:Int)≤m.size - m.off))):=by
  unfold gV;rw [decide_eq_true e,decide_eq_true e2,e3',e4',e5'];rfl
 rw [hP]
 simp only [xQ g4,rO g4,nC g4,aF,aKx,eO,fT,dK,hw2]
 refine Ok.pickP (fun e6=>?_) (fun e6=>Ok.ret ⟨by rw [decide_eq_false (by omega)];rfl,x04⟩)
 rw [decide_eq_true (by omega:1≤m.data.length)]
 refine Ok.pickP (fun e7=>?_) (fun e7=>Ok.ret ⟨by rw [decide_eq_false (by omega)];rfl,x04⟩)
 rw [decide_eq_true (by omega:m.data.length≤600)]
 exact Ok.ret ⟨rfl,x04⟩
end
section
variable [Guard]
theorem aN3 (p q:Prop) [Decidable p] [Decidable q]:(decide p == decide q)=decide (p↔q):=by
 by_cases a:p<;>by_cases b:q<;>simp [a,b]
theorem g87 (m:Letter) (u:V) (S:St) (w:WF S) (hu:Sl S 3 u (m.entries.map bV)):xM 87 [.agg (aG m u)] S (.bool (dS m)):=by
 have ho:=cD m hu.one
 have hln:(aG m u).length=13:=rfl
 obtain ⟨S1,hn1,x1,hg1,hnx1⟩:=nb w 13 (aG m u)
 have w1:=x1.wf w
 refine e87 ?_
 simp only [m87,bL,ho,hln,aP,hn1,aF,pS,eH,aKf,xA,dF,jJ,aBn,pT,aJ,xF,eQ,rP hg1]
 refine (aV3 m u S1 w1 (hu.ext x1)).call fun S2 x2=>?_
 have x02:=x1.trans x2
 have g2:=x2.old _ _ hg1
 simp only [fO,aF]
 refine Ok.pick (fun e=>Ok.ret ⟨by unfold dS;rw [show mX m=false by simpa using e];rfl,x02⟩) (fun e=>?_)
 have k0:mX m=true:=by simpa using e
 simp only [dG g2,aF]
 refine (yT _ _ _ S2).call fun S3 x3=>?_
 have x03:=x02.trans x3
 have g3:=x3.old _ _ g2
 simp only [fO,aF]
 refine Ok.pick (fun e=>Ok.ret ⟨by unfold dS;rw [k0,show kR m.from' 0 6=false by simpa using e];rfl,x03⟩) (fun e=>?_)
 have k2:kR m.from' 0 6=true:=by simpa using e
 simp only [aQ9 g3,aF]
 refine (yT _ _ _ S3).call fun S4 x4=>?_
 have x04:=x03.trans x4
 have g4:=x4.old _ _ g3
 simp only [fO,aF]
 refine Ok.pick (fun e=>Ok.ret ⟨by unfold dS;rw [k0,k2,show kR m.to 0 6=false by simpa using e];rfl,x04⟩) (fun e=>?_)
 have k3:kR m.to 0 6=true:=by simpa using e
 simp only [dG g4,aQ9 g4,aF,bF,aP,cK]
 refine Ok.pickP (fun e=>Ok.ret ⟨by unfold dS;rw [k0,k2,k3,decide_eq_false (by simpa using e)];rfl,x04⟩) (fun e=>?_)
 have kd:decide (m.from'≠m.to)=true:=decide_eq_true e
 simp only [xP g4,aF]
 refine (yT _ _ _ S4).call fun S5 x5=>?_
 have x05:=x04.trans x5
 have g5:=x5.old _ _ g4
 simp only [fO,aF]
 refine Ok.pick (fun e=>Ok.ret ⟨by unfold dS;rw [k0,k2,k3,kd,show kR m.term 1 1099511627776=false by simpa using e];rfl,x05⟩) (fun e=>?_)
 have k4:kR m.term 1 1099511627776=true:=by simpa using e
 simp only [bW g5,aF]
 refine (yT _ _ _ S5).call fun S6 x6=>?_
 have x06:=x05.trans x6
 have g6:=x6.old _ _ g5
 simp only [fO,aF]
 refine Ok.pick (fun e=>Ok.ret ⟨by unfold dS;rw [k0,k2,k3,kd,k4,show kR m.index 0 1099511627776=false by simpa using e];rfl,x06⟩) (fun e=>?_)
 have k5:kR m.index 0 1099511627776=true:=by simpa using e
 simp only [oB g6,xP g6,aF]
 refine (yT _ _ _ S6).call fun S7 x7=>?_
 have x07:=x06.trans x7
 have g7:=x7.old _ _ g6
 simp only [fO,aF]
 refine Ok.pick (fun e=>Ok.ret ⟨by unfold dS;rw [k0,k2,k3,kd,k4,k5,show kR m.at' 0 m.term=false by simpa using e];rfl,x07⟩) (fun e=>?_)
 have k6:kR m.at' 0 m.term=true:=by simpa using e
 simp only [nB g7,aF]
 refine (yT _ _ _ S7).call fun S8 x8=>?_
 have x08:=x07.trans x8
 have g8:=x8.old _ _ g7
 simp only [fO,aF]
 refine Ok.pick (fun e=>Ok.ret ⟨by unfold dS;rw [k0,k2,k3,kd,k4,k5,k6,show kR m.commit 0 1099511627776=false by simpa using e];rfl,x08⟩) (fun e=>?_)
 have k7:kR m.commit 0 1099511627776=true:=by simpa using e
 have r4:=k5
 have r5:=k4
 simp only [kR,Bool.and_eq_true,decide_eq_true_eq] at r4 r5
 have w8:=x08.wf w
 have hR:dS m=(if m.kind=1 then decide (m.at'=0↔m.index=0) else if m.kind=3 then decide (m.at'=0↔m.index=0)&&iB m else if m.kind=5 then gV m else if m.kind=6 then decide (m.index≠0)&&kR m.off 0 65536 else true):=by
  unfold dS;rw [k0,k2,k3,kd,k4,k5,k6,k7];rfl
 rw [hR]
 simp only [xO g8,oB g8,bW g8,rO g8,rP g8,aF,bF,lC,aP,cK,tC,aN3]
 refine Ok.pickP (fun e=>Ok.ret ⟨by rw [if_pos e],x08⟩) (fun e=>?_)
 rw [if_neg e]
 refine Ok.pickP (fun e1=>?_) (fun e1=>?_)
 ·rw [if_pos e1]
  refine Ok.pickP (fun e2=>?_) (fun e2=>Ok.ret ⟨by rw [decide_eq_false e2];rfl,x08⟩)
  rw [decide_eq_true e2]
  refine (aV8 m u S8 w8 (hu.ext x08) r4.1 r4.2).call fun S9 x9=>?_
  exact Ok.ret ⟨rfl,x08.trans x9⟩
 rw [if_neg e1]
 refine Ok.pickP (fun e2=>?_) (fun e2=>?_)
 ·rw [if_pos e2]
  refine (aV9 m u S8 w8 (hu.ext x08)).call fun S9 x9=>?_
  exact Ok.ret ⟨rfl,x08.trans x9⟩
 rw [if_neg e2]
 refine Ok.pickP (fun e3=>?_) (fun e3=>Ok.ret ⟨by rw [if_neg e3],x08⟩)
 rw [if_pos e3]
 simp only [eX,aF]
 refine Ok.pickN (fun e4=>?_) (fun e4=>Ok.ret ⟨by rw [decide_eq_false (by simpa using e4)];rfl,x08⟩)
 rw [decide_eq_true (by simpa using e4)]
 refine (yT _ _ _ S8).call fun S9 x9=>?_
 exact Ok.ret ⟨rfl,x08.trans x9⟩
end
section
variable [Guard]
theorem gX {S S':St} {O O':Nat→Prop} {b:Nat} {x:Blk} (w:WF S) (hb:S.heap.get b=some x) (hno:¬ O b) (k:Mv O S O' S'):S'.heap.get b=some x∧¬ O' b:=by
 refine ⟨k.keep b x hno hb,fun hO=>?_⟩
 rcases k.own b hO with h1 | h1
 ·exact hno h1
 ·have:=w b x hb;omega
abbrev zL:List V:=[.int .i64 0,.int .i64 0,.int .i64 0,.int .i64 0,.int .i64 0,.int .i64 0,.int .i64 0,.int .i64 0,.int .i64 0,.int .i64 0,.bool false,.str [],.nils]
abbrev pL:List (Nat×Nat):=[(0,1),(1,1),(2,1),(3,1),(4,1),(5,1),(6,1),(7,1),(8,1),(9,1),(10,1),(11,1),(12,1)]
theorem aSc (k f:Int):dB zL pL [(0,.int .i64 k),(2,.int .i64 f)]=.ok (.agg (aG { Letter.zero with kind:=k,to:=f } .nils)):=rfl
theorem aBy (k f i:Int):dB zL pL [(0,.int .i64 k),(2,.int .i64 f),(4,.int .i64 i)]=.ok (.agg (aG { Letter.zero with kind:=k,to:=f,index:=i } .nils)):=rfl
theorem aKz (k f:Int) (y:Bool):dB zL pL [(0,.int .i64 k),(2,.int .i64 f),(10,.bool y)]=.ok (.agg (aG { Letter.zero with kind:=k,to:=f,yes:=y } .nils)):=rfl
theorem aHc (k f i:Int) (y:Bool):dB zL pL [(0,.int .i64 k),(2,.int .i64 f),(10,.bool y),(4,.int .i64 i)]=.ok (.agg (aG { Letter.zero with kind:=k,to:=f,yes:=y,index:=i } .nils)):=rfl
theorem aN4 (k f i o:Int):dB zL pL [(0,.int .i64 k),(2,.int .i64 f),(4,.int .i64 i),(8,.int .i64 o)]=.ok (.agg (aG { Letter.zero with kind:=k,to:=f,index:=i,off:=o } .nils)):=rfl
section
variable {S:St} {a:Nat} {c:Core} {O:Nat→Prop}
theorem g52 (m:Letter) (ev:V) (w:WF S) (h:CoreIn S a c O) (I:Inv c) (he:Sl S 3 ev (m.entries.map bV)):xM 52 [.ptr a 0 0 0,.agg (aG m ev)] S (.bool (c.passed m)):=by
 have ho:=cD m he.one
 have hln:(aG m ev).length=13:=rfl
 obtain ⟨S1,hn1,x1,hg1,hnx1⟩:=nb w 13 (aG m ev)
 have w1:=x1.wf w
 have xb:Ext S1 (⟨S1.next+12,S1.heap⟩:St):=(Ext.refl S1).bump 12
 have x1b:=x1.trans xb
 have hw:wr .i64 (c.drawn - c.left)=c.drawn - c.left:=by have:=I.d0;have:=I.d1;have:=I.f0;have:=I.f1;exact dC (by omega) (by omega)
 refine e52 ?_
 simp only [m52,bL,ho,hln,aP,hn1,aF,xF,aS,rP hg1]
 refine (g87 m ev _ (xb.wf w1) (he.ext x1b)).call fun S3 x3=>?_
 have x03:=x1b.trans x3
 have g3:=x3.old _ _ (xb.old _ _ hg1)
 obtain ⟨lv,wv,dv,ov,rows,h3,_⟩:=h.ext w x03
 have xe:Ext S (⟨S3.next+30,S3.heap⟩:St):=x03.bump 30
 simp only [fO,aF]
 refine Ok.pick (fun e=>Ok.ret ⟨by unfold Core.passed;rw [if_pos (.inl (by simpa using e))],x03⟩) (fun e=>?_)
 simp only [aQ,mU,fW,pU,xE,lG,pS,aKf,aJ,Nat.reduceAdd,aF,eQ,aS,aQ9 g3,xO g3,h3.r_id,h3.r_role,h3.r_leads,h3.r_drawn,h3.r_left,bF,aP,eX,cK,dK,hw,bK]
 refine Ok.pickN (fun e2=>Ok.ret ⟨by unfold Core.passed;rw [if_pos (.inr e2)],x03⟩) (fun e2=>?_)
 have hp:c.passed m=(decide (m.kind=1)&&(decide (c.role=3)||(decide (c.leads≠-1)&&decide (c.drawn - c.left<10)))):=by
  unfold Core.passed;rw [if_neg (fun q=>by
   rcases q with q | q
   ·rw [q] at e;cases e
   ·exact q e2)]
 rw [hp]
 refine Ok.pickP (fun e3=>?_) (fun e3=>Ok.ret ⟨by rw [decide_eq_false e3];rfl,xe⟩)
 rw [decide_eq_true e3]
 refine Ok.pickP (fun e4=>Ok.ret ⟨by rw [decide_eq_true e4];rfl,xe⟩) (fun e4=>?_)
 rw [decide_eq_false e4]
 refine Ok.pickN (fun e5=>Ok.ret ⟨by rw [decide_eq_true e5];rfl,xe⟩) (fun e5=>Ok.ret ⟨by rw [decide_eq_false (fun q=>q e5)];rfl,xe⟩)
theorem g53 (m:Letter) (ev:V) (w:WF S) (h:CoreIn S a c O) (ok:Hok c.h) (he:Sl S 3 ev (m.entries.map bV)) (hl:c.out.length≤999990):Meth 53 [.ptr a 0 0 0,.agg (aG m ev)] a (c.late m) S O (.tup []):=by
 have ho:=cD m he.one
 have hln:(aG m ev).length=13:=rfl
 obtain ⟨S1,hn1,x1,hg1,hnx1⟩:=nb w 13 (aG m ev)
 have w1:=x1.wf w
 have in1:=h.ext w x1
 refine e53 ?_
 simp only [m53,bL,ho,hln,aP,hn1,aF,pS,eH,aJ,eQ,xO hg1,dG hg1,bF,cK,rI,aSc]
 unfold Core.late
 refine Ok.pickP (fun e=>?_) (fun e=>?_)
 ·rw [if_pos e]
  exact Meth.call (g86 _ .nils w1 in1 (Apart.nil _ _ rfl) (by omega)) w1 fun S2 O2 w2 in2 m2=>Ok.ret ⟨rfl,O2,in2,(Mv.of x1).trans w m2⟩
 rw [if_neg e]
 have ack:(m.kind=3∨m.kind=5)→Ok (fun k K=>wR (aC prog bD bE k) k K (.ptr a 0 0 0) (.ptr S.next 0 0 0) (.bool true) S1) (fun u S'=>u=.tup []∧∃ O',CoreIn S' a (if m.kind=3∨m.kind=5 then c.post { Letter.zero with kind:=4,to:=m.from',index:=c.last } else c) O'∧Mv O S O' S'):=fun hk=>by
  have xb:Ext S1 (⟨S1.next+7,S1.heap⟩:St):=(Ext.refl S1).bump 7
  rw [if_pos hk]
  simp only [wR,bQ,eH,aJ,aF,eQ,aS,dG hg1]
  refine (g46 (in1.ext w1 xb) ok).call fun S2 x2=>?_
  have x12:=xb.trans x2
  have g2:=x12.old _ _ hg1
  have w2:=x12.wf w1
  simp only [dG g2,aF,cO,aP,rI,aBy]
  exact Meth.call (g86 _ .nils w2 (in1.ext w1 x12) (Apart.nil _ _ rfl) (by omega)) w2 fun S3 O3 w3 in3 m3=>Ok.ret ⟨rfl,O3,in3,(Mv.of (x1.trans x12)).trans w m3⟩
 refine Ok.pickP (fun e2=>ack (.inl e2)) (fun e2=>?_)
 by_cases e3:m.kind=5
 ·simp only [e3,decide_true]
  have:=ack (.inr e3)
  simp only [e3] at this
  exact this
 ·simp only [e3,decide_false,wR,aU,or_false,if_neg e2]
  exact Ok.ret ⟨rfl,O,in1,Mv.of x1⟩
theorem j54 (m:Letter) (ev:V) (yes:Bool) {b:Nat} (w:WF S) (h:CoreIn S a c O) (hb:S.heap.get b=some (.row 0 13 [aG m ev])) (hno:¬ O b) (hl:c.out.length≤999990):
  Ok (fun k K=>gK (aC prog bD bE k) k K (.ptr a 0 0 0) (.ptr b 0 0 0) (.bool yes) S) (fun u S'=>u=.tup []∧∃ O',CoreIn S' a ((if yes=true then { c with h:={ c.h with vote:=m.from' },left:=c.drawn } else c:Core).post { Letter.zero with kind:=2,to:=m.from',yes:=yes }) O'∧Mv O S O' S'):=by
 have hin:=h
 obtain ⟨lv,wv,dv,ov,rows,h,rfl⟩:=h
 cases yes with
 | true=>
  have xb:Ext S (⟨S.next+15,S.heap⟩:St):=(Ext.refl S).bump 15
  have wb:=xb.wf w
  obtain ⟨S1,q1,h1,m1,n1⟩:=(h.ext w xb).w_vote wb m.from'
  have w1:=m1.wf wb
  obtain ⟨S2,q2,h2',m2,n2⟩:=h1.w_left w1 c.drawn
  have h2:CoreAt S2 a { c with h:={ c.h with vote:=m.from' },left:=c.drawn } lv wv dv ov rows:=h2'
  clear h2'
  have w2:=m2.wf w1
  have mv2:=((Mv.of (O:=own a lv wv dv ov) xb).trans w m1).trans w m2
  have g2:=(gX w hb hno mv2).1
  simp only [gK,aBg,bQ,aQ,eH,xE,dL,lG,wX,aJ,Nat.reduceAdd,aF,eQ,st3,aS,dG hb,h.r_drawn,q1,q2,dG g2,rI,aKz,if_true]
  exact Meth.call (g86 _ .nils w2 ⟨_,_,_,_,_,h2,rfl⟩ (Apart.nil _ _ rfl) (by show c.out.length≤1000000;omega)) w2 fun S3 O3 w3 in3 m3=>Ok.ret ⟨rfl,O3,in3,mv2.trans w m3⟩
 | false=>
  simp only [gK,aBg,aU,eH,aJ,Nat.reduceAdd,aF,eQ,dG hb,rI,aKz]
  exact Meth.call (g86 _ .nils w hin (Apart.nil _ _ rfl) (by omega)) w fun S3 O3 w3 in3 m3=>Ok.ret ⟨rfl,O3,in3,m3⟩
theorem g54 (m:Letter) (ev:V) (w:WF S) (h:CoreIn S a c O) (ok:Hok c.h) (he:Sl S 3 ev (m.entries.map bV)) (hl:c.out.length≤999990):Meth 54 [.ptr a 0 0 0,.agg (aG m ev)] a (c.asked m) S O (.tup []):=by
 have ho:=cD m he.one
 have hln:(aG m ev).length=13:=rfl
 have hr:=fH ok
 have hb0:=ok.b0
 obtain ⟨S1,hn1,x1,hg1,hnx1⟩:=nb w 13 (aG m ev)
 have w1:=x1.wf w
 have in1:=h.ext w x1
 have hno:¬ O S.next:=fun hO=>by have:=core_lt w h _ hO;omega
 refine e54 ?_
 simp only [m54,bL,ho,hln,aP,hn1,aF]
 refine (g46 in1 ok).call fun S2 x2=>?_
 have w2:=x2.wf w1
 have in2:=in1.ext w1 x2
 refine (g62 in2 ok (n:=c.last) (by unfold Core.last bZ;omega) (Int.le_refl _)).call fun S4 x4=>?_
 have w4:=x4.wf w2
 have x04:=(x1.trans x2).trans x4
 have xb:Ext S4 (⟨S4.next+36,S4.heap⟩:St):=(Ext.refl S4).bump 36
 have x05:=x04.trans xb
 have w5:=xb.wf w4
 have in5:=h.ext w x05
 have g4:=x4.old _ _ (x2.old _ _ hg1)
 have g5:(⟨S4.next+36,S4.heap⟩:St).heap.get S.next=some (.row 0 13 [aG m ev]):=g4
 obtain ⟨lv,wv,dv,ov,rows,h4,_⟩:=h.ext w x04
 simp only [aQ,dL,wX,eH,dF,jJ,aJ,Nat.reduceAdd,aF,eQ,aS,h4.r_vote,dG g4,oB g4,bW g4,bF,aP,cK,dY]
 have fin:∀ (S6:St) (x6:Ext S S6) (hb6:S6.heap.get S.next=some (.row 0 13 [aG m ev])) (yes:Bool),yes=((decide (c.h.vote=-1)||decide (c.h.vote=m.from'))&&(decide (c.term c.last<m.at')||(decide (m.at'=c.term c.last)&&decide (c.last≤m.index))))→
   Ok (fun k K=>gK (aC prog bD bE k) k K (.ptr a 0 0 0) (.ptr S.next 0 0 0) (.bool yes) S6) (fun u S'=>u=.tup []∧∃ O',CoreIn S' a (c.asked m) O'∧Mv O S O' S'):=fun S6 x6 hb6 yes hy=>by
  have hA:c.asked m=(if yes=true then { c with h:={ c.h with vote:=m.from' },left:=c.drawn } else c:Core).post { Letter.zero with kind:=2,to:=m.from',yes:=yes }:=by
   unfold Core.asked;simp only;rw [←hy]
  rw [hA]
  exact (j54 m ev yes (x6.wf w) (h.ext w x6) hb6 hno hl).mono fun u S' ⟨e,O',i',m'⟩=>⟨e,O',i',(Mv.of x6).trans w m'⟩
 have second:∀ (v:Bool),v=true→(decide (c.h.vote=-1)||decide (c.h.vote=m.from'))=v→Ok (fun k K=>aE (.bool (decide (c.term c.last<m.at'))) (gK (aC prog bD bE k) k K (.ptr a 0 0 0) (.ptr S.next 0 0 0) (.bool true) (⟨S4.next+36,S4.heap⟩:St))
   (aE (.bool (decide (m.at'=c.term c.last))) (aC prog bD bE k 46 [.ptr a 0 0 0] (⟨S4.next+36,S4.heap⟩:St) fun t31 S32=>dR (aM none (.ptr S.next 0 0 4) S32) fun t33=>bY (cV (.int .i64 m.index) t33) (dR (aD prog .geq 3 (.int .i64 m.index) t31) fun t34=>gK (aC prog bD bE k) k K (.ptr a 0 0 0) (.ptr S.next 0 0 0) t34 S32))
    (gK (aC prog bD bE k) k K (.ptr a 0 0 0) (.ptr S.next 0 0 0) (.bool false) (⟨S4.next+36,S4.heap⟩:St)))) (fun u S'=>u=.tup []∧∃ O',CoreIn S' a (c.asked m) O'∧Mv O S O' S'):=fun v hv hvv=>by
  subst hv
  refine Ok.pickP (fun e2=>fin _ x05 g5 true (by rw [hvv,decide_eq_true e2];rfl)) (fun e2=>?_)
  refine Ok.pickP (fun e3=>?_) (fun e3=>fin _ x05 g5 false (by rw [hvv,decide_eq_false e2,decide_eq_false e3];rfl))
  refine (g46 in5 ok).call fun S6 x6=>?_
  have g6:=x6.old _ _ g5
  have v4:aM none (.ptr S.next 0 0 4) S6=.ok (.int .i64 m.index):=bW g6
  simp only [v4,aF,cO,aP,eO]
  exact fin S6 (x05.trans x6) g6 _ (by rw [hvv,decide_eq_false e2,decide_eq_true e3];rfl)
 refine Ok.pickP (fun e=>second true rfl (by rw [decide_eq_true e];rfl)) (fun e=>?_)
 refine Ok.pickP (fun e2=>second true rfl (by rw [decide_eq_true e2];simp)) (fun e2=>fin _ x05 g5 false (by rw [decide_eq_false e,decide_eq_false e2];rfl))
end
end
section
variable [Guard]
theorem aQg {v:Int} {n:Nat} (h0:0≤v) (h1:v≤127) (hn:n<7):wr .i64 ((BitVec.ofInt IntKind.i64.bits v ||| BitVec.ofInt IntKind.i64.bits ((2:Int) ^ n)).toNat)=pV v (n:Int):=by
 have all:∀ a:Nat,a<128→∀ b:Nat,b<7→((a ||| 2 ^ b:Nat):Int)=pV (a:Int) (b:Int)∧(a ||| 2 ^ b)<128:=by decide +kernel
 have hp:=sZ hn
 have hc:((2 ^ n:Nat):Int)=(2:Int) ^ n:=by push_cast;rfl
 have hv:v=(v.toNat:Int):=by omega
 have e:(BitVec.ofInt IntKind.i64.bits v ||| BitVec.ofInt IntKind.i64.bits ((2:Int) ^ n)).toNat=v.toNat ||| 2 ^ n:=by
  show (BitVec.ofInt 64 v ||| BitVec.ofInt 64 ((2:Int) ^ n)).toNat=_
  rw [BitVec.toNat_or,BitVec.toNat_ofInt,BitVec.toNat_ofInt]
  congr 1<;>omega
 obtain ⟨a1,a2⟩:=all v.toNat (by omega) n hn
 rw [e,dC (by omega) (by omega),a1,←hv]
section
variable {S:St} {a:Nat} {c:Core} {O:Nat→Prop}
theorem g55 (m:Letter) (ev:V) (w:WF S) (h:CoreIn S a c O) (I:Inv c) (ok:Lok m) (he:Sl S 3 ev (m.entries.map bV)) (hl:c.out.length≤999990):Meth 55 [.ptr a 0 0 0,.agg (aG m ev)] a (c.voted m) S O (.tup []):=by
 have ho:=cD m he.one
 have hln:(aG m ev).length=13:=rfl
 have f0:=ok.f0
 have f1:=ok.f1
 obtain ⟨n,hn⟩:∃ n:Nat,m.from'=(n:Int):=⟨m.from'.toNat,by omega⟩
 have hn7:n<7:=by omega
 obtain ⟨S1,hn1,x1,hg1,hnx1⟩:=nb w 13 (aG m ev)
 have w1:=x1.wf w
 have in1:=h.ext w x1
 have hin1:=in1
 obtain ⟨lv,wv,dv,ov,rows,h1,hO⟩:=in1
 have xb:Ext S1 (⟨S1.next+12,S1.heap⟩:St):=(Ext.refl S1).bump 12
 have wb:=xb.wf w1
 obtain ⟨S2,q2,h2,m2,n2⟩:=(h1.ext w1 xb).w_votes wb (pV c.votes m.from')
 rw [←hO] at m2
 have w2:=m2.wf wb
 have hor:aD prog .or 3 (.int .i64 c.votes) (.int .i64 ((2:Int) ^ n))=.ok (.int .i64 (pV c.votes m.from')):=by
  rw [hn];simp only [aD,bR,cond_true,dD,aQg I.v0 I.v1 hn7]
 have xb2:Ext S2 (⟨S2.next+7,S2.heap⟩:St):=(Ext.refl S2).bump 7
 have hvr:=xK I.v0 I.v1 f0 (by omega:m.from'<7)
 refine e55 ?_
 simp only [m55,bL,ho,hln,aP,hn1,aF,aQ,fW,aKi,uW,eH,aJ,Nat.reduceAdd,eQ,ld4,aS,h1.r_role,aDy hg1,bF,eX,fO,h1.r_votes,dG hg1,hn,aBm,wru n hn7,uZ hn7,hor]
 rw [←hn]
 simp only [st3,q2,aF,aS,h2.r_votes]
 have hvo:c.voted m=if c.role≠2∨m.yes=false then c else if mV ({ c with votes:=pV c.votes m.from' }:Core).members (pV c.votes m.from')=true then ({ c with votes:=pV c.votes m.from' }:Core).lead else { c with votes:=pV c.votes m.from' }:=rfl
 rw [hvo]
 refine Ok.pickN (fun e=>Ok.ret ⟨rfl,O,by rw [if_pos (.inl e)];exact hin1,Mv.of x1⟩) (fun e=>?_)
 refine Ok.pick (fun e2=>Ok.ret ⟨rfl,O,by rw [if_pos (.inr (by simpa using e2))];exact hin1,Mv.of x1⟩) (fun e2=>?_)
 rw [if_neg (fun q=>by
  rcases q with q | q
  ·exact q e
  ·rw [q] at e2;cases e2)]
 have mv2:=(Mv.of (O:=O) (x1.trans xb)).trans w m2
 have in2:CoreIn S2 a { c with votes:=pV c.votes m.from' } O:=⟨_,_,_,_,_,h2,hO⟩
 refine (g47 (xb2.wf w2) (in2.ext w2 xb2) I.h).call fun S3 x3=>?_
 have x23:=xb2.trans x3
 have w3:=x23.wf w2
 have h3:=h2.ext w2 x23
 simp only [h3.r_votes,aF,cO,aP]
 refine (g84 _ _ S3 w3 hvr.1 hvr.2).call fun S4 x4=>?_
 have w4:=x4.wf w3
 have in4:=in2.ext w2 (x23.trans x4)
 have mv4:=mv2.trans w (Mv.of (x23.trans x4))
 refine Ok.pick (fun e3=>?_) (fun e3=>?_)
 ·rw [if_pos e3]
  exact Meth.call (g85 w4 in4 I.h I.i0 I.i1 (by show 1≤c.h.term;exact I.tm (by rw [e];decide)) I.s0 I.s1 hl) w4 fun S5 O5 w5 in5 m5=>Ok.ret ⟨rfl,O5,in5,mv4.trans w m5⟩
 ·rw [if_neg (fun q=>by rw [q] at e3;cases e3)]
  exact Ok.ret ⟨rfl,O,in4,mv4⟩
theorem aL0 {x:Int} {i n:Nat} (i0:0≤x) (i1:x≤1099511627776) (hi:i<n) (hn:n≤8):wr .i64 ((i:Int)+1)=((i+1:Nat):Int)∧wr .i64 (x+1)=x+1∧wr .i64 (x+1+i)=x+1+i:=
 ⟨by rw [dC (by omega) (by omega)];omega,dC (by omega) (by omega),dC (by omega) (by omega)⟩
def gA (c:Core) (n:Int) (x:Entry):Bool⊕Int:=if c.h.base≤n∧n≤c.sure∧c.term n≠x.term then .inl true else .inr (n+1)
theorem aE5 (c:Core):∀ (l:List Entry) (n:Int),gC (gA c) (fun _=>false) l n=iC c l n
 | [],n=>rfl
 | x::l,n=>by
  simp only [gC,gA,iC]
  by_cases h:c.h.base≤n∧n≤c.sure∧c.term n≠x.term
  ·rw [if_pos h,if_pos h]
  ·rw [if_neg h,if_neg h];exact aE5 c l _
theorem g88 (m:Letter) (ev:V) (w:WF S) (h:CoreIn S a c O) (I:Inv c) (ok:Lok m) (hk:m.kind=3) (he:Sl S 3 ev (m.entries.map bV)):xM 88 [.ptr a 0 0 0,.agg (aG m ev)] S (.bool (iC c m.entries (m.index+1))):=by
 have ho:=cD m he.one
 have hln:(aG m ev).length=13:=rfl
 have hr:=fH I.h
 have hb0:=I.h.b0
 have hs1:=I.s1
 have i0:=ok.i0
 have i1:=ok.i1
 have hlen:=(ok.k3 hk).2.1
 obtain ⟨S1,hn1,x1,hg1,hnx1⟩:=nb w 13 (aG m ev)
 have w1:=x1.wf w
 have he1:=he.ext x1
 refine e88 ?_
 simp only [m88,bL,ho,hln,aP,hn1,aF,rJ,aJ,oA,tD hg1,rK,he.lenI]
 rw [←aE5]
 refine Ok.loopL (F:=fun k K=>aBk (aC prog bD bE k) k K (.ptr a 0 0 0) (.ptr S.next 0 0 0) ev (.int .i64 m.entries.length)) (ρ:=Bool) (α:=Entry) (X:=Bool) m.entries (step:=gA c) (fin:=fun _=>false) (s:=m.index+1)
  (out:=fun k K x S'=>K (.bool x) S')
  (fun i n vs S'=>vs=[.bool false,.int .i64 (i:Int)]∧n=m.index+1+i∧Ext S1 S')
  (fun r x S'=>r=x∧Ext S1 S') ?_ ?_ ⟨rfl,by simp,Ext.refl _⟩ (fun x S' ⟨e,x'⟩=>Ok.ret ⟨by rw [e],x1.trans x'⟩)
 ·rintro i x n vs S2 ⟨rfl,rfl,x2⟩ hi
  have hil:=(List.getElem?_eq_some_iff.1 hi).1
  have hlt:(i:Int)<(m.entries.length:Int):=by omega
  obtain ⟨hw,hw1,hw2⟩:=aL0 i0 i1 hil hlen
  have w2:=x2.wf w1
  obtain ⟨p,hp,hld,hst,hxv,hv⟩:=(he1.ext x2).var w2 hi [.int .i64 0,.int .i64 0,.str []] rfl
  generalize S2.var 3 [.int .i64 0,.int .i64 0,.str []] (bV x)=S3 at hst hxv hv
  have x13:=x2.trans hxv
  have w3:=x13.wf w1
  have g3:=x13.old _ _ hg1
  have x03:=x1.trans x13
  have in3:=h.ext w x03
  have hin3:=in3
  obtain ⟨lv,wv,dv,ov,rows,h3,hO⟩:=in3
  have xb:Ext S3 (⟨S3.next+23,S3.heap⟩:St):=(Ext.refl S3).bump 23
  have hnx:m.index+1+((i+1:Nat):Int)=m.index+1+i+1:=by push_cast;omega
  simp only [aBk,bH,bK,aF,hlt,decide_true,bQ,aKj,hp,aMr,hld,cM,aQ6,hst,dF,aJ,eQ,bW g3,cG,hw1,hw2,hw,aQ,dL,iK,fP,sV,Nat.reduceAdd,aS,h3.r_base,h3.r_sure,eO,fT]
  have go:∀ (S':St),Ext S1 S'→¬ (c.h.base≤m.index+1+i∧m.index+1+i≤c.sure∧c.term (m.index+1+i)≠x.term)→OkL (fun k K x S'=>K (V.bool x) S') (fun k K aK=>aK [V.bool false,V.int .i64 ((i+1:Nat):Int)] S') (aKp (gA c) (fun i n vs S'=>vs=[V.bool false,V.int .i64 (i:Int)]∧n=m.index+1+i∧Ext S1 S') (fun r x S'=>r=x∧Ext S1 S') i (m.index+1+i) x):=fun S' x' hno=>
   OkL.next ⟨m.index+1+i+1,by unfold gA;rw [if_neg hno],rfl,hnx.symm,x'⟩
  refine OkL.pickP (fun e=>?_) (fun e=>go _ (x13.trans xb) (fun q=>e q.1))
  refine OkL.pickP (fun e2=>?_) (fun e2=>go _ (x13.trans xb) (fun q=>e2 q.2.1))
  have u0:∀ {T:St},Ext S3 T→aM none (.ptr S2.next 0 0 0) T=.ok (.int .i64 x.term):=fun xt=>by rw [hv _ xt];rfl
  simp only [u0 (Ext.refl _),aF]
  refine (g62 (hin3.ext w3 xb) I.h (n:=m.index+1+i) e (Int.le_trans e2 hs1)).callL fun S4 x4=>?_
  have x34:=xb.trans x4
  simp only [u0 x34,aF,cO,aP,bF,eX]
  refine OkL.pickN (fun e3=>OkL.stop true ⟨true,by unfold gA;rw [if_pos ⟨e,e2,e3⟩],rfl,x13.trans x34⟩ (by intros;rfl)) (fun e3=>go _ (x13.trans x34) (fun q=>q.2.2 e3))
 ·rintro n vs S2 ⟨rfl,rfl,x2⟩
  have hlt:¬ (m.entries.length:Int)<(m.entries.length:Int):=by omega
  refine ⟨false,⟨rfl,x2⟩,fun k K aK=>?_⟩
  simp only [aBk,bH,bK,aF,hlt,decide_false,aU]
end
end
section
variable [Guard]
def gY (s:(Hard×Int)×Int) (x:Entry):(Hard×Int)⊕((Hard×Int)×Int):=
 if s.1.1.base<s.2∧(bZ s.1.1<s.2∨termH s.1.1 s.2≠x.term) then
  (if 200<s.2 - s.1.1.base then .inl s.1 else .inr (({ s.1.1 with log:=s.1.1.log.take (s.2 - s.1.1.base - 1).toNat++[x] },s.2),s.2+1))
 else .inr ((s.1.1,s.2),s.2+1)
theorem aFv:∀ (l:List Entry) (n:Int) (h:Hard) (to:Int),gC gY (fun s=>s.1) l ((h,to),n)=eI l n h to
 | [],n,h,to=>rfl
 | x::l,n,h,to=>by
  simp only [gC,gY,eI]
  by_cases h1:h.base<n∧(bZ h<n∨termH h n≠x.term)
  ·rw [if_pos h1,if_pos h1]
   by_cases h2:200<n - h.base
   ·rw [if_pos h2,if_pos h2]
   ·rw [if_neg h2,if_neg h2];exact aFv l _ _ _
  ·rw [if_neg h1,if_neg h1];exact aFv l _ _ _
structure OnWay (h0 h:Hard) (to n:Int):Prop where
 b:h.base=h0.base
 b0:0≤h.base
 b1:h.base≤1099511627776
 ll:h.log.length≤200
 n0:1≤n
 n1:n - 1≤bZ h
 n2:n≤1099511627777
theorem OnWay.push {h0 h:Hard} {to n:Int} (o:OnWay h0 h to n) (hn:n≤1099511627776) (h1:h.base<n) (h2:¬ 200<n - h.base) (x:Entry):OnWay h0 { h with log:=h.log.take (n - h.base - 1).toNat++[x] } n (n+1):=by
 obtain ⟨b,b0,b1,ll,n0,n1,n2⟩:=o
 have hl:(h.log.take (n - h.base - 1).toNat).length=(n - h.base - 1).toNat:=by unfold bZ at n1;rw [List.length_take];omega
 refine ⟨b,b0,b1,?_,by omega,?_,by omega⟩
 ·show (h.log.take (n - h.base - 1).toNat++[x]).length≤200
  rw [List.length_append,hl,List.length_singleton];omega
 ·show n+1 - 1≤h.base+((h.log.take (n - h.base - 1).toNat++[x]).length:Nat)
  rw [List.length_append,hl,List.length_singleton];omega
theorem OnWay.next2 {h0 h:Hard} {to n:Int} (o:OnWay h0 h to n) (hn:n≤1099511627776) (h1:n≤h.base∨n≤bZ h) (to':Int):OnWay h0 h to' (n+1):=by
 obtain ⟨b,b0,b1,ll,n0,n1,n2⟩:=o
 refine ⟨b,b0,b1,ll,by omega,?_,by omega⟩
 have:h.base≤bZ h:=by unfold bZ;omega
 omega
theorem OnWay.wr1 {h0 h:Hard} {to n:Int} (o:OnWay h0 h to n):wr .i64 (n - h.base)=n - h.base∧wr .i64 (n - h.base - 1)=n - h.base - 1:=by
 obtain ⟨b,b0,b1,ll,n0,n1,n2⟩:=o
 exact ⟨dC (by omega) (by omega),dC (by omega) (by omega)⟩
theorem OnWay.cut {h0 h:Hard} {to n:Int} (o:OnWay h0 h to n) (h1:h.base<n):0≤n - h.base - 1∧n - h.base - 1≤((h.log.map bV).length:Int):=by
 obtain ⟨b,b0,b1,ll,n0,n1,n2⟩:=o
 unfold bZ at n1
 rw [List.length_map]
 omega
theorem aL1 (x:Int) (i:Nat):x+1+((i+1:Nat):Int)=x+1+i+1:=by push_cast;omega
theorem aQh {x:Int} {i n:Nat} (hi:i<n) (h:(n:Int)≤1099511627776 - x):x+1+i≤1099511627776:=by omega
section
variable {S:St} {a:Nat} {c:Core} {O:Nat→Prop}
theorem aN5 (f i:Int) (y:Bool):dB zL pL [(0,.int .i64 4),(2,.int .i64 f),(10,.bool y),(4,.int .i64 i)]=.ok (.agg (aG { Letter.zero with kind:=4,to:=f,yes:=y,index:=i } .nils)):=rfl
theorem j56 (m:Letter) (ev:V) (to:Int) {b:Nat} (w:WF S) (h:CoreIn S a c O) (hb:S.heap.get b=some (.row 0 13 [aG m ev])) (hno:¬ O b) (hl:c.out.length≤999990):
  Ok (fun k K=>sQ (aC prog bD bE k) k K (.ptr a 0 0 0) (.ptr b 0 0 0) (.int .i64 to) S) (fun u S'=>u=.tup []∧∃ O',CoreIn S' a (({ c with sure:=max c.sure (min m.commit to) }:Core).post { Letter.zero with kind:=4,to:=m.from',yes:=true,index:=to }) O'∧Mv O S O' S'):=by
 obtain ⟨lv,wv,dv,ov,rows,h,rfl⟩:=h
 have xb:Ext S (⟨S.next+13,S.heap⟩:St):=(Ext.refl S).bump 13
 have wb:=xb.wf w
 obtain ⟨S1,q1,h1,m1,n1⟩:=(h.ext w xb).w_sure wb (max c.sure (min m.commit to))
 have w1:=m1.wf wb
 have mv1:=(Mv.of (O:=own a lv wv dv ov) xb).trans w m1
 have g1:=(gX w hb hno mv1).1
 simp only [sQ,aQ,iK,aBn,eH,aJ,Nat.reduceAdd,aF,eQ,aS,h.r_sure,nB hb,rQ,aE1,st3,q1,dG g1,rI,aN5]
 exact Meth.call (g86 _ .nils w1 ⟨_,_,_,_,_,h1,rfl⟩ (Apart.nil _ _ rfl) (by show c.out.length≤1000000;omega)) w1 fun S2 O2 w2 in2 m2=>Ok.ret ⟨rfl,O2,in2,mv1.trans w m2⟩
end
end
section
variable [Guard]
section
variable {S:St} {a:Nat} {c:Core} {O:Nat→Prop}
structure EnterI (a:Nat) (c:Core) (O:Nat→Prop) (S:St) (b:Nat) (m:Letter) (ev:V) (h:Hard) (S':St) (O':Nat→Prop):Prop where
 wf:WF S'
 core:CoreIn S' a { c with h:=h } O'
 mv:Mv O S O' S'
 box:S'.heap.get b=some (.row 0 13 [aG m ev])
 no:¬ O' b
 ents:Sl S' 3 ev (m.entries.map bV)
 off:∀ y,aO ev=some y→¬ O' y
theorem EnterI.next {b:Nat} {m:Letter} {ev:V} {h h':Hard} {S' S'':St} {O' O'':Nat→Prop} (w:WF S) (e:EnterI a c O S b m ev h S' O') (i:CoreIn S'' a { c with h:=h' } O'') (k:Mv O' S' O'' S''):EnterI a c O S b m ev h' S'' O'':=by
 obtain ⟨b1,b2⟩:=gX e.wf e.box e.no k
 obtain ⟨s1,s2⟩:=aBx e.wf e.ents e.off k
 exact ⟨k.wf e.wf,i,e.mv.trans w k,b1,b2,s1,s2⟩
theorem l56 (m:Letter) (ev:V) {b:Nat} (w:WF S) (E:EnterI a c O S b m ev c.h S O) (b0:0≤c.h.base) (b1:c.h.base≤1099511627776) (ll:c.h.log.length≤200) (i0:0≤m.index) (i1:m.index≤1099511627776) (hlen:m.entries.length≤8) (hli:(m.entries.length:Int)≤1099511627776 - m.index) (hix:m.index≤c.last) (hl:c.out.length≤999990):
  Ok (fun k K=>cW k [.int .i64 m.index,.int .i64 0] S (wS (aC prog bD bE k) k K (.ptr a 0 0 0) (.ptr b 0 0 0) ev (.int .i64 m.entries.length))) (fun u S'=>u=.tup []∧∃ O',CoreIn S' a (({ c with h:=(eI m.entries (m.index+1) c.h m.index).1,sure:=max c.sure (min m.commit (eI m.entries (m.index+1) c.h m.index).2) }:Core).post { Letter.zero with kind:=4,to:=m.from',yes:=true,index:=(eI m.entries (m.index+1) c.h m.index).2 }) O'∧Mv O S O' S'):=by
 rw [←aFv]
 refine Ok.loopL (F:=fun k K=>wS (aC prog bD bE k) k K (.ptr a 0 0 0) (.ptr b 0 0 0) ev (.int .i64 m.entries.length)) (ρ:=Hard×Int) (α:=Entry) (X:=Hard×Int) m.entries (step:=gY) (fin:=fun s=>s.1) (s:=((c.h,m.index),m.index+1))
  (out:=fun k K r S'=>sQ (aC prog bD bE k) k K (.ptr a 0 0 0) (.ptr b 0 0 0) (.int .i64 r.2) S')
  (fun i s vs S'=>vs=[.int .i64 s.1.2,.int .i64 (i:Int)]∧s.2=m.index+1+i∧OnWay c.h s.1.1 s.1.2 s.2∧∃ O',EnterI a c O S b m ev s.1.1 S' O')
  (fun r x S'=>r=x∧∃ O',EnterI a c O S b m ev r.1 S' O') ?_ ?_ ⟨rfl,by simp,⟨rfl,b0,b1,ll,by show 1≤m.index+1;omega,by show m.index+1 - 1≤bZ c.h;unfold Core.last at hix;omega,by show m.index+1≤_;omega⟩,O,E⟩ (fun r S' ⟨e,O',E'⟩=>?_)
 ·rintro i x ⟨⟨h,to⟩,n⟩ vs S2 ⟨rfl,hn,ow,O2,E2⟩ hi
  simp only at hn ow E2
  have hil:=(List.getElem?_eq_some_iff.1 hi).1
  have hlt:(i:Int)<(m.entries.length:Int):=Int.ofNat_lt.2 hil
  obtain ⟨hw,hw1,hw2⟩:=aL0 i0 i1 hil hlen
  rw [←hn] at hw2
  have hnn:m.index+1+((i+1:Nat):Int)=n+1:=by rw [aL1,←hn]
  have hnle:n≤1099511627776:=by rw [hn];exact aQh hil hli
  have w2:=E2.wf
  obtain ⟨p,hp,hld,hst,hxv,hv⟩:=E2.ents.var w2 hi [.int .i64 0,.int .i64 0,.str []] rfl
  generalize S2.var 3 [.int .i64 0,.int .i64 0,.str []] (bV x)=S3 at hst hxv hv
  have w3:=hxv.wf w2
  have g3:=hxv.old _ _ E2.box
  have in3:=E2.core.ext w2 hxv
  have hin3:=in3
  obtain ⟨lv,wv,dv,ov,rows,h3,hO⟩:=in3
  have xb:Ext S3 (⟨S3.next+21,S3.heap⟩:St):=(Ext.refl S3).bump 21
  obtain ⟨hs1,hs2⟩:=ow.wr1
  have ll':=Nat.le_trans ow.ll (by decide:200≤1000)
  have u0:∀ {T:St},Ext S3 T→aM none (.ptr S2.next 0 0 0) T=.ok (.int .i64 x.term):=fun xt=>by rw [hv _ xt];rfl
  have ua:∀ {T:St},Ext S3 T→aM (some 3) (.ptr S2.next 0 0 0) T=.ok (.agg (bV x)):=fun xt=>by rw [hv _ xt];exact dV _ _ rfl
  have j2:∀ (S4:St),Ext S3 S4→∀ q:Bool,q=decide (h.base<n∧(bZ h<n∨termH h n≠x.term))→OkL (fun k K r S'=>sQ (aC prog bD bE k) k K (.ptr a 0 0 0) (.ptr b 0 0 0) (.int .i64 r.2) S')
    (fun k K aK=>sR (aC prog bD bE k) k K aK (.ptr a 0 0 0) (.ptr b 0 0 0) (.int .i64 to) (.ptr S2.next 0 0 0) (.int .i64 n) ev (.int .i64 m.entries.length) (.int .i64 i) (.bool q) S4)
    (aKp gY (fun i s vs S'=>vs=[.int .i64 s.1.2,.int .i64 (i:Int)]∧s.2=m.index+1+i∧OnWay c.h s.1.1 s.1.2 s.2∧∃ O',EnterI a c O S b m ev s.1.1 S' O') (fun (r x:Hard×Int) S'=>r=x∧∃ O',EnterI a c O S b m ev r.1 S' O') i ((h,to),n) x):=fun S4 x4 q hq=>by
   have w4:=x4.wf w3
   have in4:=hin3.ext w3 x4
   have h4:=h3.ext w3 x4
   have E4:=E2.next w in4 (Mv.of (hxv.trans x4))
   by_cases hc:h.base<n∧(bZ h<n∨termH h n≠x.term)
   ·rw [hq,decide_eq_true hc]
    simp only [sR,bQ,aQ,dL,fP,iJ,aJ,Nat.reduceAdd,aF,eQ,h4.r_base,dK,hs1,dY]
    refine OkL.pickP (fun e=>OkL.stop (h,to) ⟨(h,to),by unfold gY;simp only;rw [if_pos hc,if_pos e],rfl,O2,E4⟩ (by intros;rfl)) (fun e=>?_)
    obtain ⟨k0,k1⟩:=ow.cut hc.1
    obtain ⟨u,r1,o1,bu⟩:=aQa (k:=.i64) aMy h4.log k0 k1
    have o1':Mn S4 3 u ((h.log.take (n - h.base - 1).toNat).map bV):=by rw [List.map_take];exact o1
    have hlt':(h.log.take (n - h.base - 1).toNat).length≤1000000:=by rw [List.length_take];exact Nat.le_trans (Nat.min_le_right _ _) (Nat.le_trans ow.ll (by decide))
    obtain ⟨S5,lv',S6,S7,q5,q6,q7,h7,m7⟩:=h4.push2 w4 o1' bu x [.int .i64 0,.int .i64 0,.str []] 22 16 17 (by decide) (by decide) (by decide) hlt'
    rw [←hO] at m7
    simp only [aS,h4.r_log,h4.r_base,aF,dK,hs1,hs2,oA,aMr,ua x4,r1,aRv,q5,aDo,q6,aMs,q7,cG,hw]
    exact OkL.next ⟨(({ h with log:=h.log.take (n - h.base - 1).toNat++[x] },n),n+1),by unfold gY;simp only;rw [if_pos hc,if_neg e],rfl,hnn.symm,ow.push hnle hc.1 e x,_,E4.next w ⟨_,_,_,_,_,h7,rfl⟩ m7⟩
   ·rw [hq,decide_eq_false hc]
    simp only [sR,aU,cG,hw,aF]
    refine OkL.next ⟨((h,n),n+1),by unfold gY;simp only;rw [if_neg hc],rfl,hnn.symm,ow.next2 hnle ?_ n,O2,E4⟩
    by_cases e1:h.base<n
    ·by_cases e2:bZ h<n
     ·exact absurd ⟨e1,.inl e2⟩ hc
     ·exact .inr (Int.not_lt.1 e2)
    ·exact .inl (Int.not_lt.1 e1)
  simp only [wS,bH,bK,aF,hlt,decide_true,bQ,aKj,hp,aMr,hld,cM,aQ6,hst,dF,aJ,eQ,bW g3,cG,hw1,←hn,hw2,hw,aQ,dL,fP,sV,Nat.reduceAdd,aS,h3.r_base,dY]
  refine OkL.pickP (fun e=>?_) (fun e=>j2 _ xb false (decide_eq_false (fun q=>e q.1)).symm)
  refine (aSa (hin3.ext w3 xb) ow.b0 ow.b1 ll').callL fun S5 x5=>?_
  have x35:=xb.trans x5
  have hlast:({ c with h:=h }:Core).last=bZ h:=rfl
  simp only [hlast]
  refine OkL.pickP (fun e2=>j2 _ x35 true (decide_eq_true (show h.base<n∧(bZ h<n∨termH h n≠x.term) from ⟨e,.inl e2⟩)).symm) (fun e2=>?_)
  simp only [u0 x35,aF]
  refine (aSb (hin3.ext w3 x35) ow.b0 ow.b1 ll' (n:=n) (Int.le_of_lt e) (Int.not_lt.1 e2)).callL fun S6 x6=>?_
  have x36:=x35.trans x6
  have hterm:({ c with h:=h }:Core).term n=termH h n:=rfl
  simp only [u0 x36,aF,cO,aP,bF,eX,hterm]
  refine j2 _ x36 _ ?_
  by_cases e3:termH h n=x.term
  ·rw [decide_eq_true e3,decide_eq_false (fun q=>by
    rcases q.2 with q | q
    ·exact e2 q
    ·exact q e3)];rfl
  ·rw [decide_eq_false e3,decide_eq_true ⟨e,.inr e3⟩];rfl
 ·rintro ⟨⟨h,to⟩,n⟩ vs S2 ⟨rfl,hn,ow,O2,E2⟩
  have hlt:¬ (m.entries.length:Int)<(m.entries.length:Int):=Int.lt_irrefl _
  refine ⟨(h,to),⟨rfl,O2,E2⟩,fun k K aK=>?_⟩
  simp only [wS,bH,bK,aF,hlt,decide_false,aU]
 ·subst e
  exact (j56 m ev _ E'.wf E'.core E'.box E'.no hl).mono fun u S3 ⟨e,O3,i3,m3⟩=>⟨e,O3,i3,E'.mv.trans w m3⟩
end
end
section
variable [Guard]
theorem gL {n:Nat} (h:n≤999990):n≤1000000:=Nat.le_trans h (by decide)
section
variable {S:St} {a:Nat} {c:Core} {O:Nat→Prop}
theorem aVa (m:Letter) (ev:V) {b:Nat} (w:WF S) (E:EnterI a c O S b m ev c.h S O) (I:Inv c) (ok:Lok m) (hk:m.kind=3) (hl:c.out.length≤999990) (hix:m.index≤c.last) (q:Bool) (hq:q=decide (c.h.base≤m.index∧c.term m.index≠m.at')):
  Ok (fun k K=>sS (aC prog bD bE k) k K (.ptr a 0 0 0) (.ptr b 0 0 0) (.bool q) S) (fun u S'=>u=.tup []∧∃ O',CoreIn S' a (if c.h.base≤m.index∧c.term m.index≠m.at' then c.post { Letter.zero with kind:=4,to:=m.from',index:=m.index - 1 } else
   ({ c with h:=(eI m.entries (m.index+1) c.h m.index).1,sure:=max c.sure (min m.commit (eI m.entries (m.index+1) c.h m.index).2) }:Core).post { Letter.zero with kind:=4,to:=m.from',yes:=true,index:=(eI m.entries (m.index+1) c.h m.index).2 }) O'∧Mv O S O' S'):=by
 have i0:=ok.i0
 have i1:=ok.i1
 have hw:wr .i64 (m.index - 1)=m.index - 1:=dC (by omega) (by omega)
 have hk3:=ok.k3 hk
 by_cases hc:c.h.base≤m.index∧c.term m.index≠m.at'
 ·rw [hq,decide_eq_true hc,if_pos hc]
  simp only [sS,bQ,eH,dF,aJ,Nat.reduceAdd,aF,eQ,dG E.box,bW E.box,dK,hw,rI,aBy]
  exact Meth.call (g86 _ .nils w E.core (Apart.nil _ _ rfl) (gL hl)) w fun S2 O2 w2 in2 m2=>Ok.ret ⟨rfl,O2,in2,m2⟩
 ·rw [hq,decide_eq_false hc,if_neg hc]
  simp only [sS,aU,dF,rJ,aJ,Nat.reduceAdd,aF,eQ,oA,bW E.box,tD E.box,rK,E.ents.lenI]
  exact l56 m ev w E I.h.b0 I.h.b1 I.h.ll i0 i1 hk3.2.1 hk3.2.2.1 hix hl
theorem g56 (m:Letter) (ev:V) (w:WF S) (h:CoreIn S a c O) (I:Inv c) (ok:Lok m) (hk:m.kind=3) (he:Apart S O m ev) (hl:c.out.length≤999990):Meth 56 [.ptr a 0 0 0,.agg (aG m ev)] a (c.appended m) S O (.tup []):=by
 have ho:=cD m he.1.one
 have hln:(aG m ev).length=13:=rfl
 obtain ⟨S1,hn1,x1,hg1,hnx1⟩:=nb w 13 (aG m ev)
 have w1:=x1.wf w
 have in1:=h.ext w x1
 have hin1:=in1
 have hno:¬ O S.next:=fun hO=>absurd (core_lt w h _ hO) (Nat.lt_irrefl _)
 obtain ⟨lv,wv,dv,ov,rows,h1,hO⟩:=in1
 have hap:=he.ext x1
 refine e56 ?_
 simp only [m56,bL,ho,hln,aP,hn1,aF,aQ,fW,aJ,Nat.reduceAdd,eQ,xF,h1.r_role,rP hg1,bF,cK]
 unfold Core.appended
 refine Ok.pickP (fun e=>Ok.ret ⟨rfl,O,by rw [if_pos e];exact hin1,Mv.of x1⟩) (fun e=>?_)
 rw [if_neg e]
 refine (g88 m ev w1 hin1 I ok hk hap.1).call fun S2 x2=>?_
 have w2:=x2.wf w1
 have x02:=x1.trans x2
 have in2:=hin1.ext w1 x2
 have g2:=x2.old _ _ hg1
 refine Ok.pick (fun e2=>Ok.ret ⟨rfl,O,by rw [if_pos e2];exact in2,Mv.of x02⟩) (fun e2=>?_)
 rw [if_neg (fun q=>by rw [q] at e2;cases e2)]
 simp only [eH,aJ,Nat.reduceAdd,aF,eQ,dG g2]
 refine Meth.call (g89 m.from' w2 in2) w2 fun S3 O3 w3 in3 m3=>?_
 obtain ⟨g3,no3⟩:=gX w2 g2 hno m3
 have ap3:=(he.ext x02).mv w2 m3
 have mv3:=(Mv.of (O:=O) x02).trans w m3
 have I3:=(I.hear ok.f0 ok.f1).1
 generalize hc3:c.hear m.from'=c3 at in3 I3
 have hl3:c3.out.length≤999990:=by rw [←hc3];exact hl
 have xb:Ext S3 (⟨S3.next+5,S3.heap⟩:St):=(Ext.refl S3).bump 5
 simp only [dF,aJ,Nat.reduceAdd,aF,eQ,aS,bW g3]
 refine (g46 (in3.ext w3 xb) I3.h).call fun S4 x4=>?_
 have x34:=xb.trans x4
 have w4:=x34.wf w3
 have g4:=x34.old _ _ g3
 have in4:=in3.ext w3 x34
 simp only [bW g4,aF,cO,aP,dY]
 refine Ok.pickP (fun e3=>?_) (fun e3=>?_)
 ·rw [if_pos e3]
  have xc:Ext S4 (⟨S4.next+7,S4.heap⟩:St):=(Ext.refl S4).bump 7
  simp only [eH,aJ,Nat.reduceAdd,aF,eQ,aS,dG g4]
  refine (g46 (in4.ext w4 xc) I3.h).call fun S5 x5=>?_
  have x45:=xc.trans x5
  have w5:=x45.wf w4
  have g5:=x45.old _ _ g4
  simp only [dG g5,aF,cO,aP,rI,aBy]
  exact Meth.call (g86 _ .nils w5 (in4.ext w4 x45) (Apart.nil _ _ rfl) (gL hl3)) w5 fun S6 O6 w6 in6 m6=>Ok.ret ⟨rfl,O6,in6,(mv3.trans w (Mv.of (x34.trans x45))).trans w m6⟩
 ·rw [if_neg e3]
  have xc:Ext S4 (⟨S4.next+17,S4.heap⟩:St):=(Ext.refl S4).bump 17
  have fin:∀ (S5:St),Ext S4 S5→∀ q:Bool,q=decide (c3.h.base≤m.index∧c3.term m.index≠m.at')→Ok (fun k K=>sS (aC prog bD bE k) k K (.ptr a 0 0 0) (.ptr S.next 0 0 0) (.bool q) S5) (fun u S'=>u=.tup []∧∃ O',CoreIn S' a (if c3.h.base≤m.index∧c3.term m.index≠m.at' then c3.post { Letter.zero with kind:=4,to:=m.from',index:=m.index - 1 } else
   ({ c3 with h:=(eI m.entries (m.index+1) c3.h m.index).1,sure:=max c3.sure (min m.commit (eI m.entries (m.index+1) c3.h m.index).2) }:Core).post { Letter.zero with kind:=4,to:=m.from',yes:=true,index:=(eI m.entries (m.index+1) c3.h m.index).2 }) O'∧Mv O S O' S'):=fun S5 x5 q hq=>by
   have w5:=x5.wf w4
   have x35:=x34.trans x5
   have ap5:=ap3.ext x35
   exact (aVa m ev w5 ⟨w5,in4.ext w4 x5,Mv.refl _ _,x5.old _ _ g4,no3,ap5.1,ap5.2⟩ I3 ok hk hl3 (Int.not_lt.1 e3) q hq).mono fun u S6 ⟨e,O6,i6,m6⟩=>⟨e,O6,i6,(mv3.trans w (Mv.of x35)).trans w m6⟩
  obtain ⟨lv',wv',dv',ov',rows',h4,_⟩:=in4
  simp only [dF,jJ,aJ,Nat.reduceAdd,aF,eQ,aS,bW g4,oB g4,aQ,dL,fP,h4.r_base,eO]
  refine Ok.pickP (fun e4=>?_) (fun e4=>fin _ xc false (decide_eq_false (fun q=>e4 q.1)).symm)
  refine (g62 ((in3.ext w3 x34).ext w4 xc) I3.h (n:=m.index) e4 (Int.not_lt.1 e3)).call fun S5 x5=>?_
  have x45:=xc.trans x5
  have g5:=x45.old _ _ g4
  simp only [oB g5,aF,cO,aP,bF,eX]
  refine fin S5 x45 _ ?_
  by_cases e5:c3.term m.index=m.at'
  ·rw [decide_eq_true e5,decide_eq_false (fun q=>q.2 e5)];rfl
  ·rw [decide_eq_false e5,decide_eq_true (show c3.h.base≤m.index∧c3.term m.index≠m.at' from ⟨e4,e5⟩)];rfl
end
end
section
variable [Guard]
theorem lK {c:Core} (h:c.peers.length=7) {n:Nat} (hn:n<7) (p:Peer):({ c with peers:=c.peers.set n p }:Core).peer (n:Int)=p:=by
 show (c.peers.set n p).getD n ⟨0,0,0⟩=p
 rw [List.getD_eq_getElem?_getD,List.getElem?_set_self (by omega)]
 rfl
theorem aL2 {a b c d e:Int} (h1:1≤a) (h2:a≤e+1) (h3:0≤b) (h4:b≤e) (h5:0≤c) (h6:e≤1099511627776) (h7:c≤1099511627776) (hd:d=max (min (a - 1) (c+1)) (b+1)):wr .i64 (a - 1)=a - 1∧wr .i64 (c+1)=c+1∧wr .i64 (b+1)=b+1∧1≤d∧d≤e+1:=
 ⟨dC (by omega) (by omega),dC (by omega) (by omega),dC (by omega) (by omega),by omega,by omega⟩
theorem aFw (x y:Int):bM prog 84 [(0,.int .i64 x),(1,.int .i64 y)]=.ok (.agg (iD ⟨x,y,0⟩)):=by rw [aRu];rfl
section
variable {S:St} {a:Nat} {c:Core} {O:Nat→Prop}
theorem j57 (m:Letter) (ev:V) {b:Nat} (w:WF S) (h:CoreIn S a c O) (hb:S.heap.get b=some (.row 0 13 [aG m ev])) (ok:Hok c.h) (f0:0≤m.from') (f1:m.from'<7) (hp:Pok c (c.peer m.from')) (hl:c.out.length≤999990) (q:Bool):
  Ok (fun k K=>sT (aC prog bD bE k) k K (.ptr a 0 0 0) (.ptr b 0 0 0) (.bool q) S) (fun u S'=>u=.tup []∧∃ O',CoreIn S' a (if q=true then c.send m.from' else c) O'∧Mv O S O' S'):=by
 cases q with
 | true=>
  simp only [sT,bQ,eH,aJ,Nat.reduceAdd,aF,eQ,dG hb,if_true]
  exact Meth.call (g83 w h ok (gL hl) f0 f1 hp) w fun S2 O2 w2 in2 m2=>Ok.ret ⟨rfl,O2,in2,m2⟩
 | false=>
  simp only [sT,aU]
  exact Ok.ret ⟨rfl,O,h,Mv.refl O S⟩
theorem g57 (m:Letter) (ev:V) (w:WF S) (h:CoreIn S a c O) (I:Inv c) (ok:Lok m) (he:Sl S 3 ev (m.entries.map bV)) (hl:c.out.length≤999990):Meth 57 [.ptr a 0 0 0,.agg (aG m ev)] a (c.acked m) S O (.tup []):=by
 have ho:=cD m he.one
 have hln:(aG m ev).length=13:=rfl
 have f0:=ok.f0
 have f1:=ok.f1
 have i0:=ok.i0
 have i1:=ok.i1
 have hr:=fH I.h
 have f7:m.from'<7:=by omega
 have hw:wr .i64 (m.index+1)=m.index+1:=dC (by omega) (by omega)
 obtain ⟨n,hn⟩:∃ n:Nat,m.from'=(n:Int):=⟨m.from'.toNat,by omega⟩
 have hn7:n<7:=by omega
 have hpe:c.peers.getD n ⟨0,0,0⟩=c.peer m.from':=by rw [hn];rfl
 obtain ⟨S1,hn1,x1,hg1,hnx1⟩:=nb w 13 (aG m ev)
 have w1:=x1.wf w
 have hno:¬ O S.next:=fun hO=>absurd (core_lt w h _ hO) (Nat.lt_irrefl _)
 have xb:Ext S1 (⟨S1.next+12,S1.heap⟩:St):=(Ext.refl S1).bump 12
 have x1b:=x1.trans xb
 have inb:=h.ext w x1b
 have hinb:=inb
 obtain ⟨lv,wv,dv,ov,rows,hb1,hO⟩:=inb
 have hb1':aM none (.ptr a 0 0 8) S1=.ok (.int .i64 c.role):=hb1.r_role
 refine e57 ?_
 simp only [m57,bL,ho,hln,aP,hn1,aF,aQ,fW,dF,aJ,Nat.reduceAdd,eQ,aS,hb1',bW hg1,bF,eX]
 have hA:c.acked m=if c.role≠3∨c.last<m.index then c else
   if m.yes=false then (c.setPeer m.from' { c.peer m.from' with next:=max (min ((c.peer m.from').next - 1) (m.index+1)) ((c.peer m.from').mtch+1) }).send m.from' else
   if m.index≤(c.peer m.from').mtch then c else
    if (c.setPeer m.from' ⟨m.index+1,m.index,0⟩).look.role=3∧((c.setPeer m.from' ⟨m.index+1,m.index,0⟩).look.peer m.from').next≤(c.setPeer m.from' ⟨m.index+1,m.index,0⟩).look.last then (c.setPeer m.from' ⟨m.index+1,m.index,0⟩).look.send m.from' else (c.setPeer m.from' ⟨m.index+1,m.index,0⟩).look:=rfl
 rw [hA]
 refine Ok.pickN (fun e=>Ok.ret ⟨rfl,O,by rw [if_pos (.inl e)];exact hinb,Mv.of x1b⟩) (fun e=>?_)
 refine (g46 hinb I.h).call fun S2 x2=>?_
 have x02:=x1b.trans x2
 have w2:=x02.wf w
 have g2:=x2.old _ _ (xb.old _ _ hg1)
 have in2:=h.ext w x02
 simp only [bW g2,aF,cO,aP,dY]
 refine Ok.pickP (fun e2=>Ok.ret ⟨rfl,O,by rw [if_pos (.inr e2)];exact in2,Mv.of x02⟩) (fun e2=>?_)
 rw [if_neg (fun q=>by
  rcases q with q | q
  ·exact q e
  ·exact e2 q)]
 have hpk:=I.pr e _ (uY I.pl f0 f7)
 have hsp:∀ p:Peer,({ c with peers:=c.peers.set n p }:Core)=c.setPeer m.from' p:=fun p=>by unfold Core.setPeer;rw [hn];rfl
 simp only [eH,uW,dF,sW,aJ,Nat.reduceAdd,aF,eQ,ld4,aS,dG g2,aDy g2,bW g2,aQ,hn,aE2,nD hn7,fO]
 rw [←hn]
 refine Ok.pick (fun e3=>?_) (fun e3=>?_)
 ·have e3':m.yes=false:=by simpa using e3
  rw [if_pos e3']
  have xc:Ext S2 (⟨S2.next+26,S2.heap⟩:St):=(Ext.refl S2).bump 26
  have wc:=xc.wf w2
  obtain ⟨lv,wv,dv,ov,rows,h2,hO2⟩:=in2
  generalize hd:max (min ((c.peer m.from').next - 1) (m.index+1)) ((c.peer m.from').mtch+1)=d
  obtain ⟨q1,q2,q3,q4,q5⟩:=aL2 hpk.n0 hpk.n1 hpk.a0 hpk.a1 i0 hr.2 i1 hd.symm
  obtain ⟨S3,r3,h3,m3,n3⟩:=(h2.ext w2 xc).w_next wc hn7 d
  have e1:=h2.r_next hn7
  have e4:=h2.r_mtch hn7
  rw [hpe] at e1 e4 h3
  rw [hsp] at h3
  rw [←hO2] at m3
  have w3:=m3.wf wc
  have g3:=(gX wc (xc.old _ _ g2) hno m3).1
  simp only [aQ,aBp,xD,dF,eH,aJ,Nat.reduceAdd,Nat.add_zero,aF,eQ,aS,e1,e4,bW g2,dK,cG,q1,q2,q3,rQ,aE1,hd,st3,r3,dG g3]
  have hpp:({ c with peers:=c.peers.set n { c.peer m.from' with next:=d } }:Core).peer m.from'={ c.peer m.from' with next:=d }:=by rw [hn];exact lK I.pl hn7 _
  rw [hsp] at hpp
  refine Meth.call (g83 w3 ⟨_,_,_,_,_,h3,hO2⟩ I.h (gL hl) f0 f7 ?_) w3 fun S4 O4 w4 in4 m4=>Ok.ret ⟨rfl,O4,in4,((Mv.of (x02.trans xc)).trans w m3).trans w m4⟩
  rw [hpp]
  exact ⟨hpk.a0,hpk.a1,q4,q5,hpk.o0,hpk.o1⟩
 ·rw [if_neg (fun q=>by rw [q] at e3;cases e3)]
  have xc:Ext S2 (⟨S2.next+14,S2.heap⟩:St):=(Ext.refl S2).bump 14
  have wc:=xc.wf w2
  have hin2:=in2
  obtain ⟨lv,wv,dv,ov,rows,h2,hO2⟩:=in2
  have e4:=h2.r_mtch hn7
  rw [hpe] at e4
  simp only [aQ,xD,dF,aJ,Nat.reduceAdd,Nat.add_zero,aF,eQ,aS,e4,bW g2,fT,cG,hw,aFw]
  refine Ok.pickP (fun e5=>Ok.ret ⟨rfl,O,by rw [if_pos e5];exact hin2.ext w2 xc,Mv.of (x02.trans xc)⟩) (fun e5=>?_)
  rw [if_neg e5]
  obtain ⟨S3,r3,h3,m3,n3⟩:=(h2.ext w2 xc).w_peer wc hn7 ⟨m.index+1,m.index,0⟩
  rw [hsp] at h3
  rw [←hO2] at m3
  have w3:=m3.wf wc
  have g3:=gX wc (xc.old _ _ g2) hno m3
  have hpp:({ c with peers:=c.peers.set n ⟨m.index+1,m.index,0⟩ }:Core).peer m.from'=⟨m.index+1,m.index,0⟩:=by rw [hn];exact lK I.pl hn7 _
  rw [hsp] at hpp
  simp only [aKm,r3,aF]
  generalize hc3:c.setPeer m.from' ⟨m.index+1,m.index,0⟩=c3 at h3 hpp
  have eh:c3.h=c.h:=by rw [←hc3];rfl
  have el3:c3.last=c.last:=by unfold Core.last;rw [eh]
  have mv3:=(Mv.of (O:=O) (x02.trans xc)).trans w m3
  refine Meth.call (g90 w3 ⟨_,_,_,_,_,h3,hO2⟩ (by rw [eh];exact I.h) (by rw [eh,←hc3];exact I.s0) (by rw [el3,←hc3];exact I.s1)) w3 fun S4 O4 w4 in4 m4=>?_
  obtain ⟨k1,k2,k3,k4,k5⟩:=aAc c3
  have mv4:=mv3.trans w m4
  have g4:=(gX w3 g3.1 g3.2 m4).1
  generalize hc4:c3.look=c4 at in4 k1 k2 k3 k4 k5
  have hok4:Hok c4.h:=by rw [k1,eh];exact I.h
  have hp4:c4.peer m.from'=⟨m.index+1,m.index,0⟩:=by unfold Core.peer at hpp ⊢;rw [k2];exact hpp
  have hp4':c4.peers.getD n ⟨0,0,0⟩=⟨m.index+1,m.index,0⟩:=by rw [←hp4,hn];rfl
  have el4:c4.last=c.last:=by unfold Core.last;rw [k1,eh]
  have hl4:c4.out.length≤999990:=by rw [k3,←hc3];exact hl
  have xd:Ext S4 (⟨S4.next+14,S4.heap⟩:St):=(Ext.refl S4).bump 14
  have hin4:=in4
  obtain ⟨lv,wv,dv,ov,rows,h4,hO4⟩:=in4
  have e7:=h4.r_next hn7
  rw [hp4'] at e7
  have hb0:=I.h.b0
  have hpk4:Pok c4 (c4.peer m.from'):=by
   rw [hp4];exact ⟨i0,by rw [el4];exact Int.not_lt.1 e2,Int.add_le_add_right i0 1,by rw [el4];show m.index+1≤c.last+1;exact Int.add_le_add_right (Int.not_lt.1 e2) 1,Int.le_refl _,.inr rfl⟩
  have fin:∀ S5,Ext S4 S5→∀ q:Bool,q=decide (c4.role=3∧(c4.peer m.from').next≤c4.last)→Ok (fun k K=>sT (aC prog bD bE k) k K (.ptr a 0 0 0) (.ptr S.next 0 0 0) (.bool q) S5) (fun u S'=>u=.tup []∧∃ O',CoreIn S' a (if c4.role=3∧(c4.peer m.from').next≤c4.last then c4.send m.from' else c4) O'∧Mv O S O' S'):=fun S5 x5 q hq=>by
   refine (j57 m ev (x5.wf w4) (hin4.ext w4 x5) (x5.old _ _ g4) hok4 f0 f7 hpk4 hl4 q).mono fun u S6 ⟨e,O6,i6,m6⟩=>⟨e,O6,?_,(mv4.trans w (Mv.of x5)).trans w m6⟩
   by_cases hc:c4.role=3∧(c4.peer m.from').next≤c4.last
   ·rw [if_pos hc];rw [hq,decide_eq_true hc,if_pos rfl] at i6;exact i6
   ·rw [if_neg hc];rw [hq,decide_eq_false hc,if_neg (by decide)] at i6;exact i6
  simp only [aQ,fW,aBp,aJ,Nat.reduceAdd,Nat.add_zero,aF,eQ,aS,h4.r_role,bF,aP,cK,e7]
  refine Ok.pickP (fun e6=>?_) (fun e6=>fin _ xd false (decide_eq_false (fun q=>e6 q.1)).symm)
  refine (g46 (hin4.ext w4 xd) hok4).call fun S5 x5=>?_
  have x45:=xd.trans x5
  have e8:=(h4.ext w4 x45).r_next hn7
  rw [hp4'] at e8
  simp only [e8,aF,cO,aP,fT]
  refine fin S5 x45 _ ?_
  rw [hp4]
  by_cases hc:m.index+1≤c4.last
  ·rw [decide_eq_true hc,decide_eq_true (show c4.role=3∧m.index+1≤c4.last from ⟨e6,hc⟩)]
  ·rw [decide_eq_false hc,decide_eq_false (fun q=>hc q.2)]
end
end
section
variable [Guard]
section
variable {S:St} {a:Nat} {c:Core} {O:Nat→Prop}
theorem g59 (m:Letter) (ev:V) (w:WF S) (h:CoreIn S a c O) (I:Inv c) (ok:Lok m) (hk:m.kind=6) (he:Sl S 3 ev (m.entries.map bV)) (hl:c.out.length≤999990):Meth 59 [.ptr a 0 0 0,.agg (aG m ev)] a (c.more m) S O (.tup []):=by
 have ho:=cD m he.one
 have hln:(aG m ev).length=13:=rfl
 have f0:=ok.f0
 have f1:=ok.f1
 have k6:=ok.k6 hk
 have f7:m.from'<7:=by omega
 obtain ⟨n,hn⟩:∃ n:Nat,m.from'=(n:Int):=⟨m.from'.toNat,by omega⟩
 have hn7:n<7:=by omega
 have hpe:c.peers.getD n ⟨0,0,0⟩=c.peer m.from':=by rw [hn];rfl
 obtain ⟨S1,hn1,x1,hg1,hnx1⟩:=nb w 13 (aG m ev)
 have w1:=x1.wf w
 have hno:¬ O S.next:=fun hO=>absurd (core_lt w h _ hO) (Nat.lt_irrefl _)
 have xb:Ext S1 (⟨S1.next+54,S1.heap⟩:St):=(Ext.refl S1).bump 54
 have in1:=h.ext w x1
 have hinb:=in1.ext w1 xb
 obtain ⟨lv,wv,dv,ov,rows,h1,hO⟩:=in1
 have e1:=h1.r_next hn7
 have e2:=h1.r_off hn7
 rw [hpe] at e1 e2
 refine e59 ?_
 simp only [m59,bL,ho,hln,aP,hn1,aF,aQ,fW,dL,sW,fP,pR,aBp,aKh,eH,dF,pT,aJ,Nat.reduceAdd,Nat.add_zero,eQ,ld9,aS,dG hg1,h1.r_role,h1.r_base,h1.r_snap,bW hg1,rO hg1,hn,aE2,nD hn7,e1,e2,aKx,bF,eX,dY,eO,cK]
 rw [←hn]
 have hA:c.more m=if c.role≠3∨m.index≠c.h.base∨c.h.base<(c.peer m.from').next∨(c.h.snap.length:Int)≤m.off∨m.off=(c.peer m.from').off then c else (c.setPeer m.from' { c.peer m.from' with off:=m.off }).send m.from':=rfl
 rw [hA]
 have no:(c.role≠3∨m.index≠c.h.base∨c.h.base<(c.peer m.from').next∨(c.h.snap.length:Int)≤m.off∨m.off=(c.peer m.from').off)→∀ S',Ext S1 S'→Ok (fun k K=>K (.tup []) S') (fun u S'=>u=.tup []∧∃ O',CoreIn S' a (if c.role≠3∨m.index≠c.h.base∨c.h.base<(c.peer m.from').next∨(c.h.snap.length:Int)≤m.off∨m.off=(c.peer m.from').off then c else (c.setPeer m.from' { c.peer m.from' with off:=m.off }).send m.from') O'∧Mv O S O' S'):=fun hq S' x=>Ok.ret ⟨rfl,O,by rw [if_pos hq];exact h.ext w (x1.trans x),Mv.of (x1.trans x)⟩
 refine Ok.pickN (fun e=>no (.inl e) _ xb) (fun e=>?_)
 refine Ok.pickN (fun e3=>no (.inr (.inl e3)) _ xb) (fun e3=>?_)
 refine Ok.pickP (fun e4=>no (.inr (.inr (.inl e4))) _ xb) (fun e4=>?_)
 refine Ok.pickP (fun e5=>no (.inr (.inr (.inr (.inl e5)))) _ xb) (fun e5=>?_)
 refine Ok.pickP (fun e6=>no (.inr (.inr (.inr (.inr e6)))) _ xb) (fun e6=>?_)
 rw [if_neg (fun q=>by
  rcases q with q | q | q | q | q
  ·exact q e
  ·exact q e3
  ·exact e4 q
  ·exact e5 q
  ·exact e6 q)]
 have hpk:=I.pr e _ (uY I.pl f0 f7)
 have wb:=xb.wf w1
 obtain ⟨S3,r3,h3,m3,n3⟩:=(h1.ext w1 xb).w_off wb hn7 m.off
 rw [hpe] at h3
 have hsp:∀ p:Peer,({ c with peers:=c.peers.set n p }:Core)=c.setPeer m.from' p:=fun p=>by unfold Core.setPeer;rw [hn];rfl
 rw [hsp] at h3
 rw [←hO] at m3
 have w3:=m3.wf wb
 have g3:=(gX wb (xb.old _ _ hg1) hno m3).1
 simp only [st3,r3,aF,dG g3]
 have hpp:({ c with peers:=c.peers.set n { c.peer m.from' with off:=m.off } }:Core).peer m.from'={ c.peer m.from' with off:=m.off }:=by rw [hn];exact lK I.pl hn7 _
 rw [hsp] at hpp
 refine Meth.call (g83 w3 ⟨_,_,_,_,_,h3,hO⟩ I.h (gL hl) f0 f7 ?_) w3 fun S4 O4 w4 in4 m4=>Ok.ret ⟨rfl,O4,in4,((Mv.of (x1.trans xb)).trans w m3).trans w m4⟩
 rw [hpp]
 exact ⟨hpk.a0,hpk.a1,hpk.n0,hpk.n1,k6.2.1,.inl (Int.not_le.1 e5)⟩
end
end
end Go.Proofs.Ytbiidlmhadihlaa
end
section
namespace Go.Raft
open Go.AM
section
variable [Guard]
section
variable {S:St} {a:Nat} {c:Core} {lv wv dv ov:V} {rows:List (List V)} (h:CoreAt S a c lv wv dv ov rows)
include h
theorem CoreAt.w_base (w:WF S) (x:Int):∃ S',bG 1 (.ptr a 0 0 3) (.int .i64 x) S=.ok S'∧CoreAt S' a { c with h:={ c.h with base:=x } } lv wv dv ov rows∧Mv (own a lv wv dv ov) S (own a lv wv dv ov) S'∧S'.next=S.next:=h.set w 3 x _ (by decide) rfl rfl rfl rfl h.peers
theorem CoreAt.w_baseTerm (w:WF S) (x:Int):∃ S',bG 1 (.ptr a 0 0 4) (.int .i64 x) S=.ok S'∧CoreAt S' a { c with h:={ c.h with baseTerm:=x } } lv wv dv ov rows∧Mv (own a lv wv dv ov) S (own a lv wv dv ov) S'∧S'.next=S.next:=h.set w 4 x _ (by decide) rfl rfl rfl rfl h.peers
theorem CoreAt.w_mem (w:WF S) (x:Int):∃ S',bG 1 (.ptr a 0 0 5) (.int .i64 x) S=.ok S'∧CoreAt S' a { c with h:={ c.h with members:=x } } lv wv dv ov rows∧Mv (own a lv wv dv ov) S (own a lv wv dv ov) S'∧S'.next=S.next:=h.set w 5 x _ (by decide) rfl rfl rfl rfl h.peers
theorem CoreAt.w_snap (w:WF S) (x:List UInt8):∃ S',bG 1 (.ptr a 0 0 6) (.str x) S=.ok S'∧CoreAt S' a { c with h:={ c.h with snap:=x } } lv wv dv ov rows∧Mv (own a lv wv dv ov) S (own a lv wv dv ov) S'∧S'.next=S.next:=
 h.st w 6 _ _ rfl rfl (by rw [cU c lv wv ov h.peers];omega) rfl rfl rfl rfl h.peers
theorem CoreAt.w_way (w:WF S) {S1:St} (x:Ext S S1) {wv' dv':V} {way':Option Inst} (hway:WayAt S1 way' wv' dv') (hone:wv'.cells=[wv']∧wv'.one=true) (hb:∀ y,aO6 wv'=some y∨aO dv'=some y→S.next≤y):
  ∃ S2,bG 1 (.ptr a 0 0 35) wv' S1=.ok S2∧CoreAt S2 a { c with way:=way' } lv wv' dv' ov rows∧Mv (own a lv wv dv ov) S (own a lv wv' dv' ov) S2∧S2.next=S1.next:=by
 have hl:=cU c lv wv ov h.peers
 have ga:=x.old _ _ h.cell
 have w1:=x.wf w
 have hn:=x.next
 have e:=dE (x:=wv') (j:=35) (m:=1) ga (by rw [hone.1];rfl) (by rw [hone.1];simp [aH,hone.2]) (by omega)
 rw [hone.1,(nT c lv wv ov h.peers wv').2.2.1] at e
 have kk:∀ n,n≠37→KeepW n S (⟨S1.next,S1.heap.put a (.row 0 37 [bI c lv wv' ov])⟩:St):=fun n h2=>
  KeepW.trans (KeepW.ext x) (KeepW.put ga h2 _)
 refine ⟨_,e,⟨Tr.get_put_sameB _ _ _ trivial,h.peers,h.log.keepW hn (kk 3 (by decide)),hway.keepW (Nat.le_refl _) (KeepW.put ga (by decide) _) (KeepW.put ga (by decide) _),h.out.keepW hn (kk 13 (by decide)),All2.imp (fun m cs q=>q.keep (fun y ver el _ g=>kk 3 (by decide) _ _ _ g) (fun y _ h=>h) w) h.lets,h.gd.mono hn⟩,⟨⟨fun y b hy hb'=>?_,hn,fun _=>(But.put (w1 _ _ ga) _).wf w1⟩,fun y hy=>?_⟩,rfl⟩
 ·show (S1.heap.put a _).get y=some b
  rw [Tr.get_put_neB _ _ _ _ trivial (fun e=>hy (.inl e))]
  exact x.old y b hb'
 ·rcases hy with hy | hy | hy | hy | hy
  ·exact .inl (.inl hy)
  ·exact .inl (.inr (.inl hy))
  ·exact .inr (hb y (.inl hy))
  ·exact .inr (hb y (.inr hy))
  ·exact .inl (.inr (.inr (.inr (.inr hy))))
theorem CoreAt.w_data (w:WF S) {i:Inst} (hi:c.way=some i) {S1:St} (w1:WF S1) (hn:S.next≤S1.next) (hk:∀ y b,S.heap.get y=some b→aO dv≠some y→S1.heap.get y=some b) {dv':V} {d':List UInt8} (hd:Mn S1 1 dv' (d'.map tA)) (hb:∀ y,aO dv'=some y→aO dv=some y∨S.next≤y):
  ∃ b S2,wv=.ptr b 0 0 0∧bG 1 (.ptr b 0 0 3) dv' S1=.ok S2∧CoreAt S2 a { c with way:=some { i with data:=d' } } lv wv dv' ov rows∧Mv (own a lv wv dv ov) S (own a lv wv dv' ov) S2∧S2.next=S1.next:=by
 have hw:=h.way
 rw [hi] at hw
 obtain ⟨b,e,g,m⟩:=hw
 have gb:S1.heap.get b=some _:=hk _ _ g (m.neRow g (by decide))
 have e1:=dE (x:=dv') (j:=3) (m:=1) gb (by rw [hd.cells.1];rfl) (by rw [hd.cells.1];simp [aH,hd.cells.2]) (by show 3+1≤4;omega)
 have hsp:splice [V.int .i64 i.index,.int .i64 i.at',.int .i64 i.size,dv] 3 [dv']=[V.int .i64 i.index,.int .i64 i.at',.int .i64 i.size,dv']:=rfl
 rw [hd.cells.1,hsp] at e1
 have kk:∀ n,n≠1→n≠4→KeepW n S (⟨S1.next,S1.heap.put b (.row 0 4 [[V.int .i64 i.index,.int .i64 i.at',.int .i64 i.size,dv']])⟩:St):=fun n h1 h2=>
  KeepW.trans (fun y ver el g=>hk _ _ g (m.neRow g (Ne.symm h1))) (KeepW.put gb h2 _)
 refine ⟨b,_,e,e1,⟨kk 37 (by decide) (by decide) _ _ _ h.cell,h.peers,h.log.keepW hn (kk 3 (by decide) (by decide)),⟨b,e,Tr.get_put_sameB _ _ _ trivial,hd.keepW (Nat.le_refl _) (KeepW.put gb (by decide) _)⟩,h.out.keepW hn (kk 13 (by decide) (by decide)),All2.imp (fun m cs q=>q.keep (fun y ver el _ g=>kk 3 (by decide) (by decide) _ _ _ g) (fun y _ h=>h) w) h.lets,h.gd.mono hn⟩,⟨⟨fun y bb hy hb'=>?_,hn,fun _=>(But.put (w1 _ _ gb) _).wf w1⟩,fun y hy=>?_⟩,rfl⟩
 ·show (S1.heap.put b _).get y=some bb
  rw [Tr.get_put_neB _ _ _ _ trivial (fun e2=>hy (.inr (.inr (.inl (by rw [e,e2];rfl)))))]
  exact hk y bb hb' (fun e2=>hy (.inr (.inr (.inr (.inl e2)))))
 ·rcases hy with hy | hy | hy | hy | hy
  ·exact .inl (.inl hy)
  ·exact .inl (.inr (.inl hy))
  ·exact .inl (.inr (.inr (.inl hy)))
  ·rcases hb y hy with h1 | h1
   ·exact .inl (.inr (.inr (.inr (.inl h1))))
   ·exact .inr h1
  ·exact .inl (.inr (.inr (.inr (.inr hy))))
end
end
end Go.Raft
end
section
namespace Go.AM
open Go.Raft
section
variable [Guard]
def aN6 (P:Program) (t:TypeId):Bool:=match P.underlying t with
 | some (.slice e)=>(match P.underlying e with
  | some (.int .u8)=>true
  | _=>false)
 | _=>false
theorem lL:∀ d:List UInt8,dJ (d.map tA)=some d
 | []=>rfl
 | b::d=>by
  have ih:=lL d
  simp only [List.map_cons,tA,dJ] at ih ⊢
  simp [ih,UInt8.ofNat_toNat]
theorem aAd {P:Program} {t u:TypeId} (ht:aN6 P t=true) (hu:oM P u=true) {S:St} {v:V} {d:List UInt8} (h:Sl S 1 v (d.map tA)) (fr:Option Nat):bP P t u v fr S=.ok (.str d,S):=by
 unfold aN6 at ht
 unfold oM at hu
 unfold bP
 split at ht
 ·rename_i e he
  split at ht
  ·rename_i he2
   split at hu
   ·rename_i hu2
    simp only [he,hu2,he2]
    rcases h.is with ⟨rfl,e0⟩ | rfl | ⟨a,ver,off,elems,rfl,h2,h3,h4⟩
    ·have e1:=h.elems
     simp only [e1,lL]
    ·have e1:=h.elems
     simp only [e1,lL]
    ·have e1:=h.elems
     simp only [e1,lL]
   ·cases hu
  ·cases ht
 ·cases ht
theorem Mn.pushAtL {S:St} {n b:Nat} {v u:V} {es cs:List (List V)} (h:Mn S n v es) (w:WF S) (hu:bO S u=.ok cs) (hc:∀ c,c∈cs→c.length=n∧aH c=true) (hne:cs≠[]) {k:Nat} (hk2:k<S.next) (hk3:S.heap.get k=none)
  (h1:(es.length+cs.length)*b≤35184372088832) (h2:es.length+cs.length<eV):∃ v' S',fN n b v u (some k) S=.ok (v',S')∧WF S'∧S'.next=S.next∧Mn S' n v' (es++cs)∧(aO v'=some k∨aO v'=aO v)∧(∀ y,y≠k→aO v≠some y→S'.heap.get y=S.heap.get y):=by
 obtain ⟨v',S',q1,q2,q3,q4,q5,q6⟩:=Own.pushAt (b:=b) h (aBw w) uB hu hc hne (Nat.zero_le k) hk2 hk3 h1 h2
 exact ⟨v',S',q1,q2.wf uB,q3,q4,q5,q6⟩
end
end Go.AM
end
section
namespace Go.Raft
open Go.AM
section
variable [Guard]
structure MvB (N:Nat) (O:Nat→Prop) (S:St) (O':Nat→Prop) (S':St):Prop where
 keep:∀ y b,y<N→¬ O y→S.heap.get y=some b→S'.heap.get y=some b
 next:S.next≤S'.next
 wf:WF S→WF S'
 own:∀ y,O' y→O y∨N≤y
theorem MvB.of {N:Nat} {O O':Nat→Prop} {S S':St} (h:Mv O S O' S') (hN:N≤S.next):MvB N O S O' S':=
 ⟨fun y b _ h1 h2=>h.keep y b h1 h2,h.next,h.wf,fun y hy=>(h.own y hy).imp id (Nat.le_trans hN)⟩
theorem MvB.trans {N:Nat} {O O1 O2:Nat→Prop} {S S1 S2:St} (h:MvB N O S O1 S1) (k:MvB N O1 S1 O2 S2):MvB N O S O2 S2:=by
 refine ⟨fun y b hN hy hb=>k.keep y b hN (fun h1=>?_) (h.keep y b hN hy hb),Nat.le_trans h.next k.next,fun w=>k.wf (h.wf w),fun y hy=>?_⟩
 ·rcases h.own y h1 with h2 | h2
  ·exact hy h2
  ·omega
 ·rcases k.own y hy with h1 | h1
  ·exact h.own y h1
  ·exact .inr h1
theorem MvB.mv {O O':Nat→Prop} {S S':St} (w:WF S) (h:MvB S.next O S O' S'):Mv O S O' S':=
 ⟨⟨fun y b hy hb=>h.keep y b (w y b hb) hy hb,h.next,h.wf⟩,h.own⟩
theorem Mn.mv {S S':St} {O O':Nat→Prop} {n:Nat} {v:V} {es:List (List V)} (h:Mn S n v es) (hv:∀ y,aO v=some y→¬ O y) (k:Mv O S O' S'):Mn S' n v es∧∀ y,aO v=some y→¬ O' y:=by
 refine ⟨Mn.fr h k.next fun y b hy hb=>k.keep y b (hv y hy) hb,fun y hy hO=>?_⟩
 rcases k.own y hO with h1 | h1
 ·exact hv y hy h1
 ·have:=(h.blk hy).1;omega
theorem aFx {m:Letter} {u v:V} (h:aG m u=aG m v):u=v:=by
 simp only [aG,List.cons.injEq,and_true,true_and] at h;exact h
theorem aBz {S B:St} {L:Option Nat} (wB:WF B):∀ {out:List Letter} {rows:List (List V)},All2 (LetAt S L) out rows→All2 (LetAt B L) out rows→All2 (fun m cs=>∃ ev,cs=aG m ev∧Sl S 3 ev (m.entries.map bV)∧∀ y,aO ev=some y→L≠some y∧y<B.next) out rows
 | _,_,.nil,.nil=>.nil
 | _,_,.cons ⟨ev,e,h1,h2⟩ t,.cons ⟨ev',e',h1',h2'⟩ t'=>.cons ⟨ev,e,h1,fun y hy=>⟨h2 y hy,by
   have he:ev=ev':=aFx (e.symm.trans e')
   subst he
   exact aDt wB h1' y hy⟩⟩ (aBz wB t t')
theorem CoreAt.w_logN {S B:St} {a:Nat} {c c0:Core} {lv wv dv ov:V} {rows:List (List V)} (h:CoreAt S a c lv wv dv ov rows) (w:WF S) (h0:CoreAt B a c0 lv wv dv ov rows) (wB:WF B) (hout:c0.out=c.out)
  {lv':V} {l':List Entry} (hlog:Mn S 3 lv' (l'.map bV)) (hb:∀ y,aO lv'=some y→B.next≤y):
  ∃ S2,bG 1 (.ptr a 0 0 7) lv' S=.ok S2∧CoreAt S2 a { c with h:={ c.h with log:=l' } } lv' wv dv ov rows∧MvB B.next (own a lv wv dv ov) S (own a lv' wv dv ov) S2∧S2.next=S.next:=by
 have hl:=cU c lv wv ov h.peers
 have ga:=h.cell
 have hone:=hlog.cells
 have e:=dE (x:=lv') (j:=7) (m:=1) ga (by rw [hone.1];rfl) (by rw [hone.1];simp [aH,hone.2]) (by omega)
 have hsp:splice (bI c lv wv ov) 7 [lv']=bI { c with h:={ c.h with log:=l' } } lv' wv ov:=rfl
 rw [hone.1,hsp] at e
 have kk:∀ n,n≠37→KeepW n S (⟨S.next,S.heap.put a (.row 0 37 [bI { c with h:={ c.h with log:=l' } } lv' wv ov])⟩:St):=fun n h2=>KeepW.put ga h2 _
 have hl2:=aBz wB h.lets (by rw [←hout];exact h0.lets)
 have hlets:All2 (LetAt (⟨S.next,S.heap.put a (.row 0 37 [bI { c with h:={ c.h with log:=l' } } lv' wv ov])⟩:St) (aO lv')) c.out rows:=by
  refine All2.imp (fun m cs q=>?_) hl2
  obtain ⟨ev,e1,s1,s2⟩:=q
  refine ⟨ev,e1,s1.keep (fun y b hy hg=>?_),fun y hy h2=>?_⟩
  ·show (S.heap.put a _).get y=some b
   rw [Tr.get_put_neB _ _ _ _ trivial (fun e2=>?_)]
   ·exact hg
   ·subst e2
    rcases s1.is with ⟨e3,_⟩ | e3 | ⟨a',ver,off,elems,e3,g,_⟩
    ·rw [e3] at hy;cases hy
    ·rw [e3] at hy;cases hy
    ·rw [e3] at hy;cases hy
     have g':=eY g
     rw [h.cell] at g'
     injection g' with g'
     injection g' with _ g'
     exact absurd g' (by decide)
  ·have h3:=hb y h2
   have h4:=(s2 y hy).2
   omega
 refine ⟨_,e,⟨Tr.get_put_sameB _ _ _ trivial,h.peers,hlog.keepW (Nat.le_refl _) (kk 3 (by decide)),h.way.keepW (Nat.le_refl _) (kk 4 (by decide)) (kk 1 (by decide)),h.out.keepW (Nat.le_refl _) (kk 13 (by decide)),hlets,h.gd⟩,⟨fun y b _ hy hb'=>?_,Nat.le_refl _,fun _=>(But.put (h.lt w) _).wf w,fun y hy=>?_⟩,rfl⟩
 ·show (S.heap.put a _).get y=some b
  rw [Tr.get_put_neB _ _ _ _ trivial (fun e=>hy (.inl e))]
  exact hb'
 ·rcases hy with hy | hy | hy | hy | hy
  ·exact .inl (.inl hy)
  ·exact .inr (hb y hy)
  ·exact .inl (.inr (.inr (.inl hy)))
  ·exact .inl (.inr (.inr (.inr (.inl hy))))
  ·exact .inl (.inr (.inr (.inr (.inr hy))))
end
end Go.Raft
end
section
namespace Go.Proofs.Ytbiidlmhadihlaa
open Go.AM Go.Raft Try
section
variable [Guard]
section
variable {S:St} {a:Nat} {c:Core} {O:Nat→Prop}
theorem j91 (m:Letter) (ev:V) (snap:List UInt8) {b:Nat} {B:St} {lv wv dv ov:V} {rows:List (List V)} (wB:WF B) (hB:CoreAt B a c lv wv dv ov rows) (x:Ext B S) (hb:S.heap.get b=some (.row 0 13 [aG m ev])) (hno:¬ own a lv wv dv ov b) {lv6:V} {l6:List Entry} (h6:Mn S 3 lv6 (l6.map bV)) (hb6:∀ y,aO lv6=some y→B.next≤y):
  Ok (fun k K=>aBl (aC prog bD bE k) k K (.ptr a 0 0 0) (.str snap) (.ptr b 0 0 0) lv6 S) (fun u S'=>u=.tup []∧∃ O',CoreIn S' a { c with h:={ c.h with base:=m.index,baseTerm:=m.at',members:=m.members,snap:=snap,log:=l6 },sure:=m.index,way:=none } O'∧Mv (own a lv wv dv ov) B O' S'):=by
 have w:=x.wf wB
 have xb:Ext S (⟨S.next+33,S.heap⟩:St):=(Ext.refl S).bump 33
 have x0:=x.trans xb
 have w0:=xb.wf w
 have h0:=hB.ext wB x0
 have g0:(⟨S.next+33,S.heap⟩:St).heap.get b=some (.row 0 13 [aG m ev]):=hb
 have n60:∀ y,aO lv6=some y→¬ own a lv wv dv ov y:=fun y hy hO=>by
  have h1:=hb6 y hy
  have h2:=aFr wB hB hO
  omega
 have l0:Mn (⟨S.next+33,S.heap⟩:St) 3 lv6 (l6.map bV):=Mn.fr h6 xb.next fun y b _=>xb.old y b
 obtain ⟨S1,q1,h1,m1,_⟩:=h0.w_base w0 m.index
 have w1:=m1.wf w0
 obtain ⟨g1,no1⟩:=gX w0 g0 hno m1
 obtain ⟨l1,n61⟩:=l0.mv n60 m1
 obtain ⟨S2,q2,h2',m2,_⟩:=h1.w_baseTerm w1 m.at'
 have h2:CoreAt S2 a { c with h:={ c.h with base:=m.index,baseTerm:=m.at' } } lv wv dv ov rows:=h2'
 clear h2'
 have w2:=m2.wf w1
 obtain ⟨g2,no2⟩:=gX w1 g1 no1 m2
 obtain ⟨l2,n62⟩:=l1.mv n61 m2
 obtain ⟨S3,q3,h3',m3,_⟩:=h2.w_mem w2 m.members
 have h3:CoreAt S3 a { c with h:={ c.h with base:=m.index,baseTerm:=m.at',members:=m.members } } lv wv dv ov rows:=h3'
 clear h3'
 have w3:=m3.wf w2
 obtain ⟨g3,no3⟩:=gX w2 g2 no2 m3
 obtain ⟨l3,n63⟩:=l2.mv n62 m3
 obtain ⟨S4,q4,h4',m4,_⟩:=h3.w_snap w3 snap
 have h4:CoreAt S4 a { c with h:={ c.h with base:=m.index,baseTerm:=m.at',members:=m.members,snap:=snap } } lv wv dv ov rows:=h4'
 clear h4'
 have w4:=m4.wf w3
 obtain ⟨g4,no4⟩:=gX w3 g3 no3 m4
 obtain ⟨l4,n64⟩:=l3.mv n63 m4
 obtain ⟨S5,q5,h5',m5,_⟩:=h4.w_logN w4 hB wB rfl l4 hb6
 have h5:CoreAt S5 a { c with h:={ c.h with base:=m.index,baseTerm:=m.at',members:=m.members,snap:=snap,log:=l6 } } lv6 wv dv ov rows:=h5'
 clear h5'
 have w5:=m5.wf w4
 have hbB:b≠a:=fun e=>hno (.inl e)
 have g5:S5.heap.get b=some (.row 0 13 [aG m ev]):=by
  have e:=q5
  rw [dE (x:=lv6) (j:=7) (m:=1) h4.cell (by rw [l4.cells.1];rfl) (by rw [l4.cells.1];simp [aH,l4.cells.2]) (by rw [cU _ _ _ _ h4.peers];omega)] at e
  cases e
  show (S4.heap.put a _).get b=_
  rw [Tr.get_put_neB _ _ _ _ trivial hbB];exact g4
 obtain ⟨S6,q6,h6',m6,_⟩:=h5.w_sure w5 m.index
 have h6:CoreAt S6 a { c with h:={ c.h with base:=m.index,baseTerm:=m.at',members:=m.members,snap:=snap,log:=l6 },sure:=m.index } lv6 wv dv ov rows:=h6'
 clear h6'
 have w6:=m6.wf w5
 obtain ⟨S7,q7,h7',m7,_⟩:=h6.w_way w6 (Ext.refl S6) (wv':=.nilp) (dv':=.nils) (way':=none) ⟨rfl,rfl⟩ ⟨rfl,rfl⟩ (fun y hy=>by rcases hy with hy | hy<;>cases hy)
 have h7:CoreAt S7 a { c with h:={ c.h with base:=m.index,baseTerm:=m.at',members:=m.members,snap:=snap,log:=l6 },sure:=m.index,way:=none } lv6 .nilp .nils ov rows:=h7'
 clear h7'
 have b0:=x0.next
 have b1:=Nat.le_trans b0 m1.next
 have b2:=Nat.le_trans b1 m2.next
 have b3:=Nat.le_trans b2 m3.next
 have b4:=Nat.le_trans b3 m4.next
 have b5:=Nat.le_trans b4 m5.next
 have b6:=Nat.le_trans b5 m6.next
 have mv:Mv (own a lv wv dv ov) B (own a lv6 .nilp .nils ov) S7:=MvB.mv wB (((((((MvB.of (Mv.of x0) (Nat.le_refl _)).trans (MvB.of m1 b0)).trans (MvB.of m2 b1)).trans (MvB.of m3 b2)).trans (MvB.of m4 b3)).trans m5).trans ((MvB.of m6 b5).trans (MvB.of m7 b6)))
 simp only [aBl,dF,jJ,aBo,aQ,dL,iK,aBq,fP,wY,wZ,pR,iJ,aJ,Nat.reduceAdd,aF,eQ,aS,bW hb,oB hb,gW hb,st3,st9,aMs,aS4,q1,gW g1,oB g1,cO,aP,q2,gW g2,q3,q4,q5,bW g5,q6,q7]
 exact Ok.ret ⟨rfl,_,⟨_,_,_,_,_,h7,rfl⟩,mv⟩
theorem g91 (m:Letter) (ev:V) (snap:List UInt8) (w:WF S) (h:CoreIn S a c O) (ok:Hok c.h) (hbi:c.h.base≤m.index) (he:Sl S 3 ev (m.entries.map bV)):Meth 91 [.ptr a 0 0 0,.agg (aG m ev),.str snap] a (c.taken m snap) S O (.tup []):=by
 have ho:=cD m he.one
 have hln:(aG m ev).length=13:=rfl
 have hr:=fH ok
 have hb0:=ok.b0
 have hll:=ok.ll
 obtain ⟨S1,hn1,x1,hg1,hnx1⟩:=nb w 13 (aG m ev)
 have w1:=x1.wf w
 have hno:¬ O S.next:=fun hO=>absurd (core_lt w h _ hO) (Nat.lt_irrefl _)
 have xb:Ext S1 (⟨S1.next+14,S1.heap⟩:St):=(Ext.refl S1).bump 14
 have x1b:=x1.trans xb
 have hT:c.taken m snap={ c with h:={ c.h with base:=m.index,baseTerm:=m.at',members:=m.members,snap:=snap,log:=if m.index≤c.last∧c.term m.index=m.at' then c.h.log.drop (m.index - c.h.base).toNat else [] },sure:=m.index,way:=none }:=rfl
 have hin:=h
 obtain ⟨lv,wv,dv,ov,rows,h,rfl⟩:=h
 refine e91 ?_
 simp only [m91,bL,ho,hln,aP,hn1,aF,dF,aJ,eQ,aS,bW hg1]
 refine (g46 (hin.ext w x1b) ok).call fun S2 x2=>?_
 have x02:=x1b.trans x2
 have w2:=x02.wf w
 have g2:=x2.old _ _ (xb.old _ _ hg1)
 have j1:∀ (S3:St),Ext S2 S3→∀ q:Bool,q=decide (m.index≤c.last∧c.term m.index=m.at')→Ok (fun k K=>wW (aC prog bD bE k) k K (.ptr a 0 0 0) (.str snap) (.ptr S.next 0 0 0) (.bool q) S3) (fun u S'=>u=.tup []∧∃ O',CoreIn S' a (c.taken m snap) O'∧Mv (own a lv wv dv ov) S O' S'):=fun S3 x3 q hq=>by
  have w3:=x3.wf w2
  have x03:=x02.trans x3
  have g3:=x3.old _ _ g2
  have h3:=h.ext w x03
  rw [hT]
  by_cases hc:m.index≤c.last∧c.term m.index=m.at'
  ·rw [hq,decide_eq_true hc,if_pos hc]
   have hw:wr .i64 (m.index - c.h.base)=m.index - c.h.base:=dC (by omega) (by omega)
   have hlast:c.last=c.h.base+c.h.log.length:=rfl
   obtain ⟨u,r1,s1,_⟩:=aFo aMy h3.log.sl (tE .i64 (l:=m.index - c.h.base) (by omega) (by rw [List.length_map];omega)) (by rw [List.length_map];omega) (Nat.le_refl _)
   rw [List.take_length,←List.map_drop] at s1
   have xc:Ext S3 (⟨S3.next+17,S3.heap⟩:St):=(Ext.refl S3).bump 17
   have hfree:(⟨S3.next+17,S3.heap⟩:St).heap.get (S3.next+15)=none:=nR w3 17 (S3.next+15) (by omega)
   have hdl:(c.h.log.drop (m.index - c.h.base).toNat).length≤200:=by rw [List.length_drop];omega
   obtain ⟨lv6,S4,r2,x4,o4,_⟩:=(s1.ext xc).copyAt2 (b:=32) xc (k:=S3.next+15) (by omega) (by show S3.next+15<S3.next+17;omega) hfree (by rw [List.length_map];omega) (by rw [List.length_map];unfold eV;omega)
   have x34:=xc.trans x4
   simp only [wW,bQ,aQ,dL,iJ,fP,dF,aJ,Nat.reduceAdd,aF,oA,eQ,aS,h3.r_log,h3.r_base,bW g3,dK,hw,r1,aDo,r2]
   exact j91 m ev snap w h (x03.trans x34) (x34.old _ _ g3) hno (o4.weaken (Nat.zero_le _)) (fun y hy=>Nat.le_trans x03.next (sX o4 hy).1)
  ·rw [hq,decide_eq_false hc,if_neg hc]
   simp only [wW,aU]
   exact j91 m ev snap w h x03 g3 hno (Own.nil _ _ _) (fun y hy=>by cases hy)
 simp only [bW g2,oB g2,jJ,dF,aJ,eQ,aF,cO,aP,fT]
 refine Ok.pickP (fun e=>?_) (fun e=>j1 S2 (Ext.refl _) false (decide_eq_false (fun q=>e q.1)).symm)
 refine (g62 (hin.ext w x02) ok (n:=m.index) hbi e).call fun S3 x3=>?_
 have g3:=x3.old _ _ g2
 simp only [oB g3,aF,cO,aP,bF,cK]
 refine j1 S3 x3 _ ?_
 by_cases hc:c.term m.index=m.at'
 ·rw [decide_eq_true hc,decide_eq_true (show m.index≤c.last∧c.term m.index=m.at' from ⟨e,hc⟩)]
 ·rw [decide_eq_false hc,decide_eq_false (fun q=>hc q.2)]
end
end
section
variable [Guard]
structure LetIn (S:St) (O:Nat→Prop) (b:Nat) (m:Letter) (ev:V):Prop where
 box:S.heap.get b=some (.row 0 13 [aG m ev])
 no:¬ O b
 ents:Sl S 3 ev (m.entries.map bV)
 off:∀ y,aO ev=some y→¬ O y
theorem LetIn.mv {S S':St} {O O':Nat→Prop} {b:Nat} {m:Letter} {ev:V} (w:WF S) (h:LetIn S O b m ev) (k:Mv O S O' S'):LetIn S' O' b m ev:=by
 obtain ⟨b1,b2⟩:=gX w h.box h.no k
 obtain ⟨s1,s2⟩:=aBx w h.ents h.off k
 exact ⟨b1,b2,s1,s2⟩
theorem LetIn.ext {S S':St} {O:Nat→Prop} {b:Nat} {m:Letter} {ev:V} (h:LetIn S O b m ev) (x:Ext S S'):LetIn S' O b m ev:=⟨x.old _ _ h.box,h.no,h.ents.ext x,h.off⟩
theorem by9:aN6 prog 74=true:=by kernel_rfl
theorem aQi (a b c d:Nat):aD prog .eql 86 (.ptr a b c d) .nilp=.ok (.bool false):=by
 have h:(fun a b c d=>aD prog .eql 86 (.ptr a b c d) .nilp)=fun _ _ _ _=>.ok (.bool false):=by kernel_rfl
 exact congrFun (congrFun (congrFun (congrFun h a) b) c) d
theorem aQj:aD prog .eql 86 .nilp .nilp=.ok (.bool true):=by kernel_rfl
theorem aQk (a b c d:Nat):aN prog 86 (.ptr a b c d) .nilp=true:=by
 have h:(fun a b c d=>aN prog 86 (.ptr a b c d) .nilp)=fun _ _ _ _=>true:=by kernel_rfl
 exact congrFun (congrFun (congrFun (congrFun h a) b) c) d
theorem aQl:aN prog 86 .nilp .nilp=true:=by kernel_rfl
theorem aIo (x y z:Int):bM prog 102 [(0,.int .i64 x),(1,.int .i64 y),(2,.int .i64 z)]=.ok (.agg [.int .i64 x,.int .i64 y,.int .i64 z,.nils]):=by rw [aRt];rfl
section
variable {S:St} {a b:Nat} {c:Core} {lv wv dv ov:V} {rows:List (List V)}
theorem aFy {i:Inst} (h:CoreAt S a c lv wv dv ov rows) (hi:c.way=some i):∃ p,wv=.ptr p 0 0 0∧aM none (.ptr p 0 0 0) S=.ok (.int .i64 i.index)∧aM none (.ptr p 0 0 1) S=.ok (.int .i64 i.at')∧aM none (.ptr p 0 0 2) S=.ok (.int .i64 i.size)∧aM none (.ptr p 0 0 3) S=.ok dv∧Mn S 1 dv (i.data.map tA):=by
 have hw:=h.way
 rw [hi] at hw
 obtain ⟨p,e,g,m⟩:=hw
 refine ⟨p,e,?_,?_,?_,?_,m⟩<;>(rw [aX _ _ _ _ _ (aR g)];rfl)
theorem aSd (m:Letter) (ev:V) {i:Inst} (w:WF S) (h:CoreAt S a c lv wv dv ov rows) (hi:c.way=some i) (hsz:i.data.length≤1000000) (L:LetIn S (own a lv wv dv ov) b m ev) (ok:Hok c.h) (hbi:c.h.base≤m.index) (hl:c.out.length≤999990):
  Ok (fun k K=>aBh (aC prog bD bE k) k K (.ptr a 0 0 0) (.ptr b 0 0 0) wv S) (fun u S'=>u=.tup []∧∃ O',CoreIn S' a (if (i.data.length:Int)<i.size then c.post { Letter.zero with kind:=6,to:=m.from',index:=m.index,off:=i.data.length } else (c.taken m i.data).post { Letter.zero with kind:=4,to:=m.from',yes:=true,index:=m.index }) O'∧Mv (own a lv wv dv ov) S O' S'):=by
 obtain ⟨p,rfl,v0,v1,v2,v3,md⟩:=aFy h hi
 have hin:CoreIn S a c (own a lv (.ptr p 0 0 0) dv ov):=⟨_,_,_,_,_,h,rfl⟩
 have hcv:=fun (fr:Option Nat) (n:Nat)=>aAd (P:=prog) (S:=(⟨n,S.heap⟩:St)) by9 aMz (v:=dv) (d:=i.data) (Sl.keep md.sl fun y c _ hc=>hc) fr
 simp only [aBh,aQ,aH4,aH3,eH,dF,aJ,Nat.reduceAdd,aF,aS0,eQ,xF,aS,v2,v3,aO5,md.sl.lenI,bK,dG L.box,bW L.box,rP L.box,rI,aN4,hcv]
 refine Ok.pickP (fun e=>?_) (fun e=>?_)
 ·rw [if_pos e]
  have xb:Ext S (⟨S.next+22,S.heap⟩:St):=(Ext.refl S).bump 22
  exact Meth.call (g86 _ .nils (xb.wf w) (hin.ext w xb) (Apart.nil _ _ rfl) (gL hl)) (xb.wf w) fun S1 O1 w1 in1 m1=>Ok.ret ⟨rfl,O1,in1,(Mv.of xb).trans w m1⟩
 ·rw [if_neg e]
  have xb:Ext S (⟨S.next+18,S.heap⟩:St):=(Ext.refl S).bump 18
  have Lb:=L.ext xb
  refine Meth.call (g91 m ev i.data (xb.wf w) (hin.ext w xb) ok hbi Lb.ents) (xb.wf w) fun S1 O1 w1 in1 m1=>?_
  have L1:=Lb.mv (xb.wf w) m1
  simp only [dG L1.box,bW L1.box,aF,aHc]
  exact Meth.call (g86 _ .nils w1 in1 (Apart.nil _ _ rfl) (gL hl)) w1 fun S2 O2 w2 in2 m2=>Ok.ret ⟨rfl,O2,in2,((Mv.of xb).trans w m1).trans w m2⟩
theorem aVb (m : Letter) (ev : V) (w : WF S) (h : CoreAt S a c lv wv dv ov rows) (hw1 : ∀ i, c.way = some i → i.data.length ≤ 100000) (hd1 : 1 ≤ m.data.length) (hd2 : m.data.length ≤ 600) (L : LetIn S (own a lv wv dv ov) b m ev) (ok : Hok c.h) (hbi : c.h.base ≤ m.index) (hl : c.out.length ≤ 999990) (q : Bool) (hq : q = match c.way with
      | none => true
      | some i => decide (i.index ≠ m.index ∨ i.at' ≠ m.at' ∨ i.size ≠ m.size)) :
    Ok (fun k K => lE (aC prog bD bE k) k K (.ptr a 0 0 0) (.ptr b 0 0 0) wv (.bool q) S) (fun u S' => u = .tup [] ∧ ∃ O', CoreIn S' a (match c.way with
      | none => c.post { Letter.zero with kind := 6, to := m.from', index := m.index }
      | some w => if w.index ≠ m.index ∨ w.at' ≠ m.at' ∨ w.size ≠ m.size then c.post { Letter.zero with kind := 6, to := m.from', index := m.index } else
        let w1 := if m.off = w.data.length then { w with data := w.data ++ m.data } else w
        let c3 := { c with way := some w1 }
        if (w1.data.length : Int) < w1.size then c3.post { Letter.zero with kind := 6, to := m.from', index := m.index, off := w1.data.length } else
          (c3.taken m w1.data).post { Letter.zero with kind := 4, to := m.from', yes := true, index := m.index }) O' ∧ Mv (own a lv wv dv ov) S O' S') := by
  have hin : CoreIn S a c (own a lv wv dv ov) := ⟨_, _, _, _, _, h, rfl⟩
  have no : q = true → Ok (fun k K => lE (aC prog bD bE k) k K (.ptr a 0 0 0) (.ptr b 0 0 0) wv (.bool q) S) (fun u S' => u = .tup [] ∧ ∃ O', CoreIn S' a (c.post { Letter.zero with kind := 6, to := m.from', index := m.index }) O' ∧ Mv (own a lv wv dv ov) S O' S') := fun e => by
    rw [e]
    simp only [lE, bQ, eH, dF, aJ, Nat.reduceAdd, aF, eQ, dG L.box, bW L.box, rI, aBy]
    exact Meth.call (g86 _ .nils w hin (Apart.nil _ _ rfl) (gL hl)) w fun S1 O1 w1 in1 m1 => Ok.ret ⟨rfl, O1, in1, m1⟩
  cases hi : c.way with
  | none => rw [hi] at hq; exact no hq
  | some i =>
    rw [hi] at hq
    simp only at hq ⊢
    by_cases hc : i.index ≠ m.index ∨ i.at' ≠ m.at' ∨ i.size ≠ m.size
    · rw [if_pos hc]; exact no (by rw [hq, decide_eq_true hc])
    · rw [if_neg hc, hq, decide_eq_false hc]
      have hsz := hw1 i hi
      have hw := aFy h hi
      obtain ⟨p, rfl, v0, v1, v2, v3, md⟩ := hw
      simp only [lE, aU, aQ, pT, uX, aH4, aJ, Nat.reduceAdd, aF, eQ, aS0, ld9, aS, rO L.box, xQ L.box, v3, aO5, md.sl.lenI, bF, aP, cK]
      refine Ok.pickP (fun e => ?_) (fun e => ?_)
      · rw [if_pos e]
        have xb : Ext S (⟨S.next + 19, S.heap⟩ : St) := (Ext.refl S).bump 19
        have wb := xb.wf w
        have hfree : (⟨S.next + 19, S.heap⟩ : St).heap.get (S.next + 15) = none := nR w 19 (S.next + 15) (by omega)
        have mdb : Mn (⟨S.next + 19, S.heap⟩ : St) 1 dv (i.data.map tA) := md.keepW xb.next (KeepW.ext xb)
        obtain ⟨dv', S1, r1, w1, n1, o1, b1, k1⟩ := Mn.pushAtL (b := 1) mdb wb (u := .str m.data) (cs := m.data.map tA) rfl (fun c hc => by obtain ⟨x, _, rfl⟩ := List.mem_map.1 hc; exact ⟨rfl, rfl⟩) (fun q => by
          have h9 := congrArg List.length q
          rw [List.length_map] at h9
          rw [h9] at hd1
          exact absurd hd1 (by decide)) (k := S.next + 15) (by show S.next + 15 < S.next + 19; omega) hfree (by rw [List.length_map, List.length_map]; omega) (by rw [List.length_map, List.length_map]; unfold eV; omega)
        rw [← List.map_append] at o1
        obtain ⟨p', S2, e2, r2, h2, m2, n2⟩ := h.w_data w hi w1 (by rw [n1]; exact xb.next) (fun y bb hy hb => by
          rw [k1 y (fun e => by subst e; have := w _ _ hy; omega) hb]; exact hy) o1 (fun y hy => by
          rcases b1 with b1 | b1
          · rw [b1] at hy; cases hy; exact .inr (Nat.le_add_right _ _)
          · rw [b1] at hy; exact .inl hy)
        cases e2
        have w2 := m2.wf w
        simp only [Nat.add_assoc, Nat.reduceAdd, aRs, r1, aF, aUo, r2]
        exact (aSd m ev (i := { i with data := i.data ++ m.data }) w2 h2 rfl (by show (i.data ++ m.data).length ≤ 1000000; rw [List.length_append]; omega) (L.mv w m2) ok hbi hl).mono fun u S3 ⟨e3, O3, i3, m3⟩ => ⟨e3, O3, i3, m2.trans w m3⟩
      · rw [if_neg e]
        have xb : Ext S (⟨S.next + 8, S.heap⟩ : St) := (Ext.refl S).bump 8
        have hcc : ({ c with way := some i } : Core) = c := by rw [← hi]
        rw [hcc]
        exact (aSd m ev (xb.wf w) (h.ext w xb) hi (Nat.le_trans hsz (by decide)) (L.ext xb) ok hbi hl).mono fun u S3 ⟨e3, O3, i3, m3⟩ => ⟨e3, O3, i3, (Mv.of xb).trans w m3⟩
end
end
section
variable [Guard]
def aFz (c : Core) (m : Letter) : Core := match c.way with
      | none => c.post { Letter.zero with kind := 6, to := m.from', index := m.index }
      | some w => if w.index ≠ m.index ∨ w.at' ≠ m.at' ∨ w.size ≠ m.size then c.post { Letter.zero with kind := 6, to := m.from', index := m.index } else
        let w1 := if m.off = w.data.length then { w with data := w.data ++ m.data } else w
        let c3 := { c with way := some w1 }
        if (w1.data.length : Int) < w1.size then c3.post { Letter.zero with kind := 6, to := m.from', index := m.index, off := w1.data.length } else
          (c3.taken m w1.data).post { Letter.zero with kind := 4, to := m.from', yes := true, index := m.index }
section
variable {S:St} {a b:Nat} {c:Core} {O:Nat→Prop}
theorem aSe (m:Letter) (ev:V) (w:WF S) (h:CoreIn S a c O) (hw1:∀ i,c.way=some i→i.data.length≤100000) (hd1:1≤m.data.length) (hd2:m.data.length≤600) (L:LetIn S O b m ev) (ok:Hok c.h) (hbi:c.h.base≤m.index) (hl:c.out.length≤999990):
  Ok (fun k K=>wU (aC prog bD bE k) k K (.ptr a 0 0 0) (.ptr b 0 0 0) S) (fun u S'=>u=.tup []∧∃ O',CoreIn S' a (aFz c m) O'∧Mv O S O' S'):=by
 obtain ⟨lv,wv,dv,ov,rows,h,rfl⟩:=h
 have xb:Ext S (⟨S.next+29,S.heap⟩:St):=(Ext.refl S).bump 29
 have wb:=xb.wf w
 have hb:=h.ext w xb
 have Lb:=L.ext xb
 have go:∀ q:Bool,(q=match c.way with
   | none=>true
   | some i=>decide (i.index≠m.index∨i.at'≠m.at'∨i.size≠m.size))→Ok (fun k K=>lE (aC prog bD bE k) k K (.ptr a 0 0 0) (.ptr b 0 0 0) wv (.bool q) (⟨S.next+29,S.heap⟩:St)) (fun u S'=>u=.tup []∧∃ O',CoreIn S' a (aFz c m) O'∧Mv (own a lv wv dv ov) S O' S'):=fun q hq=>
  (aVb m ev wb hb hw1 hd1 hd2 Lb ok hbi hl q hq).mono fun u S1 ⟨e,O1,i1,m1⟩=>⟨e,O1,i1,(Mv.of xb).trans w m1⟩
 cases hi:c.way with
 | none=>
  rw [hi] at go
  have hw:=h.way
  rw [hi] at hw
  obtain ⟨rfl,rfl⟩:=hw
  simp only [wU,aQ,aBq,aJ,Nat.reduceAdd,aF,aS1,h.r_way,aQl,aP,aQj,bQ]
  exact go true rfl
 | some i=>
  rw [hi] at go
  obtain ⟨p,rfl,v0,v1,v2,v3,md⟩:=aFy h hi
  simp only [wU,aQ,aBq,aMp,aMq,aH3,dF,jJ,xB,aJ,Nat.reduceAdd,aF,aS1,eQ,aS,h.r_way,aQk,aP,aQi,aU,v0,v1,v2,bW L.box,oB L.box,nC L.box,bF,eX]
  refine Ok.pickN (fun e=>go true (decide_eq_true (Or.inl e)).symm) (fun e=>?_)
  refine Ok.pickN (fun e2=>go true (decide_eq_true (Or.inr (Or.inl e2))).symm) (fun e2=>?_)
  refine go _ ?_
  show _=decide (i.index≠m.index∨i.at'≠m.at'∨i.size≠m.size)
  by_cases e3:i.size=m.size
  ·rw [decide_eq_true e3,decide_eq_false (fun q=>by
    rcases q with q | q | q
    ·exact q e
    ·exact q e2
    ·exact q e3)];rfl
  ·rw [decide_eq_false e3];exact (decide_eq_true (Or.inr (Or.inr e3))).symm
theorem g58 (m:Letter) (ev:V) (w:WF S) (h:CoreIn S a c O) (I:Inv c) (ok:Lok m) (hk:m.kind=5) (he:Apart S O m ev) (hl:c.out.length≤999990):Meth 58 [.ptr a 0 0 0,.agg (aG m ev)] a (c.installed m) S O (.tup []):=by
 have ho:=cD m he.1.one
 have hln:(aG m ev).length=13:=rfl
 have k5:=ok.k5 hk
 obtain ⟨S1,hn1,x1,hg1,hnx1⟩:=nb w 13 (aG m ev)
 have w1:=x1.wf w
 have in1:=h.ext w x1
 have hin1:=in1
 have hno:¬ O S.next:=fun hO=>absurd (core_lt w h _ hO) (Nat.lt_irrefl _)
 have L1:LetIn S1 O S.next m ev:=⟨hg1,hno,he.1.ext x1,he.2⟩
 obtain ⟨lv,wv,dv,ov,rows,h1,hO⟩:=in1
 refine e58 ?_
 simp only [m58,bL,ho,hln,aP,hn1,aF,aQ,fW,eH,aJ,Nat.reduceAdd,eQ,h1.r_role,dG hg1,bF,cK]
 have hI:c.installed m=if c.role=3 then c else
  let c1:=c.hear m.from'
  if m.index≤c1.sure then c1.post { Letter.zero with kind:=4,to:=m.from',yes:=true,index:=m.index } else
   aFz (if m.off=0 then { c1 with way:=some ⟨m.index,m.at',m.size,[]⟩ } else c1) m:=rfl
 rw [hI]
 refine Ok.pickP (fun e=>Ok.ret ⟨rfl,O,by rw [if_pos e];exact hin1,Mv.of x1⟩) (fun e=>?_)
 rw [if_neg e]
 refine Meth.call (g89 m.from' w1 hin1) w1 fun S3 O3 w3 in3 m3=>?_
 have L3:=L1.mv w1 m3
 have mv3:=(Mv.of (O:=O) x1).trans w m3
 have I3:=(I.hear ok.f0 ok.f1).1
 have ew3:(c.hear m.from').way=c.way:=rfl
 generalize hc3:c.hear m.from'=c3 at in3 I3 ew3
 have hl3:c3.out.length≤999990:=by rw [←hc3];exact hl
 have hin3:=in3
 obtain ⟨lv,wv,dv,ov,rows,h3,hO3⟩:=in3
 have xb:Ext S3 (⟨S3.next+7,S3.heap⟩:St):=(Ext.refl S3).bump 7
 have wb:=xb.wf w3
 have Lb:=L3.ext xb
 simp only [eH,dF,jJ,pT,xB,aQ,iK,aJ,Nat.reduceAdd,aF,eQ,aS,bW L3.box,dG L3.box,rO L3.box,oB L3.box,nC L3.box,h3.r_sure,fT,bF,aP,cK,rI,aHc,aIo]
 refine Ok.pickP (fun e2=>?_) (fun e2=>?_)
 ·simp only [e2,if_true]
  exact Meth.call (g86 _ .nils wb (hin3.ext w3 xb) (Apart.nil _ _ rfl) (gL hl3)) wb fun S4 O4 w4 in4 m4=>Ok.ret ⟨rfl,O4,in4,(mv3.trans w (Mv.of xb)).trans w m4⟩
 ·have hbi:c3.h.base≤m.index:=Int.le_of_lt (Int.lt_of_le_of_lt I3.s0 (Int.not_le.1 e2))
  simp only [e2,if_false]
  refine Ok.pickP (fun e3=>?_) (fun e3=>?_)
  ·have ho4:aH (V.agg [.int .i64 m.index,.int .i64 m.at',.int .i64 m.size,.nils]).cells=true:=rfl
   obtain ⟨S5,hn5,x5,hg5,hnx5⟩:=nb wb 4 [.int .i64 m.index,.int .i64 m.at',.int .i64 m.size,.nils]
   have x35:=xb.trans x5
   obtain ⟨S6,r6,h6,m6,n6⟩:=h3.w_way w3 x35 (wv':=.ptr (S3.next+7) 0 0 0) (dv':=.nils) (way':=some ⟨m.index,m.at',m.size,[]⟩) ⟨S3.next+7,rfl,hg5,Own.nil _ _ _⟩ ⟨rfl,rfl⟩ (fun y hy=>by
    rcases hy with hy | hy
    ·cases hy;exact Nat.le_add_right _ _
    ·cases hy)
   have w6:=m6.wf w3
   have hn5':aY none (⟨S3.next+7,S3.heap⟩:St) (.row 0 (V.agg [.int .i64 m.index,.int .i64 m.at',.int .i64 m.size,.nils]).cells.length [(V.agg [.int .i64 m.index,.int .i64 m.at',.int .i64 m.size,.nils]).cells])=.ok (S3.next+7,S5):=hn5
   simp only [ho4,aP,hn5',aF,aQ,aBq,aJ,Nat.reduceAdd,aS4,r6,e3,if_true]
   rw [←hO3] at m6
   exact (aSe m ev w6 ⟨_,_,_,_,_,h6,rfl⟩ (fun i hi=>by cases hi;exact Nat.zero_le _) k5.2.2.2.2.2.2.2.2.1 k5.2.2.2.2.2.2.2.2.2.1 (L3.mv w3 m6) I3.h hbi hl3).mono fun u S7 ⟨e7,O7,i7,m7⟩=>⟨e7,O7,i7,(mv3.trans w m6).trans w m7⟩
  ·simp only [e3,if_false]
   exact (aSe m ev wb (hin3.ext w3 xb) (fun i hi=>by
    have h9:=I3.w i hi
    exact Int.ofNat_le.1 (Int.le_trans h9.2.2 (Int.le_trans h9.2.1 (by decide)))) k5.2.2.2.2.2.2.2.2.1 k5.2.2.2.2.2.2.2.2.2.1 Lb I3.h hbi hl3).mono fun u S7 ⟨e7,O7,i7,m7⟩=>⟨e7,O7,i7,(mv3.trans w (Mv.of xb)).trans w m7⟩
end
end
section
variable [Guard]
section
variable {S:St} {a b:Nat} {c:Core} {O:Nat→Prop}
theorem Inv.newTerm {c:Core} (h:Raft.Inv c) {t:Int} (h1:c.h.term<t) (h2:t≤1099511627776):Raft.Inv { c with h:={ c.h with term:=t,vote:=-1 },role:=1,leads:=-1 }:=by
 have k:=h.h
 exact ⟨h.i0,h.i1,⟨Int.le_trans k.t0 (Int.le_of_lt h1),h2,Int.le_refl _,by show (-1:Int)<7;decide,k.m0,k.m1,k.b0,k.b1,k.bt0,Int.le_trans k.bt1 (Int.le_of_lt h1),k.btz,k.ll,k.li,lH (Int.le_of_lt h1) k.fl,k.sz,k.sl⟩,.inl rfl,Int.le_refl _,by show (-1:Int)≤6;decide,h.s0,h.s1,h.d0,h.d1,h.f0,h.f1,h.v0,h.v1,h.pl,fun e=>absurd e (by show ¬ (1:Int)=3;decide),fun e=>absurd rfl e,h.w⟩
def lS (c : Core) (m : Letter) : Core := if m.term < c.h.term then c.late m else
      if m.kind = 1 then c.asked m else if m.kind = 2 then c.voted m else if m.kind = 3 then c.appended m else if m.kind = 4 then c.acked m else if m.kind = 5 then c.installed m else if m.kind = 6 then c.more m else c
theorem j19 (m:Letter) (ev:V) (w:WF S) (h:CoreIn S a c O) (I:Inv c) (ok:Lok m) (L:LetIn S O b m ev) (hl:c.out.length≤999990):
  Ok (fun k K=>aBd (aC prog bD bE k) k K (.ptr a 0 0 0) (.ptr b 0 0 0) S) (fun u S'=>u=.tup []∧∃ O',CoreIn S' a (lS c m) O'∧Mv O S O' S'):=by
 have xb:Ext S (⟨S.next+8,S.heap⟩:St):=(Ext.refl S).bump 8
 have wb:=xb.wf w
 have inb:=h.ext w xb
 have Lb:=L.ext xb
 obtain ⟨lv,wv,dv,ov,rows,hc,hO⟩:=h
 have ap:Apart (⟨S.next+8,S.heap⟩:St) O m ev:=⟨Lb.ents,Lb.off⟩
 have fin:∀ {f:FuncId} {c':Core},Meth f [.ptr a 0 0 0,.agg (aG m ev)] a c' (⟨S.next+8,S.heap⟩:St) O (.tup [])→lS c m=c'→Ok (fun k K=>aC prog bD bE k f [.ptr a 0 0 0,.agg (aG m ev)] (⟨S.next+8,S.heap⟩:St) fun t S'=>K (.tup []) S') (fun u S'=>u=.tup []∧∃ O',CoreIn S' a (lS c m) O'∧Mv O S O' S'):=fun hm e=>
  Meth.call hm wb fun S1 O1 w1 in1 m1=>Ok.ret ⟨rfl,O1,by rw [e];exact in1,(Mv.of xb).trans w m1⟩
 simp only [aBd,xA,pS,aQ,dL,lF,aJ,Nat.reduceAdd,aF,eQ,xF,aS,xP L.box,xO L.box,rP L.box,hc.r_term,bK,bF,aP,cK]
 refine Ok.pickP (fun e=>fin (g53 m ev wb inb I.h Lb.ents hl) (by unfold lS;rw [if_pos e])) (fun e=>?_)
 refine Ok.pickP (fun e1=>fin (g54 m ev wb inb I.h Lb.ents hl) (by unfold lS;rw [if_neg e,if_pos e1])) (fun e1=>?_)
 refine Ok.pickP (fun e2=>fin (g55 m ev wb inb I ok Lb.ents hl) (by unfold lS;rw [if_neg e,if_neg e1,if_pos e2])) (fun e2=>?_)
 refine Ok.pickP (fun e3=>fin (g56 m ev wb inb I ok e3 ap hl) (by unfold lS;rw [if_neg e,if_neg e1,if_neg e2,if_pos e3])) (fun e3=>?_)
 refine Ok.pickP (fun e4=>fin (g57 m ev wb inb I ok Lb.ents hl) (by unfold lS;rw [if_neg e,if_neg e1,if_neg e2,if_neg e3,if_pos e4])) (fun e4=>?_)
 refine Ok.pickP (fun e5=>fin (g58 m ev wb inb I ok e5 ap hl) (by unfold lS;rw [if_neg e,if_neg e1,if_neg e2,if_neg e3,if_neg e4,if_pos e5])) (fun e5=>?_)
 refine Ok.pickP (fun e6=>fin (g59 m ev wb inb I ok e6 Lb.ents hl) (by unfold lS;rw [if_neg e,if_neg e1,if_neg e2,if_neg e3,if_neg e4,if_neg e5,if_pos e6])) (fun e6=>?_)
 exact Ok.ret ⟨rfl,O,by unfold lS;rw [if_neg e,if_neg e1,if_neg e2,if_neg e3,if_neg e4,if_neg e5,if_neg e6];exact inb,Mv.of xb⟩
theorem g19 (m:Letter) (ev:V) (w:WF S) (h:CoreIn S a c O) (I:Inv c) (he:Apart S O m ev) (hl:c.out.length≤999990):Meth 19 [.ptr a 0 0 0,.agg (aG m ev)] a (c.take m) S O (.tup []):=by
 have ho:=cD m he.1.one
 have hln:(aG m ev).length=13:=rfl
 obtain ⟨S1,hn1,x1,hg1,hnx1⟩:=nb w 13 (aG m ev)
 have w1:=x1.wf w
 have in1:=h.ext w x1
 have hno:¬ O S.next:=fun hO=>absurd (core_lt w h _ hO) (Nat.lt_irrefl _)
 have L1:LetIn S1 O S.next m ev:=⟨hg1,hno,he.1.ext x1,he.2⟩
 have hT:c.take m=if c.passed m=true then c else lS (if c.h.term<m.term then { c with h:={ c.h with term:=m.term,vote:=-1 },role:=1,leads:=-1 } else c) m:=rfl
 rw [hT]
 refine e19 ?_
 simp only [m19,bL,ho,hln,aP,hn1,aF,xF,rP hg1]
 refine (g52 m ev w1 in1 I L1.ents).call fun S2 x2=>?_
 have w2:=x2.wf w1
 have in2:=in1.ext w1 x2
 have x02:=x1.trans x2
 refine Ok.pick (fun e=>Ok.ret ⟨rfl,O,by rw [if_pos e];exact in2,Mv.of x02⟩) (fun e=>?_)
 have hp:¬ c.passed m=true:=fun q=>by rw [q] at e;cases e
 rw [if_neg hp]
 have hr:dS m=true:=by
  cases hr:dS m with
  | true=>rfl
  | false=>exact absurd (by unfold Core.passed;rw [if_pos (.inl hr)]) hp
 have ok:=aAa hr
 have xb:Ext S2 (⟨S2.next+8,S2.heap⟩:St):=(Ext.refl S2).bump 8
 have wb:=xb.wf w2
 have L2:=L1.ext x2
 have hin2:=in2
 obtain ⟨lv,wv,dv,ov,rows,h2,hO⟩:=in2
 simp only [xA,aQ,dL,fW,pU,lF,wX,aJ,Nat.reduceAdd,aF,eQ,aS,xP L2.box,h2.r_term,dY]
 refine Ok.pickP (fun e2=>?_) (fun e2=>?_)
 ·rw [if_pos e2]
  obtain ⟨S3,q3,h3,m3,_⟩:=(h2.ext w2 xb).w_term wb m.term
  have w3:=m3.wf wb
  obtain ⟨S4,q4,h4',m4,_⟩:=h3.w_vote w3 (-1)
  have h4:CoreAt S4 a { c with h:={ c.h with term:=m.term,vote:=-1 } } lv wv dv ov rows:=h4'
  clear h4'
  have w4:=m4.wf w3
  obtain ⟨S5,q5,h5',m5,_⟩:=h4.w_role w4 1
  have h5:CoreAt S5 a { c with h:={ c.h with term:=m.term,vote:=-1 },role:=1 } lv wv dv ov rows:=h5'
  clear h5'
  have w5:=m5.wf w4
  obtain ⟨S6,q6,h6',m6,_⟩:=h5.w_leads w5 (-1)
  have h6:CoreAt S6 a { c with h:={ c.h with term:=m.term,vote:=-1 },role:=1,leads:=-1 } lv wv dv ov rows:=h6'
  clear h6'
  have w6:=m6.wf w5
  rw [←hO] at m3 m4 m5 m6
  have mv6:=((((Mv.of (O:=O) (x02.trans xb)).trans w m3).trans w m4).trans w m5).trans w m6
  have L6:=((((L2.ext xb).mv wb m3).mv w3 m4).mv w4 m5).mv w5 m6
  simp only [st3,q3,q4,q5,q6,aF]
  exact (j19 m ev w6 ⟨_,_,_,_,_,h6,hO⟩ (Inv.newTerm I e2 ok.tm1) ok L6 hl).mono fun u S7 ⟨e7,O7,i7,m7⟩=>⟨e7,O7,i7,mv6.trans w m7⟩
 ·rw [if_neg e2]
  exact (j19 m ev wb (hin2.ext w2 xb) I ok (L2.ext xb) hl).mono fun u S7 ⟨e7,O7,i7,m7⟩=>⟨e7,O7,i7,(Mv.of (x02.trans xb)).trans w m7⟩
end
end
section
variable [Guard]
theorem sC {α β:Type} (f:α→β):∀ (l:List α) (acc:List β),l.foldl (fun a x=>a++[f x]) acc=acc++l.map f
 | [],acc=>by simp
 | x::l,acc=>by simp [sC f l]
theorem aG0 {i n:Nat} (h:i<n) (hn:n≤1000000):wr .i64 ((i:Int)+1)=((i+1:Nat):Int):=by rw [dC (by omega) (by omega)];omega
section
variable {S:St} {a b:Nat} {c:Core} {O:Nat→Prop}
end
end
section
variable [Guard]
theorem Ext.put {S S':St} (h:Ext S S') {a:Nat} (ha:S.next≤a) (hb:a<S'.next) (w:WF S) (b:Blk):Ext S ⟨S'.next,S'.heap.put a b⟩:=h.set ha hb w b
abbrev zH:List V:=[.int .i64 0,.int .i64 0,.int .i64 0,.int .i64 0,.int .i64 0,.str [],.nils]
theorem g35 (h:Hard) (lv:V) (S:St) (w:WF S) (hs:Sl S 3 lv (h.log.map bV)) (hl:h.log.length≤1000000):Does prog bD bE 35 [.agg (bB h lv)] S (fun u S'=>Ext S S'∧∃ lv',u=.agg (bB h lv')∧Own S S' 3 lv' (h.log.map bV)):=by
 have ho:=eP h hs.one
 have hln:(bB h lv).length=7:=rfl
 obtain ⟨S1,hn1,x1,hg1,hnx1⟩:=nb w 7 (bB h lv)
 have w1:=x1.wf w
 obtain ⟨S2,hn2,x2,hg2,hnx2⟩:=nb w1 7 zH
 have w2:=x2.wf w1
 have x02:=x1.trans x2
 have g2:=x2.old _ _ hg1
 have v6:aM none (.ptr S.next 0 0 6) S2=.ok lv:=by rw [aX _ _ _ _ _ (aR g2)];rfl
 obtain ⟨lv',S3,r3,x3,o3⟩:=(hs.ext x02).copy (b:=32) w2 (by rw [List.length_map];omega) (by rw [List.length_map];unfold eV;omega)
 have x03:=x02.trans x3
 have w3:=x3.wf w2
 have g3:=x3.old _ _ g2
 have ho3:=o3.sl
 have e4:=dE (S:=S3) (x:=lv') (j:=6) (m:=1) g3 (by rw [iR ho3];rfl) (by rw [iR ho3];simp [aH,ho3.one]) (by rw [hln];omega)
 have c4:splice (bB h lv) 6 lv'.cells=bB h lv':=by rw [iR ho3];rfl
 rw [c4] at e4
 have hlt:S.next<S3.next:=w3 _ _ g3
 have x4:Ext S (⟨S3.next,S3.heap.put S.next (.row 0 7 [bB h lv'])⟩:St):=x03.set (Nat.le_refl _) hlt w _
 have g4:(⟨S3.next,S3.heap.put S.next (.row 0 7 [bB h lv'])⟩:St).heap.get S.next=some (.row 0 7 [bB h lv']):=Tr.get_put_sameB _ _ _ trivial
 have g4b:(⟨S3.next,S3.heap.put S.next (.row 0 7 [bB h lv'])⟩:St).heap.get S1.next=some (.row 0 7 [zH]):=by
  show (S3.heap.put _ _).get _=_
  rw [Tr.get_put_neB _ _ _ _ trivial (by omega)]
  exact x3.old _ _ hg2
 have o4:Own S (⟨S3.next,S3.heap.put S.next (.row 0 7 [bB h lv'])⟩:St) 3 lv' (h.log.map bV):=
  (o3.weaken x02.next).but (fun y c hy hc=>by show (S3.heap.put _ _).get y=_;rw [Tr.get_put_neB _ _ _ _ trivial hy];exact hc) (Nat.le_refl _) g3 (by decide)
 generalize (⟨S3.next,S3.heap.put S.next (.row 0 7 [bB h lv'])⟩:St)=S4 at e4 x4 g4 g4b o4
 have va:aM (some 7) (.ptr S.next 0 0 0) S4=.ok (.agg (bB h lv')):=by rw [aX _ _ _ _ _ (aR g4)];exact dV _ _ rfl
 obtain ⟨e5,e6⟩:=xG g4b rfl (show (bB h lv').length=7 from rfl) (eP h ho3.one)
 have hlt5:S1.next<S4.next:=x4.wf w _ _ g4b
 have x5:Ext S (⟨S4.next,S4.heap.put S1.next (.row 0 7 [bB h lv'])⟩:St):=x4.set x1.next hlt5 w _
 have o5:Own S (⟨S4.next,S4.heap.put S1.next (.row 0 7 [bB h lv'])⟩:St) 3 lv' (h.log.map bV):=
  o4.but (fun y c hy hc=>by show (S4.heap.put _ _).get y=_;rw [Tr.get_put_neB _ _ _ _ trivial hy];exact hc) (Nat.le_refl _) g4b (by decide)
 refine e35 ?_
 simp only [m35,bL,ho,hln,aP,hn1,hn2,aF,iJ,aJ,Nat.reduceAdd,oA,yQ,v6,aDo,r3,aMs,aKl,e4,va,e5,e6]
 exact Ok.ret ⟨x5,lv',rfl,o5⟩
section
variable {S:St} {a b:Nat} {c:Core} {O:Nat→Prop}
theorem g14 (w:WF S) (h:CoreIn S a c O) (ok:Hok c.h):Does prog bD bE 14 [.ptr a 0 0 0] S (fun u S'=>Ext S S'∧∃ lv',u=.agg (bB c.h lv')∧Own S S' 3 lv' (c.h.log.map bV)):=by
 obtain ⟨S1,hn1,x1,hg1,hnx1⟩:=nb w 7 zH
 have w1:=x1.wf w
 have hll:=ok.ll
 obtain ⟨lv,wv,dv,ov,rows,h1,hO⟩:=h.ext w x1
 refine e14 ?_
 simp only [m14,hn1,aF,aQ,dL,aJ,Nat.reduceAdd,yQ,h1.r_hard]
 refine Does.call (g35 c.h lv S1 w1 h1.log.sl (by omega)) fun u S2 ⟨x2,lv',e,o2⟩=>?_
 subst e
 have x02:=x1.trans x2
 have g2:=x2.old _ _ hg1
 have ho3:=o2.sl
 obtain ⟨e5,e6⟩:=xG g2 rfl (show (bB c.h lv').length=7 from rfl) (eP c.h ho3.one)
 have hlt:S.next<S2.next:=x2.wf w1 _ _ g2
 have x3:Ext S (⟨S2.next,S2.heap.put S.next (.row 0 7 [bB c.h lv'])⟩:St):=x02.set (Nat.le_refl _) hlt w _
 have o3:Own S (⟨S2.next,S2.heap.put S.next (.row 0 7 [bB c.h lv'])⟩:St) 3 lv' (c.h.log.map bV):=
  (o2.weaken x1.next).but (fun y c hy hc=>by show (S2.heap.put _ _).get y=_;rw [Tr.get_put_neB _ _ _ _ trivial hy];exact hc) (Nat.le_refl _) g2 (by decide)
 simp only [aKl,e5,aF,e6]
 exact Ok.ret ⟨x3,lv',rfl,o3⟩
def uC (v:View):List V:=[.int .i64 v.role,.int .i64 v.leads,.int .i64 v.commit,.int .i64 v.last,.int .i64 v.left,.int .i64 v.members]
theorem aG1 (x1 x2 x3 x4 x5 x6:Int):bM prog 50 [(0,.int .i64 x1),(1,.int .i64 x2),(2,.int .i64 x3),(3,.int .i64 x4),(4,.int .i64 x5),(5,.int .i64 x6)]=.ok (.agg (uC ⟨x1,x2,x3,x4,x5,x6⟩)):=by rw [aUe];rfl
theorem g17 (w:WF S) (h:CoreIn S a c O) (ok:Hok c.h):xM 17 [.ptr a 0 0 0] S (.agg (uC c.view)):=by
 obtain ⟨S1,hn1,x1,hg1,hnx1⟩:=nb w 6 [.int .i64 0,.int .i64 0,.int .i64 0,.int .i64 0,.int .i64 0,.int .i64 0]
 have w1:=x1.wf w
 have xb:Ext S1 (⟨S1.next+22,S1.heap⟩:St):=(Ext.refl S1).bump 22
 have in1:=h.ext w (x1.trans xb)
 have hin1:=in1
 obtain ⟨lv,wv,dv,ov,rows,h1,hO⟩:=h.ext w x1
 refine e17 ?_
 simp only [m17,hn1,aF,aQ,fW,pU,iK,lG,aJ,Nat.reduceAdd,eQ,aS,h1.r_role,h1.r_leads,h1.r_sure,h1.r_left]
 refine (g46 hin1 ok).call fun S2 x2=>?_
 have x12:=xb.trans x2
 have w2:=x12.wf w1
 have h2:=h1.ext w1 x12
 simp only [h2.r_role,h2.r_leads,h2.r_sure,h2.r_left,aF,cO,aP]
 refine (g47 w2 (h.ext w (x1.trans x12)) ok).call fun S3 x3=>?_
 have x13:=x12.trans x3
 have h3:=h1.ext w1 x13
 have g3:=x13.old _ _ hg1
 have hv:(⟨c.role,c.leads,c.sure,c.last,c.left,c.members⟩:View)=c.view:=rfl
 obtain ⟨e5,e6⟩:=xG g3 rfl (show (uC c.view).length=6 from rfl) rfl
 have hlt:S.next<S3.next:=x13.wf w1 _ _ g3
 have x4:Ext S (⟨S3.next,S3.heap.put S.next (.row 0 6 [uC c.view])⟩:St):=(x1.trans x13).set (Nat.le_refl _) hlt w _
 simp only [h3.r_role,h3.r_leads,h3.r_sure,h3.r_left,aF,cO,aP,aG1,hv,aUn,e5,aUk,e6]
 exact Ok.ret ⟨rfl,x4⟩
end
end
section
variable [Guard]
theorem aL3:nQ bD:=aBt _ _ _
theorem aN7 {u:V} (hu:u=.nils∨(∃ a,u=.imm a)∨∃ a b d e f,u=.sl a b d e f) (id base wt:Int) (h:Hard):bM prog 88 [(0,.int .i64 id),(1,.agg (bB h u)),(2,.int .i64 1),(3,.int .i64 (-1)),(4,.int .i64 base),(5,.int .i64 wt),(6,.int .i64 wt)]=
  .ok (.agg (bI ⟨id,h,1,-1,base,wt,wt,0,List.replicate 7 ⟨0,0,0⟩,none,[]⟩ u .nilp .nils)):=by
 rw [aUg]
 rcases hu with rfl | ⟨a,rfl⟩ | ⟨a,b,d,e,f,rfl⟩<;>rfl
theorem aG2 (c:Core) {lv wv ov:V} (h1:lv.one=true) (h2:wv.one=true) (h3:ov.one=true) (hp:c.peers.length=7):aH (bI c lv wv ov)=true:=by
 obtain ⟨p0,p1,p2,p3,p4,p5,p6,e⟩:=kN hp
 simp only [bI,bB,e,aH,List.map_cons,List.map_nil,List.flatten_cons,List.flatten_nil,iD,List.cons_append,List.nil_append,List.all_cons,List.all_nil,h1,h2,h3,Bool.and_true]
 rfl
theorem g11 (id cS:Int) (h:Hard) (lv:V) (S:St) (w:WF S) (hgn:Guard.n≤S.next) (hs:Sl S 3 lv (h.log.map bV)) (hl:h.log.length≤1000000):
  Does prog bD bE 11 [.int .i64 id,.agg (bB h lv),.int .i64 cS] S (fun u S'=>Ext S S'∧match sY id h cS with
   | none=>u=.tup [.nilp,.int .i64 1]
   | some c=>∃ a O,u=.tup [.ptr a 0 0 0,.int .i64 0]∧CoreIn S' a c O∧∀ y,O y→S.next≤y):=by
 have ho:=eP h hs.one
 have hln:(bB h lv).length=7:=rfl
 obtain ⟨S1,hn1,x1,hg1,hnx1⟩:=nb w 7 (bB h lv)
 have w1:=x1.wf w
 have va:∀ {T:St},T.heap.get S.next=some (.row 0 7 [bB h lv])→aM (some 7) (.ptr S.next 0 0 0) T=.ok (.agg (bB h lv)):=fun hg=>by rw [aX _ _ _ _ _ (aR hg)];exact dV _ _ hln
 have v2:∀ {T:St},T.heap.get S.next=some (.row 0 7 [bB h lv])→aM none (.ptr S.next 0 0 2) T=.ok (.int .i64 h.base):=fun hg=>by rw [aX _ _ _ _ _ (aR hg)];rfl
 have no:(id<0∨7≤id∨fX h=false)→sY id h cS=none:=fun q=>by unfold sY;rw [if_pos q]
 refine e11 ?_
 simp only [m11,bL,ho,hln,aP,hn1,aF,bK,eO,yQ,va hg1]
 refine Ok.pickP (fun e=>Ok.ret ⟨x1,by rw [no (.inl e)]⟩) (fun e=>?_)
 refine Ok.pickP (fun e2=>Ok.ret ⟨x1,by rw [no (.inr (.inl e2))]⟩) (fun e2=>?_)
 refine (g33 h lv S1 w1 (hs.ext x1) hl).call fun S2 x2=>?_
 have x02:=x1.trans x2
 have w2:=x2.wf w1
 simp only [fO,aF]
 refine Ok.pick (fun e3=>Ok.ret ⟨x02,by rw [no (.inr (.inr (by simpa using e3)))]⟩) (fun e3=>?_)
 have hy:¬ (id<0∨7≤id∨fX h=false):=fun q=>by
  rcases q with q | q | q
  ·exact e q
  ·exact e2 q
  ·rw [q] at e3;cases e3
 have hN:sY id h cS=some ⟨id,h,1,-1,h.base,cX cS,cX cS,0,List.replicate 7 ⟨0,0,0⟩,none,[]⟩:=by unfold sY;rw [if_neg hy]
 refine (g34 cS S2).call fun S3 x3=>?_
 have x03:=x02.trans x3
 have w3:=x3.wf w2
 have g3:=x3.old _ _ (x2.old _ _ hg1)
 have xb:Ext S3 (⟨S3.next+11,S3.heap⟩:St):=(Ext.refl S3).bump 11
 have wb:=xb.wf w3
 simp only [fP,aJ,Nat.reduceAdd,aF,eQ,aS,va g3,v2 g3]
 refine Does.call (Does.dead aL3 (g35 h lv (⟨S3.next+11,S3.heap⟩:St) wb ((hs.ext x03).ext xb) hl)) fun u S4 ⟨⟨x4,lv',e4,o4⟩,d4⟩=>?_
 subst e4
 have x34:=xb.trans x4
 have w4:=x34.wf w3
 have g4:=x34.old _ _ g3
 obtain ⟨f1,f2⟩:=aIi w3 (n:=11) d4 (k:=S3.next+8) (by omega) (by omega)
 have ho4:=o4.sl
 have hcl:(bI ⟨id,h,1,-1,h.base,cX cS,cX cS,0,List.replicate 7 ⟨0,0,0⟩,none,[]⟩ lv' .nilp .nils).length=37:=cU _ _ _ _ rfl
 have hco:aH (bI ⟨id,h,1,-1,h.base,cX cS,cX cS,0,List.replicate 7 ⟨0,0,0⟩,none,[]⟩ lv' .nilp .nils)=true:=aG2 _ ho4.one rfl rfl rfl
 have x5:Ext S4 (⟨S4.next,S4.heap.put (S3.next+8) (.row 0 37 [bI ⟨id,h,1,-1,h.base,cX cS,cX cS,0,List.replicate 7 ⟨0,0,0⟩,none,[]⟩ lv' .nilp .nils])⟩:St):=Ext.newAt f1 f2 _
 have hx:=x03.next
 simp only [v2 g4,aF,cO,aP,aN7 (Sl.isv ho4),bL,hcl,hco,gP]
 refine Ok.ret ⟨(x03.trans x34).trans x5,?_⟩
 rw [hN]
 refine ⟨S3.next+8,own (S3.next+8) lv' .nilp .nils .nils,rfl,⟨lv',.nilp,.nils,.nils,[],⟨Tr.get_put_sameB _ _ _ trivial,rfl,(o4.ext x5).weaken (Nat.zero_le _),⟨rfl,rfl⟩,Own.nil _ _ _,.nil,Gd.nil (Nat.le_trans hgn ((x03.trans x34).trans x5).next)⟩,rfl⟩,fun y hy=>?_⟩
 rcases hy with hy | hy | hy | hy | hy
 ·omega
 ·have:=(sX o4 hy).1
  have h9:S3.next+11≤y:=this
  omega
 ·cases hy
 ·cases hy
 ·cases hy
end
section
section
variable [Guard]
end
structure Ask where
 kind:Int
 n:Int
 m:Letter
 ev:V
 data:List (List UInt8)
 dv:V
def aSf (q:Ask):List V:=[.int .i64 q.kind,.int .i64 q.n]++aG q.m q.ev++[q.dv]
section
variable {S:St} {a:Nat} {q:Ask} (h:S.heap.get a=some (.row 0 16 [aSf q]))
include h
end
end
end Go.Proofs.Ytbiidlmhadihlaa
end
section
namespace Go.Raft
open Go.AM
theorem aE6 (c:Core) (f:Int):(c.send f).out.length=c.out.length+1:=by
 unfold Core.send;simp only;split<;>simp [Core.post]
theorem xT (g:Core→Int→Core) (hg:∀ c f,(g c f).out.length=c.out.length+1):∀ (l:List Int) (c:Core),(l.foldl g c).out.length=c.out.length+l.length
 | [],c=>rfl
 | f::l,c=>by rw [List.foldl_cons,xT g hg l,hg,List.length_cons];omega
theorem xU (c:Core):c.others.length≤7:=Nat.le_trans (List.length_filter_le _ _) (List.length_filter_le _ _)
theorem xV (c:Core):c.spread.out.length≤c.out.length+7:=by
 have h:=xU c
 unfold Core.spread
 split
 ·rw [xT _ aE6];omega
 ·omega
theorem aE7 (c:Core):c.look.out=c.out:=by
 unfold Core.look;simp only;split<;>rfl
theorem aHd (c:Core):c.own.out.length≤c.out.length+7:=by
 unfold Core.own
 have h:=xV (c.setPeer c.id { c.peer c.id with mtch:=c.last }).look
 rw [aE7] at h
 exact h
theorem aE8 (c:Core):c.lead.out.length≤c.out.length+7:=by
 unfold Core.lead
 simp only
 split
 ·exact aHd _
 ·exact aHd _
theorem aIp (c:Core):c.stand.out.length≤c.out.length+7:=by
 unfold Core.stand
 simp only
 split
 ·exact aE8 _
 ·rw [xT _ (fun d f=>by simp [Core.post])]
  have h:=xU ({ c with h:={ c.h with term:=c.h.term+1,vote:=c.id },role:=2,leads:=-1,votes:=(2:Int) ^ c.id.toNat }:Core)
  exact Nat.add_le_add_left h _
theorem aL4 (c:Core) (d:Int):(c.tick d).out.length≤c.out.length+7:=by
 unfold Core.tick
 simp only
 split
 ·exact Nat.le_add_right _ _
 ·split
  ·exact xV _
  ·split
   ·exact aIp _
   ·exact Nat.le_add_right _ _
theorem dZ (c:Core) (m:Letter):(c.post m).out.length≤c.out.length+7:=by simp [Core.post]
theorem tH (c:Core) (f:Int):(c.send f).out.length≤c.out.length+7:=by rw [aE6];omega
theorem aE9 (c:Core) (m:Letter):(c.take m).out.length≤c.out.length+7:=by
 unfold Core.take
 split
 ·exact Nat.le_add_right _ _
 ·generalize hc:(if c.h.term<m.term then { c with h:={ c.h with term:=m.term,vote:=-1 },role:=1,leads:=-1 } else c:Core)=d
  have hd:d.out=c.out:=by rw [←hc];split<;>rfl
  rw [←hd]
  simp only
  split
  ·unfold Core.late;split
   ·exact dZ _ _
   ·split
    ·exact dZ _ _
    ·exact Nat.le_add_right _ _
  split
  ·unfold Core.asked;simp only;split
   ·exact dZ _ _
   ·exact dZ _ _
  split
  ·unfold Core.voted;split
   ·exact Nat.le_add_right _ _
   ·simp only;split
    ·exact aE8 _
    ·exact Nat.le_add_right _ _
  split
  ·unfold Core.appended;split
   ·exact Nat.le_add_right _ _
   ·split
    ·exact Nat.le_add_right _ _
    ·simp only;split
     ·exact dZ _ _
     ·split
      ·exact dZ _ _
      ·exact dZ _ _
  split
  ·unfold Core.acked;split
   ·exact Nat.le_add_right _ _
   ·simp only;split
    ·exact tH _ _
    ·split
     ·exact Nat.le_add_right _ _
     ·have h1:(d.setPeer m.from' ⟨m.index+1,m.index,0⟩).look.out=d.out:=aE7 _
      split
      ·have h2:=tH (d.setPeer m.from' ⟨m.index+1,m.index,0⟩).look m.from'
       rw [h1] at h2;exact h2
      ·rw [h1];exact Nat.le_add_right _ _
  split
  ·unfold Core.installed;split
   ·exact Nat.le_add_right _ _
   ·simp only;split
    ·exact dZ _ _
    ·have h1:(if m.off=0 then { d.hear m.from' with way:=some ⟨m.index,m.at',m.size,[]⟩ } else d.hear m.from':Core).out=d.out:=by split<;>rfl
     generalize (if m.off=0 then { d.hear m.from' with way:=some ⟨m.index,m.at',m.size,[]⟩ } else d.hear m.from':Core)=e at h1
     rw [←h1]
     split
     ·exact dZ _ _
     ·split
      ·exact dZ _ _
      ·split
       ·split
        ·exact dZ _ _
        ·exact dZ _ _
       ·split
        ·exact dZ _ _
        ·exact dZ _ _
  split
  ·unfold Core.more;simp only;split
   ·exact Nat.le_add_right _ _
   ·exact tH _ _
  ·exact Nat.le_add_right _ _
end Go.Raft
end
section
namespace Go.Proofs.Ytbiidlmhadihlaa
open Go.AM Go.Raft Try
section
variable [Guard]
theorem aVc:bD 10=some (.spec (Sp.told.run prog)):=by kernel_rfl
theorem g10 (S:St):Does prog bD bE 10 [] S (fun u S'=>u=.bool true∧S'=S):=Does.step aVc (v:=.bool true) (S':=S) rfl ⟨rfl,rfl⟩
structure Seen (S:St) (c d:Core) (b1 b2 b3:Nat) (la lb:V):Prop where
 h1:S.heap.get b1=some (.row 0 7 [bB c.h la])
 h2:S.heap.get b2=some (.row 0 6 [uC c.view])
 h3:S.heap.get b3=some (.row 0 7 [bB d.h lb])
 la:Sl S 3 la (c.h.log.map bV)
 lb:Sl S 3 lb (d.h.log.map bV)
theorem Seen.ext {S S':St} {c d:Core} {b1 b2 b3:Nat} {la lb:V} (h:Seen S c d b1 b2 b3 la lb) (x:Ext S S'):Seen S' c d b1 b2 b3 la lb:=
 ⟨x.old _ _ h.h1,x.old _ _ h.h2,x.old _ _ h.h3,h.la.ext x,h.lb.ext x⟩
section
variable {S:St} {a:Nat} {h:Hard} {lv:V} (g:S.heap.get a=some (.row 0 7 [bB h lv]))
include g
end
section
variable {S:St} {a:Nat} {v:View} (g:S.heap.get a=some (.row 0 6 [uC v]))
include g
end
end
section
variable [Guard]
theorem aL5 (a b c d:Nat):aD prog .eql 28 (.ptr a b c d) .nilp=.ok (.bool false):=by
 have h:(fun a b c d=>aD prog .eql 28 (.ptr a b c d) .nilp)=fun _ _ _ _=>.ok (.bool false):=by kernel_rfl
 exact congrFun (congrFun (congrFun (congrFun h a) b) c) d
theorem aL6 (a b c d:Nat):aN prog 28 (.ptr a b c d) .nilp=true:=by
 have h:(fun a b c d=>aN prog 28 (.ptr a b c d) .nilp)=fun _ _ _ _=>true:=by kernel_rfl
 exact congrFun (congrFun (congrFun (congrFun h a) b) c) d
theorem aL7 {S:St} {Q:V→St→Prop} (h:Q (.bool true) S):Ok (fun k K=>aC prog bD bE k 10 [] S fun t S'=>K t S') Q:=
 Does.call (g10 S) fun u S' ⟨e,e2⟩=>by subst e;subst e2;exact Ok.ret h
section
variable {S:St} {p:V} {q:Ask} (h:At S p (aSf q))
include h
end
end
end Go.Proofs.Ytbiidlmhadihlaa
end
section
namespace Go.AM
open Go.RowKit Go.ChangeShapes
section
def Gh.all (W:World):Gh:={ Gh.none with pr:=fun b=>W.heap[b]? }
theorem aN8 (W:World):fU (fun i=>W.heap[i]?) (Gh.all W) St.empty W.heap:=
 ⟨fun _ _=>⟨rfl,rfl⟩,fun _ _ h=>(by cases h),fun a b h=>(by cases h),fun a a' b b' i h=>(by cases h),fun i o h=>h,fun i o h=>h,fun a b i h=>(by cases h),
  fun a i h=>(by rcases h with ⟨L,h,_⟩ | h<;>cases h),fun a b h=>(by cases h)⟩
theorem aEa {P:Program} {pl:eD} (hp:PlansOK P pl) {k:Nat} {f:FuncId} {args:List V} {S':St} (h:fQ P pl k f args St.empty=.ok (.bool true,S')) (W:World) {cs:List Value} (hc:VRs (Gh.all W) args cs):
  Calls P f cs.toArray W fun e W'=>e=.returned (.bool true)∧Below W.heap.size W W':=by
 refine ((mG hp k).calls h (aN8 W) hc).mono ?_
 rintro e W' ⟨G',w,rfl,q1,q2⟩
 cases q2
 refine ⟨rfl,q1.same.os,q1.same.tape,q1.same.output,q1.same.size,fun i hi=>?_⟩
 have:=Array.getElem?_eq_getElem hi
 rw [this]
 exact q1.rel.fr i _ this
def dM (P:Program):Nat→TypeId→List V→Prop
 | 0,_,_=>False
 | n+1,t,xs=>match P.underlying t with
  | some .bool=>∃ b,xs=[.bool b]
  | some (.int k)=>∃ i,xs=[.int k i]∧(Lit.int k i).wf=true
  | some .string=>∃ s,xs=[.str s]∧s.length≤maxLen
  | some (.slice e)=>xs=[.nils]∨∃ es,xs=[.imm es]∧es.length≤maxLen∧∀ c,c∈es→c.length=P.cellsOf e∧dM P n e c
  | some (.struct fs)=>xs.length=P.cellsOf t∧∀ f,f∈fs.toList→dM P n f.type ((xs.drop f.offset).take (P.cellsOf f.type))
  | _=>False
def aHe (P:Program):List Field→Nat→Nat→Bool
 | [],o,e=>Nat.beq o e
 | f::l,o,e=>Nat.beq f.offset o&&aHe P l (o+P.cellsOf f.type) e
def pZ (P:Program):Nat→TypeId→Bool
 | 0,_=>false
 | d+1,t=>match P.underlying t with
  | some .bool=>true
  | some (.int _)=>true
  | some .string=>true
  | some (.slice e)=>Nat.blt 0 (P.cellsOf e)&&pZ P d e
  | some (.struct fs)=>aHe P fs.toList 0 (P.cellsOf t)&&fs.toList.all fun f=>pZ P d f.type
  | _=>false
theorem aHf {α:Type} {Q:Nat→α→Prop}:∀ n,(∀ i,i<n→∃ a,Q i a)→∃ l:List α,l.length=n∧∀ i a,l[i]?=some a→Q i a
 | 0,_=>⟨[],rfl,fun i a h=>by simp at h⟩
 | n+1,h=>by
  obtain ⟨l,h1,h2⟩:=aHf n fun i hi=>h i (by omega)
  obtain ⟨a,ha⟩:=h n (by omega)
  refine ⟨l++[a],by simp [h1],fun i x hx=>?_⟩
  by_cases c:i<n
  ·rw [List.getElem?_append_left (by omega)] at hx;exact h2 i x hx
  ·have hi:i<(l++[a]).length:=(List.getElem?_eq_some_iff.1 hx).1
   simp only [List.length_append,List.length_cons,List.length_nil] at hi
   have:i=n:=by omega
   subst this
   rw [List.getElem?_append_right (by omega),h1,Nat.sub_self] at hx
   cases hx;exact ha
theorem VRss.of {G:Gh}:∀ {l:List (List V×List Value)},(∀ x,x∈l→VRs G x.1 x.2)→VRss G (l.map (·.1)) (l.map (·.2))
 | [],_=>.nil
 | x::l,h=>.cons _ _ _ _ (h x (List.mem_cons_self ..)) (VRss.of fun y hy=>h y (List.mem_cons_of_mem _ hy))
section
variable {H:Type} {enc:TypeId×Value→H} {P:Program} {W:World} {sp:Nat→Bool} {held:Bool}
theorem aO8 {n:Nat} {cs:List Value} (ih:∀ (t:TypeId) (cs:List Value) (x:DataW H×List MemPlace) (d:Nat),pZ P d t=true→DataW.trod enc P W 0 sp held n t cs=some x→∃ xs,VRs (Gh.all W) xs cs∧dM P n t xs) {d:Nat}:
  ∀ (l:List Field) (o e:Nat),aHe P l o e=true→e≤cs.length→(∀ f,f∈l→pZ P d f.type=true∧∃ x,DataW.trod enc P W 0 sp held n f.type ((cs.drop f.offset).take (P.cellsOf f.type))=some x)→
   o≤e∧∃ xs,VRs (Gh.all W) xs ((cs.drop o).take (e - o))∧∀ f,f∈l→o≤f.offset∧dM P n f.type ((xs.drop (f.offset - o)).take (P.cellsOf f.type))
 | [],o,e,h,he,_=>by
  have:o=e:=Nat.eq_of_beq_eq_true h
  subst this
  exact ⟨Nat.le_refl _,[],by rw [Nat.sub_self];exact .nil,fun _ h=>by cases h⟩
 | f::l,o,e,h,he,hf=>by
  simp only [aHe,Bool.and_eq_true] at h
  have h0:f.offset=o:=Nat.eq_of_beq_eq_true h.1
  obtain ⟨hle,xs,hv,hs⟩:=aO8 ih l (o+P.cellsOf f.type) e h.2 he (fun g hg=>hf g (List.mem_cons_of_mem _ hg))
  obtain ⟨hpl,x,hx⟩:=hf f (List.mem_cons_self ..)
  obtain ⟨ys,hy,hsy⟩:=ih _ _ _ d hpl hx
  rw [h0] at hy
  have hyl:ys.length=P.cellsOf f.type:=by rw [hy.length,List.length_take,List.length_drop];omega
  refine ⟨by omega,ys++xs,?_,fun g hg=>?_⟩
  ·have:(cs.drop o).take (e - o)=(cs.drop o).take (P.cellsOf f.type)++(cs.drop (o+P.cellsOf f.type)).take (e - (o+P.cellsOf f.type)):=by
    rw [←List.drop_drop,←List.take_add]
    congr 1
    omega
   rw [this]
   exact hy.append hv
  ·rcases List.mem_cons.1 hg with rfl | hg
   ·refine ⟨by omega,?_⟩
    rw [h0,Nat.sub_self,List.drop_zero,List.take_append_of_le_length (by omega),List.take_of_length_le (by omega)]
    exact hsy
   ·obtain ⟨h1,h2⟩:=hs g hg
    refine ⟨by omega,?_⟩
    rw [List.drop_append,List.drop_eq_nil_of_le (by omega),List.nil_append,hyl]
    have:g.offset - o - P.cellsOf f.type=g.offset - (o+P.cellsOf f.type):=by omega
    rw [this]
    exact h2
theorem tI {a:Addr} {n:Nat} {r:List Value} (h:W.cells? 0 a n=some r):r.length=n∧∀ k v,r[k]?=some v→W.cell? (a.add k)=some v:=by
 unfold World.cells? at h
 rw [if_pos (Nat.zero_le _)] at h
 have hl:=mapM_some_length h
 rw [List.length_range] at hl
 refine ⟨hl,fun k v hk=>?_⟩
 have hkn:k<n:=by have:=(List.getElem?_eq_some_iff.1 hk).1;omega
 have:=mapM_some_get h k k (by rw [List.getElem?_range hkn])
 rw [this,hk]
theorem aHg {a:Addr} {v:Value} (h:W.cell? a=some v):∃ c ty fr,W.heap[a.block]?=some (.cells c ty fr)∧a.spot=none∧c[a.off]?=some v:=by
 unfold World.cell? at h
 split at h
 ·rename_i c ty fr hc
  split at h
  ·cases h
  ·rename_i hs
   exact ⟨c,ty,fr,hc,by simpa using hs,h⟩
 ·cases h
theorem aAe (a:Addr) (n:Nat):(a.add n).block=a.block:=by
 unfold Addr.add
 split<;>rfl
theorem aHh (a:Addr) (n:Nat):(a.add n).off=a.off+n:=by
 unfold Addr.add
 split
 ·rename_i h;rw [h,Nat.add_zero]
 ·rfl
theorem aAf (a:Addr):a.add 0=a:=by unfold Addr.add;rw [if_pos rfl]
theorem aG3:∀ (n:Nat) (t:TypeId) (cs:List Value) (x:DataW H×List MemPlace) (d:Nat),pZ P d t=true→DataW.trod enc P W 0 sp held n t cs=some x→∃ xs,VRs (Gh.all W) xs cs∧dM P n t xs
 | 0,t,cs,x,d,_,h=>by simp [DataW.trod] at h
 | n+1,t,cs,x,0,hp,h=>by cases hp
 | n+1,t,cs,x,d+1,hp,h=>by
  simp only [pZ] at hp
  split at hp
  ·rename_i ht
   obtain ⟨b,rfl,_⟩:=DataW.trod_bool ht h
   exact ⟨[.bool b],.cons _ _ _ _ (.bool b) .nil,by simp only [dM,ht];exact ⟨b,rfl⟩⟩
  ·rename_i k ht
   obtain ⟨i,rfl,_,hw⟩:=DataW.trod_int ht h
   exact ⟨[.int k i],.cons _ _ _ _ (.int k i) .nil,by simp only [dM,ht];exact ⟨i,rfl,hw⟩⟩
  ·rename_i ht
   obtain ⟨s,rfl,_,hs⟩:=DataW.trod_string ht h
   refine ⟨[.str s.data.toList],.cons _ _ _ _ (.str s.data.toList) .nil,?_⟩
   simp only [dM,ht]
   exact ⟨_,rfl,hs⟩
  ·rename_i e ht
   simp only [Bool.and_eq_true,Nat.blt_eq] at hp
   rcases DataW.trod_slice ht h with ⟨rfl,_⟩ | ⟨a,len,cap,elems,rest,m,hm,rfl,_,_,hlc,hcap,hel,hget,_,_⟩
   ·exact ⟨[.nils],.cons _ _ _ _ .nils .nil,by simp only [dM,ht];exact .inl trivial⟩
   ·have hm:m=n:=by omega
    subst hm
    obtain ⟨l,hl,hq⟩:=aHf (Q:=fun i (y:List V×List Value)=>W.cells? 0 (a.add (i*P.cellsOf e)) (P.cellsOf e)=some y.2∧VRs (Gh.all W) y.1 y.2∧dM P m e y.1) len (fun i hi=>by
     have h1:=hget i hi
     rw [List.getElem?_eq_getElem (by omega:i<elems.length)] at h1
     rw [Option.bind_eq_some_iff] at h1
     obtain ⟨r,h2,h3⟩:=h1
     obtain ⟨c,h4,h5⟩:=aG3 m e r _ d hp.2 h3
     exact ⟨(c,r),h2,h4,h5⟩)
    have hlen:∀ y,y∈l→y.1.length=P.cellsOf e∧y.2.length=P.cellsOf e:=fun y hy=>by
     obtain ⟨i,hi⟩:=List.mem_iff_getElem?.1 hy
     obtain ⟨h1,h2,_⟩:=hq i y hi
     have:=(tI h1).1
     exact ⟨by rw [h2.length];exact this,this⟩
    refine ⟨[.imm (l.map (·.1))],.cons _ _ _ _ (.imm _ a len cap (P.cellsOf e) (by rw [List.length_map,hl]) hlc (l.map (·.2)) (VRss.of fun y hy=>?_) (fun c hc=>?_) ?_) .nil,?_⟩
    ·obtain ⟨i,hi⟩:=List.mem_iff_getElem?.1 hy
     exact (hq i y hi).2.1
    ·obtain ⟨y,hy,rfl⟩:=List.mem_map.1 hc
     exact (hlen y hy).1
    ·by_cases h0:len=0
     ·exact .inl h0
     ·right
      obtain ⟨y0,hy0⟩:∃ y0,l[0]?=some y0:=⟨l[0]'(by omega),List.getElem?_eq_getElem (by omega)⟩
      obtain ⟨h1,_,_⟩:=hq 0 y0 hy0
      rw [Nat.zero_mul,aAf] at h1
      obtain ⟨hyl,hcell⟩:=tI h1
      obtain ⟨v0,hv0⟩:∃ v0,y0.2[0]?=some v0:=⟨y0.2[0]'(by omega),List.getElem?_eq_getElem (by omega)⟩
      have hc0:=hcell 0 v0 hv0
      rw [aAf] at hc0
      obtain ⟨c,ty,fr,hh,hs,_⟩:=aHg hc0
      refine ⟨c,ty,fr,hh,hs,fun i r hr k v hk=>?_⟩
      rw [List.getElem?_map] at hr
      obtain ⟨y,hy,rfl⟩:∃ y,l[i]?=some y∧y.2=r:=by
       cases hy:l[i]? with
       | none=>rw [hy] at hr;cases hr
       | some y=>rw [hy] at hr;exact ⟨y,rfl,Option.some.inj hr⟩
      obtain ⟨h2,_,_⟩:=hq i y hy
      obtain ⟨c',ty',fr',hh',_,hv⟩:=aHg ((tI h2).2 k v hk)
      rw [aAe,aAe,hh] at hh'
      rw [aHh,aHh] at hv
      cases hh'
      exact hv
    ·simp only [dM,ht]
     refine .inr ⟨_,rfl,by rw [List.length_map,hl];omega,fun c hc=>?_⟩
     obtain ⟨y,hy,rfl⟩:=List.mem_map.1 hc
     obtain ⟨i,hi⟩:=List.mem_iff_getElem?.1 hy
     exact ⟨(hlen y hy).1,(hq i y hi).2.2⟩
  ·rename_i fs ht
   simp only [Bool.and_eq_true,List.all_eq_true] at hp
   obtain ⟨xs,m,hm,_,hcl,hxl,hf⟩:=DataW.trod_struct ht h
   have hm:m=n:=by omega
   subst hm
   obtain ⟨_,ys,h1,h2⟩:=aO8 (enc:=enc) (sp:=sp) (held:=held) (cs:=cs) (fun t cs x d=>aG3 m t cs x d) fs.toList 0 (P.cellsOf t) hp.1 (Nat.le_of_eq hcl.symm) (fun f hfm=>by
    refine ⟨hp.2 f hfm,?_⟩
    obtain ⟨i,hi⟩:=List.mem_iff_getElem?.1 hfm
    have hi':fs[i]?=some f:=by simpa using hi
    rw [hf i f hi']
    have:i<xs.length:=by
     rw [hxl]
     by_cases c:i<fs.size
     ·exact c
     ·rw [Array.getElem?_eq_none (by omega)] at hi';cases hi'
    exact ⟨_,List.getElem?_eq_getElem this⟩)
   rw [Nat.sub_zero,List.drop_zero,List.take_of_length_le (by omega)] at h1
   refine ⟨ys,h1,?_⟩
   simp only [dM,ht]
   refine ⟨by rw [h1.length,hcl],fun f hfm=>?_⟩
   have:=(h2 f hfm).2
   rwa [Nat.sub_zero] at this
  ·cases hp
end
end
end Go.AM
end
section
namespace Go.Proofs.Ytbiidlmhadihlaa
open Go.AM Go.Raft Try
theorem aL8:WF St.empty:=fun a b h=>by cases h
theorem aL9 {P:Program} {n:Nat} {t e:TypeId} {xs:List V} (ht:P.underlying t=some (.slice e)) (h:dM P n t xs):
  ∃ m,xs=[.nils]∨∃ es,xs=[.imm es]∧es.length≤maxLen∧∀ c,c∈es→c.length=P.cellsOf e∧dM P m e c:=by
 cases n with
 | zero=>exact h.elim
 | succ m=>
  simp only [dM,ht] at h
  exact ⟨m,h⟩
theorem c3:prog.cellsOf 3=1:=by kernel_rfl
theorem c4:prog.cellsOf 4=1:=by kernel_rfl
theorem c9:prog.cellsOf 9=1:=by kernel_rfl
theorem aN9 {n:Nat} {xs:List V} (h:dM prog n 4 xs):∃ b,xs=[.bool b]:=by
 cases n with
 | zero=>exact h.elim
 | succ m=>
  simp only [dM,Try.underlying4] at h
  exact h
theorem aEb {α:Type} {enc:α→List V}:∀ {es:List (List V)},(∀ c,c∈es→∃ a:α,c=enc a)→∃ l:List α,es=l.map enc
 | [],_=>⟨[],rfl⟩
 | c::es,h=>by
  obtain ⟨a,ha⟩:=h c (List.mem_cons_self ..)
  obtain ⟨l,hl⟩:=aEb fun d hd=>h d (List.mem_cons_of_mem _ hd)
  exact ⟨a::l,by rw [ha,hl];rfl⟩
end Go.Proofs.Ytbiidlmhadihlaa
end
section
namespace Go.AM
open Go.ChangeShapes Go.WideShapes Go.ChangeAt Go.RowKit
theorem yU {H:Type} {enc:TypeId×Value→H} {P:Program} {f:Func} {s:ChangeSpec} {apart fresh handsOn:Bool} {W W':World} {args:Array Value} {v:Value} {ds gs:List (DataW H)} {before pa pv:List MemPlace}
  (hW:DataW.Whole enc P f.params.toList s.vars apart W args.toList ds gs before)
  (hres:∀ (b:Nat) (sp:Nat→Bool) (hd:Bool),DataW.TrodAll enc P W' b sp hd f.resultTypes.toList (v.resultList f.resultTypes.size) (s.fn H (ds++gs)).results [])
  (hargs:∀ sp:Nat→Bool,(∀ p∈before,sp p.block=true)→DataW.TrodAll enc P W' 0 sp true f.params.toList args.toList (s.fn H (ds++gs)).args pa)
  (hvars:∀ sp:Nat→Bool,(∀ p∈before,sp p.block=true)→DataW.TrodVars enc P W' sp s.vars (s.fn H (ds++gs)).vars pv)
  (hps:before=pa++pv) (hk:W.keptBut W' (·∈before)):
  s.post enc P f apart fresh handsOn false W args v W':=by
 have hold:∀ p∈before,(fun b=>decide (b<W.heap.size)) p.block=true:=fun p hp=>by simpa using hW.lt p hp
 refine ⟨ds,gs,before,[],pa,pv,hW,hres _ _ _,hargs _ hold,hvars _ hold,World.keptBut_mono (fun p hp=>⟨hp,?_⟩) hk,fun h=>by cases h⟩
 rw [hps,List.mem_append] at hp
 exact Or.inr hp
theorem yV {W W':World} (h:Below W.heap.size W W') (S:MemPlace→Prop):W.keptBut W' S:=Below.frame h S
theorem aIq {H:Type} {enc:TypeId×Value→H} {P:Program} {W:World} {t:TypeId} (ht:P.underlying t=some .bool) (b:Nat) (sp:Nat→Bool) (hd:Bool):
  DataW.TrodAll enc P W b sp hd [t] ((Value.bool true).resultList 1) [.lit (.bool true)] []:=
 trodAll_mk1 ⟨1,by simp [DataW.trod,Value.cells,ht]⟩
end Go.AM
end
section
namespace Go.AM
open Go.RowKit Go.ChangeShapes
section
theorem Does.calls {P:Program} {pl:eD} {lv:jR} (hp:PlansOK P pl) {f:FuncId} {args:List V} (h:Does P pl lv f args St.empty fun u _=>u=.bool true) (W:World) {cs:List Value} (hc:VRs (Gh.all W) args cs):
  Calls P f cs.toArray W fun e W'=>e=.returned (.bool true)∧Below W.heap.size W W':=by
 obtain ⟨k,v,S',hv,hk⟩:=h.says
 subst hv
 exact aEa hp hk W hc
section
variable {H:Type} {enc:TypeId×Value→H} {P:Program} {W:World} {sp:Nat→Bool} {held:Bool}
theorem yW {r:Reach} {b0:Nat} {t e:TypeId} {v:Value} (ht:P.underlying t=some (.slice e)) (hval:Value.okWide P W r b0 t v):v.cells.toList=[v]:=by
 cases v with
 | agg cs=>simp [Value.okWide,ht,Cell.okWide,Cell.ok] at hval
 | _=>rfl
theorem xW {r:Reach} {b0 d:Nat} {t e:TypeId} {v:Value} {dd:DataW H} {ps:List MemPlace} (ht:P.underlying t=some (.slice e)) (hpl:pZ P d t=true) (hval:Value.okWide P W r b0 t v) (hd:DataW.Trod enc P W 0 sp held t v dd ps):
  ∃ x n,VR (Gh.all W) x v∧dM P n t [x]:=by
 obtain ⟨fuel,hf⟩:=hd
 obtain ⟨xs,h1,h2⟩:=aG3 fuel t _ _ d hpl hf
 rw [yW ht hval] at h1
 cases h1 with
 | cons x _ vs _ hx t'=>
  cases t'
  exact ⟨x,fuel,hx,h2⟩
theorem aIr {t:TypeId} (hl:laidOutB P=true) (hr:P.readableRec t=true) (hrow:t<P.types.size) {W':World} {v:Value} {d:DataW H} {ps:List MemPlace} (h:DataW.Trod enc P W 0 (fun _=>true) true t v d ps) (hb:Below W.heap.size W W')
  (hlt:∀ x∈ps,x.block<W.heap.size) {sp':Nat→Bool} (hs:∀ x∈ps,sp' x.block=true):DataW.Trod enc P W' 0 sp' true t v d ps:=
 WideElems.Trod_stays hl hr hrow h (fun x hx=>hb.same (hlt x hx)) hs
end
end
end Go.AM
end
section
namespace Go.Raft
open Go.AM
section
structure Came where
 i:Int
 t:Int
 n:Int
 s:List UInt8
def aVd:Option Inst→Came
 | none=>⟨0,0,0,[]⟩
 | some w=>⟨w.index,w.at',w.size,w.data⟩
def bN (c:Core) (k:Came) (lv ov:V):List V:=bB c.h lv++[.int .i64 c.id,.int .i64 c.role,.int .i64 c.leads,.int .i64 c.sure,.int .i64 c.drawn,.int .i64 c.left,.int .i64 c.votes]++(c.peers.map fun p=>V.int .i64 p.next)++(c.peers.map fun p=>V.int .i64 p.mtch)++(c.peers.map fun p=>V.int .i64 p.off)++[.int .i64 k.i,.int .i64 k.t,.int .i64 k.n,.str k.s,ov]
def qA (a:Nat) (lv ov:V) (y:Nat):Prop:=y=a∨aO lv=some y∨aO ov=some y
variable [Guard]
structure WAt (S:St) (a:Nat) (c:Core) (k:Came) (lv ov:V) (rows:List (List V)):Prop where
 cell:S.heap.get a=some (.row 0 40 [bN c k lv ov])
 peers:c.peers.length=7
 log:Mn S 3 lv (c.h.log.map bV)
 out:Mn S 13 ov rows
 lets:All2 (LetAt S (aO lv)) c.out rows
 gd:Gd S rows
def WIn (S:St) (a:Nat) (c:Core) (O:Nat→Prop):Prop:=∃ lv ov rows,WAt S a c (aVd c.way) lv ov rows∧O=qA a lv ov
theorem jN (c:Core) (k:Came) (lv ov:V) (h:c.peers.length=7):(bN c k lv ov).length=40:=by
 obtain ⟨p0,p1,p2,p3,p4,p5,p6,e⟩:=kN h
 simp only [bN,e];rfl
theorem gB (c:Core) (k:Came) (lv ov:V) (h:c.peers.length=7) {f:Nat} (hf:f<7) (x:Int):
  (bN c k lv ov)[14+f*1]?=some (.int .i64 (c.peers.getD f ⟨0,0,0⟩).next)∧(bN c k lv ov)[21+f*1]?=some (.int .i64 (c.peers.getD f ⟨0,0,0⟩).mtch)∧(bN c k lv ov)[28+f*1]?=some (.int .i64 (c.peers.getD f ⟨0,0,0⟩).off) ∧
  splice (bN c k lv ov) (14+f*1) [.int .i64 x]=bN { c with peers:=c.peers.set f { c.peers.getD f ⟨0,0,0⟩ with next:=x } } k lv ov ∧
  splice (bN c k lv ov) (21+f*1) [.int .i64 x]=bN { c with peers:=c.peers.set f { c.peers.getD f ⟨0,0,0⟩ with mtch:=x } } k lv ov ∧
  splice (bN c k lv ov) (28+f*1) [.int .i64 x]=bN { c with peers:=c.peers.set f { c.peers.getD f ⟨0,0,0⟩ with off:=x } } k lv ov:=by
 obtain ⟨p0,p1,p2,p3,p4,p5,p6,e⟩:=kN h
 simp only [bN,e]
 match f,hf with
 | 0,_=>exact ⟨rfl,rfl,rfl,rfl,rfl,rfl⟩
 | 1,_=>exact ⟨rfl,rfl,rfl,rfl,rfl,rfl⟩
 | 2,_=>exact ⟨rfl,rfl,rfl,rfl,rfl,rfl⟩
 | 3,_=>exact ⟨rfl,rfl,rfl,rfl,rfl,rfl⟩
 | 4,_=>exact ⟨rfl,rfl,rfl,rfl,rfl,rfl⟩
 | 5,_=>exact ⟨rfl,rfl,rfl,rfl,rfl,rfl⟩
 | 6,_=>exact ⟨rfl,rfl,rfl,rfl,rfl,rfl⟩
theorem uD (c:Core) (k:Came) (lv ov:V) (h:c.peers.length=7) (x:Int) (s:List UInt8) (u:V):
  (bN c k lv ov)[35]?=some (.int .i64 k.i)∧(bN c k lv ov)[36]?=some (.int .i64 k.t)∧(bN c k lv ov)[37]?=some (.int .i64 k.n)∧(bN c k lv ov)[38]?=some (.str k.s)∧(bN c k lv ov)[39]?=some ov ∧
  splice (bN c k lv ov) 35 [.int .i64 x]=bN c { k with i:=x } lv ov∧splice (bN c k lv ov) 36 [.int .i64 x]=bN c { k with t:=x } lv ov∧splice (bN c k lv ov) 37 [.int .i64 x]=bN c { k with n:=x } lv ov∧splice (bN c k lv ov) 38 [.str s]=bN c { k with s:=s } lv ov∧splice (bN c k lv ov) 39 [u]=bN c k lv u:=by
 obtain ⟨p0,p1,p2,p3,p4,p5,p6,e⟩:=kN h
 simp only [bN,e]
 exact ⟨rfl,rfl,rfl,rfl,rfl,rfl,rfl,rfl,rfl,rfl⟩
theorem aEc (c:Core) (k:Came) (lv ov:V):((bN c k lv ov).drop 0).take 7=bB c.h lv:=by
 simp only [bN,bB];rfl
section
variable {S:St} {a:Nat} {c:Core} {k:Came} {lv ov:V} {rows:List (List V)} (h:WAt S a c k lv ov rows)
include h
theorem WAt.fr {S':St} (w:WF S) (hn:S.next≤S'.next) (hk:∀ y b,S.heap.get y=some b→S'.heap.get y=some b):WAt S' a c k lv ov rows:=
 ⟨hk _ _ h.cell,h.peers,Mn.fr h.log hn fun y b _=>hk y b,Mn.fr h.out hn fun y b _=>hk y b,All2.imp (fun m cs q=>q.keep (fun y ver el _=>hk y _) (fun y _ h=>h) w) h.lets,h.gd.mono hn⟩
theorem WAt.ext {S':St} (w:WF S) (x:Ext S S'):WAt S' a c k lv ov rows:=h.fr w x.next x.old
theorem WAt.lt (w:WF S):a<S.next:=w _ _ h.cell
theorem WAt.put (w:WF S) (c':Core) (k':Came) (h1:c'.h.log=c.h.log) (h3:c'.out=c.out) (h4:c'.peers.length=7):
  WAt ⟨S.next,S.heap.put a (.row 0 40 [bN c' k' lv ov])⟩ a c' k' lv ov rows∧Mv (qA a lv ov) S (qA a lv ov) ⟨S.next,S.heap.put a (.row 0 40 [bN c' k' lv ov])⟩:=by
 have kk:∀ n,n≠40→KeepW n S (⟨S.next,S.heap.put a (.row 0 40 [bN c' k' lv ov])⟩:St):=fun n h2=>KeepW.put h.cell h2 _
 refine ⟨⟨Tr.get_put_sameB _ _ _ trivial,h4,by rw [h1];exact h.log.keepW (Nat.le_refl _) (kk 3 (by decide)),h.out.keepW (Nat.le_refl _) (kk 13 (by decide)),by rw [h3];exact All2.imp (fun m cs q=>q.keep (fun y ver el _ g=>kk 3 (by decide) _ _ _ g) (fun y _ h=>h) w) h.lets,h.gd⟩,⟨⟨fun y b hy hb=>?_,Nat.le_refl _,fun w=>(But.put (h.lt w) _).wf w⟩,fun y hy=>.inl hy⟩⟩
 show (S.heap.put a _).get y=some b
 rw [Tr.get_put_neB _ _ _ _ trivial (fun e=>hy (.inl e))];exact hb
theorem WAt.ld (j:Nat) {v:V} (hv:(bN c k lv ov)[j]?=some v):aM none (.ptr a 0 0 j) S=.ok v:=by
 rw [aX _ _ _ _ _ (aR h.cell)];exact aDg _ _ hv
theorem WAt.st (w:WF S) (j:Nat) (x:V) (c':Core) (k':Came) (hx:x.cells=[x]) (ho:x.one=true) (hj:j<40) (hc:splice (bN c k lv ov) j [x]=bN c' k' lv ov)
  (h1:c'.h.log=c.h.log) (h3:c'.out=c.out) (h4:c'.peers.length=7):
  ∃ S',bG 1 (.ptr a 0 0 j) x S=.ok S'∧WAt S' a c' k' lv ov rows∧Mv (qA a lv ov) S (qA a lv ov) S'∧S'.next=S.next:=by
 have hl:=jN c k lv ov h.peers
 have e:=dE (x:=x) (j:=j) (m:=1) h.cell (by rw [hx];rfl) (by rw [hx];simp [aH,ho]) (by omega)
 rw [hx,hc] at e
 exact ⟨_,e,(h.put w c' k' h1 h3 h4).1,(h.put w c' k' h1 h3 h4).2,rfl⟩
theorem WAt.r_term:aM none (.ptr a 0 0 0) S=.ok (.int .i64 c.h.term):=h.ld 0 rfl
theorem WAt.r_vote:aM none (.ptr a 0 0 1) S=.ok (.int .i64 c.h.vote):=h.ld 1 rfl
theorem WAt.r_base:aM none (.ptr a 0 0 2) S=.ok (.int .i64 c.h.base):=h.ld 2 rfl
theorem WAt.r_baseTerm:aM none (.ptr a 0 0 3) S=.ok (.int .i64 c.h.baseTerm):=h.ld 3 rfl
theorem WAt.r_mem:aM none (.ptr a 0 0 4) S=.ok (.int .i64 c.h.members):=h.ld 4 rfl
theorem WAt.r_snap:aM none (.ptr a 0 0 5) S=.ok (.str c.h.snap):=h.ld 5 rfl
theorem WAt.r_log:aM none (.ptr a 0 0 6) S=.ok lv:=h.ld 6 rfl
theorem WAt.r_id:aM none (.ptr a 0 0 7) S=.ok (.int .i64 c.id):=h.ld 7 rfl
theorem WAt.r_role:aM none (.ptr a 0 0 8) S=.ok (.int .i64 c.role):=h.ld 8 rfl
theorem WAt.r_leads:aM none (.ptr a 0 0 9) S=.ok (.int .i64 c.leads):=h.ld 9 rfl
theorem WAt.r_sure:aM none (.ptr a 0 0 10) S=.ok (.int .i64 c.sure):=h.ld 10 rfl
theorem WAt.r_drawn:aM none (.ptr a 0 0 11) S=.ok (.int .i64 c.drawn):=h.ld 11 rfl
theorem WAt.r_left:aM none (.ptr a 0 0 12) S=.ok (.int .i64 c.left):=h.ld 12 rfl
theorem WAt.r_votes:aM none (.ptr a 0 0 13) S=.ok (.int .i64 c.votes):=h.ld 13 rfl
theorem WAt.r_next {f:Nat} (hf:f<7):aM none (.ptr a 0 0 (14+f*1)) S=.ok (.int .i64 (c.peers.getD f ⟨0,0,0⟩).next):=h.ld _ (gB c k lv ov h.peers hf 0).1
theorem WAt.r_mtch {f:Nat} (hf:f<7):aM none (.ptr a 0 0 (21+f*1)) S=.ok (.int .i64 (c.peers.getD f ⟨0,0,0⟩).mtch):=h.ld _ (gB c k lv ov h.peers hf 0).2.1
theorem WAt.r_off {f:Nat} (hf:f<7):aM none (.ptr a 0 0 (28+f*1)) S=.ok (.int .i64 (c.peers.getD f ⟨0,0,0⟩).off):=h.ld _ (gB c k lv ov h.peers hf 0).2.2.1
theorem WAt.r_out:aM none (.ptr a 0 0 39) S=.ok ov:=h.ld _ (uD c k lv ov h.peers 0 [] .nils).2.2.2.2.1
theorem WAt.r_hard:aM (some 7) (.ptr a 0 0 0) S=.ok (.agg (bB c.h lv)):=by
 have hl:=jN c k lv ov h.peers
 rw [aX _ _ _ _ _ (aR h.cell),eS]
 rw [if_pos (by omega),aEc]
abbrev qB (S:St) (a j:Nat) (x:V) (c':Core) (k':Came) (lv ov:V) (rows:List (List V)):Prop:=∃ S',bG 1 (.ptr a 0 0 j) x S=.ok S'∧WAt S' a c' k' lv ov rows∧Mv (qA a lv ov) S (qA a lv ov) S'∧S'.next=S.next
theorem WAt.w_term (w:WF S) (x:Int):qB S a 0 (.int .i64 x) { c with h:={ c.h with term:=x } } k lv ov rows:=h.st w 0 _ _ _ rfl rfl (by decide) rfl rfl rfl h.peers
theorem WAt.w_vote (w:WF S) (x:Int):qB S a 1 (.int .i64 x) { c with h:={ c.h with vote:=x } } k lv ov rows:=h.st w 1 _ _ _ rfl rfl (by decide) rfl rfl rfl h.peers
theorem WAt.w_base (w:WF S) (x:Int):qB S a 2 (.int .i64 x) { c with h:={ c.h with base:=x } } k lv ov rows:=h.st w 2 _ _ _ rfl rfl (by decide) rfl rfl rfl h.peers
theorem WAt.w_baseTerm (w:WF S) (x:Int):qB S a 3 (.int .i64 x) { c with h:={ c.h with baseTerm:=x } } k lv ov rows:=h.st w 3 _ _ _ rfl rfl (by decide) rfl rfl rfl h.peers
theorem WAt.w_mem (w:WF S) (x:Int):qB S a 4 (.int .i64 x) { c with h:={ c.h with members:=x } } k lv ov rows:=h.st w 4 _ _ _ rfl rfl (by decide) rfl rfl rfl h.peers
theorem WAt.w_snap (w:WF S) (x:List UInt8):qB S a 5 (.str x) { c with h:={ c.h with snap:=x } } k lv ov rows:=h.st w 5 _ _ _ rfl rfl (by decide) rfl rfl rfl h.peers
theorem WAt.w_role (w:WF S) (x:Int):qB S a 8 (.int .i64 x) { c with role:=x } k lv ov rows:=h.st w 8 _ _ _ rfl rfl (by decide) rfl rfl rfl h.peers
theorem WAt.w_leads (w:WF S) (x:Int):qB S a 9 (.int .i64 x) { c with leads:=x } k lv ov rows:=h.st w 9 _ _ _ rfl rfl (by decide) rfl rfl rfl h.peers
theorem WAt.w_sure (w:WF S) (x:Int):qB S a 10 (.int .i64 x) { c with sure:=x } k lv ov rows:=h.st w 10 _ _ _ rfl rfl (by decide) rfl rfl rfl h.peers
theorem WAt.w_drawn (w:WF S) (x:Int):qB S a 11 (.int .i64 x) { c with drawn:=x } k lv ov rows:=h.st w 11 _ _ _ rfl rfl (by decide) rfl rfl rfl h.peers
theorem WAt.w_left (w:WF S) (x:Int):qB S a 12 (.int .i64 x) { c with left:=x } k lv ov rows:=h.st w 12 _ _ _ rfl rfl (by decide) rfl rfl rfl h.peers
theorem WAt.w_votes (w:WF S) (x:Int):qB S a 13 (.int .i64 x) { c with votes:=x } k lv ov rows:=h.st w 13 _ _ _ rfl rfl (by decide) rfl rfl rfl h.peers
theorem WAt.w_next (w:WF S) {f:Nat} (hf:f<7) (x:Int):qB S a (14+f*1) (.int .i64 x) { c with peers:=c.peers.set f { c.peers.getD f ⟨0,0,0⟩ with next:=x } } k lv ov rows:=
 h.st w _ _ _ _ rfl rfl (by omega) (gB c k lv ov h.peers hf x).2.2.2.1 rfl rfl (by show (c.peers.set f _).length=7;rw [List.length_set];exact h.peers)
theorem WAt.w_mtch (w:WF S) {f:Nat} (hf:f<7) (x:Int):qB S a (21+f*1) (.int .i64 x) { c with peers:=c.peers.set f { c.peers.getD f ⟨0,0,0⟩ with mtch:=x } } k lv ov rows:=
 h.st w _ _ _ _ rfl rfl (by omega) (gB c k lv ov h.peers hf x).2.2.2.2.1 rfl rfl (by show (c.peers.set f _).length=7;rw [List.length_set];exact h.peers)
theorem WAt.w_off (w:WF S) {f:Nat} (hf:f<7) (x:Int):qB S a (28+f*1) (.int .i64 x) { c with peers:=c.peers.set f { c.peers.getD f ⟨0,0,0⟩ with off:=x } } k lv ov rows:=
 h.st w _ _ _ _ rfl rfl (by omega) (gB c k lv ov h.peers hf x).2.2.2.2.2 rfl rfl (by show (c.peers.set f _).length=7;rw [List.length_set];exact h.peers)
theorem WAt.w_out (w:WF S) {S1:St} (w1:WF S1) (hn:S.next≤S1.next) (hk:∀ y b,S.heap.get y=some b→aO ov≠some y→S1.heap.get y=some b) {ov':V} {rows':List (List V)} (hout:Mn S1 13 ov' rows') (hb:∀ y,aO ov'=some y→aO ov=some y∨S.next≤y)
  {out':List Letter} (hlets:All2 (LetAt S (aO lv)) out' rows') (hgd:Gd S1 rows'):
  ∃ S2,bG 1 (.ptr a 0 0 39) ov' S1=.ok S2∧WAt S2 a { c with out:=out' } k lv ov' rows'∧Mv (qA a lv ov) S (qA a lv ov') S2∧S2.next=S1.next:=by
 have hl:=jN c k lv ov h.peers
 have ga:S1.heap.get a=some (.row 0 40 [bN c k lv ov]):=hk _ _ h.cell (h.out.neRow h.cell (by decide))
 have hone:=hout.cells
 have e:=dE (x:=ov') (j:=39) (m:=1) ga (by rw [hone.1];rfl) (by rw [hone.1];simp [aH,hone.2]) (by omega)
 rw [hone.1,(uD c k lv ov h.peers 0 [] ov').2.2.2.2.2.2.2.2.2] at e
 have kk:∀ n,n≠13→n≠40→KeepW n S (⟨S1.next,S1.heap.put a (.row 0 40 [bN c k lv ov'])⟩:St):=fun n h1 h2=>
  KeepW.trans (fun y ver el g=>hk _ _ g (h.out.neRow g (Ne.symm h1))) (KeepW.put ga h2 _)
 refine ⟨_,e,⟨Tr.get_put_sameB _ _ _ trivial,h.peers,h.log.keepW hn (kk 3 (by decide) (by decide)),hout.keepW (Nat.le_refl _) (KeepW.put ga (by decide) _),All2.imp (fun m cs q=>q.keep (fun y ver el _ g=>kk 3 (by decide) (by decide) _ _ _ g) (fun y _ h=>h) w) hlets,hgd⟩,⟨⟨fun y b hy hb'=>?_,hn,fun _=>(But.put (w1 _ _ ga) _).wf w1⟩,fun y hy=>?_⟩,rfl⟩
 ·show (S1.heap.put a _).get y=some b
  rw [Tr.get_put_neB _ _ _ _ trivial (fun e=>hy (.inl e))]
  exact hk y b hb' (fun e=>hy (.inr (.inr e)))
 ·rcases hy with hy | hy | hy
  ·exact .inl (.inl hy)
  ·exact .inl (.inr (.inl hy))
  ·exact (hb y hy).imp (fun q=>.inr (.inr q)) id
theorem WAt.w_log (w:WF S) {S1:St} (w1:WF S1) (hn:S.next≤S1.next) (hk:∀ y b,S.heap.get y=some b→aO lv≠some y→S1.heap.get y=some b) {lv':V} {l':List Entry} (hlog:Mn S1 3 lv' (l'.map bV)) (hb:∀ y,aO lv'=some y→aO lv=some y∨S.next≤y):
  ∃ S2,bG 1 (.ptr a 0 0 6) lv' S1=.ok S2∧WAt S2 a { c with h:={ c.h with log:=l' } } k lv' ov rows∧Mv (qA a lv ov) S (qA a lv' ov) S2∧S2.next=S1.next:=by
 have hl:=jN c k lv ov h.peers
 have ga:S1.heap.get a=some (.row 0 40 [bN c k lv ov]):=hk _ _ h.cell (h.log.neRow h.cell (by decide))
 have hone:=hlog.cells
 have e:=dE (x:=lv') (j:=6) (m:=1) ga (by rw [hone.1];rfl) (by rw [hone.1];simp [aH,hone.2]) (by omega)
 have hsp:splice (bN c k lv ov) 6 [lv']=bN { c with h:={ c.h with log:=l' } } k lv' ov:=rfl
 rw [hone.1,hsp] at e
 have kk:∀ n,n≠3→n≠40→KeepW n S (⟨S1.next,S1.heap.put a (.row 0 40 [bN { c with h:={ c.h with log:=l' } } k lv' ov])⟩:St):=fun n h1 h2=>
  KeepW.trans (fun y ver el g=>hk _ _ g (h.log.neRow g (Ne.symm h1))) (KeepW.put ga h2 _)
 have hlets:All2 (LetAt (⟨S1.next,S1.heap.put a (.row 0 40 [bN { c with h:={ c.h with log:=l' } } k lv' ov])⟩:St) (aO lv')) c.out rows:=by
  refine All2.imp (fun m cs q=>q.keep (fun y ver el hy g=>?_) (fun y hy h1 h2=>?_) w) h.lets
  ·exact (KeepW.put ga (by decide) _:KeepW 3 S1 _) _ _ _ (hk _ _ g hy)
  ·rcases hb y h2 with h3 | h3
   ·exact h1 h3
   ·omega
 refine ⟨_,e,⟨Tr.get_put_sameB _ _ _ trivial,h.peers,hlog.keepW (Nat.le_refl _) (KeepW.put ga (by decide) _),h.out.keepW hn (kk 13 (by decide) (by decide)),hlets,h.gd.mono hn⟩,⟨⟨fun y b hy hb'=>?_,hn,fun _=>(But.put (w1 _ _ ga) _).wf w1⟩,fun y hy=>?_⟩,rfl⟩
 ·show (S1.heap.put a _).get y=some b
  rw [Tr.get_put_neB _ _ _ _ trivial (fun e=>hy (.inl e))]
  exact hk y b hb' (fun e=>hy (.inr (.inl e)))
 ·rcases hy with hy | hy | hy
  ·exact .inl (.inl hy)
  ·exact (hb y hy).imp (fun q=>.inr (.inl q)) id
  ·exact .inl (.inr (.inr hy))
end
theorem WIn.ext {S S':St} {a:Nat} {c:Core} {O:Nat→Prop} (h:WIn S a c O) (w:WF S) (x:Ext S S'):WIn S' a c O:=by
 obtain ⟨lv,ov,rows,h,rfl⟩:=h
 exact ⟨lv,ov,rows,h.ext w x,rfl⟩
theorem WIn.peers {S:St} {a:Nat} {c:Core} {O:Nat→Prop} (h:WIn S a c O):c.peers.length=7:=by
 obtain ⟨lv,ov,rows,h,rfl⟩:=h
 exact h.peers
end
end Go.Raft
end
section
namespace Go.Proofs.Ytbiidlmhadihlaa
open Go.AM Go.Raft Try
section
variable [Guard]
abbrev WMeth (f:FuncId) (args:List V) (a:Nat) (c':Core) (S:St) (O:Nat→Prop) (v:V):Prop:=Does prog bD bE f args S fun u S'=>u=v∧∃ O',WIn S' a c' O'∧Mv O S O' S'
theorem WMeth.call {f:FuncId} {args:List V} {a:Nat} {c':Core} {S:St} {O:Nat→Prop} {v:V} (h:WMeth f args a c' S O v) (w:WF S) {G:Nat→KS→V→St→An} {R:V→St→Prop} (k:∀ S' O',WF S'→WIn S' a c' O'→Mv O S O' S'→Ok (fun k K=>G k K v S') R):
  Ok (fun k K=>aC prog bD bE k f args S (fun v S=>G k K v S)) R:=Does.call h fun u S' ⟨e,O',h1,h2⟩=>by subst e;exact k S' O' (h2.wf w) h1 h2
theorem WMeth.callL {X:Type} {out:Nat→KS→X→St→An} {Q:Turn X→Prop} {f:FuncId} {args:List V} {a:Nat} {c':Core} {S:St} {O:Nat→Prop} {v:V} (h:WMeth f args a c' S O v) (w:WF S) {G:Nat→KS→Ag→V→St→An} (k:∀ S' O',WF S'→WIn S' a c' O'→Mv O S O' S'→OkL out (fun k K aK=>G k K aK v S') Q):
  OkL out (fun k K aK=>aC prog bD bE k f args S (fun v S=>G k K aK v S)) Q:=OkL.call h fun u S' ⟨e,O',h1,h2⟩=>by subst e;exact k S' O' (h2.wf w) h1 h2
section
variable {S:St} {a:Nat} {c:Core} {O:Nat→Prop} {k:Came} {lv ov:V} {rows:List (List V)}
end
end
end Go.Proofs.Ytbiidlmhadihlaa
end
section
namespace Go.Raft
open Go.AM
section
variable [Guard]
theorem WAt.w_logN {S B:St} {a:Nat} {c c0:Core} {k k0:Came} {lv ov:V} {rows:List (List V)} (h:WAt S a c k lv ov rows) (w:WF S) (h0:WAt B a c0 k0 lv ov rows) (wB:WF B) (hout:c0.out=c.out)
  {lv':V} {l':List Entry} (hlog:Mn S 3 lv' (l'.map bV)) (hb:∀ y,aO lv'=some y→B.next≤y):
  ∃ S2,bG 1 (.ptr a 0 0 6) lv' S=.ok S2∧WAt S2 a { c with h:={ c.h with log:=l' } } k lv' ov rows∧MvB B.next (qA a lv ov) S (qA a lv' ov) S2∧S2.next=S.next:=by
 have hl:=jN c k lv ov h.peers
 have ga:=h.cell
 have hone:=hlog.cells
 have e:=dE (x:=lv') (j:=6) (m:=1) ga (by rw [hone.1];rfl) (by rw [hone.1];simp [aH,hone.2]) (by omega)
 have hsp:splice (bN c k lv ov) 6 [lv']=bN { c with h:={ c.h with log:=l' } } k lv' ov:=rfl
 rw [hone.1,hsp] at e
 have kk:∀ n,n≠40→KeepW n S (⟨S.next,S.heap.put a (.row 0 40 [bN { c with h:={ c.h with log:=l' } } k lv' ov])⟩:St):=fun n h2=>KeepW.put ga h2 _
 have hl2:=aBz wB h.lets (by rw [←hout];exact h0.lets)
 have hlets:All2 (LetAt (⟨S.next,S.heap.put a (.row 0 40 [bN { c with h:={ c.h with log:=l' } } k lv' ov])⟩:St) (aO lv')) c.out rows:=by
  refine All2.imp (fun m cs q=>?_) hl2
  obtain ⟨ev,e1,s1,s2⟩:=q
  refine ⟨ev,e1,s1.keep (fun y b hy hg=>?_),fun y hy h2=>?_⟩
  ·show (S.heap.put a _).get y=some b
   rw [Tr.get_put_neB _ _ _ _ trivial (fun e2=>?_)]
   ·exact hg
   ·subst e2
    rcases s1.is with ⟨e3,_⟩ | e3 | ⟨a',ver,off,elems,e3,g,_⟩
    ·rw [e3] at hy;cases hy
    ·rw [e3] at hy;cases hy
    ·rw [e3] at hy;cases hy
     have g':=eY g
     rw [h.cell] at g'
     injection g' with g'
     injection g' with _ g'
     exact absurd g' (by decide)
  ·have h3:=hb y h2
   have h4:=(s2 y hy).2
   omega
 refine ⟨_,e,⟨Tr.get_put_sameB _ _ _ trivial,h.peers,hlog.keepW (Nat.le_refl _) (kk 3 (by decide)),h.out.keepW (Nat.le_refl _) (kk 13 (by decide)),hlets,h.gd⟩,⟨fun y b _ hy hb'=>?_,Nat.le_refl _,fun _=>(But.put (h.lt w) _).wf w,fun y hy=>?_⟩,rfl⟩
 ·show (S.heap.put a _).get y=some b
  rw [Tr.get_put_neB _ _ _ _ trivial (fun e=>hy (.inl e))]
  exact hb'
 ·rcases hy with hy | hy | hy
  ·exact .inl (.inl hy)
  ·exact .inr (hb y hy)
  ·exact .inl (.inr (.inr hy))
end
end Go.Raft
end
section
namespace Go.Proofs.Ytbiidlmhadihlaa
open Go.AM Go.Raft Try
section
variable [Guard]
section
variable {S:St} {a:Nat} {c:Core} {O:Nat→Prop}
structure EntW (a:Nat) (c:Core) (O:Nat→Prop) (S:St) (b:Nat) (m:Letter) (ev:V) (h:Hard) (S':St) (O':Nat→Prop):Prop where
 wf:WF S'
 core:WIn S' a { c with h:=h } O'
 mv:Mv O S O' S'
 l:LetIn S' O' b m ev
theorem EntW.next {b:Nat} {m:Letter} {ev:V} {h h':Hard} {S' S'':St} {O' O'':Nat→Prop} (w:WF S) (e:EntW a c O S b m ev h S' O') (i:WIn S'' a { c with h:=h' } O'') (k:Mv O' S' O'' S''):EntW a c O S b m ev h' S'' O'':=
 ⟨k.wf e.wf,i,e.mv.trans w k,e.l.mv e.wf k⟩
end
end
section
variable [Guard]
structure Two (S0 S:St) (m n:Letter) (u:V) (b1 b2:Nat):Prop where
 x:Ext S0 S
 w0:WF S0
 w:WF S
 g1:S.heap.get b1=some (.row 0 13 [aG m u])
 g2:S.heap.get b2=some (.row 0 13 [aG n .nils])
 ne:b1≠b2
 ge:S0.next≤b2
section
variable {S0 S:St} {m n:Letter} {u:V} {b1 b2:Nat}
theorem Two.ext {S':St} (T:Two S0 S m n u b1 b2) (x:Ext S S'):Two S0 S' m n u b1 b2:=⟨T.x.trans x,T.w0,x.wf T.w,x.old _ _ T.g1,x.old _ _ T.g2,T.ne,T.ge⟩
theorem Two.st (T:Two S0 S m n u b1 b2) (j:Nat) (x:V) (n':Letter) (hx:x.cells=[x]) (ho:x.one=true) (hj:j<13) (hc:splice (aG n .nils) j [x]=aG n' .nils):
  ∃ S',bG 1 (.ptr b2 0 0 j) x S=.ok S'∧Two S0 S' m n' u b1 b2∧S'.next=S.next:=by
 have hl:(aG n .nils).length=13:=rfl
 have e:=dE (x:=x) (j:=j) (m:=1) T.g2 (by rw [hx];rfl) (by rw [hx];simp [aH,ho]) (by omega)
 rw [hx,hc] at e
 have hlt:=T.w _ _ T.g2
 have xs:=T.x.set T.ge hlt T.w0 (.row 0 13 [aG n' .nils])
 refine ⟨_,e,⟨xs,T.w0,xs.wf T.w0,?_,Tr.get_put_sameB _ _ _ trivial,T.ne,T.ge⟩,rfl⟩
 show (S.heap.put b2 _).get b1=_
 rw [Tr.get_put_neB _ _ _ _ trivial T.ne];exact T.g1
end
end
end Go.Proofs.Ytbiidlmhadihlaa
end
section
namespace Go.Raft
open Go.AM
def Sm (c d:Core):Prop:=(∀ m∈c.out,m.entries.length≤8)→∀ m∈d.out,m.entries.length≤8
theorem Sm.trans {c d e:Core} (h:Sm c d) (k:Sm d e):Sm c e:=fun q=>k (h q)
theorem Sm.same {c d:Core} (h:d.out=c.out):Sm c d:=fun q=>by rw [h];exact q
end Go.Raft
end
section
namespace Go.Raft
open Go.AM
theorem All2.get {α β:Type} {R:α→β→Prop}:∀ {l:List α} {r:List β},All2 R l r→∀ {i:Nat} {m:α},l[i]?=some m→∃ cs,r[i]?=some cs∧R m cs
 | _,_,.nil,i,m,h=>by cases h
 | _,_,.cons x y,0,m,h=>by cases h;exact ⟨_,rfl,x⟩
 | _,_,.cons x y,i+1,m,h=>All2.get y h
end Go.Raft
namespace Go.Proofs.Ytbiidlmhadihlaa
open Go.AM Go.Raft Try
set_option linter.unusedVariables false
set_option linter.unusedSectionVars false
set_option linter.unusedSimpArgs false
set_option maxRecDepth 100000
variable [Guard]
end Go.Proofs.Ytbiidlmhadihlaa
end
section
namespace Go.Proofs.Ytbiidlmhadihlaa
open Go.AM Go.Raft Try
set_option linter.unusedVariables false
set_option linter.unusedSectionVars false
set_option linter.unusedSimpArgs false
set_option maxRecDepth 100000
variable [Guard]
section
variable {S S':St} {a:Nat} {c:Core} {k:Came} {lv wv dv ov:V} {rows:List (List V)} {P P':Nat→Prop}
theorem tJ {L:Option Nat} (w:WF S) (m:Mv P S P' S'):∀ {out:List Letter} {rows:List (List V)},All2 (LetAt S L) out rows→(∀ r∈rows,∀ ev,r[12]?=some ev→∀ y,aO ev=some y→¬ P y)→All2 (LetAt S' L) out rows
 | _,_,.nil,_=>.nil
 | _,_,.cons ⟨ev,e,h1,h2⟩ t,hp=>.cons ⟨ev,e,m.sl h1 (fun y hy=>hp _ (List.mem_cons_self ..) ev (by rw [e];rfl) y hy),h2⟩ (tJ w m t fun r hr=>hp r (List.mem_cons_of_mem _ hr))
theorem CoreAt.apart (h:CoreAt S a c lv wv dv ov rows) (w:WF S) (m:Mv P S P' S') (d:∀ y,own a lv wv dv ov y→¬ P y) (hp:∀ r∈rows,∀ ev,r[12]?=some ev→∀ y,aO ev=some y→¬ P y):CoreAt S' a c lv wv dv ov rows:=by
 have kk:∀ {y b},own a lv wv dv ov y→S.heap.get y=some b→S'.heap.get y=some b:=fun ho hb=>m.keep _ _ (d _ ho) hb
 refine ⟨kk (.inl rfl) h.cell,h.peers,Mn.fr h.log m.next fun y b hy hb=>kk (.inr (.inl hy)) hb,?_,Mn.fr h.out m.next fun y b hy hb=>kk (.inr (.inr (.inr (.inr hy)))) hb,tJ w m h.lets hp,h.gd.mono m.next⟩
 have hw:=h.way
 unfold WayAt at hw ⊢
 split at hw
 ·exact hw
 ·obtain ⟨b,e,g,n⟩:=hw
  exact ⟨b,e,kk (.inr (.inr (.inl (by rw [e];rfl)))) g,Mn.fr n m.next fun y b hy hb=>kk (.inr (.inr (.inr (.inl hy)))) hb⟩
theorem WAt.apart (h:WAt S a c k lv ov rows) (w:WF S) (m:Mv P S P' S') (d:∀ y,qA a lv ov y→¬ P y) (hp:∀ r∈rows,∀ ev,r[12]?=some ev→∀ y,aO ev=some y→¬ P y):WAt S' a c k lv ov rows:=by
 have kk:∀ {y b},qA a lv ov y→S.heap.get y=some b→S'.heap.get y=some b:=fun ho hb=>m.keep _ _ (d _ ho) hb
 exact ⟨kk (.inl rfl) h.cell,h.peers,Mn.fr h.log m.next fun y b hy hb=>kk (.inr (.inl hy)) hb,Mn.fr h.out m.next fun y b hy hb=>kk (.inr (.inr hy)) hb,tJ w m h.lets hp,h.gd.mono m.next⟩
theorem rows_nil (h:All2 (LetAt S (aO lv)) [] rows):rows=[]:=by cases h;rfl
theorem aVe (w:WF S) (h:CoreAt S a c lv wv dv ov rows):Does prog bD bE 27 [.ptr a 0 0 0] S (fun u S'=>u=ov∧CoreAt S' a { c with out:=[] } lv wv dv .nils []∧Mv (own a lv wv dv ov) S (own a lv wv dv .nils) S'∧Mn S' 13 ov rows∧All2 (LetAt S' (aO lv)) c.out rows):=by
 obtain ⟨S1,q1,h1,m1,n1⟩:=h.w_out w w (Nat.le_refl _) (fun y b hy _=>hy) (ov':=.nils) (rows':=[]) (Own.nil _ _ _) ⟨rfl,rfl⟩ (fun y hy=>by cases hy) (out':=[]) .nil (Gd.nil h.gd.1)
 refine e27 ?_
 simp only [m27,aQ,aH5,aJ,Nat.reduceAdd,aF,aRz,h.r_out,aS3,q1]
 have e:=q1
 rw [dE (x:=.nils) (j:=36) (m:=1) h.cell rfl rfl (by rw [cU _ _ _ _ h.peers];omega)] at e
 cases e
 have hk:∀ n,n≠37→KeepW n S (⟨S.next,S.heap.put a (.row 0 37 [splice (bI c lv wv ov) 36 (V.nils).cells])⟩:St):=fun n hn=>KeepW.put h.cell hn _
 exact Ok.ret ⟨rfl,h1,m1,h.out.keepW (Nat.le_refl _) (hk 13 (by decide)),All2.imp (fun m cs q=>q.keep (fun y ver el _ g=>hk 3 (by decide) _ _ _ g) (fun y _ h=>h) w) h.lets⟩
end
end Go.Proofs.Ytbiidlmhadihlaa
namespace Go.Raft
open Go.AM
theorem CoreAt.reguard {n n':Nat} {S:St} {a:Nat} {c:Core} {lv wv dv ov:V} (h:@CoreAt ⟨n⟩ S a c lv wv dv ov []) (hn:n'≤S.next):@CoreAt ⟨n'⟩ S a c lv wv dv ov []:=
 @CoreAt.mk ⟨n'⟩ S a c lv wv dv ov [] (@CoreAt.cell ⟨n⟩ _ _ _ _ _ _ _ _ h) (@CoreAt.peers ⟨n⟩ _ _ _ _ _ _ _ _ h) (@CoreAt.log ⟨n⟩ _ _ _ _ _ _ _ _ h) (@CoreAt.way ⟨n⟩ _ _ _ _ _ _ _ _ h) (@CoreAt.out ⟨n⟩ _ _ _ _ _ _ _ _ h) (@CoreAt.lets ⟨n⟩ _ _ _ _ _ _ _ _ h) ⟨hn,fun r hr=>by cases hr⟩
theorem WAt.reguard {n n':Nat} {S:St} {a:Nat} {c:Core} {k:Came} {lv ov:V} (h:@WAt ⟨n⟩ S a c k lv ov []) (hn:n'≤S.next):@WAt ⟨n'⟩ S a c k lv ov []:=
 @WAt.mk ⟨n'⟩ S a c k lv ov [] (@WAt.cell ⟨n⟩ _ _ _ _ _ _ _ h) (@WAt.peers ⟨n⟩ _ _ _ _ _ _ _ h) (@WAt.log ⟨n⟩ _ _ _ _ _ _ _ h) (@WAt.out ⟨n⟩ _ _ _ _ _ _ _ h) (@WAt.lets ⟨n⟩ _ _ _ _ _ _ _ h) ⟨hn,fun r hr=>by cases hr⟩
end Go.Raft
end
section
namespace Go.Proofs.Ytbiidlmhadihlaa
open Go.AM Go.Raft Try
section
theorem eM {α:Type} (x:α) (f:α→An):dR (.ok x) f=f x:=by rw [aF]
theorem qC (x:An):bY true x=x:=by rw [aP]
theorem kO (x y:An):aE (.bool true) x y=x:=by rw [bQ]
section
variable {n1 n2 a1 a2:Nat} {S:St} {c:Core} {lv wv dv ov lw ow:V} {rows rw':List (List V)}
end
end
end Go.Proofs.Ytbiidlmhadihlaa
end
section
namespace Go.Raft
abbrev kC:=List Entry
def eA (l:kC):Nat→Int
 | 0=>0
 | n+1=>match l[n]? with
  | some x=>x.term
  | none=>0
def ci:kC→Nat
 | []=>0
 | x::l=>if 0<ci l then ci l+1 else if x.members=0 then 0 else 1
def cfg (m:Int):kC→Int
 | []=>m
 | x::l=>cfg (if x.members=0 then m else x.members) l
theorem aHi (x:Entry) (l:kC):ci (x::l)=if 0<ci l then ci l+1 else if x.members=0 then 0 else 1:=rfl
theorem aEd (m:Int) (x:Entry) (l:kC):cfg m (x::l)=cfg (if x.members=0 then m else x.members) l:=rfl
theorem aLa:∀ (l:kC) (b:Int) (r:Int×Int),ofL b l r=(cfg r.1 l,if 0<ci l then b+ci l else r.2)
 | [],b,r=>by simp [ofL,cfg,ci]
 | x::l,b,r=>by
  rw [ofL,aLa l,aEd,aHi]
  by_cases h0:0<ci l<;>by_cases hx:x.members=0<;>simp [h0,hx]<;>omega
def Mono (l:kC):Prop:=l.Pairwise fun x y=>x.term≤y.term
theorem Mono.take {l:kC} (h:Mono l) (n:Nat):Mono (l.take n):=h.sublist (List.take_sublist n l)
theorem Mono.le {l:kC} (h:Mono l) {i j:Nat} {x y:Entry} (hi:l[i]?=some x) (hj:l[j]?=some y) (hij:i≤j):x.term≤y.term:=by
 obtain ⟨h1,e1⟩:=List.getElem?_eq_some_iff.1 hi
 obtain ⟨h2,e2⟩:=List.getElem?_eq_some_iff.1 hj
 rcases Nat.lt_or_eq_of_le hij with h3 | h3
 ·have:=List.pairwise_iff_getElem.1 h i j h1 h2 h3
  rw [e1,e2] at this;exact this
 ·subst h3
  rw [hi] at hj;cases hj;exact Int.le_refl _
theorem aLb {a b:kC} {n i:Nat} (h:a.take n=b.take n) (hi:i<n):a[i]?=b[i]?:=by
 have:=congrArg (fun l=>l[i]?) h
 simpa [List.getElem?_take,hi] using this
theorem rS {p l:kC} (h:p <+: l):l.take p.length=p:=(List.prefix_iff_eq_take.1 h).symm
theorem aNa {a l:kC} {n:Nat} (hn:n≤a.length):a.take n <+: l↔n≤l.length∧l.take n=a.take n:=by
 have hl:(a.take n).length=n:=by rw [List.length_take];omega
 constructor
 ·intro h
  have h1:=h.length_le
  have h2:=rS h
  rw [hl] at h1 h2
  exact ⟨h1,h2⟩
 ·rintro ⟨h1,h2⟩
  rw [←h2]
  exact List.take_prefix n l
theorem aLc {l:kC} {n:Nat} {x:Entry} (h:l[n]?=some x):eA l (n+1)=x.term:=by
 show (match l[n]? with
  | some x=>x.term
  | none=>0)=x.term
 rw [h]
def Maj (m:Int) (P:Int→Prop):Prop:=∃ yes,mV m yes=true∧∀ id,cZ yes id=true→P id
theorem Maj.imp {m:Int} {P Q:Int→Prop} (h:∀ id,P id→Q id) (k:Maj m P):Maj m Q:=by
 obtain ⟨y,h1,h2⟩:=k
 exact ⟨y,h1,fun id hid=>h id (h2 id hid)⟩
def Near (m n:Int):Prop:=m=n∨gU (aKr m n)=1
theorem aIs (f:Int→Bool):∀ i∈ids,cZ ((ids.map fun i=>if f i=true then (2:Int) ^ i.toNat else 0).sum) i=f i:=by
 simp only [ids,List.map_cons,List.map_nil,List.mem_cons,List.not_mem_nil,or_false]
 rintro i (rfl | rfl | rfl | rfl | rfl | rfl | rfl) <;>
  cases f 0<;>cases f 1<;>cases f 2<;>cases f 3<;>cases f 4<;>cases f 5<;>cases f 6<;>decide
theorem aG4 (f:Int→Bool):gU ((ids.map fun i=>if f i=true then (2:Int) ^ i.toNat else 0).sum)=((ids.filter f).length:Int):=by
 unfold gU jK
 rw [List.filter_congr (fun i hi=>aIs f i hi)]
theorem aIt (m n:Int):gU (aKr m n)=((ids.filter fun i=>cZ m i != cZ n i).length:Int):=by
 have h:=aG4 (fun i=>cZ m i != cZ n i)
 have e:aKr m n=((ids.map fun i=>if (cZ m i != cZ n i)=true then (2:Int) ^ i.toNat else 0).sum):=by
  unfold aKr
  congr 1
  apply List.map_congr_left
  intro i _
  cases cZ m i<;>cases cZ n i<;>rfl
 rw [e];exact h
theorem aLd {p q:Int→Bool} (h:∀ i,p i=q i) (l:List Int):(l.filter p).length=(l.filter q).length:=by
 have:p=q:=funext h
 rw [this]
theorem Near.symm {m n:Int} (h:Near m n):Near n m:=by
 rcases h with rfl | h
 ·exact .inl rfl
 ·refine .inr ?_
  rw [aIt] at h ⊢
  rw [←h,aLd (p:=fun i=>cZ n i != cZ m i) (q:=fun i=>cZ m i != cZ n i)]
  intro i
  cases cZ m i<;>cases cZ n i<;>rfl
section
structure El where
 cand:Int
 e:Nat
 vs:Int
structure Gho where
 m0:Int
 LL:Int→kC
 el:Int→Option El
 ack:Int→Int→Nat
 vt:Int→Int→Option (Int×kC)
 full:Int→kC
def Gho.beg (G:Gho) (T:Int):kC:=match G.el T with
 | some x=>(G.LL T).take x.e
 | none=>[]
structure Cert (G:Gho) (T:Int) (n m:Nat):Prop where
 n1:1≤n
 nm:n≤m
 ml:m≤(G.LL T).length
 el:G.el T≠none
 tm:eA (G.LL T) n=T
 q:Maj (cfg G.m0 ((G.LL T).take m)) fun v=>n≤G.ack v T
def Fits (G:Gho) (l:kC):Prop:=∀ n x,l[n]?=some x→G.el x.term≠none∧n<(G.LL x.term).length∧(G.LL x.term).take (n+1)=l.take (n+1)
def aIu (l E:kC):Prop:=eA l l.length<eA E E.length∨eA l l.length=eA E E.length∧l.length≤E.length
def Bad (G:Gho) (T:Int) (n:Nat) (W:Int):Prop:=G.el W≠none∧¬ (G.LL T).take n <+: G.beg W
structure Elec (G:Gho) (U:Int) (E:kC) (P:Int→Prop) (k:Int):Prop where
 mono:Mono E
 low:∀ x∈E,x.term<U
 fits:Fits G E
 q:Maj (cfg G.m0 E) P
 v:∀ v,P v→∃ lg,G.vt v U=some (k,lg)∧aIu lg E∧Mono lg∧Fits G lg∧∀ T n,T<U→1≤n→n≤G.ack v T→(G.LL T).take n <+: lg∨∃ W,T<W∧W<U∧Bad G T n W
structure GH (G:Gho):Prop where
 pos:∀ T,G.el T≠none→1≤T
 elen:∀ T x,G.el T=some x→x.e≤(G.LL T).length
 mono:∀ T,Mono (G.LL T)
 fits:∀ T,Fits G (G.LL T)
 own:∀ T x,G.el T=some x→∀ n y,(G.LL T)[n]?=some y→(x.e≤n→y.term=T)∧(n<x.e→y.term<T)
 nul:∀ T,G.el T=Option.none→G.LL T=[]
 conf:∀ T x,G.el T=some x→∀ n y,x.e≤n→(G.LL T)[n]?=some y→y.members≠0→
  ∃ s m,Cert G T s m∧m≤n∧ci ((G.LL T).take n)≤s∧aIj (cfg G.m0 ((G.LL T).take n)) y.members=true
 acks:∀ v T,1≤G.ack v T→G.el T≠none∧G.ack v T≤(G.LL T).length
 elec:∀ T x,G.el T=some x→Elec G T (G.beg T) (fun v=>cZ x.vs v=true) x.cand
 self:∀ T x,G.el T=some x→∃ lg,G.vt x.cand T=some (x.cand,lg)
variable {G:Gho}
theorem aEe {T:Int} {x:El} (h:G.el T=some x):G.beg T=(G.LL T).take x.e:=by unfold Gho.beg;rw [h]
theorem aNb (T:Int):G.beg T <+: G.LL T:=by
 unfold Gho.beg
 split
 ·exact List.take_prefix _ _
 ·exact List.nil_prefix
theorem aC0 {T:Int} (h:G.el T≠none):∃ x,G.el T=some x:=by
 cases e:G.el T with
 | none=>exact absurd e h
 | some x=>exact ⟨x,rfl⟩
theorem aG5 {l:kC} {n:Nat} (h0:1≤n) (h1:n≤l.length):∃ x,l[n - 1]?=some x∧eA l n=x.term:=by
 have hl:n - 1<l.length:=by omega
 refine ⟨l[n - 1],List.getElem?_eq_getElem hl,?_⟩
 have h:=aLc (List.getElem?_eq_getElem hl)
 rwa [show n - 1+1=n by omega] at h
theorem jU {l:kC} {n m:Nat} (h:n≤m):eA (l.take m) n=eA l n:=by
 cases n with
 | zero=>rfl
 | succ n=>
  show (match (l.take m)[n]? with
   | some x=>x.term
   | none=>0)=(match l[n]? with
   | some x=>x.term
   | none=>0)
  rw [List.getElem?_take,if_pos (by omega)]
theorem Fits.pre {p l:kC} (h:Fits G l) (hp:p <+: l):Fits G p:=by
 intro n x hx
 obtain ⟨hn,_⟩:=List.getElem?_eq_some_iff.1 hx
 have e:l.take p.length=p:=rS hp
 have hl:l[n]?=some x:=by
  rw [←hx]
  conv=>rhs;rw [←e]
  rw [List.getElem?_take,if_pos hn]
 obtain ⟨h1,h2,h3⟩:=h n x hl
 refine ⟨h1,h2,?_⟩
 rw [h3]
 conv=>rhs;rw [←e]
 rw [List.take_take,Nat.min_eq_left (by omega)]
theorem Fits.at {l:kC} (h:Fits G l) {n:Nat} (h0:1≤n) (h1:n≤l.length) {T:Int} (ht:eA l n=T):G.el T≠none∧n≤(G.LL T).length∧(G.LL T).take n=l.take n:=by
 obtain ⟨x,hx,e⟩:=aG5 h0 h1
 rw [e] at ht
 subst ht
 obtain ⟨a1,a2,a3⟩:=h _ _ hx
 have e:n - 1+1=n:=by omega
 rw [e] at a3
 exact ⟨a1,by omega,a3⟩
theorem Fits.same {l k:kC} (h:Fits G l) (h':Fits G k) {n:Nat} (h1:n≤l.length) (h2:n≤k.length) (ht:eA l n=eA k n):l.take n=k.take n:=by
 rcases Nat.eq_zero_or_pos n with h0 | h0
 ·subst h0;rfl
 ·rw [←(h.at h0 h1 ht).2.2,←(h'.at h0 h2 rfl).2.2]
section
variable (H:GH G)
include H
end
end
section
structure Le (G G':Gho):Prop where
 m0:G'.m0=G.m0
 el:∀ T x,G.el T=some x→G'.el T=some x
 LL:∀ T,G.LL T <+: G'.LL T
 ack:∀ v T,G.ack v T≤G'.ack v T
 vt:∀ v T x,G.vt v T=some x→G'.vt v T=some x
theorem Le.refl (G:Gho):Le G G:=⟨rfl,fun _ _ h=>h,fun _=>List.prefix_refl _,fun _ _=>Nat.le_refl _,fun _ _ _ h=>h⟩
theorem Le.trans {A B C:Gho} (h:Le A B) (k:Le B C):Le A C:=
 ⟨k.m0.trans h.m0,fun T x e=>k.el T x (h.el T x e),fun T=>(h.LL T).trans (k.LL T),fun v T=>Nat.le_trans (h.ack v T) (k.ack v T),fun v T x e=>k.vt v T x (h.vt v T x e)⟩
section
variable {G G':Gho} (le:Le G G')
include le
theorem Le.eln {T:Int} (h:G.el T≠none):G'.el T≠none:=by
 obtain ⟨x,hx⟩:=aC0 h
 rw [le.el T x hx];exact fun h=>by cases h
theorem Le.len (T:Int):(G.LL T).length≤(G'.LL T).length:=(le.LL T).length_le
theorem Le.take {T:Int} {n:Nat} (h:n≤(G.LL T).length):(G'.LL T).take n=(G.LL T).take n:=by
 have h1:=rS (le.LL T)
 conv=>rhs;rw [←h1]
 rw [List.take_take,Nat.min_eq_left h]
theorem Le.term {T:Int} {n:Nat} (h:n≤(G.LL T).length):eA (G'.LL T) n=eA (G.LL T) n:=by
 rw [←jU (l:=G'.LL T) (Nat.le_refl n),le.take h,jU (Nat.le_refl n)]
theorem Cert.up {T:Int} {n m:Nat} (c:Cert G T n m):Cert G' T n m:=by
 have hn:=Nat.le_trans c.nm c.ml
 refine ⟨c.n1,c.nm,Nat.le_trans c.ml (le.len T),le.eln c.el,by rw [le.term hn];exact c.tm,?_⟩
 rw [le.take c.ml,le.m0]
 exact c.q.imp fun v hv=>Nat.le_trans hv (le.ack v T)
theorem Fits.up {l:kC} (h:Fits G l):Fits G' l:=by
 intro n x hx
 obtain ⟨h1,h2,h3⟩:=h n x hx
 exact ⟨le.eln h1,Nat.lt_of_lt_of_le h2 (le.len _),by rw [le.take h2];exact h3⟩
theorem Le.beg (H:GH G) {T:Int} (h:G.el T≠none):G'.beg T=G.beg T:=by
 obtain ⟨x,hx⟩:=aC0 h
 rw [aEe hx,aEe (le.el T x hx),le.take (H.elen T x hx)]
theorem Bad.up (H:GH G) {T W:Int} {n:Nat} (h:Bad G T n W) (hn:n≤(G.LL T).length):Bad G' T n W:=by
 refine ⟨le.eln h.1,?_⟩
 rw [le.take hn,le.beg H h.1]
 exact h.2
end
def Com (G:Gho) (T:Int) (s:Nat):Prop:=s=0∨∃ T0 n m,Cert G T0 n m∧T0≤T∧s≤n
def Sure (G:Gho) (T:Int) (l:kC) (s:Nat):Prop:=s≤l.length∧(s=0∨∃ T0 n m,Cert G T0 n m∧T0≤T∧s≤n∧l.take s=(G.LL T0).take s)
theorem Sure.com {G:Gho} {T:Int} {l:kC} {s:Nat} (h:Sure G T l s):Com G T s:=by
 rcases h.2 with h | ⟨T0,n,m,c,a,b,_⟩
 ·exact .inl h
 ·exact .inr ⟨T0,n,m,c,a,b⟩
structure LetOK (G:Gho) (m:Letter):Prop where
 f0:0≤m.from'
 f5:m.from'<5
 to:0≤m.to
 ask:m.kind=1→∃ lg,G.vt m.from' m.term=some (m.from',lg)∧m.index=lg.length∧m.at'=eA lg lg.length
 vote:m.kind=2→m.yes=true→∃ lg lc,G.vt m.from' m.term=some (m.to,lg)∧G.vt m.to m.term=some (m.to,lc)∧aIu lg lc
 app:m.kind=3→G.el m.term≠none∧0≤m.index∧m.index.toNat≤(G.LL m.term).length∧m.at'=eA (G.LL m.term) m.index.toNat∧m.entries <+: (G.LL m.term).drop m.index.toNat∧Com G m.term m.commit.toNat
 ack:m.kind=4→m.yes=true→m.index.toNat≤G.ack m.from' m.term
 inst:m.kind=5→G.el m.term≠none∧0≤m.index∧m.index.toNat≤(G.LL m.term).length∧m.at'=eA (G.LL m.term) m.index.toNat∧m.members=cfg G.m0 ((G.LL m.term).take m.index.toNat)∧Com G m.term m.index.toNat
section
variable {G G':Gho} (le:Le G G')
include le
theorem Com.up {T:Int} {s:Nat} (h:Com G T s):Com G' T s:=by
 rcases h with h | ⟨T0,n,m,c,a,b⟩
 ·exact .inl h
 ·exact .inr ⟨T0,n,m,c.up le,a,b⟩
theorem Sure.up {T T':Int} {l:kC} {s:Nat} (h:Sure G T l s) (hT:T≤T'):Sure G' T' l s:=by
 rcases h with ⟨h0,h | ⟨T0,n,m,c,a,b,e⟩⟩
 ·exact ⟨h0,.inl h⟩
 ·exact ⟨h0,.inr ⟨T0,n,m,c.up le,by omega,b,by rw [e,le.take (Nat.le_trans b (Nat.le_trans c.nm c.ml))]⟩⟩
theorem LetOK.up {m:Letter} (h:LetOK G m):LetOK G' m:=by
 refine ⟨h.f0,h.f5,h.to,fun k=>?_,fun k y=>?_,fun k=>?_,fun k y=>Nat.le_trans (h.ack k y) (le.ack _ _),fun k=>?_⟩
 ·obtain ⟨lg,a,b,c⟩:=h.ask k
  exact ⟨lg,le.vt _ _ _ a,b,c⟩
 ·obtain ⟨lg,lc,a,b,c⟩:=h.vote k y
  exact ⟨lg,lc,le.vt _ _ _ a,le.vt _ _ _ b,c⟩
 ·obtain ⟨a,b,c,d,e,f⟩:=h.app k
  refine ⟨le.eln a,b,Nat.le_trans c (le.len _),by rw [le.term c];exact d,?_,f.up le⟩
  obtain ⟨t,ht⟩:=le.LL m.term
  rw [←ht,List.drop_append_of_le_length c]
  exact e.trans (List.prefix_append _ _)
 ·obtain ⟨a,b,c,d,e,f⟩:=h.inst k
  exact ⟨le.eln a,b,Nat.le_trans c (le.len _),by rw [le.term c];exact d,by rw [le.take c,le.m0];exact e,f.up le⟩
end
def aQm (G:Gho) (v T':Int) (l:kC):Prop:=∀ T n,1≤n→n≤G.ack v T→T≤T'∧((G.LL T).take n <+: l∨∃ W,T<W∧W≤T'∧Bad G T n W)
structure Nod (G:Gho) (v:Int) (c:Core):Prop where
 idv:c.id=v
 bl:c.h.base.toNat≤(G.full v).length
 log:c.h.log=(G.full v).drop c.h.base.toNat
 bt:c.h.baseTerm=eA (G.full v) c.h.base.toNat
 mem:c.h.members=cfg G.m0 ((G.full v).take c.h.base.toNat)
 mono:Mono (G.full v)
 low:∀ x∈G.full v,x.term≤c.h.term
 fits:Fits G (G.full v)
 sure:Sure G c.h.term (G.full v) c.sure.toNat
 acks:aQm G v c.h.term (G.full v)
 vote:c.h.vote=-1→G.vt v c.h.term=none
 vote2:c.h.vote≠-1→∃ lg,G.vt v c.h.term=some (c.h.vote,lg)
 late:∀ U,c.h.term<U→G.vt v U=none
 lead:c.role=3→(∃ x,G.el c.h.term=some x∧x.cand=v)∧G.full v=G.LL c.h.term
 mtch:c.role=3→∀ f,0≤f→f<7→(c.peer f).mtch.toNat≤G.ack f c.h.term
 cand:c.role=2→G.vt v c.h.term=some (v,G.full v)∧(∀ x,G.el c.h.term=some x→x.cand≠v)∧∀ x∈G.full v,x.term<c.h.term
 vots:c.role=2→∀ f,cZ c.votes f=true→∃ lg,G.vt f c.h.term=some (v,lg)∧aIu lg (G.full v)
def Vts (G:Gho):Prop:=∀ v U k lg,G.vt v U=some (k,lg)→Mono lg∧Fits G lg∧(∃ lc,G.vt k U=some (k,lc)∧aIu lg lc) ∧
 ∀ T n,T<U→1≤n→n≤G.ack v T→(G.LL T).take n <+: lg∨∃ W,T<W∧W≤U∧Bad G T n W
structure GW (G:Gho) (cs:Int→Core) (B:Nat):Prop where
 H:GH G
 V:Vts G
 b:∀ T,(G.LL T).length≤B
 bf:∀ v,0≤v→v<5→(G.full v).length≤B
 N:∀ v,0≤v→v<5→Nod G v (cs v)
 o:∀ v,0≤v→v<5→∀ m∈(cs v).out,LetOK G m
def nV (cs:Int→Core) (v:Int) (c:Core):Int→Core:=fun u=>if u=v then c else cs u
theorem rT (cs:Int→Core) (v:Int) (c:Core):nV cs v c v=c:=if_pos rfl
theorem aG6 (cs:Int→Core) {v u:Int} (c:Core) (h:u≠v):nV cs v c u=cs u:=if_neg h
theorem rU (cs:Int→Core) (v:Int) (c d:Core):nV (nV cs v c) v d=nV cs v d:=by
 funext u
 unfold nV
 split<;>rfl
theorem aLe (cs:Int→Core) (v:Int):nV cs v (cs v)=cs:=by
 funext u
 unfold nV
 split
 ·rename_i h;rw [h]
 ·rfl
structure Same (G G':Gho) (u:Int):Prop where
 full:G'.full u=G.full u
 ack:∀ T,G'.ack u T=G.ack u T
 vt:∀ T,G'.vt u T=G.vt u T
theorem Nod.other {G G':Gho} {u v:Int} {c:Core} (h:Nod G u c) (H:GH G) (le:Le G G') (sm:Same G G' u) (hne:u≠v)
  (hel:∀ T x,G'.el T=some x→G.el T=some x∨x.cand=v) (hLL:∀ T x,G'.el T=some x→x.cand≠v→G'.LL T=G.LL T):Nod G' u c:=by
 refine ⟨h.idv,by rw [sm.full];exact h.bl,by rw [sm.full];exact h.log,by rw [sm.full];exact h.bt,by rw [sm.full,le.m0];exact h.mem,by rw [sm.full];exact h.mono,by rw [sm.full];exact h.low,by rw [sm.full];exact h.fits.up le,
  by rw [sm.full];exact h.sure.up le (Int.le_refl _),?_,by rw [sm.vt];exact h.vote,by rw [sm.vt];exact h.vote2,fun U hU=>by rw [sm.vt];exact h.late U hU,fun r=>?_,fun r f f0 f7=>Nat.le_trans (h.mtch r f f0 f7) (le.ack _ _),fun r=>?_,fun r f hf=>?_⟩
 ·intro T n h1 h2
  rw [sm.ack] at h2
  obtain ⟨a,b⟩:=h.acks T n h1 h2
  have hl:=(H.acks u T (by omega)).2
  rw [sm.full,le.take (by omega)]
  refine ⟨a,b.imp id fun ⟨W,w1,w2,w3⟩=>⟨W,w1,w2,w3.up le H (by omega)⟩⟩
 ·obtain ⟨⟨x,a,b⟩,e⟩:=h.lead r
  exact ⟨⟨x,le.el _ _ a,b⟩,by rw [sm.full,hLL _ x (le.el _ _ a) (by rw [b];exact hne)];exact e⟩
 ·obtain ⟨a,b,d⟩:=h.cand r
  rw [sm.vt,sm.full]
  refine ⟨a,fun x hx=>?_,d⟩
  rcases hel _ x hx with h1 | h1
  ·exact b x h1
  ·rw [h1];exact fun e=>hne e.symm
 ·obtain ⟨lg,a,b⟩:=h.vots r f hf
  exact ⟨lg,le.vt _ _ _ a,by rw [sm.full];exact b⟩
theorem GW.step {G G':Gho} {cs:Int→Core} {B B':Nat} {v:Int} {d:Core} (W:GW G cs B) (le:Le G G') (hB:B≤B') (sm:∀ u,u≠v→Same G G' u)
  (hel:∀ T x,G'.el T=some x→G.el T=some x∨x.cand=v) (hLL:∀ T x,G'.el T=some x→x.cand≠v→G'.LL T=G.LL T)
  (H':GH G') (V':Vts G') (b':∀ T,(G'.LL T).length≤B') (bf':(G'.full v).length≤B') (N':Nod G' v d) (o':∀ m∈d.out,LetOK G' m):GW G' (nV cs v d) B':=by
 refine ⟨H',V',b',fun u u0 u5=>?_,fun u u0 u5=>?_,fun u u0 u5=>?_⟩
 ·by_cases e:u=v
  ·rw [e];exact bf'
  ·rw [(sm u e).full];exact Nat.le_trans (W.bf u u0 u5) hB
 ·by_cases e:u=v
  ·rw [e,rT];exact N'
  ·rw [aG6 _ _ e];exact (W.N u u0 u5).other W.H le (sm u e) e hel hLL
 ·by_cases e:u=v
  ·rw [e,rT];exact o'
  ·rw [aG6 _ _ e];exact fun m hm=>(W.o u u0 u5 m hm).up le
def Goes (v:Int) (c d:Core) (k:Nat):Prop:=∀ G cs B,GW G (nV cs v c) B→∃ G',Le G G'∧GW G' (nV cs v d) (B+k)
theorem GW.mono {G:Gho} {cs:Int→Core} {B B':Nat} (W:GW G cs B) (h:B≤B'):GW G cs B':=⟨W.H,W.V,fun T=>Nat.le_trans (W.b T) h,fun v a b=>Nat.le_trans (W.bf v a b) h,W.N,W.o⟩
theorem Goes.trans {v:Int} {c d e:Core} {k j:Nat} (h:Goes v c d k) (g:Goes v d e j):Goes v c e (k+j):=by
 intro G cs B W
 obtain ⟨G1,l1,W1⟩:=h G cs B W
 obtain ⟨G2,l2,W2⟩:=g G1 cs _ W1
 exact ⟨G2,l1.trans l2,by rw [Nat.add_assoc] at W2;exact W2⟩
theorem Goes.refl (v:Int) (c:Core) (k:Nat):Goes v c c k:=fun G cs B W=>⟨G,Le.refl G,W.mono (Nat.le_add_right _ _)⟩
theorem Goes.mono {v:Int} {c d:Core} {k j:Nat} (h:Goes v c d k) (hk:k≤j):Goes v c d j:=fun G cs B W=>by
 obtain ⟨G1,l1,W1⟩:=h G cs B W
 exact ⟨G1,l1,W1.mono (by omega)⟩
theorem Same.refl (G:Gho) (u:Int):Same G G u:=⟨rfl,fun _=>rfl,fun _=>rfl⟩
end
section
section
variable {G:Gho} {v:Int} {c:Core} (N:Nod G v c) (I:Inv c)
include N I
theorem Nod.len:c.last=((G.full v).length:Int):=by
 have h1:=N.bl
 have h2:=I.h.b0
 unfold Core.last bZ
 rw [N.log,List.length_drop]
 omega
theorem Nod.term {n:Int} (h1:c.h.base≤n) (h2:n≤c.last):c.term n=eA (G.full v) n.toNat:=by
 have hb:=I.h.b0
 unfold Core.term termH
 split
 ·rename_i e
  rw [e];exact N.bt
 ·rename_i e
  rw [N.log,List.getElem?_drop]
  have hn:n.toNat=(c.h.base.toNat+(n - c.h.base - 1).toNat)+1:=by omega
  rw [hn]
  rfl
theorem Nod.ofM:(ofM c.h).1=cfg G.m0 (G.full v)∧(ci (G.full v):Int)≤(ofM c.h).2:=by
 have hb:=I.h.b0
 have hbl:=N.bl
 unfold Go.Raft.ofM
 rw [aLa,N.mem,N.log]
 have key:∀ (l:kC) (m:Int) (b:Nat),cfg (cfg m (l.take b)) (l.drop b)=cfg m l∧ci l≤(if 0<ci (l.drop b) then b+ci (l.drop b) else b):=by
  intro l
  induction l with
  | nil=>intro m b;simp [cfg,ci]
  | cons x l ih=>
   intro m b
   cases b with
   | zero=>
    refine ⟨rfl,?_⟩
    simp only [List.drop_zero,Nat.zero_add]
    split<;>omega
   | succ b=>
    obtain ⟨h1,h2⟩:=ih (if x.members=0 then m else x.members) b
    simp only [List.take_succ_cons,List.drop_succ_cons,aEd]
    refine ⟨h1,?_⟩
    rw [aHi]
    split at h2<;>split<;>(try split)<;>omega
 obtain ⟨k1,k2⟩:=key (G.full v) G.m0 c.h.base.toNat
 refine ⟨k1,?_⟩
 simp only
 split at k2<;>split<;>omega
end
structure Quiet (c d:Core):Prop where
 id:d.id=c.id
 term:d.h.term=c.h.term
 vote:d.h.vote=c.h.vote
 base:d.h.base=c.h.base
 bt:d.h.baseTerm=c.h.baseTerm
 mem:d.h.members=c.h.members
 log:d.h.log=c.h.log
 sure:d.sure=c.sure
 role:d.role=c.role∨d.role=1
 votes:d.votes=c.votes
 peers:∀ f,0≤f→f<7→(d.peer f).mtch.toNat≤(c.peer f).mtch.toNat
theorem Nod.quiet {G:Gho} {v:Int} {c d:Core} (N:Nod G v c) (q:Quiet c d):Nod G v d:=by
 have hr:∀ k,d.role=k→k≠1→c.role=k:=fun k h1 h2=>by
  rcases q.role with h | h
  ·rw [←h];exact h1
  ·rw [h1] at h;exact absurd h h2
 refine ⟨q.id.trans N.idv,by rw [q.base];exact N.bl,by rw [q.log,q.base];exact N.log,by rw [q.bt,q.base];exact N.bt,by rw [q.mem,q.base];exact N.mem,N.mono,by rw [q.term];exact N.low,N.fits,by rw [q.term,q.sure];exact N.sure,by rw [q.term];exact N.acks,
  by rw [q.vote,q.term];exact N.vote,by rw [q.vote,q.term];exact N.vote2,by rw [q.term];exact N.late,fun r=>by rw [q.term];exact N.lead (hr 3 r (by decide)),fun r f f0 f7=>by rw [q.term];exact Nat.le_trans (q.peers f f0 f7) (N.mtch (hr 3 r (by decide)) f f0 f7),
  fun r=>by rw [q.term];exact N.cand (hr 2 r (by decide)),fun r=>by rw [q.term,q.votes];exact N.vots (hr 2 r (by decide))⟩
theorem Quiet.post (c:Core) (m:Letter):Quiet c (c.post m):=⟨rfl,rfl,rfl,rfl,rfl,rfl,rfl,rfl,.inl rfl,rfl,fun _ _ _=>Nat.le_refl _⟩
end
section
def Gho.raise (G:Gho) (v T:Int) (n:Nat):Gho:={ G with ack:=fun u U=>if u=v∧U=T then max (G.ack u U) n else G.ack u U }
def Gho.voted (G:Gho) (v T k:Int) (lg:kC):Gho:={ G with vt:=fun u U=>if u=v∧U=T then some (k,lg) else G.vt u U }
def Gho.grow (G:Gho) (v T:Int) (x:Entry):Gho:={ G with LL:=fun U=>if U=T then G.LL U++[x] else G.LL U,full:=fun u=>if u=v then G.full u++[x] else G.full u }
def Gho.setFull (G:Gho) (v:Int) (l:kC):Gho:={ G with full:=fun u=>if u=v then l else G.full u }
theorem aEf (G:Gho) (v T:Int) (n:Nat):Le G (G.raise v T n):=
 ⟨rfl,fun _ _ h=>h,fun _=>List.prefix_refl _,fun u U=>by show _≤if u=v∧U=T then max (G.ack u U) n else G.ack u U;split;omega;exact Nat.le_refl _,fun _ _ _ h=>h⟩
theorem aLf {G:Gho} {v U k:Int} {lg:kC} (hn:G.vt v U=none):Le G (G.voted v U k lg):=⟨rfl,fun _ _ h=>h,fun _=>List.prefix_refl _,fun _ _=>Nat.le_refl _,fun u T x h=>by
 show (if u=v∧T=U then some (k,lg) else G.vt u T)=some x
 rw [if_neg]
 ·exact h
 ·rintro ⟨rfl,rfl⟩
  rw [hn] at h;cases h⟩
theorem aLg (G:Gho) (v T:Int) (n:Nat):n≤(G.raise v T n).ack v T:=by
 show n≤if v=v∧T=T then max (G.ack v T) n else G.ack v T
 rw [if_pos ⟨rfl,rfl⟩];omega
theorem uE {G:Gho} {v T:Int} {n:Nat} {u U:Int} {k:Nat} (h:k≤(G.raise v T n).ack u U):k≤G.ack u U∨u=v∧U=T∧k≤n:=by
 have h':k≤if u=v∧U=T then max (G.ack u U) n else G.ack u U:=h
 split at h'
 ·rename_i e
  rcases Nat.lt_or_ge (G.ack u U) k with h1 | h1
  ·exact .inr ⟨e.1,e.2,by omega⟩
  ·exact .inl h1
 ·exact .inl h'
theorem aHj {G G':Gho} (H:GH G) (le:Le G G') {U k:Int} {E:kC} {P:Int→Prop} (h:Elec G U E P k) (ha:∀ v T n,T<U→P v→1≤n→n≤G'.ack v T→n≤G.ack v T):Elec G' U E P k:=by
 refine ⟨h.mono,h.low,h.fits.up le,by rw [le.m0];exact h.q,fun v hv=>?_⟩
 obtain ⟨lg,a,b,c,d,e⟩:=h.v v hv
 refine ⟨lg,le.vt _ _ _ a,b,c,d.up le,fun T n hT h1 h2=>?_⟩
 have h3:=ha v T n hT hv h1 h2
 have hl:=(H.acks v T (by omega)).2
 rw [le.take (by omega)]
 exact (e T n hT h1 h3).imp id fun ⟨W,w1,w2,w3⟩=>⟨W,w1,w2,w3.up le H (by omega)⟩
theorem aC1 {G G':Gho} (H:GH G) (le:Le G G') (V:Vts G) {v U k:Int} {lg:kC} (hv:G.vt v U=some (k,lg)) (ha:∀ T n,T<U→1≤n→n≤G'.ack v T→n≤G.ack v T):
  Mono lg∧Fits G' lg∧(∃ lc,G'.vt k U=some (k,lc)∧aIu lg lc)∧∀ T n,T<U→1≤n→n≤G'.ack v T→(G'.LL T).take n <+: lg∨∃ W,T<W∧W≤U∧Bad G' T n W:=by
 obtain ⟨a,b,⟨lc,c,d⟩,e⟩:=V v U k lg hv
 refine ⟨a,b.up le,⟨lc,le.vt _ _ _ c,d⟩,fun T n hT h1 h2=>?_⟩
 have h3:=ha T n hT h1 h2
 have hl:=(H.acks v T (by omega)).2
 rw [le.take (by omega)]
 exact (e T n hT h1 h3).imp id fun ⟨W,w1,w2,w3⟩=>⟨W,w1,w2,w3.up le H (by omega)⟩
theorem aLh {G G':Gho} (H:GH G) (le:Le G G') (hel:G'.el=G.el) (hLL:G'.LL=G.LL)
  (hacks:∀ v T,1≤G'.ack v T→G.el T≠none∧G'.ack v T≤(G.LL T).length) (ha:∀ v T n U x,G.el U=some x→cZ x.vs v=true→T<U→1≤n→n≤G'.ack v T→n≤G.ack v T):GH G':=by
 have hbeg:∀ T,G'.beg T=G.beg T:=fun T=>by unfold Gho.beg;rw [hel,hLL]
 refine ⟨fun T h=>H.pos T (by rw [←hel];exact h),fun T x h=>by rw [hLL];exact H.elen T x (by rw [←hel];exact h),fun T=>by rw [hLL];exact H.mono T,fun T=>by rw [hLL];exact (H.fits T).up le,
  fun T x h=>by rw [hLL];exact H.own T x (by rw [←hel];exact h),fun T h=>by rw [hLL];exact H.nul T (by rw [←hel];exact h),fun T x h n y hn hy hm=>?_,fun v T h=>by rw [hel,hLL];exact hacks v T h,fun T x h=>?_,fun T x h=>?_⟩
 ·rw [hLL] at hy ⊢
  rw [hel] at h
  obtain ⟨s,m,a,b,c,d⟩:=H.conf T x h n y hn hy hm
  exact ⟨s,m,a.up le,b,c,by rw [le.m0];exact d⟩
 ·rw [hel] at h
  rw [hbeg]
  exact aHj H le (H.elec T x h) fun v T' n hT hP h1 h2=>ha v T' n T x h hP hT h1 h2
 ·rw [hel] at h
  obtain ⟨lg,hl⟩:=H.self T x h
  exact ⟨lg,le.vt _ _ _ hl⟩
section
variable {G:Gho} {cs:Int→Core} {B:Nat} {v:Int} {c:Core} (hv0:0≤v) (hv5:v<5) (W:GW G (nV cs v c) B)
include hv0 hv5 W
theorem GW.at:Nod G v c∧∀ m∈c.out,LetOK G m:=by
 have N:=W.N v hv0 hv5
 have o:=W.o v hv0 hv5
 rw [rT] at N o
 exact ⟨N,o⟩
theorem GW.raise {n:Nat} (hT:G.el c.h.term≠none) (hn:n≤(G.LL c.h.term).length) (hp:(G.LL c.h.term).take n <+: G.full v):GW (G.raise v c.h.term n) (nV cs v c) B:=by
 obtain ⟨N,o⟩:=W.at hv0 hv5
 have le:=aEf G v c.h.term n
 have late:∀ {k:Nat} {u T U:Int} {x:Int×kC},T<U→G.vt u U=some x→k≤(G.raise v c.h.term n).ack u T→k≤G.ack u T:=by
  intro k u T U x hTU hv h
  rcases uE h with h | ⟨rfl,rfl,_⟩
  ·exact h
  ·rw [N.late U hTU] at hv;cases hv
 have H':GH (G.raise v c.h.term n):=aLh W.H le rfl rfl (fun u T h=>by
  have h':1≤if u=v∧T=c.h.term then max (G.ack u T) n else G.ack u T:=h
  show _∧(if u=v∧T=c.h.term then max (G.ack u T) n else G.ack u T)≤_
  split at h'
  ·rename_i e
   obtain ⟨rfl,rfl⟩:=e
   rw [if_pos ⟨rfl,rfl⟩]
   refine ⟨hT,?_⟩
   rcases Nat.eq_zero_or_pos (G.ack u c.h.term) with h0 | h0
   ·omega
   ·have:=(W.H.acks u c.h.term h0).2;omega
  ·rename_i e
   rw [if_neg e]
   exact W.H.acks u T h') (fun u T k U x hx hP hTU h1 h2=>by
  obtain ⟨lg,a,_⟩:=(W.H.elec U x hx).v u hP
  exact late hTU a h2)
 have V':Vts (G.raise v c.h.term n):=fun u U k lg hu=>aC1 W.H le W.V hu fun T m hTU h1 h2=>late hTU hu h2
 have N':Nod (G.raise v c.h.term n) v c:=by
  refine ⟨N.idv,N.bl,N.log,N.bt,N.mem,N.mono,N.low,N.fits.up le,N.sure.up le (Int.le_refl _),fun T k h1 h2=>?_,N.vote,N.vote2,N.late,N.lead,fun r f f0 f7=>Nat.le_trans (N.mtch r f f0 f7) (le.ack _ _),N.cand,N.vots⟩
  rcases uE h2 with h | ⟨_,rfl,h⟩
  ·obtain ⟨a,b⟩:=N.acks T k h1 h
   exact ⟨a,b⟩
  ·refine ⟨Int.le_refl _,.inl ?_⟩
   exact (List.take_prefix_take_left h).trans hp
 have:=W.step (v:=v) (d:=c) le (Nat.le_refl _) (fun u hu=>⟨rfl,fun T=>if_neg (fun e=>hu e.1),fun _=>rfl⟩) (fun T x hx=>.inl hx) (fun T x _ _=>rfl) H' V' W.b (W.bf v hv0 hv5) N' (fun m hm=>(o m hm).up le)
 rw [rU] at this
 exact this
theorem GW.plain {d:Core} (N':Nod G v d) (o':∀ m∈d.out,LetOK G m):GW G (nV cs v d) B:=by
 have:=W.step (v:=v) (d:=d) (Le.refl G) (Nat.le_refl _) (fun u _=>Same.refl G u) (fun T x hx=>.inl hx) (fun T x _ _=>rfl) W.H W.V W.b (W.bf v hv0 hv5) N' o'
 rw [rU] at this
 exact this
theorem GW.vote {d:Core} {U k:Int} (hn:G.vt v U=none) (hU:c.h.term≤U) (hlc:(k=v∨∃ lc,G.vt k U=some (k,lc)∧aIu (G.full v) lc)) (hd:Nod (G.voted v U k (G.full v)) v d) (ho:d.out=c.out):GW (G.voted v U k (G.full v)) (nV cs v d) B∧Le G (G.voted v U k (G.full v)):=by
 obtain ⟨N,o⟩:=W.at hv0 hv5
 have le:Le G (G.voted v U k (G.full v)):=aLf hn
 have H':GH (G.voted v U k (G.full v)):=aLh W.H le rfl rfl (fun u T h=>W.H.acks u T h) (fun u T n U' x hx hP hTU h1 h2=>h2)
 have V':Vts (G.voted v U k (G.full v)):=by
  intro u T j lg hu
  have hu':(if u=v∧T=U then some (k,G.full v) else G.vt u T)=some (j,lg):=hu
  split at hu'
  ·rename_i e
   obtain ⟨rfl,rfl⟩:=e
   cases hu'
   refine ⟨N.mono,N.fits.up le,?_,fun T' n hT h1 h2=>?_⟩
   ·rcases hlc with rfl | ⟨lc,h1,h2⟩
    ·exact ⟨G.full k,if_pos ⟨rfl,rfl⟩,.inr ⟨rfl,Nat.le_refl _⟩⟩
    ·exact ⟨lc,le.vt _ _ _ h1,h2⟩
   ·obtain ⟨a,b⟩:=N.acks T' n h1 h2
    rcases b with b | ⟨w,w1,w2,w3⟩
    ·exact .inl b
    ·exact .inr ⟨w,w1,by omega,w3⟩
  ·exact aC1 W.H le W.V hu' fun T' n _ _ h2=>h2
 have:=W.step (v:=v) (d:=d) le (Nat.le_refl _) (fun u hu=>⟨rfl,fun _=>rfl,fun T=>if_neg (fun e=>hu e.1)⟩) (fun T x hx=>.inl hx) (fun T x _ _=>rfl) H' V' W.b (W.bf v hv0 hv5) hd (fun m hm=>(o m (by rw [←ho];exact hm)).up le)
 rw [rU] at this
 exact ⟨this,le⟩
end
end
section
section
variable {G:Gho} {cs:Int→Core} {B:Nat} {v:Int} {c:Core} (hv0:0≤v) (hv5:v<5) (W:GW G (nV cs v c) B)
include hv0 hv5 W
theorem GW.grow (I:Inv c) (hr:c.role=3) {x:Entry} (hx:x.term=c.h.term)
  (hm:x.members≠0→∃ s m,Cert G c.h.term s m∧m≤(G.full v).length∧ci (G.full v)≤s∧aIj (cfg G.m0 (G.full v)) x.members=true)
  {d:Core} (hd:d={ c with h:={ c.h with log:=c.h.log++[x] } }):
  ∃ G',Le G G'∧GW G' (nV cs v d) (B+1):=by
 obtain ⟨N,o⟩:=W.at hv0 hv5
 have H:=W.H
 obtain ⟨⟨y,hy,hyv⟩,hL⟩:=N.lead hr
 refine ⟨G.grow v c.h.term x,?_⟩
 have la:(G.grow v c.h.term x).LL c.h.term=G.full v++[x]:=by
  show (if c.h.term=c.h.term then G.LL c.h.term++[x] else G.LL c.h.term)=_
  rw [if_pos rfl,hL]
 have lb:∀ U,U≠c.h.term→(G.grow v c.h.term x).LL U=G.LL U:=fun U h=>if_neg h
 have fa:(G.grow v c.h.term x).full v=G.full v++[x]:=if_pos rfl
 have fb:∀ u,u≠v→(G.grow v c.h.term x).full u=G.full u:=fun u h=>if_neg h
 have el':(G.grow v c.h.term x).el=G.el:=rfl
 have ack':(G.grow v c.h.term x).ack=G.ack:=rfl
 have vt':(G.grow v c.h.term x).vt=G.vt:=rfl
 have m0':(G.grow v c.h.term x).m0=G.m0:=rfl
 have le:Le G (G.grow v c.h.term x):=by
  refine ⟨rfl,fun _ _ h=>h,fun T=>?_,fun _ _=>Nat.le_refl _,fun _ _ _ h=>h⟩
  by_cases e:T=c.h.term
  ·rw [e,la,←hL];exact List.prefix_append _ _
  ·rw [lb T e];exact List.prefix_refl _
 generalize G.grow v c.h.term x=G' at la lb fa fb el' ack' vt' m0' le
 refine ⟨le,?_⟩
 have hne:G.el c.h.term≠none:=by rw [hy];exact Option.some_ne_none y
 have mono':Mono (G.full v++[x]):=by
  refine List.pairwise_append.2 ⟨N.mono,List.pairwise_singleton _ _,fun a ha b hb=>?_⟩
  rw [List.mem_singleton.1 hb,hx]
  exact N.low a ha
 have fits':Fits G' (G.full v++[x]):=by
  intro n z hz
  rcases Nat.lt_or_ge n (G.full v).length with h | h
  ·rw [List.getElem?_append_left h] at hz
   obtain ⟨a,b,e⟩:=(N.fits.up le) n z hz
   refine ⟨a,b,?_⟩
   rw [e,List.take_append_of_le_length (by omega)]
  ·rw [List.getElem?_append_right h] at hz
   have hn:n - (G.full v).length=0:=by
    rcases Nat.eq_zero_or_pos (n - (G.full v).length) with h0 | h0
    ·exact h0
    ·rw [List.getElem?_eq_none (by simp;omega)] at hz;cases hz
   rw [hn] at hz
   cases hz
   rw [hx,la,el']
   exact ⟨hne,by simp;omega,rfl⟩
 have H':GH G':=by
  refine ⟨fun T h=>H.pos T (by rw [←el'];exact h),fun T z h=>?_,fun T=>?_,fun T=>?_,fun T z h n w hw=>?_,fun T h=>?_,fun T z h n w hz hw hwm=>?_,fun u T h=>?_,fun T z h=>?_,fun T z h=>?_⟩
  ·rw [el'] at h
   exact Nat.le_trans (H.elen T z h) (le.len T)
  ·by_cases e:T=c.h.term
   ·rw [e,la];exact mono'
   ·rw [lb T e];exact H.mono T
  ·by_cases e:T=c.h.term
   ·rw [e,la];exact fits'
   ·rw [lb T e];exact (H.fits T).up le
  ·rw [el'] at h
   by_cases e:T=c.h.term
   ·rw [e,la] at hw
    rw [e] at h
    rcases Nat.lt_or_ge n (G.full v).length with h1 | h1
    ·rw [List.getElem?_append_left h1,hL] at hw
     rw [e];exact H.own _ z h n w hw
    ·rw [List.getElem?_append_right h1] at hw
     have hw2:w=x:=by simpa using List.mem_of_getElem? hw
     have:=H.elen _ z h
     rw [hL] at h1
     rw [hw2,e]
     exact ⟨fun _=>hx,fun h2=>by omega⟩
   ·rw [lb T e] at hw
    exact H.own T z h n w hw
  ·rw [el'] at h
   have e:T≠c.h.term:=fun e=>by rw [e] at h;exact hne h
   rw [lb T e];exact H.nul T h
  ·rw [el'] at h
   by_cases e:T=c.h.term
   ·rw [e] at h
    rw [e,la] at hw ⊢
    rcases Nat.lt_or_ge n (G.full v).length with h1 | h1
    ·rw [List.getElem?_append_left h1,hL] at hw
     obtain ⟨s,m,a,b,d,g⟩:=H.conf _ z h n w hz hw hwm
     rw [List.take_append_of_le_length (by omega),hL]
     exact ⟨s,m,a.up le,b,d,by rw [m0'];exact g⟩
    ·rw [List.getElem?_append_right h1] at hw
     have hw2:w=x:=by simpa using List.mem_of_getElem? hw
     have hn:n=(G.full v).length:=by
      have:=(List.getElem?_eq_some_iff.1 hw).1
      simp at this;omega
     rw [hw2] at hwm ⊢
     obtain ⟨s,m,a,b,d,g⟩:=hm hwm
     rw [hn,List.take_left']
     ·exact ⟨s,m,a.up le,b,d,by rw [m0'];exact g⟩
     ·rfl
   ·rw [lb T e] at hw ⊢
    obtain ⟨s,m,a,b,d,g⟩:=H.conf T z h n w hz hw hwm
    exact ⟨s,m,a.up le,b,d,by rw [m0'];exact g⟩
  ·rw [ack'] at h ⊢
   obtain ⟨a,b⟩:=H.acks u T h
   exact ⟨le.eln a,Nat.le_trans b (le.len T)⟩
  ·rw [el'] at h
   have hz:G.el T≠none:=by rw [h];exact Option.some_ne_none z
   rw [le.beg H hz]
   exact aHj H le (H.elec T z h) fun u U n _ _ _ h2=>by rw [ack'] at h2;exact h2
  ·rw [el'] at h
   rw [vt'];exact H.self T z h
 have V':Vts G':=by
  intro u U j lg hu
  rw [vt'] at hu
  exact aC1 H le W.V hu fun T n _ _ h2=>by rw [ack'] at h2;exact h2
 have N':Nod G' v d:=by
  subst hd
  have hbl:=N.bl
  refine ⟨N.idv,by rw [fa];show c.h.base.toNat≤_;rw [List.length_append];omega,?_,?_,?_,by rw [fa];exact mono',?_,by rw [fa];exact fits',?_,?_,by rw [vt'];exact N.vote,by rw [vt'];exact N.vote2,by rw [vt'];exact N.late,
   fun _=>⟨⟨y,by rw [el'];exact hy,hyv⟩,by rw [fa];exact la.symm⟩,fun r f f0 f7=>by rw [ack'];exact N.mtch r f f0 f7,fun r=>absurd r (by show c.role≠2;rw [hr];decide),fun r=>absurd r (by show c.role≠2;rw [hr];decide)⟩
  ·rw [fa]
   show c.h.log++[x]=(G.full v++[x]).drop c.h.base.toNat
   rw [List.drop_append_of_le_length hbl,←N.log]
  ·rw [fa]
   show c.h.baseTerm=eA (G.full v++[x]) c.h.base.toNat
   rw [N.bt,←jU (l:=G.full v++[x]) (Nat.le_refl _),List.take_append_of_le_length hbl,jU (Nat.le_refl _)]
  ·rw [fa,m0']
   show c.h.members=cfg G.m0 ((G.full v++[x]).take c.h.base.toNat)
   rw [List.take_append_of_le_length hbl];exact N.mem
  ·rw [fa]
   intro z hz
   rcases List.mem_append.1 hz with hz | hz
   ·exact N.low z hz
   ·rw [List.mem_singleton.1 hz,hx];exact Int.le_refl _
  ·rw [fa]
   obtain ⟨s0,h⟩:=N.sure.up le (Int.le_refl _)
   refine ⟨by rw [List.length_append];show c.sure.toNat≤_;omega,h.imp id ?_⟩
   rintro ⟨T0,n,m,a,b,d,e⟩
   exact ⟨T0,n,m,a,b,d,by show (G.full v++[x]).take c.sure.toNat=_;rw [List.take_append_of_le_length s0];exact e⟩
  ·intro T n h1 h2
   rw [ack'] at h2
   rw [fa]
   obtain ⟨a,b⟩:=N.acks T n h1 h2
   have hl:=(H.acks v T (by omega)).2
   rw [le.take (by omega)]
   exact ⟨a,b.imp (fun h=>h.trans (List.prefix_append _ _)) fun ⟨w,w1,w2,w3⟩=>⟨w,w1,w2,w3.up le H (by omega)⟩⟩
 have:=W.step (v:=v) (d:=d) (B':=B+1) le (Nat.le_succ _) (fun u hu=>⟨fb u hu,fun T=>by rw [ack'],fun T=>by rw [vt']⟩) (fun T z hz=>.inl (by rw [el'] at hz;exact hz)) (fun T z hz hzv=>by
   by_cases e:T=c.h.term
   ·rw [e,el',hy] at hz;cases hz;exact absurd hyv hzv
   ·exact lb T e) H' V' (fun T=>by
   by_cases e:T=c.h.term
   ·rw [e,la,List.length_append];have:=W.bf v hv0 hv5;simp;omega
   ·rw [lb T e];exact Nat.le_succ_of_le (W.b T)) (by rw [fa,List.length_append];have:=W.bf v hv0 hv5;simp;omega) N' (fun m hm=>(o m (by rw [hd] at hm;exact hm)).up le)
 rw [rU] at this
 exact this
end
end
section
theorem aLi {c:Core} (hp:c.peers.length=7) {f g:Int} (p:Peer) (f0:0≤f) (g0:0≤g) (g7:g<7):(c.setPeer f p).peer g=if g=f then p else c.peer g:=by
 unfold Core.setPeer Core.peer
 simp only
 by_cases e:g=f
 ·subst e
  rw [if_pos rfl,List.getD_eq_getElem?_getD,List.getElem?_set_self (by omega)];rfl
 ·rw [if_neg e,List.getD_eq_getElem?_getD,List.getElem?_set_ne (by omega),List.getD_eq_getElem?_getD]
theorem Nod.peers {G:Gho} {v:Int} {c:Core} (N:Nod G v c) (hp:c.peers.length=7) {f:Int} {p:Peer} (f0:0≤f) (h:c.role=3→p.mtch.toNat≤G.ack f c.h.term):Nod G v (c.setPeer f p):=
 ⟨N.idv,N.bl,N.log,N.bt,N.mem,N.mono,N.low,N.fits,N.sure,N.acks,N.vote,N.vote2,N.late,N.lead,fun r g g0 g7=>by
  rw [aLi hp p f0 g0 g7]
  split
  ·rename_i e;rw [e];exact h r
  ·exact N.mtch r g g0 g7,N.cand,N.vots⟩
section
variable {v:Int} {c:Core} (hv0:0≤v) (hv5:v<5)
include hv0 hv5
end
end
section
def GoesL (m:Letter) (v:Int) (c d:Core) (k:Nat):Prop:=∀ G cs B,GW G (nV cs v c) B→LetOK G m→∃ G',Le G G'∧GW G' (nV cs v d) (B+k)
theorem Goes.l {m:Letter} {v:Int} {c d:Core} {k:Nat} (h:Goes v c d k):GoesL m v c d k:=fun G cs B W _=>h G cs B W
theorem GoesL.trans {m:Letter} {v:Int} {c d e:Core} {k j:Nat} (h:GoesL m v c d k) (g:GoesL m v d e j):GoesL m v c e (k+j):=by
 intro G cs B W o
 obtain ⟨G1,l1,W1⟩:=h G cs B W o
 obtain ⟨G2,l2,W2⟩:=g G1 cs _ W1 (o.up l1)
 exact ⟨G2,l1.trans l2,by rw [Nat.add_assoc] at W2;exact W2⟩
theorem GoesL.mono {m:Letter} {v:Int} {c d:Core} {k j:Nat} (h:GoesL m v c d k) (hk:k≤j):GoesL m v c d j:=fun G cs B W o=>by
 obtain ⟨G1,l1,W1⟩:=h G cs B W o
 exact ⟨G1,l1,W1.mono (by omega)⟩
section
variable {v:Int} {c:Core} {m:Letter} (hv0:0≤v) (hv5:v<5)
include hv0 hv5
end
end
section
theorem aQo {G:Gho} (H:GH G) {T:Int} (hT:G.el T≠none):∀ y∈G.LL T,y.term≤T:=by
 intro y hy
 obtain ⟨x,hx⟩:=aC0 hT
 obtain ⟨i,hi⟩:=List.mem_iff_getElem?.1 hy
 have:=H.own T x hx i y hi
 rcases Nat.lt_or_ge i x.e with h | h
 ·have:=this.2 h;omega
 ·have:=this.1 h;omega
def aQp (L:kC) (to:Nat) (l l':kC):Prop:=l'=l∨l'=L.take to∧∃ n0,n0≤to∧¬ L.take n0 <+: l
theorem aIv {G:Gho} (H:GH G) {v T:Int} {l l':kC} {to:Nat} (hT:G.el T≠none) (A:aQm G v T l) (o:aQp (G.LL T) to l l'):aQm G v T l':=by
 intro U n h1 h2
 obtain ⟨a,b⟩:=A U n h1 h2
 refine ⟨a,?_⟩
 rcases b with b | b
 ·rcases o with rfl | ⟨rfl,n0,k1,k2⟩
  ·exact .inl b
  ·by_cases hp:(G.LL U).take n <+: G.LL T
   ·left
    have hl:=(H.acks v U (by omega)).2
    have hn:n<n0:=by
     apply Classical.byContradiction
     intro hc
     refine k2 ?_
     have e:=rS hp
     have hlen:((G.LL U).take n).length=n:=by rw [List.length_take];omega
     rw [hlen] at e
     rw [←e] at b
     exact (List.take_prefix_take_left (by omega)).trans b
    obtain ⟨p1,p2⟩:=(aNa (by omega)).1 hp
    rw [←p2]
    exact List.take_prefix_take_left (by omega)
   ·right
    have hne:U≠T:=fun e=>hp (by rw [e];exact List.take_prefix _ _)
    exact ⟨T,by omega,Int.le_refl _,hT,fun h=>hp (h.trans (aNb T))⟩
 ·exact .inr b
theorem aIw {G:Gho} (H:GH G) {T:Int} {l l':kC} {to:Nat} (hT:G.el T≠none) (o:aQp (G.LL T) to l l') (m:Mono l) (f:Fits G l) (lo:∀ x∈l,x.term≤T) {B:Nat} (b1:l.length≤B) (b2:(G.LL T).length≤B):
  Mono l'∧Fits G l'∧(∀ x∈l',x.term≤T)∧l'.length≤B:=by
 rcases o with rfl | ⟨rfl,_⟩
 ·exact ⟨m,f,lo,b1⟩
 ·exact ⟨(H.mono T).take _,(H.fits T).pre (List.take_prefix _ _),fun x hx=>aQo H hT x (List.mem_of_mem_take hx),by rw [List.length_take];omega⟩
section
variable {G:Gho} {cs:Int→Core} {B:Nat} {v:Int} {c d:Core} (hv0:0≤v) (hv5:v<5) (W:GW G (nV cs v c) B)
include hv0 hv5 W
theorem GW.over {l':kC} {to:Nat} (hT:G.el c.h.term≠none) (o:aQp (G.LL c.h.term) to (G.full v) l') (hid:d.id=c.id) (ht:d.h.term=c.h.term) (hvt:d.h.vote=c.h.vote) (hr:d.role=1) (ho:d.out=c.out)
  (bl:d.h.base.toNat≤l'.length) (log:d.h.log=l'.drop d.h.base.toNat) (bt:d.h.baseTerm=eA l' d.h.base.toNat) (mem:d.h.members=cfg G.m0 (l'.take d.h.base.toNat)) (su:Sure G c.h.term l' d.sure.toNat):
  GW (G.setFull v l') (nV cs v d) B∧Le G (G.setFull v l'):=by
 obtain ⟨N,oo⟩:=W.at hv0 hv5
 obtain ⟨o1,o2,o3,o4⟩:=aIw W.H hT o N.mono N.fits N.low (W.bf v hv0 hv5) (W.b _)
 have A:=aIv W.H hT N.acks o
 have le:Le G (G.setFull v l'):=⟨rfl,fun _ _ h=>h,fun _=>List.prefix_refl _,fun _ _=>Nat.le_refl _,fun _ _ _ h=>h⟩
 have fa:(G.setFull v l').full v=l':=if_pos rfl
 have fb:∀ u,u≠v→(G.setFull v l').full u=G.full u:=fun u h=>if_neg h
 have H':GH (G.setFull v l'):=aLh W.H le rfl rfl (fun u T h=>W.H.acks u T h) (fun _ _ _ _ _ _ _ _ _ h=>h)
 have V':Vts (G.setFull v l'):=fun u U k lg hu=>aC1 W.H le W.V hu fun _ _ _ _ h=>h
 have N':Nod (G.setFull v l') v d:=by
  refine ⟨hid.trans N.idv,by rw [fa];exact bl,by rw [fa];exact log,by rw [fa];exact bt,by rw [fa];exact mem,by rw [fa];exact o1,by rw [fa,ht];exact o3,by rw [fa];exact o2.up le,by rw [fa,ht];exact su.up le (Int.le_refl _),?_,by rw [ht,hvt];exact N.vote,by rw [ht,hvt];exact N.vote2,by rw [ht];exact N.late,
   fun r=>absurd r (by rw [hr];decide),fun r=>absurd r (by rw [hr];decide),fun r=>absurd r (by rw [hr];decide),fun r=>absurd r (by rw [hr];decide)⟩
  rw [fa,ht];exact A
 have:=W.step (v:=v) (d:=d) le (Nat.le_refl _) (fun u hu=>⟨fb u hu,fun _=>rfl,fun _=>rfl⟩) (fun T x hx=>.inl hx) (fun T x _ _=>rfl) H' V' W.b (by rw [fa];exact o4) N' (fun m hm=>(oo m (by rw [←ho];exact hm)).up le)
 rw [rU] at this
 exact ⟨this,le⟩
end
theorem GW.yes {G:Gho} {cs:Int→Core} {B:Nat} {v:Int} {c:Core} (hv0:0≤v) (hv5:v<5) (W:GW G (nV cs v c) B) {n f:Int} (f0:0≤f) (h1:G.el c.h.term≠none) (h2:n.toNat≤(G.LL c.h.term).length) (h3:(G.LL c.h.term).take n.toNat <+: G.full v):
  ∃ G',Le G G'∧GW G' (nV cs v (c.post { Letter.zero with kind:=4,to:=f,yes:=true,index:=n })) B:=by
 have W1:=W.raise hv0 hv5 h1 h2 h3
 obtain ⟨N1,o1⟩:=W1.at hv0 hv5
 have hid:c.id=v:=N1.idv
 refine ⟨_,aEf G v c.h.term n.toNat,W1.plain hv0 hv5 (N1.quiet (Quiet.post c _)) fun x hx=>?_⟩
 unfold Core.post at hx
 rcases List.mem_append.1 hx with hx | hx
 ·exact o1 x hx
 ·rw [List.mem_singleton.1 hx]
  refine ⟨by show 0≤c.id;omega,by show c.id<5;omega,f0,fun h=>(by cases h),fun h=>(by cases h),fun h=>(by cases h),fun _ _=>?_,fun h=>(by cases h)⟩
  show n.toNat≤(G.raise v c.h.term n.toNat).ack c.id c.h.term
  rw [hid]
  exact aLg G v c.h.term n.toNat
section
variable {v:Int} {c:Core} {m:Letter} (hv0:0≤v) (hv5:v<5)
include hv0 hv5
end
end
structure Act where
 kind:Int
 a:Int
 n:Int
structure Grp where
 cs:Int→Core
 l:List Letter
 said:Int
 sure:List Entry
 whn:List Int
 lead:List Int
def fK (n lo hi:Int):Int:=lo+n % (hi - lo+1)
def aSg (n:Int):List UInt8:=[UInt8.ofNat (n % 256).toNat,UInt8.ofNat ((n / 256) % 256).toNat]
def aSh (s:Int):List UInt8:=[UInt8.ofNat (48+s % 10).toNat]
def Grp.step (g:Grp) (a:Act):Option (Grp×Int):=
 let k:=fK a.a 0 4
 if a.kind=1 then some ({ g with cs:=nV g.cs k ((g.cs k).tick a.n) },k) else
 if a.kind=2∨a.kind=3∨a.kind=4 then
  if g.l=[] then none else
   let i:=(fK a.n 0 (g.l.length - 1)).toNat
   let m:=g.l.getD i Letter.zero
   let l':=if a.kind=3 then g.l else g.l.take i++g.l.drop (i+1)
   if a.kind≠4∧m.to<5 then some ({ g with l:=l',cs:=nV g.cs m.to ((g.cs m.to).take m) },m.to) else some ({ g with l:=l' },k)
 else if a.kind=5 then some ({ g with said:=g.said+1,cs:=nV g.cs k ((g.cs k).propose [aSg (g.said+1)]).1 },k)
 else if a.kind=6 then some ({ g with cs:=nV g.cs k ((g.cs k).change (a.n % 32)).1 },k)
 else if a.kind=7 then some ({ g with cs:=nV g.cs k ((g.cs k).compact (g.cs k).sure (aSh (g.cs k).sure)).1 },k)
 else if a.kind=8 then some ({ g with cs:=nV g.cs k ((sY k (g.cs k).h a.n).getD (g.cs k)) },k)
 else some (g,k)
def aNc (l:List Letter):List Letter:=l.drop (l.length - 120)
def Grp.post (g:Grp) (k:Int):Grp:={ g with l:=aNc (g.l++(g.cs k).out),cs:=nV g.cs k { g.cs k with out:=[] } }
def aVf (a b:Hard):Prop:=∀ (n n':Int) x y x' y',a.base<n→b.base<n→n≤n'→a.log[(n - a.base - 1).toNat]?=some x→b.log[(n - b.base - 1).toNat]?=some y→a.log[(n' - a.base - 1).toNat]?=some x'→b.log[(n' - b.base - 1).toNat]?=some y'→x'.term=y'.term→x=y
def LeadOK (G:Gho) (lead:List Int):Prop:=∀ (T:Nat) k,lead[T]?=some k→k=0∨∃ x,G.el (T:Int)=some x∧k=x.cand+1
def SureOK (G:Gho) (s:List Entry×List Int):Prop:=∀ (j:Nat) y,s.1[j]?=some y→y.term≠0→∃ T0 n m w,Cert G T0 n m∧j<n∧(G.LL T0)[j]?=some y∧s.2[j]?=some w∧T0≤w
structure GI (G:Gho) (g:Grp) (B:Nat):Prop where
 W:GW G g.cs B
 l:∀ m∈g.l,LetOK G m
 inv:∀ v,0≤v→v<5→Inv (g.cs v)
 out:∀ v,0≤v→v<5→(g.cs v).out=[]
 ll:g.l.length≤120
 lead:LeadOK G g.lead
 sure:SureOK G (g.sure,g.whn)
 le:g.lead.length=200
 sw:g.sure.length=g.whn.length
 sl:g.sure.length≤B
theorem rV (n lo hi:Int) (h:lo≤hi):lo≤fK n lo hi∧fK n lo hi≤hi:=by
 unfold fK
 have h1:=Int.emod_nonneg n (b:=hi - lo+1) (by omega)
 have h2:=Int.emod_lt_of_pos n (b:=hi - lo+1) (by omega)
 omega
theorem LeadOK.up {G G':Gho} (le:Le G G') {lead:List Int} (h:LeadOK G lead):LeadOK G' lead:=fun T k hk=>(h T k hk).imp id fun ⟨x,a,b⟩=>⟨x,le.el _ _ a,b⟩
theorem SureOK.up {G G':Gho} (le:Le G G') {s:List Entry×List Int} (h:SureOK G s):SureOK G' s:=fun j y hj hy=>by
 obtain ⟨T0,n,m,w,a,b,c,d,e⟩:=h j y hj hy
 refine ⟨T0,n,m,w,a.up le,b,?_,d,e⟩
 have:=le.take (T:=T0) (Nat.le_trans a.nm a.ml)
 rw [aLb this b];exact c
def aG7 (members:Int):Hard:=⟨0,-1,0,0,fK members 1 31,[],[]⟩
def aC2 (members v:Int):Core:=⟨v,aG7 members,1,-1,0,cX (3*v),cX (3*v),0,List.replicate 7 ⟨0,0,0⟩,none,[]⟩
def aLj (members:Int):Grp:=⟨aC2 members,[],0,[],[],List.replicate 200 0⟩
theorem aIx (members:Int):Hok (aG7 members):=by
 obtain ⟨h1,h2⟩:=rV members 1 31 (by decide)
 exact ⟨Int.le_refl _,by show (0:Int)≤1099511627776;decide,Int.le_refl _,by show (-1:Int)<7;decide,h1,by show fK members 1 31≤127;omega,Int.le_refl _,by show (0:Int)≤1099511627776;decide,Int.le_refl _,Int.le_refl _,⟨fun _=>rfl,fun _=>rfl⟩,Nat.zero_le _,by show (0:Int)≤1099511627776 - 0;decide,rfl,⟨fun _=>rfl,fun _=>rfl⟩,Nat.zero_le _⟩
theorem aIy (members:Int) {v:Int} (v0:0≤v) (v7:v<7):sY v (aG7 members) (3*v)=some (aC2 members v):=by
 unfold sY
 rw [if_neg (by rintro (h | h | h);omega;omega;rw [(pW _).2 (aIx members)] at h;cases h)]
 rfl
theorem aLk (members:Int):GI ⟨fK members 1 31,fun _=>[],fun _=>none,fun _ _=>0,fun _ _=>none,fun _=>[]⟩ (aLj members) 0:=by
 have inv:∀ v,0≤v→v<5→Inv (aC2 members v):=fun v v0 v5=>(Inv.new (aIy members v0 (by omega))).1
 refine ⟨⟨⟨fun T h=>absurd rfl h,fun T x h=>(by cases h),fun T=>List.Pairwise.nil,fun T n x h=>(by cases h),fun T x h=>(by cases h),fun T _=>rfl,fun T x h=>(by cases h),fun v T h=>absurd h (by show ¬ 1≤0;decide),fun T x h=>(by cases h),fun T x h=>(by cases h)⟩,
  fun v U k lg h=>(by cases h),fun T=>Nat.le_refl _,fun v _ _=>Nat.le_refl _,fun v v0 v5=>?_,fun v v0 v5 m hm=>(by cases hm)⟩,fun m hm=>(by cases hm),inv,fun v _ _=>rfl,Nat.zero_le _,fun T k hk=>?_,fun j y hj=>(by cases hj),rfl,rfl,Nat.le_refl _⟩
 ·exact ⟨rfl,Nat.le_refl _,rfl,rfl,rfl,List.Pairwise.nil,fun x hx=>(by cases hx),fun n x h=>(by cases h),⟨Nat.le_refl _,.inl rfl⟩,fun T n h1 h2=>absurd (Nat.le_trans h1 h2) (by show ¬ 1≤0;decide),fun _=>rfl,fun h=>absurd rfl h,fun _ _=>rfl,fun r=>(by cases r),fun r=>(by cases r),fun r=>(by cases r),fun r=>(by cases r)⟩
 ·left
  have hk':(List.replicate 200 (0:Int))[T]?=some k:=hk
  rw [List.getElem?_replicate] at hk'
  split at hk'
  ·cases hk';rfl
  ·cases hk'
end Go.Raft
end
