import Derived.KernelRfl
import Derived.Test.YtbiidlmhadihlaaX3
set_option linter.unusedSimpArgs false
set_option linter.unusedVariables false
set_option linter.unusedSectionVars false
set_option maxRecDepth 100000
section
namespace Go.Raft
open Go.AM
section
structure Lq (S:St) (n:Nat) (v:V) (es:List (List V)):Prop where
 len:∀ c∈es,c.length=n∧aH c=true
 is:(v=.nils∧es=[])∨∃ a ver off el,v=.sl a ver n off es.length∧a<S.next∧S.heap.get a=some (.row ver n el)∧off+es.length≤el.length∧(el.drop off).take es.length=es
theorem Lq.sl {S:St} {n:Nat} {v:V} {es:List (List V)} (h:Lq S n v es):Sl S n v es:=by
 refine ⟨?_,h.len⟩
 rcases h.is with h1 | ⟨a,ver,off,el,h1,h2,h3,h4,h5⟩
 ·exact .inl h1
 ·exact .inr (.inr ⟨a,ver,off,el,h1,aR h3,h4,h5⟩)
theorem Lq.keep {S S':St} {n:Nat} {v:V} {es:List (List V)} (h:Lq S n v es) (hn:S.next≤S'.next) (hk:∀ y b,aO v=some y→S.heap.get y=some b→S'.heap.get y=some b):Lq S' n v es:=by
 refine ⟨h.len,h.is.imp id ?_⟩
 rintro ⟨a,ver,off,el,h1,h2,h3,h4,h5⟩
 exact ⟨a,ver,off,el,h1,Nat.lt_of_lt_of_le h2 hn,hk a _ (by rw [h1];rfl) h3,h4,h5⟩
theorem Lq.lt {S:St} {n:Nat} {v:V} {es:List (List V)} (h:Lq S n v es) {y:Nat} (hy:aO v=some y):y<S.next∧∃ ver el,S.heap.get y=some (.row ver n el):=by
 rcases h.is with ⟨rfl,_⟩ | ⟨a,ver,off,el,rfl,h2,h3,_⟩
 ·cases hy
 ·cases hy;exact ⟨h2,ver,el,h3⟩
theorem Lq.push {S:St} {n b k:Nat} {v u:V} {es cs:List (List V)} (h:Lq S n v es) (w:WF S) (hu:Sl S n u cs) (hk:S.heap.get k=none∧k<S.next) (h1:(es.length+cs.length)*b≤35184372088832) (h2:es.length+cs.length<eV):
  ∃ v' S',fN n b v u (some k) S=.ok (v',S')∧Lq S' n v' (es++cs)∧S'.next=S.next∧(∀ y,aO v'=some y→y=k∨aO v=some y)∧(∀ y c,y≠k→aO v≠some y→S.heap.get y=some c→S'.heap.get y=some c)∧WF S':=by
 obtain ⟨a1,a2⟩:=eT hu.len
 have hlen:∀ c,c∈es++cs→c.length=n∧aH c=true:=fun c hm=>(List.mem_append.1 hm).elim (h.len c) (hu.len c)
 rcases h.is with ⟨rfl,rfl⟩ | ⟨a,ver,off,el,rfl,q1,q2,q3,q4⟩
 ·cases cs with
  | nil=>
   refine ⟨.nils,S,?_,⟨hlen,.inl ⟨rfl,rfl⟩⟩,rfl,(fun y hy=>(by cases hy)),fun y c _ _ hc=>hc,w⟩
   simp only [fN,hu.elems,a1,a2,and_self,if_true]
  | cons c cs=>
   simp only [List.length_nil,Nat.zero_add] at h1 h2
   refine ⟨.sl k 0 n 0 (c::cs).length,⟨S.next,S.heap.put k (.row 0 n (c::cs))⟩,?_,⟨hlen,.inr ⟨k,0,0,c::cs,rfl,hk.2,Tr.get_put_sameB _ _ _ trivial,by simp,by simp⟩⟩,rfl,(fun y hy=>by cases hy;exact .inl rfl),(fun y x hy _ hx=>by show (S.heap.put _ _).get y=_;rw [Tr.get_put_neB _ _ _ _ trivial hy];exact hx),(But.put hk.2 _).wf w⟩
   simp only [fN,hu.elems,a1,a2,and_self,if_true,h1,h2,gP]
 ·refine ⟨.sl a (ver+1) n 0 (es++cs).length,⟨S.next,S.heap.put a (.row (ver+1) n (es++cs))⟩,?_,⟨hlen,.inr ⟨a,ver+1,0,es++cs,rfl,q1,Tr.get_put_sameB _ _ _ trivial,by simp,by rw [List.drop_zero,List.take_length]⟩⟩,rfl,(fun y hy=>by cases hy;exact .inr rfl),(fun y x _ hy hx=>by show (S.heap.put _ _).get y=_;rw [Tr.get_put_neB _ _ _ _ trivial (fun e=>hy (by rw [e];rfl))];exact hx),(But.put q1 _).wf w⟩
  simp only [fN,hu.elems,a1,a2,and_self,if_true,aR q2,q3,h1,h2,q4,List.length_append]
theorem Lq.cut {P:Program} {t:TypeId} {n:Nat} (ht:esT P t=some n) {S:St} {v:V} {es:List (List V)} (h:Lq S n v es) {lo hi:Option V} {i j:Nat} (hb:eU es.length lo hi=.ok (i,j)) (hij:i≤j) (hj:j≤es.length):
  ∃ u,dP P t v lo hi=.ok u∧Lq S n u ((es.take j).drop i)∧aO u=aO v:=by
 haveI:Guard:=⟨0⟩
 have hlen:∀ cs,cs∈(es.take j).drop i→cs.length=n∧aH cs=true:=fun cs hc=>h.len cs (List.mem_of_mem_take (List.mem_of_mem_drop hc))
 have hlen2:((es.take j).drop i).length=j - i:=by simp;omega
 rcases h.is with ⟨rfl,rfl⟩ | ⟨a,ver,off,elems,rfl,h1,h2,h3,h4⟩
 ·exact ⟨.nils,by rw [pY ht];simp only [List.length_nil] at hb;rw [hb],⟨hlen,.inl ⟨rfl,by simp⟩⟩,rfl⟩
 ·refine ⟨.sl a ver n (off+i) (j - i),by rw [sO ht,hb],⟨hlen,.inr ⟨a,ver,off+i,elems,by rw [hlen2],h1,h2,by rw [hlen2];omega,?_⟩⟩,rfl⟩
  rw [hlen2,←h4,List.take_take,List.drop_take,List.drop_drop,Nat.min_eq_left hj]
def aVg (n:Int):V:=.int .i64 n
def aNd (n:Int):List V:=[.int .i64 n]
def aG8 (g:Grp) (p:Int→Nat) (lv sv wv:V):List V:=[.ptr (p 0) 0 0 0,.ptr (p 1) 0 0 0,.ptr (p 2) 0 0 0,.ptr (p 3) 0 0 0,.ptr (p 4) 0 0 0,lv,.int .i64 g.said,sv,wv]++g.lead.map aVg
def aLl (S:St) (a:Nat) (O:Int→Nat→Prop) (sv:V) (m:Letter) (cs:List V):Prop:=∃ ev,cs=aG m ev∧Sl S 3 ev (m.entries.map bV)∧∀ y,aO ev=some y→y≠a∧(∀ v,0≤v→v<5→¬ O v y)∧aO sv≠some y
structure GRest (S:St) (a:Nat) (g:Grp) (p:Int→Nat) (O:Int→Nat→Prop) (lv sv wv:V) (rows:List (List V)):Prop where
 al:a<S.next
 na:∀ y,aO lv=some y∨aO sv=some y∨aO wv=some y→y≠a
 cores:∀ v,0≤v→v<5→∃ n,@CoreIn ⟨n⟩ S (p v) (g.cs v) (O v)
 sep:∀ u v,0≤u→u<5→0≤v→v<5→u≠v→∀ y,O u y→¬ O v y
 og:∀ v,0≤v→v<5→∀ y,O v y→y≠a∧aO lv≠some y∧aO sv≠some y∧aO wv≠some y
 l:Lq S 13 lv rows
 lets:All2 (aLl S a O sv) g.l rows
 sv:Mn S 3 sv (g.sure.map bV)
 wv:Mn S 1 wv (g.whn.map aNd)
structure GAt (S:St) (a:Nat) (g:Grp) (p:Int→Nat) (O:Int→Nat→Prop) (lv sv wv:V) (rows:List (List V)):Prop where
 cell:S.heap.get a=some (.row 0 209 [aG8 g p lv sv wv])
 rest:GRest S a g p O lv sv wv rows
theorem CoreIn.keep {n:Nat} {S S':St} {a:Nat} {c:Core} {O:Nat→Prop} (h:@CoreIn ⟨n⟩ S a c O) (ho:c.out=[]) (w:WF S) (hn:S.next≤S'.next) (hk:∀ y b,O y→S.heap.get y=some b→S'.heap.get y=some b):@CoreIn ⟨n⟩ S' a c O:=by
 letI:Guard:=⟨n⟩
 obtain ⟨lv,wv,dv,ov,rows,h,rfl⟩:=h
 have hr:rows=[]:=by have:=h.lets;rw [ho] at this;exact Go.Proofs.Ytbiidlmhadihlaa.rows_nil this
 subst hr
 have kk:∀ {y b},own a lv wv dv ov y→S.heap.get y=some b→S'.heap.get y=some b:=fun ho hb=>hk _ _ ho hb
 refine ⟨lv,wv,dv,ov,[],⟨kk (.inl rfl) h.cell,h.peers,Mn.fr h.log hn fun y b hy hb=>kk (.inr (.inl hy)) hb,?_,Mn.fr h.out hn fun y b hy hb=>kk (.inr (.inr (.inr (.inr hy)))) hb,by rw [ho];exact .nil,⟨Nat.le_trans h.gd.1 hn,fun r hr=>by cases hr⟩⟩,rfl⟩
 have hw:=h.way
 unfold WayAt at hw ⊢
 split at hw
 ·exact hw
 ·obtain ⟨b,e,g,n⟩:=hw
  exact ⟨b,e,kk (.inr (.inr (.inl (by rw [e];rfl)))) g,Mn.fr n hn fun y b hy hb=>kk (.inr (.inr (.inr (.inl hy)))) hb⟩
theorem lM {S S':St} {a:Nat} {O O':Int→Nat→Prop} {sv sv':V} (w:WF S) (hk:∀ y ver el,y≠a→(∀ v,0≤v→v<5→¬ O v y)→aO sv≠some y→S.heap.get y=some (.row ver 3 el)→S'.heap.get y=some (.row ver 3 el))
  (hO:∀ v y,0≤v→v<5→O' v y→O v y∨S.next≤y) (hs:∀ y,aO sv'=some y→aO sv=some y∨S.next≤y):∀ {l:List Letter} {rows:List (List V)},All2 (aLl S a O sv) l rows→All2 (aLl S' a O' sv') l rows
 | _,_,.nil=>.nil
 | _,_,.cons ⟨ev,e,h1,h2⟩ t=>by
  refine .cons ⟨ev,e,?_,fun y hy=>?_⟩ (lM w hk hO hs t)
  ·refine ⟨?_,h1.len⟩
   rcases h1.is with h | h | ⟨b,ver,off,el,h,g1,g2,g3⟩
   ·exact .inl h
   ·exact .inr (.inl h)
   ·obtain ⟨d0,d1,d2⟩:=h2 b (by rw [h];rfl)
    exact .inr (.inr ⟨b,ver,off,el,h,aR (hk b _ _ d0 d1 d2 (eY g1)),g2,g3⟩)
  ·obtain ⟨d0,d1,d2⟩:=h2 y hy
   have hlt:=aDt w h1 y hy
   refine ⟨d0,fun v v0 v5 q=>?_,fun q=>?_⟩
   ·rcases hO v y v0 v5 q with q | q
    ·exact d1 v v0 v5 q
    ·omega
   ·rcases hs y q with q | q
    ·exact d2 q
    ·omega
theorem GRest.keep {S S':St} {a:Nat} {g:Grp} {p:Int→Nat} {O:Int→Nat→Prop} {lv sv wv:V} {rows:List (List V)} (h:GRest S a g p O lv sv wv rows) (ho:∀ v,0≤v→v<5→(g.cs v).out=[]) (w:WF S) (hn:S.next≤S'.next)
  (hk:∀ y b,y≠a→S.heap.get y=some b→S'.heap.get y=some b):GRest S' a g p O lv sv wv rows:=by
 refine ⟨Nat.lt_of_lt_of_le h.al hn,h.na,fun v v0 v5=>?_,h.sep,h.og,?_,?_,?_,?_⟩
 ·obtain ⟨n,hc⟩:=h.cores v v0 v5
  exact ⟨n,hc.keep (ho v v0 v5) w hn fun y b hy hb=>hk y b (h.og v v0 v5 y hy).1 hb⟩
 ·exact h.l.keep hn fun y b hy hb=>hk y b (h.na y (.inl hy)) hb
 ·exact lM w (fun y ver el h0 _ _ hb=>hk y _ h0 hb) (fun v y _ _ hy=>.inl hy) (fun y hy=>.inl hy) h.lets
 ·exact Mn.fr h.sv hn fun y b hy hb=>hk y b (h.na y (.inr (.inl hy))) hb
 ·exact Mn.fr h.wv hn fun y b hy hb=>hk y b (h.na y (.inr (.inr hy))) hb
theorem GAt.ext {S S':St} {a:Nat} {g:Grp} {p:Int→Nat} {O:Int→Nat→Prop} {lv sv wv:V} {rows:List (List V)} (h:GAt S a g p O lv sv wv rows) (ho:∀ v,0≤v→v<5→(g.cs v).out=[]) (w:WF S) (x:Ext S S'):GAt S' a g p O lv sv wv rows:=
 ⟨x.old _ _ h.cell,h.rest.keep ho w x.next fun y b _ hb=>x.old y b hb⟩
section
variable {S:St} {a:Nat} {g:Grp} {p:Int→Nat} {O:Int→Nat→Prop} {lv sv wv:V} {rows:List (List V)} (h:S.heap.get a=some (.row 0 209 [aG8 g p lv sv wv]))
include h
end
end
end Go.Raft
end
section
namespace Go.Proofs.Ytbiidlmhadihlaa
open Go.AM Go.Raft Try
section
def aLm (O:Int→Nat→Prop) (k:Int) (O1:Nat→Prop):Int→Nat→Prop:=fun u=>if u=k then O1 else O u
theorem kP (O:Int→Nat→Prop) (k:Int) (O1:Nat→Prop):aLm O k O1 k=O1:=if_pos rfl
theorem nW (O:Int→Nat→Prop) {k u:Int} (O1:Nat→Prop) (h:u≠k):aLm O k O1 u=O u:=if_neg h
theorem aEg {n:Nat} {S:St} {a:Nat} {c:Core} {O:Nat→Prop} (w:WF S) (h:@CoreIn ⟨n⟩ S a c O):∀ y,O y→y<S.next:=by
 letI:Guard:=⟨n⟩
 exact core_lt w h
theorem aLn {S S':St} {a:Nat} {g:Grp} {p p':Int→Nat} {O:Int→Nat→Prop} {lv sv wv:V} {rows:List (List V)} {k:Int} {O1:Nat→Prop} {d:Core} (h:GRest S a g p O lv sv wv rows) (k0:0≤k) (k5:k<5) (ho:∀ v,0≤v→v<5→v≠k→(g.cs v).out=[]) (w:WF S)
  (hp:∀ v,v≠k→p' v=p v) (hc:∃ n,@CoreIn ⟨n⟩ S' (p' k) d O1) (m:Mv (O k) S O1 S'):GRest S' a { g with cs:=nV g.cs k d } p' (aLm O k O1) lv sv wv rows:=by
 have lt:∀ v,0≤v→v<5→∀ y,O v y→y<S.next:=fun v v0 v5 y hy=>by
  obtain ⟨n,hc⟩:=h.cores v v0 v5
  exact aEg w hc y hy
 refine ⟨Nat.lt_of_lt_of_le h.al m.next,h.na,fun v v0 v5=>?_,fun u v u0 u5 v0 v5 hne y hu hv=>?_,fun v v0 v5 y hy=>?_,?_,?_,?_,?_⟩
 ·by_cases e:v=k
  ·rw [e,kP]
   show ∃ n,@CoreIn ⟨n⟩ S' (p' k) (nV g.cs k d k) O1
   rw [rT];exact hc
  ·rw [nW _ _ e]
   show ∃ n,@CoreIn ⟨n⟩ S' (p' v) (nV g.cs k d v) (O v)
   rw [aG6 _ _ e,hp v e]
   obtain ⟨n,hv⟩:=h.cores v v0 v5
   exact ⟨n,hv.keep (ho v v0 v5 e) w m.next fun y b hy hb=>m.keep y b (h.sep v k v0 v5 k0 k5 e y hy) hb⟩
 ·by_cases eu:u=k
  ·have ev:v≠k:=fun e=>hne (eu.trans e.symm)
   rw [eu,kP] at hu
   rw [nW _ _ ev] at hv
   rcases m.own y hu with q | q
   ·exact h.sep k v k0 k5 v0 v5 (Ne.symm ev) y q hv
   ·have:=lt v v0 v5 y hv;omega
  ·rw [nW _ _ eu] at hu
   by_cases ev:v=k
   ·rw [ev,kP] at hv
    rcases m.own y hv with q | q
    ·exact h.sep u k u0 u5 k0 k5 eu y hu q
    ·have:=lt u u0 u5 y hu;omega
   ·rw [nW _ _ ev] at hv
    exact h.sep u v u0 u5 v0 v5 hne y hu hv
 ·by_cases e:v=k
  ·rw [e,kP] at hy
   rcases m.own y hy with q | q
   ·exact h.og k k0 k5 y q
   ·have h1:=h.al
    refine ⟨by omega,fun e1=>?_,fun e1=>?_,fun e1=>?_⟩
    ·have:=(h.l.lt e1).1;omega
    ·have:=(h.sv.blk e1).1;omega
    ·have:=(h.wv.blk e1).1;omega
  ·rw [nW _ _ e] at hy
   exact h.og v v0 v5 y hy
 ·exact h.l.keep m.next fun y b hy hb=>m.keep y b (fun q=>(h.og k k0 k5 y q).2.1 hy) hb
 ·refine lM w (fun y ver el h0 h1 h2 hb=>m.keep y _ (h1 k k0 k5) hb) (fun v y v0 v5 hy=>?_) (fun y hy=>.inl hy) h.lets
  by_cases e:v=k
  ·rw [e,kP] at hy
   rcases m.own y hy with q | q
   ·rw [e];exact .inl q
   ·exact .inr q
  ·rw [nW _ _ e] at hy;exact .inl hy
 ·exact Mn.fr h.sv m.next fun y b hy hb=>m.keep y b (fun q=>(h.og k k0 k5 y q).2.2.1 hy) hb
 ·exact Mn.fr h.wv m.next fun y b hy hb=>m.keep y b (fun q=>(h.og k k0 k5 y q).2.2.2 hy) hb
structure GMid (S:St) (a:Nat) (g:Grp) (k:Int) (p:Int→Nat) (O:Int→Nat→Prop) (lv sv wv:V) (rows:List (List V)):Prop where
 at':GAt S a g p O lv sv wv rows
 mid:∃ n,@CoreIn ⟨n⟩ S (p k) (g.cs k) (O k)∧n≤S.next∧a<n∧(∀ v,0≤v→v<5→v≠k→∀ y,O v y→y<n)∧∀ y,aO sv=some y→y<n
theorem rW {n n':Nat} {S:St} {a:Nat} {c:Core} {O:Nat→Prop} (h:@CoreIn ⟨n⟩ S a c O) (ho:c.out=[]) (hn:n'≤S.next):@CoreIn ⟨n'⟩ S a c O:=by
 obtain ⟨lv,wv,dv,ov,rows,h,rfl⟩:=h
 have hr:rows=[]:=by
  have hl:=@CoreAt.lets ⟨n⟩ _ _ _ _ _ _ _ _ h
  rw [ho] at hl
  letI:Guard:=⟨n⟩
  exact rows_nil hl
 subst hr
 exact ⟨lv,wv,dv,ov,[],CoreAt.reguard h hn,rfl⟩
section
variable {S:St} {a:Nat} {g:Grp} {k:Int} {p:Int→Nat} {O:Int→Nat→Prop} {lv sv wv:V} {rows:List (List V)}
theorem GMid.ext {S':St} (h:GMid S a g k p O lv sv wv rows) (k0:0≤k) (k5:k<5) (ho:∀ v,0≤v→v<5→v≠k→(g.cs v).out=[]) (w:WF S) (x:Ext S S'):GMid S' a g k p O lv sv wv rows:=by
 obtain ⟨n,hc,h1,h2,h3,h4⟩:=h.mid
 letI:Guard:=⟨n⟩
 have hc':=hc.ext w x
 have hr:=aLn h.at'.rest k0 k5 ho w (fun _ _=>rfl) ⟨n,hc'⟩ (Mv.of x)
 have e1:aLm O k (O k)=O:=by funext u;unfold aLm;split;rename_i e;rw [e];rfl
 have e2:({ g with cs:=nV g.cs k (g.cs k) }:Grp)=g:=by rw [aLe]
 rw [e1,e2] at hr
 exact ⟨⟨x.old _ _ h.at'.cell,hr⟩,n,hc',Nat.le_trans h1 x.next,h2,h3,h4⟩
end
end
section
theorem Lq.lenI {S:St} {n:Nat} {v:V} {α:Type} {l:List α} {f:α→List V} (h:Go.Raft.Lq S n v (l.map f)):lenW v=.ok (.int .i64 l.length):=h.sl.lenI
section
variable {S:St} {a:Nat} {g:Grp} {k:Int} {p:Int→Nat} {O:Int→Nat→Prop} {lv sv wv:V} {rows:List (List V)}
end
end
end Go.Proofs.Ytbiidlmhadihlaa
end
section
namespace Go.Raft
open Go.AM
set_option linter.unusedVariables false
set_option linter.unusedSectionVars false
set_option linter.unusedSimpArgs false
set_option maxRecDepth 100000
theorem Mn.setAt {S:St} {n:Nat} {v:V} {es:List (List V)} (h:Mn S n v es) (w:WF S) {i:Nat} (hi:i<es.length) {x:V} (hx:x.cells.length=n) (ho:aH x.cells=true):
  ∃ p S',(∀ k,jX n v (.int k (i:Int))=.ok p)∧bG n p x S=.ok S'∧Mn S' n v (es.set i x.cells)∧S'.next=S.next∧(∀ y b,aO v≠some y→S.heap.get y=some b→S'.heap.get y=some b)∧WF S'∧At S p (es.getD i []):=by
 rcases h.is with ⟨rfl,rfl⟩ | ⟨a,ver,tl,rfl,h2,h3,h4⟩
 ·cases hi
 ·have hat:es[i]?=some (es.getD i []):=by rw [List.getD_eq_getElem?_getD,List.getElem?_eq_getElem hi];rfl
  have hlen:=(h.len _ (List.mem_of_getElem? hat)).1
  have hat2:(es++tl)[i]?=some (es.getD i []):=by rw [List.getElem?_append_left hi];exact hat
  have hs:splice (es.getD i []) 0 x.cells=x.cells:=lD _ _ (by rw [hx,hlen])
  refine ⟨.ptr a ver i 0,⟨S.next,S.heap.put a (.row ver n ((es++tl).set i x.cells))⟩,fun k=>by simp only [jX,mR hi,if_true,Nat.zero_add],?_,⟨.inr ⟨a,ver,tl,by rw [List.length_set],h2,h3,?_⟩,fun c hc=>?_⟩,rfl,fun y b hy hb=>?_,(But.put h3 _).wf w,.inl ⟨a,ver,i,n,es++tl,rfl,aR h4,hat2⟩⟩
  ·simp only [bG,aR h4,hat2,hx,ho,true_and,hlen,Nat.zero_add,Nat.le_refl,if_true,hs]
  ·show (S.heap.put a _).get a=_
   rw [List.set_append_left _ _ hi]
   exact Tr.get_put_sameB _ _ _ trivial
  ·rcases List.mem_or_eq_of_mem_set hc with hc | rfl
   ·exact h.len c hc
   ·exact ⟨hx,ho⟩
  ·show (S.heap.put a _).get y=_
   rw [Tr.get_put_neB _ _ _ _ trivial (fun e=>hy (by rw [e];rfl))];exact hb
theorem Mn.one {S:St} {n b:Nat} {v:V} {es:List (List V)} (h:Mn S n v es) (w:WF S) {z c:List V} (hc:c.length=n∧aH c=true) (hb:1*n≤16777216) (h1:(es.length+1)*b≤35184372088832) (h2:es.length+1<eV):
  ∃ u S1 v' S',cN n z 1 [(0,.agg c)] none S=.ok (u,S1)∧fN n b v u none S1=.ok (v',S')∧Mn S' n v' (es++[c])∧(∀ y,aO v'=some y→aO v=some y∨S.next≤y)∧(∀ y x,y<S.next→aO v≠some y→S.heap.get y=some x→S'.heap.get y=some x)∧S.next≤S'.next∧WF S':=by
 have e1:=aFk S n z [c] (fun x hx=>by rw [List.mem_singleton.1 hx];exact hc) (by simpa using hb)
 have x1:Ext S (⟨S.next+1,S.heap.put S.next (.row 0 n [c])⟩:St):=Ext.new w _
 have w1:=x1.wf w
 have g1:(⟨S.next+1,S.heap.put S.next (.row 0 n [c])⟩:St).heap.get S.next=some (.row 0 n [c]):=Tr.get_put_sameB _ _ _ trivial
 have s1:=Sl.many g1 (fun x hx=>by rw [List.mem_singleton.1 hx];exact hc)
 obtain ⟨v',S',q1,q2,q3,q4,q5,q6⟩:=Own.pushG (b:=b) (h.ext x1) (aBw w1) uB s1.elems s1.len (by simp) (by simpa using h1) (by simpa using h2)
 refine ⟨_,_,v',S',e1,q1,q3,fun y hy=>?_,fun y x hy hv hx=>?_,Nat.le_trans x1.next q6,q2.wf uB⟩
 ·rcases q4 with q4 | q4
  ·rw [q4] at hy;cases hy;right;exact Nat.le_succ _
  ·rw [q4] at hy;exact .inl hy
 ·rw [q5 y (Nat.lt_succ_of_lt hy) hv];exact x1.old _ _ hx
theorem GRest.lists {S S':St} {a:Nat} {g:Grp} {p:Int→Nat} {O:Int→Nat→Prop} {lv sv wv sv' wv':V} {rows:List (List V)} {su:List Entry} {wh:List Int} (h:GRest S a g p O lv sv wv rows) (ho:∀ v,0≤v→v<5→(g.cs v).out=[]) (w:WF S) (hn:S.next≤S'.next)
  (hk:∀ y b,y<S.next→aO sv≠some y→aO wv≠some y→S.heap.get y=some b→S'.heap.get y=some b)
  (hs:∀ y,aO sv'=some y→aO sv=some y∨S.next≤y) (hw:∀ y,aO wv'=some y→aO wv=some y∨S.next≤y) (ms:Mn S' 3 sv' (su.map bV)) (mw:Mn S' 1 wv' (wh.map aNd)):
  GRest S' a { g with sure:=su,whn:=wh } p O lv sv' wv' rows:=by
 have wid:∀ {y ver m} {el:List (List V)},S.heap.get y=some (.row ver m el)→m≠1→aO wv≠some y:=fun hy hm e=>by
  obtain ⟨_,ver',tl,_,h2⟩:=h.wv.blk e
  rw [hy] at h2
  injection h2 with h2
  injection h2 with _ h2
  exact hm h2
 have wid3:∀ {y ver m} {el:List (List V)},S.heap.get y=some (.row ver m el)→m≠3→aO sv≠some y:=fun hy hm e=>by
  obtain ⟨_,ver',tl,_,h2⟩:=h.sv.blk e
  rw [hy] at h2
  injection h2 with h2
  injection h2 with _ h2
  exact hm h2
 have Olt:∀ v,0≤v→v<5→∀ y,O v y→y<S.next:=fun v v0 v5 y hy=>by
  obtain ⟨m,hm⟩:=h.cores v v0 v5
  letI:Guard:=⟨m⟩
  exact Go.Proofs.Ytbiidlmhadihlaa.core_lt w hm y hy
 refine ⟨Nat.lt_of_lt_of_le h.al hn,fun y hy e=>?_,fun v v0 v5=>?_,h.sep,fun v v0 v5 y hy=>?_,?_,?_,ms,mw⟩
 ·have hal:=h.al
  rcases hy with hy | hy | hy
  ·exact h.na y (.inl hy) e
  ·rcases hs y hy with q | q
   ·exact h.na y (.inr (.inl q)) e
   ·omega
  ·rcases hw y hy with q | q
   ·exact h.na y (.inr (.inr q)) e
   ·omega
 ·obtain ⟨n,hc⟩:=h.cores v v0 v5
  refine ⟨n,hc.keep (ho v v0 v5) w hn fun y b hy hb=>?_⟩
  obtain ⟨_,_,o3,o4⟩:=h.og v v0 v5 y hy
  exact hk y b (w y b hb) o3 o4 hb
 ·obtain ⟨o1,o2,o3,o4⟩:=h.og v v0 v5 y hy
  have:=Olt v v0 v5 y hy
  refine ⟨o1,o2,fun e=>?_,fun e=>?_⟩
  ·rcases hs y e with q | q
   ·exact o3 q
   ·omega
  ·rcases hw y e with q | q
   ·exact o4 q
   ·omega
 ·refine h.l.keep hn fun y b hy hb=>?_
  obtain ⟨_,ver,el,h2⟩:=h.l.lt hy
  exact hk y b (w y b hb) (wid3 h2 (by decide)) (wid h2 (by decide)) hb
 ·exact lM w (fun y ver el _ _ h2 hb=>hk y _ (w y _ hb) h2 (wid hb (by decide)) hb) (fun v y _ _ hy=>.inl hy) hs h.lets
end Go.Raft
namespace Go.Proofs.Ytbiidlmhadihlaa
open Go.AM Go.Raft Try
set_option linter.unusedVariables false
set_option linter.unusedSectionVars false
set_option linter.unusedSimpArgs false
set_option maxRecDepth 100000
end Go.Proofs.Ytbiidlmhadihlaa
end
section
namespace Go.Raft
def dT (s:List UInt8) (o:Nat):Letter:=⟨5,0,1,4,9,2,0,3,o,s.length,false,(s.drop o).take 600,[]⟩
def iE (o:Nat):Letter:=⟨6,1,0,4,9,0,0,0,o,0,false,[],[]⟩
def kA (y:Bool) (i:Int):Letter:=⟨4,1,0,4,i,0,0,0,0,0,y,[],[]⟩
def gM (i a c:Int) (es:List Entry):Letter:=⟨3,0,1,4,i,a,c,0,0,0,false,[],es⟩
def uF:Letter:=⟨1,0,1,4,9,2,0,0,0,0,false,[],[]⟩
def aHk:Letter:=⟨2,1,0,4,0,0,0,0,0,0,true,[],[]⟩
def lU:Entry:=⟨4,0,[]⟩
def hX (s:List UInt8):Hard:=⟨3,-1,9,2,3,s,[]⟩
def hY:Hard:=⟨3,-1,0,0,3,[],[]⟩
def x0 (s:List UInt8):Core:=⟨0,hX s,1,-1,9,10,10,0,List.replicate 7 ⟨0,0,0⟩,none,[]⟩
def y0:Core:=⟨1,hY,1,-1,0,19,19,0,List.replicate 7 ⟨0,0,0⟩,none,[]⟩
def xC (s:List UInt8) (sx l:Int) (p:Peer) (out:List Letter):Core:=⟨0,⟨4,0,9,2,3,s,[lU]⟩,3,0,sx,10,l,3,[⟨10,10,0⟩,p,⟨10,0,0⟩,⟨10,0,0⟩,⟨10,0,0⟩,⟨10,0,0⟩,⟨10,0,0⟩],none,out⟩
def x10 (s:List UInt8):Core:=⟨0,⟨4,0,9,2,3,s,[]⟩,2,-1,9,10,10,1,List.replicate 7 ⟨0,0,0⟩,none,[uF]⟩
def yC (leads:Int) (way:Option Inst) (out:List Letter):Core:=⟨1,⟨4,0,0,0,3,[],[]⟩,1,leads,0,19,19,0,List.replicate 7 ⟨0,0,0⟩,way,out⟩
def yD (s:List UInt8) (log:List Entry) (sure:Int) (out:List Letter):Core:=⟨1,⟨4,0,9,2,3,s,log⟩,1,0,sure,19,19,0,List.replicate 7 ⟨0,0,0⟩,none,out⟩
def kB (s:List UInt8) (o:Nat):Inst:=⟨9,2,s.length,s.take o⟩
theorem aSi {s:List UInt8} (h1:s≠[]) (h2:s.length≤6000):sY 0 (hX s) 0=some (x0 s):=by
 have h:fX (hX s)=true:=by
  unfold fX
  have b:lR (hX s)=true:=by
   show lR ⟨3,-1,9,2,3,[],[]⟩=true
   decide +kernel
  rw [b]
  have c1:decide (s=[]↔(9:Int)=0)=true:=decide_eq_true ⟨fun e=>absurd e h1,fun e=>absurd e (by decide)⟩
  have c2:decide (s.length≤65536)=true:=decide_eq_true (by omega)
  show (true&&(decide (s=[]↔(9:Int)=0)&&decide (s.length≤65536)))=true
  rw [c1,c2];rfl
 unfold sY
 rw [if_neg (by rw [h];decide)]
 rfl
theorem aSj:sY 1 hY 9=some y0:=by decide +kernel
def uG:Nat→Core→Core
 | 0,c=>c
 | n+1,c=>(uG n c).tick 0
theorem aNe (s:List UInt8):uG 10 (x0 s)=x10 s:=by kernel_rfl
theorem aSk:y0.take uF=yC (-1) none [aHk]:=by decide +kernel
theorem aSl (s:List UInt8):({ x10 s with out:=[] }:Core).take aHk=xC s 9 3 ⟨10,0,0⟩ [gM 9 2 9 [lU]]:=by kernel_rfl
theorem aSm:(yC (-1) none []).take (gM 9 2 9 [lU])=yC 0 none [kA false 0]:=by decide +kernel
theorem aVh (s:List UInt8) (l:Int):(xC s 9 l ⟨10,0,0⟩ []).take (kA false 0)=xC s 9 l ⟨1,0,0⟩ [dT s 0]:=by kernel_rfl
theorem aQq (s:List UInt8) (l:Int) (o:Int):(xC s 9 l ⟨1,0,o⟩ []).take (kA true 9)=xC s 9 l ⟨10,9,0⟩ [gM 9 2 9 [lU]]:=by kernel_rfl
theorem aNf (s:List UInt8) (l:Int) (out:List Letter):(xC s 9 l ⟨10,9,0⟩ out).take (kA true 9)=xC s 9 l ⟨10,9,0⟩ out:=by kernel_rfl
theorem aNg (s:List UInt8) (l:Int):(xC s 9 l ⟨10,9,0⟩ []).take (kA true 10)=xC s 10 l ⟨11,10,0⟩ []:=by kernel_rfl
theorem aLo (s:List UInt8) (l:Int) (out:List Letter):(xC s 10 l ⟨11,10,0⟩ out).take (kA true 10)=xC s 10 l ⟨11,10,0⟩ out:=by kernel_rfl
theorem aG9 (s:List UInt8) (sx l:Int) (p:Peer) (out:List Letter) (h:1<l):(xC s sx l p out).tick 0=xC s sx (l - 1) p out:=by
 unfold Core.tick
 show (if 0<l - 1 then xC s sx (l - 1) p out else _)=_
 rw [if_pos (by omega)]
theorem aNh (s:List UInt8) (o:Nat) (out:List Letter):(xC s 9 1 ⟨1,0,o⟩ out).tick 0=xC s 9 3 ⟨1,0,o⟩ (out++[dT s o]):=by kernel_rfl
theorem aNi (s:List UInt8) (out:List Letter):(xC s 9 1 ⟨10,9,0⟩ out).tick 0=xC s 9 3 ⟨10,9,0⟩ (out++[gM 9 2 9 [lU]]):=by kernel_rfl
theorem aNj (s:List UInt8) (out:List Letter):(xC s 10 1 ⟨11,10,0⟩ out).tick 0=xC s 10 3 ⟨11,10,0⟩ (out++[gM 10 4 10 []]):=by kernel_rfl
theorem aLp (s:List UInt8) (log:List Entry) (h:log=[]∨log=[lU]) (out:List Letter):(yD s log 9 out).take (gM 9 2 9 [lU])=yD s [lU] 9 (out++[kA true 10]):=by
 rcases h with rfl | rfl<;>kernel_rfl
theorem aHl (s:List UInt8) (n:Int) (h:n=9∨n=10) (out:List Letter):(yD s [lU] n out).take (gM 10 4 10 [])=yD s [lU] 10 (out++[kA true 10]):=by
 rcases h with rfl | rfl<;>kernel_rfl
theorem xX {o:Nat} (h:o≤65536):dS (iE o)=true:=by
 simp [dS,mX,oP,kR,iE,Letter.zero]
 exact decide_eq_true (by omega)
theorem xY {s:List UInt8} {o:Nat} (h:o<s.length) (hs:s.length≤6000):dS (dT s o)=true:=by
 have h1:1≤((s.drop o).take 600).length:=by rw [List.length_take,List.length_drop];omega
 have h2:((s.drop o).take 600).length≤600:=by rw [List.length_take];omega
 have h3:(((s.drop o).take 600).length:Int)≤(s.length:Int) - (o:Int):=by rw [List.length_take,List.length_drop];omega
 have e1:(1:Int)≤(s.length:Int):=by omega
 have e2:(s.length:Int)≤65536:=by omega
 have e3:(o:Int)≤(s.length:Int) - 1:=by omega
 have lU:(0:Int)≤(o:Int):=by omega
 unfold dS
 have k:(dT s o).kind=5:=rfl
 have n:mX (dT s o)=true:=by
  unfold mX
  rw [k,if_neg (by decide),if_neg (by decide),if_neg (by decide),if_neg (by decide),if_pos rfl]
  simp [oP,dT,Letter.zero]
 have p:gV (dT s o)=true:=by
  unfold gV kR dT
  simp only [decide_eq_true h1,decide_eq_true h2,decide_eq_true h3,decide_eq_true e1,decide_eq_true e2,decide_eq_true e3,decide_eq_true lU]
  kernel_rfl
 rw [n,k,if_neg (by decide),if_neg (by decide),if_pos rfl,p]
 refine Eq.symm (Eq.symm ?_)
 kernel_rfl
theorem nX {c:Core} {m:Letter} (hr:dS m=true) (ht:m.to=c.id) (hk:m.kind≠1) (hte:c.h.term=m.term):c.take m=if m.kind=1 then c.asked m else if m.kind=2 then c.voted m else if m.kind=3 then c.appended m else if m.kind=4 then c.acked m else if m.kind=5 then c.installed m else if m.kind=6 then c.more m else c:=by
 have p:c.passed m=false:=by
  unfold Core.passed
  rw [if_neg (by rintro (h | h);rw [hr] at h;cases h;exact h ht),decide_eq_false hk]
  rfl
 unfold Core.take
 rw [if_neg (by rw [p];decide)]
 show (if m.term<(if c.h.term<m.term then _ else c).h.term then _ else _)=_
 have h1:¬ c.h.term<m.term:=by omega
 simp only [if_neg h1]
 rw [if_neg (by omega)]
theorem aQr {s:List UInt8} (l:Int) (o:Nat) {o':Nat} (out:List Letter) (h:o'<s.length) (hs:s.length≤6000) (hne:o≠o'):(xC s 9 l ⟨1,0,o⟩ out).take (iE o')=xC s 9 l ⟨1,0,o'⟩ (out++[dT s o']):=by
 rw [nX (xX (by omega)) rfl (show (6:Int)≠1 by decide) rfl]
 have k:(iE o').kind=6:=rfl
 rw [k,if_neg (by decide),if_neg (by decide),if_neg (by decide),if_neg (by decide),if_neg (by decide),if_pos rfl]
 have c:¬ ((xC s 9 l ⟨1,0,o⟩ out).role≠3∨(iE o').index≠(xC s 9 l ⟨1,0,o⟩ out).h.base∨(xC s 9 l ⟨1,0,o⟩ out).h.base<((xC s 9 l ⟨1,0,o⟩ out).peer (iE o').from').next∨((xC s 9 l ⟨1,0,o⟩ out).h.snap.length:Int)≤(iE o').off∨(iE o').off=((xC s 9 l ⟨1,0,o⟩ out).peer (iE o').from').off):=by
  rintro (h | h | h | h | h)
  ·exact h rfl
  ·exact h rfl
  ·have:(9:Int)<1:=h
   omega
  ·have:(s.length:Int)≤(o':Int):=h
   omega
  ·have:(o':Int)=(o:Int):=h
   omega
 refine Eq.trans (if_neg c) ?_
 kernel_rfl
theorem aNk {s:List UInt8} (l:Int) {o:Nat} (out:List Letter) (h:o<s.length) (hs:s.length≤6000):(xC s 9 l ⟨1,0,o⟩ out).take (iE o)=xC s 9 l ⟨1,0,o⟩ out:=by
 rw [nX (xX (by omega)) rfl (show (6:Int)≠1 by decide) rfl]
 have k:(iE o).kind=6:=rfl
 rw [k,if_neg (by decide),if_neg (by decide),if_neg (by decide),if_neg (by decide),if_neg (by decide),if_pos rfl]
 unfold Core.more
 exact if_pos (.inr (.inr (.inr (.inr rfl))))
theorem aGa (s:List UInt8) (o:Nat):s.take o++(s.drop o).take 600=s.take (o+600):=(List.take_add ..).symm
theorem aAg {s : List UInt8} {o : Nat} (w' : Inst) (out : List Letter) (hne : ¬ (dT s o).off = 0) : (yC 0 (some w') out).installed (dT s o) = if w'.index ≠ 9 ∨ w'.at' ≠ 2 ∨ w'.size ≠ s.length then (yC 0 (some w') out).post { Letter.zero with kind := 6, to := 0, index := 9 } else
          let w1 := if (o : Int) = w'.data.length then { w' with data := w'.data ++ (s.drop o).take 600 } else w'
          let c3 : Core := { yC 0 (some w') out with way := some w1 }
          if (w1.data.length : Int) < w1.size then c3.post { Letter.zero with kind := 6, to := 0, index := 9, off := w1.data.length } else
            (c3.taken (dT s o) w1.data).post { Letter.zero with kind := 4, to := 0, yes := true, index := 9 } := by
      unfold Core.installed
      have h3 : ¬ (yC 0 (some w') out).role = 3 := show ¬ (1 : Int) = 3 by decide
      refine Eq.trans (if_neg h3) ?_
      have h4 : ¬ (dT s o).index ≤ ((yC 0 (some w') out).hear (dT s o).from').sure := show ¬ (9 : Int) ≤ 0 by decide
      refine Eq.trans (if_neg h4) ?_
      simp only [if_neg hne]
      rfl
theorem aLq {s:List UInt8} {o:Nat} {w:Option Inst} (out:List Letter) (h:o<s.length) (hs:s.length≤6000) (hw:o=0∨w=some (kB s o)∨w=some (kB s (o+600))∧o+600<s.length):
  (yC 0 w out).take (dT s o)=if o+600<s.length then yC 0 (some (kB s (o+600))) (out++[iE (o+600)]) else yD s [] 9 (out++[kA true 9]):=by
 rw [nX (xY h hs) rfl (show (5:Int)≠1 by decide) rfl]
 have k:(dT s o).kind=5:=rfl
 rw [k,if_neg (by decide),if_neg (by decide),if_neg (by decide),if_neg (by decide),if_pos rfl]
 have key:∀ w1:Inst,w1=kB s (o+600)→(if (w1.data.length:Int)<w1.size then ({ yC 0 (some w1) out with way:=some w1 }:Core).post { Letter.zero with kind:=6,to:=0,index:=9,off:=w1.data.length } else (({ yC 0 (some w1) out with way:=some w1 }:Core).taken (dT s o) w1.data).post { Letter.zero with kind:=4,to:=0,yes:=true,index:=9 })=if o+600<s.length then yC 0 (some (kB s (o+600))) (out++[iE (o+600)]) else yD s [] 9 (out++[kA true 9]):=by
  rintro w1 rfl
  have hl:(kB s (o+600)).data.length=min (o+600) s.length:=List.length_take
  by_cases c:o+600<s.length
  ·have c1:((kB s (o+600)).data.length:Int)<(kB s (o+600)).size:=by
    rw [hl]
    show ((min (o+600) s.length:Nat):Int)<(s.length:Int)
    omega
   rw [if_pos c,if_pos c1,hl,Nat.min_eq_left (by omega)]
   rfl
  ·have c1:¬ ((kB s (o+600)).data.length:Int)<(kB s (o+600)).size:=by
    rw [hl]
    show ¬ ((min (o+600) s.length:Nat):Int)<(s.length:Int)
    omega
   rw [if_neg c,if_neg c1]
   have e:(kB s (o+600)).data=s:=List.take_of_length_le (by omega)
   rw [e]
   refine Eq.symm (Eq.symm ?_)
   kernel_rfl
 have hm:∀ w0:Option Inst,∀ w1:Inst,w0=some w1→(w1.index=9∧w1.at'=2∧w1.size=s.length)→(if (o:Int)=w1.data.length then { w1 with data:=w1.data++(s.drop o).take 600 } else w1)=kB s (o+600)→
   (match w0 with
    | none=>(yC 0 w0 out).post { Letter.zero with kind:=6,to:=0,index:=9 }
    | some w=>if w.index≠9∨w.at'≠2∨w.size≠s.length then (yC 0 w0 out).post { Letter.zero with kind:=6,to:=0,index:=9 } else
     let w1:=if (o:Int)=w.data.length then { w with data:=w.data++(s.drop o).take 600 } else w
     let c3:Core:={ yC 0 w0 out with way:=some w1 }
     if (w1.data.length:Int)<w1.size then c3.post { Letter.zero with kind:=6,to:=0,index:=9,off:=w1.data.length } else
      (c3.taken (dT s o) w1.data).post { Letter.zero with kind:=4,to:=0,yes:=true,index:=9 })=if o+600<s.length then yC 0 (some (kB s (o+600))) (out++[iE (o+600)]) else yD s [] 9 (out++[kA true 9]):=by
  rintro w0 w1 rfl ⟨q1,q2,q3⟩ q4
  simp only
  rw [if_neg (by rintro (h | h | h);exact h q1;exact h q2;exact h q3)]
  rw [q4]
  exact key _ rfl
 by_cases ho:o=0
 ·subst ho
  exact hm (some ⟨9,2,s.length,[]⟩) ⟨9,2,s.length,[]⟩ rfl ⟨rfl,rfl,rfl⟩ (by
   refine Eq.trans (if_pos rfl) ?_
   show (⟨9,2,s.length,[]++(s.drop 0).take 600⟩:Inst)=⟨9,2,s.length,s.take (0+600)⟩
   rw [List.drop_zero,List.nil_append,Nat.zero_add])
 ·have hne:¬ (dT s o).off=0:=by
   show ¬ (o:Int)=0
   omega
  rcases hw with h0 | rfl | ⟨rfl,hlt⟩
  ·exact absurd h0 ho
  ·refine Eq.trans (aAg _ _ hne) (hm _ (kB s o) rfl ⟨rfl,rfl,rfl⟩ ?_)
   have hl:(o:Int)=((kB s o).data.length:Nat):=by
    show (o:Int)=((s.take o).length:Nat)
    rw [List.length_take];omega
   rw [if_pos hl]
   show (⟨9,2,s.length,s.take o++(s.drop o).take 600⟩:Inst)=_
   rw [aGa];rfl
  ·refine Eq.trans (aAg _ _ hne) (hm _ (kB s (o+600)) rfl ⟨rfl,rfl,rfl⟩ ?_)
   have hl:¬ (o:Int)=((kB s (o+600)).data.length:Nat):=by
    show ¬ (o:Int)=((s.take (o+600)).length:Nat)
    rw [List.length_take];omega
   rw [if_neg hl]
theorem aNl {s:List UInt8} {o:Nat} (out:List Letter) (h:o<s.length) (hs:s.length≤6000):(yD s [] 9 out).take (dT s o)=yD s [] 9 (out++[kA true 9]):=by
 rw [nX (xY h hs) rfl (show (5:Int)≠1 by decide) rfl]
 have k:(dT s o).kind=5:=rfl
 rw [k,if_neg (by decide),if_neg (by decide),if_neg (by decide),if_neg (by decide),if_pos rfl]
 refine Eq.symm (Eq.symm ?_)
 kernel_rfl
def fA (m:Letter):Nat→Core→Core
 | 0,c=>c
 | k+1,c=>(fA m k c).take m
def fL (c:Core) (l:List Letter):Core:=l.foldl Core.take c
def X1 (i:Nat) (x:Core):Core:=if i % 3=2 then x.tick 0 else x
theorem rX {α:Type} (k:Nat) (m:α):List.replicate k m++[m]=List.replicate (k+1) m:=by
 induction k with
 | zero=>rfl
 | succ k ih=>rw [List.replicate_succ,List.cons_append,ih];rfl
theorem aAh (c:Core) (m:Letter):fL c [m]=c.take m:=rfl
theorem xZ {c:Core} {m:Letter} (h:c.take m=c):∀ k,fL c (List.replicate k m)=c
 | 0=>rfl
 | k+1=>by
  show fL (c.take m) (List.replicate k m)=c
  rw [h];exact xZ h k
theorem tK {c d:Core} {m:Letter} {k:Nat} (hk:1≤k) (h:c.take m=d) (h':d.take m=d):fL c (List.replicate k m)=d:=by
 obtain ⟨k,rfl⟩:∃ k',k=k'+1:=⟨k - 1,by omega⟩
 show fL (c.take m) (List.replicate k m)=d
 rw [h];exact xZ h' k
theorem qD {s:List UInt8} {o:Nat} {w:Option Inst} (h:o<s.length) (hs:s.length≤6000) (hw:o=0∨w=some (kB s o)):∀ k,fA (dT s o) (k+1) (yC 0 w [])=if o+600<s.length then yC 0 (some (kB s (o+600))) (List.replicate (k+1) (iE (o+600))) else yD s [] 9 (List.replicate (k+1) (kA true 9))
 | 0=>aLq [] h hs (hw.imp id .inl)
 | k+1=>by
  show (fA (dT s o) (k+1) (yC 0 w [])).take (dT s o)=_
  rw [qD h hs hw k]
  by_cases c:o+600<s.length
  ·rw [if_pos c,if_pos c,aLq _ h hs (.inr (.inr ⟨rfl,c⟩)),if_pos c,rX]
  ·rw [if_neg c,if_neg c,aNl _ h hs,rX]
theorem qE (s:List UInt8):∀ k,fA (gM 9 2 9 [lU]) (k+1) (yD s [] 9 [])=yD s [lU] 9 (List.replicate (k+1) (kA true 10))
 | 0=>aLp s [] (.inl rfl) []
 | k+1=>by
  show (fA (gM 9 2 9 [lU]) (k+1) (yD s [] 9 [])).take (gM 9 2 9 [lU])=_
  rw [qE s k,aLp s [lU] (.inr rfl),rX]
theorem nE (s:List UInt8):∀ k,fA (gM 10 4 10 []) (k+1) (yD s [lU] 9 [])=yD s [lU] 10 (List.replicate (k+1) (kA true 10))
 | 0=>aHl s 9 (.inl rfl) []
 | k+1=>by
  show (fA (gM 10 4 10 []) (k+1) (yD s [lU] 9 [])).take (gM 10 4 10 [])=_
  rw [nE s k,aHl s 10 (.inr rfl),rX]
inductive Ph7 (s:List UInt8):Core→Core→Nat→Nat→Prop
 | a:Ph7 s (x10 s) y0 0 0
 | b:Ph7 s (xC s 9 3 ⟨10,0,0⟩ [gM 9 2 9 [lU]]) (yC (-1) none []) 1 0
 | p (j:Nat) (l:Int) (w:Option Inst) (p:Nat) (h1:600*j<s.length) (l1:1≤l) (l3:l≤3) (hp:j≤p) (hw:600*j=0∨w=some (kB s (600*j))):Ph7 s (xC s 9 l ⟨1,0,(600*j:Nat)⟩ [dT s (600*j)]) (yC 0 w []) (2+j) p
 | q (l:Int) (i p:Nat) (hi:i≤13) (hp:s.length≤600*p) (l1:1≤l) (l3:l≤3):Ph7 s (xC s 9 l ⟨10,9,0⟩ [gM 9 2 9 [lU]]) (yD s [] 9 []) i p
 | r (l:Int) (i p:Nat) (hi:(i:Int)+(2 - (i % 3:Nat))+3*l≤30) (hp:s.length≤600*p) (l1:1≤l) (l3:l≤3):Ph7 s (xC s 10 l ⟨11,10,0⟩ []) (yD s [lU] 9 []) i p
 | z (x:Core) (i p:Nat) (hi:i≤40) (hp:s.length≤600*p):Ph7 s x (yD s [lU] 10 []) i p
structure Rnd (s:List UInt8) (x y:Core) (i p:Nat) (m:Letter) (r:Nat):Prop where
 i200:i<200
 out:(X1 i x).out=List.replicate r m
 r2:r≤2
 snap:∀ k,k≤2*r→(fA m k y).h.snap=[]∨(fA m k y).h.snap=s
 go:∀ k,r≤k→k≤2*r→(m.kind≠5→k=r)→Ph7 s (fL { X1 i x with out:=[] } (fA m k y).out) { fA m k y with out:=[] } (i+1) (p+if m.kind=5 then r else 0)
theorem aNm (s:List UInt8) (i o:Nat) (l:Int) (l1:1≤l) (l3:l≤3):∃ l' r,X1 i (xC s 9 l ⟨1,0,o⟩ [dT s o])=xC s 9 l' ⟨1,0,o⟩ (List.replicate r (dT s o))∧1≤l'∧l'≤3∧1≤r∧r≤2:=by
 unfold X1
 split
 ·by_cases h:1<l
  ·exact ⟨l - 1,1,aG9 s 9 l _ _ h,by omega,by omega,by omega,by omega⟩
  ·have:l=1:=by omega
   subst this
   exact ⟨3,2,aNh s o _,by omega,by omega,by omega,by omega⟩
 ·exact ⟨l,1,rfl,l1,l3,by omega,by omega⟩
theorem aQs (s:List UInt8) (i:Nat) (l:Int) (l1:1≤l) (l3:l≤3):∃ l' r,X1 i (xC s 9 l ⟨10,9,0⟩ [gM 9 2 9 [lU]])=xC s 9 l' ⟨10,9,0⟩ (List.replicate r (gM 9 2 9 [lU]))∧1≤l'∧l'≤3∧1≤r∧r≤2:=by
 unfold X1
 split
 ·by_cases h:1<l
  ·exact ⟨l - 1,1,aG9 s 9 l _ _ h,by omega,by omega,by omega,by omega⟩
  ·have:l=1:=by omega
   subst this
   exact ⟨3,2,aNi s _,by omega,by omega,by omega,by omega⟩
 ·exact ⟨l,1,rfl,l1,l3,by omega,by omega⟩
theorem aQt {s:List UInt8} {x y:Core} {i p:Nat} (s1:1≤s.length) (hs:s.length≤6000) (h:Ph7 s x y i p) (hy:y.sure<10):∃ m r,Rnd s x y i p m r:=by
 cases h with
 | a=>
  refine ⟨uF,1,by omega,rfl,by omega,fun k hk=>?_,fun k k1 k2 hk=>?_⟩
  ·rcases (show k=0∨k=1∨k=2 by omega) with rfl | rfl | rfl<;>left<;>decide +kernel
  ·have:=hk (show (1:Int)≠5 by decide)
   subst this
   have e:fA uF 1 y0=yC (-1) none [aHk]:=aSk
   rw [e]
   have e2:fL { X1 0 (x10 s) with out:=[] } (yC (-1) none [aHk]).out=xC s 9 3 ⟨10,0,0⟩ [gM 9 2 9 [lU]]:=by
    have ex:X1 0 (x10 s)=x10 s:=if_neg (by decide)
    rw [ex]
    exact (aAh _ _).trans (aSl s)
   rw [e2]
   exact .b
 | b=>
  refine ⟨gM 9 2 9 [lU],1,by omega,rfl,by omega,fun k hk=>?_,fun k k1 k2 hk=>?_⟩
  ·rcases (show k=0∨k=1∨k=2 by omega) with rfl | rfl | rfl<;>left<;>decide +kernel
  ·have:=hk (show (3:Int)≠5 by decide)
   subst this
   have e:fA (gM 9 2 9 [lU]) 1 (yC (-1) none [])=yC 0 none [kA false 0]:=aSm
   rw [e]
   have e2:fL { X1 1 (xC s 9 3 ⟨10,0,0⟩ [gM 9 2 9 [lU]]) with out:=[] } (yC 0 none [kA false 0]).out=xC s 9 3 ⟨1,0,0⟩ [dT s 0]:=by
    have ex:X1 1 (xC s 9 3 ⟨10,0,0⟩ [gM 9 2 9 [lU]])=xC s 9 3 ⟨10,0,0⟩ [gM 9 2 9 [lU]]:=if_neg (by decide)
    rw [ex]
    exact (aAh _ _).trans (aVh s 3)
   rw [e2]
   exact .p 0 3 none 0 (by omega) (by omega) (by omega) (by omega) (.inl rfl)
 | p j l w _ h1 l1 l3 hp hw=>
  obtain ⟨l',r,e,q1,q2,q3,q4⟩:=aNm s (2+j) (600*j) l l1 l3
  refine ⟨dT s (600*j),r,by omega,by rw [e];rfl,q4,fun k hk=>?_,fun k k1 k2 _=>?_⟩
  ·cases k with
   | zero=>exact .inl rfl
   | succ k=>
    rw [qD h1 hs hw k]
    split
    ·exact .inl rfl
    ·exact .inr rfl
  ·obtain ⟨k,rfl⟩:∃ k',k=k'+1:=⟨k - 1,by omega⟩
   rw [qD h1 hs hw k,e,if_pos (show (dT s (600*j)).kind=5 from rfl)]
   by_cases c:600*j+600<s.length
   ·rw [if_pos c]
    have e2:fL (xC s 9 l' ⟨1,0,(600*j:Nat)⟩ []) (List.replicate (k+1) (iE (600*j+600)))=xC s 9 l' ⟨1,0,(600*j+600:Nat)⟩ [dT s (600*j+600)]:=
     tK (by omega) (aQr l' (600*j) [] c hs (by omega)) (aNk l' _ c hs)
    show Ph7 s (fL (xC s 9 l' ⟨1,0,(600*j:Nat)⟩ []) (List.replicate (k+1) (iE (600*j+600)))) (yC 0 (some (kB s (600*j+600))) []) (2+j+1) (p+r)
    rw [e2]
    have ej:600*j+600=600*(j+1):=by omega
    rw [ej]
    exact .p (j+1) l' _ _ (by omega) q1 q2 (by omega) (.inr rfl)
   ·rw [if_neg c]
    have e2:fL (xC s 9 l' ⟨1,0,(600*j:Nat)⟩ []) (List.replicate (k+1) (kA true 9))=xC s 9 l' ⟨10,9,0⟩ [gM 9 2 9 [lU]]:=
     tK (by omega) (aQq s l' _) (aNf s l' _)
    show Ph7 s (fL (xC s 9 l' ⟨1,0,(600*j:Nat)⟩ []) (List.replicate (k+1) (kA true 9))) (yD s [] 9 []) (2+j+1) (p+r)
    rw [e2]
    exact .q l' _ _ (by omega) (by omega) q1 q2
 | q l _ _ hi hp l1 l3=>
  obtain ⟨l',r,e,q1,q2,q3,q4⟩:=aQs s i l l1 l3
  refine ⟨gM 9 2 9 [lU],r,by omega,by rw [e];rfl,q4,fun k hk=>?_,fun k k1 k2 hk=>?_⟩
  ·right
   cases k with
   | zero=>rfl
   | succ k=>rw [qE];rfl
  ·have:=hk (show (3:Int)≠5 by decide)
   subst this
   obtain ⟨k,rfl⟩:∃ k',k=k'+1:=⟨k - 1,by omega⟩
   rw [qE,e,if_neg (show ¬ (gM 9 2 9 [lU]).kind=5 from (by decide:¬ (3:Int)=5))]
   have e2:fL (xC s 9 l' ⟨10,9,0⟩ []) (List.replicate (k+1) (kA true 10))=xC s 10 l' ⟨11,10,0⟩ []:=tK (by omega) (aNg s l') (aLo s l' _)
   show Ph7 s (fL (xC s 9 l' ⟨10,9,0⟩ []) (List.replicate (k+1) (kA true 10))) (yD s [lU] 9 []) (i+1) (p+0)
   rw [e2]
   exact .r l' _ _ (by omega) hp q1 q2
 | r l _ _ hi hp l1 l3=>
  by_cases ht:i % 3=2
  ·by_cases hl:1<l
   ·have e:X1 i (xC s 10 l ⟨11,10,0⟩ [])=xC s 10 (l - 1) ⟨11,10,0⟩ []:=by
     unfold X1;rw [if_pos ht];exact aG9 s 10 l _ _ hl
    refine ⟨uF,0,by omega,by rw [e];rfl,by omega,fun k hk=>?_,fun k k1 k2 hk=>?_⟩
    ·have:k=0:=by omega
     subst this;exact .inr rfl
    ·have:k=0:=by omega
     subst this
     rw [e,if_neg (show ¬ uF.kind=5 from (by decide:¬ (1:Int)=5))]
     exact .r (l - 1) (i+1) p (by omega) hp (by omega) (by omega)
   ·have:l=1:=by omega
    subst this
    have e:X1 i (xC s 10 1 ⟨11,10,0⟩ [])=xC s 10 3 ⟨11,10,0⟩ [gM 10 4 10 []]:=by
     unfold X1;rw [if_pos ht];exact aNj s []
    refine ⟨gM 10 4 10 [],1,by omega,by rw [e];rfl,by omega,fun k hk=>?_,fun k k1 k2 hk=>?_⟩
    ·right
     cases k with
     | zero=>rfl
     | succ k=>rw [nE];rfl
    ·have:=hk (show (3:Int)≠5 by decide)
     subst this
     rw [nE s 0,if_neg (show ¬ (gM 10 4 10 []).kind=5 from (by decide:¬ (3:Int)=5))]
     exact .z _ (i+1) p (by omega) hp
  ·have e:X1 i (xC s 10 l ⟨11,10,0⟩ [])=xC s 10 l ⟨11,10,0⟩ []:=by unfold X1;rw [if_neg ht]
   refine ⟨uF,0,by omega,by rw [e];rfl,by omega,fun k hk=>?_,fun k k1 k2 hk=>?_⟩
   ·have:k=0:=by omega
    subst this;exact .inr rfl
   ·have:k=0:=by omega
    subst this
    rw [e,if_neg (show ¬ uF.kind=5 from (by decide:¬ (1:Int)=5))]
    exact .r l (i+1) p (by omega) hp l1 l3
 | z x _ _ hi hp=>exact absurd hy (show ¬ (10:Int)<10 by decide)
theorem aVi {s:List UInt8} {x y:Core} {i p:Nat} (h:Ph7 s x y i p) (hy:¬ y.sure<10):y.h.snap=s∧y.h.base=9∧y.h.baseTerm=2∧y.h.members=3∧s.length≤600*p:=by
 cases h with
 | a=>exact absurd (show (0:Int)<10 by decide) hy
 | b=>exact absurd (show (0:Int)<10 by decide) hy
 | p=>exact absurd (show (0:Int)<10 by decide) hy
 | q=>exact absurd (show (9:Int)<10 by decide) hy
 | r=>exact absurd (show (9:Int)<10 by decide) hy
 | z x _ _ hi hp=>exact ⟨rfl,rfl,rfl,rfl,hp⟩
theorem Ph7.i200 {s:List UInt8} {x y:Core} {i p:Nat} (h:Ph7 s x y i p) (hs:s.length≤6000):i<200:=by
 cases h<;>omega
end Go.Raft
end
section
namespace Go.Proofs.Ytbiidlmhadihlaa
open Go.AM Go.Raft Try
section
structure Sep (S:St) (a b e:Nat) (c d:Core) (n n':Nat) (O O':Nat→Prop):Prop where
 c1:@CoreIn ⟨n⟩ S a c O
 c2:@CoreIn ⟨n'⟩ S b d O'
 dis:∀ u,O u→¬ O' u
 e1:∀ u,O u→e<u
 e2:∀ u,O' u→e<u
structure Duo (S:St) (a b e:Nat) (B:Blk) (c d:Core):Prop where
 wf:WF S
 blk:S.heap.get e=some B
 inv1:Inv c
 inv2:Inv d
 out:d.out=[]
 ex:∃ n n' O O',Sep S a b e c d n n' O O'∧∀ u,O' u→u<n
structure Hand (S:St) (a b e:Nat) (B:Blk) (c d:Core) (u:V) (l:List Letter):Prop where
 wf:WF S
 blk:S.heap.get e=some B
 inv1:Inv c
 inv2:Inv d
 out:c.out=[]
 ex:∃ n n' O O' rows,Sep S a b e c d n n' O O'∧(∀ u,O u→u<n')∧Mn S 13 u rows∧(∀ y,aO u=some y→¬ O' y)∧All2 (fun m r=>∃ ev,r=aG m ev∧Apart S O' m ev) l rows
theorem Sep.lt1 {S:St} {a b e:Nat} {c d:Core} {n n':Nat} {O O':Nat→Prop} (h:Sep S a b e c d n n' O O') (w:WF S):∀ u,O u→u<S.next:=aEg w h.c1
theorem Sep.lt2 {S:St} {a b e:Nat} {c d:Core} {n n':Nat} {O O':Nat→Prop} (h:Sep S a b e c d n n' O O') (w:WF S):∀ u,O' u→u<S.next:=aEg w h.c2
theorem Sep.ext {S S':St} {a b e:Nat} {c d:Core} {n n':Nat} {O O':Nat→Prop} (h:Sep S a b e c d n n' O O') (w:WF S) (x:Ext S S'):Sep S' a b e c d n n' O O':=
 ⟨(letI:Guard:=⟨n⟩;CoreIn.ext h.c1 w x),(letI:Guard:=⟨n'⟩;CoreIn.ext h.c2 w x),h.dis,h.e1,h.e2⟩
theorem Sep.swap {S:St} {a b e:Nat} {c d:Core} {n n':Nat} {O O':Nat→Prop} (h:Sep S a b e c d n n' O O'):Sep S b a e d c n' n O' O:=⟨h.c2,h.c1,fun u hu hv=>h.dis u hv hu,h.e2,h.e1⟩
theorem Sep.op {S S':St} {a b e:Nat} {c c' d:Core} {n n':Nat} {O O' O1:Nat→Prop} (h:Sep S a b e c d n n' O O') (w:WF S) (ho:d.out=[]) (he:e<S.next) (hc:@CoreIn ⟨n⟩ S' a c' O1) (m:Mv O S O1 S'):Sep S' a b e c' d n n' O1 O':=by
 refine ⟨hc,h.c2.keep ho w m.next fun y x hy hx=>m.keep y x (fun q=>h.dis y q hy) hx,fun u hu hv=>?_,fun u hu=>?_,h.e2⟩
 ·rcases m.own u hu with q | q
  ·exact h.dis u q hv
  ·have:=h.lt2 w u hv;omega
 ·rcases m.own u hu with q | q
  ·exact h.e1 u q
  ·omega
theorem yA {S S':St} {e:Nat} {B:Blk} {O O1:Nat→Prop} (h:S.heap.get e=some B) (m:Mv O S O1 S') (he:∀ u,O u→e<u):S'.heap.get e=some B:=m.keep e B (fun q=>Nat.lt_irrefl _ (he e q)) h
section
variable {S S':St} {a b e:Nat} {B:Blk} {c c' d:Core} {u:V} {l:List Letter}
theorem Duo.ext (h:Duo S a b e B c d) (x:Ext S S'):Duo S' a b e B c d:=by
 obtain ⟨w,g,i1,i2,o,n,n',O,O',s,q⟩:=h
 exact ⟨x.wf w,x.old _ _ g,i1,i2,o,n,n',O,O',s.ext w x,q⟩
theorem Hand.ext (h:Hand S a b e B c d u l) (x:Ext S S'):Hand S' a b e B c d u l:=by
 haveI:Guard:=⟨0⟩
 obtain ⟨w,g,i1,i2,o,n,n',O,O',rows,s,q,mn,mb,al⟩:=h
 exact ⟨x.wf w,x.old _ _ g,i1,i2,o,n,n',O,O',rows,s.ext w x,q,Mn.fr mn x.next fun y c _ hc=>x.old _ _ hc,mb,All2.imp (fun m r ⟨ev,e1,e2⟩=>⟨ev,e1,e2.ext x⟩) al⟩
theorem Duo.op (h:Duo S a b e B c d) (i':Inv c') {f:FuncId} {args:List V} {v:V} (H:∀ (G:Guard) (O:Nat→Prop),@CoreIn G S a c O→@Meth G f args a c' S O v):
  Does prog bD bE f args S fun v' S'=>v'=v∧Duo S' a b e B c' d:=by
 obtain ⟨w,g,i1,i2,o,n,n',O,O',s,q⟩:=h
 obtain ⟨v',S',N,⟨hv,O1,h1,h2⟩,hrun⟩:=H ⟨n⟩ O s.c1
 exact ⟨v',S',N,⟨hv,h2.wf w,yA g h2 s.e1,i',i2,o,n,n',O1,O',s.op w o (w _ _ g) h1 h2,q⟩,hrun⟩
theorem aNn (h:Inv c):Inv { c with out:=[] }:=by
 exact h.sent ⟨rfl,rfl,rfl,rfl,rfl,rfl,rfl,rfl,rfl,rfl⟩
theorem aAi {α β:Type} {R Q:α→β→Prop}:∀ {l:List α} {m:List β},(∀ a b,b∈m→R a b→Q a b)→All2 R l m→All2 Q l m
 | _,_,_,.nil=>.nil
 | _,_,h,.cons x y=>.cons (h _ _ (List.mem_cons_self ..) x) (aAi (fun a b hb=>h a b (List.mem_cons_of_mem _ hb)) y)
theorem Duo.send (h:Duo S a b e B c d):Does prog bD bE 27 [.ptr a 0 0 0] S fun u S'=>Hand S' a b e B { c with out:=[] } d u c.out:=by
 obtain ⟨w,g,i1,i2,o,n,n',O,O',s,q⟩:=h
 obtain ⟨lv,wv,dv,ov,rows,h1,rfl⟩:=s.c1
 have gd:∀ r∈rows,∀ ev,r[12]?=some ev→∀ y,aO ev=some y→n≤y:=(@CoreAt.gd ⟨n⟩ _ _ _ _ _ _ _ _ h1).2
 obtain ⟨u,S',N,⟨rfl,h2,m,mn,al⟩,hrun⟩:=(letI:Guard:=⟨n⟩;aVe w h1)
 have w':=m.wf w
 have s':=s.op w o (w _ _ g) ⟨lv,wv,dv,.nils,[],h2,rfl⟩ m
 refine ⟨_,S',N,⟨w',yA g m s.e1,aNn i1,i2,rfl,n,S'.next,_,O',rows,⟨s'.c1,rW s'.c2 o (Nat.le_refl _),s'.dis,s'.e1,s'.e2⟩,s'.lt1 w',mn,fun y hy=>s.dis y (.inr (.inr (.inr (.inr hy)))),?_⟩,hrun⟩
 exact aAi (fun m r hr ⟨ev,e1,e2,_⟩=>⟨ev,e1,e2,fun y hy hO=>by
  have h3:=gd r hr ev (by rw [e1];rfl) y hy
  have:=q y hO
  omega⟩) al
theorem Hand.get (h:Hand S a b e B c d u l) {j:Nat} {m:Letter} (hm:l[j]?=some m):∃ q ev,(∀ k,jX 13 u (.int k (j:Int))=.ok q)∧At S q (aG m ev)∧aM (some 13) q S=.ok (.agg (aG m ev))∧(d.out.length≤999990→Does prog bD bE 19 [.ptr b 0 0 0,.agg (aG m ev)] S fun v S'=>v=.tup []∧Hand S' a b e B c (d.take m) u l):=by
 obtain ⟨w,g,i1,i2,o,n,n',O,O',rows,s,q,mn,mb,al⟩:=h
 obtain ⟨cs,hcs,ev,rfl,hap⟩:=al.get hm
 haveI:Guard:=⟨0⟩
 obtain ⟨p0,hp0,at0⟩:=mn.sl.idx hcs .i64
 refine ⟨p0,ev,fun k=>?_,at0,by rw [at0.load0];exact dV _ _ rfl,fun hl=>?_⟩
 ·obtain ⟨p1,hp1,_⟩:=mn.sl.idx hcs k
  have:jX 13 u (.int k (j:Int))=jX 13 u (.int .i64 (j:Int)):=rfl
  rw [this];exact hp0
 ·obtain ⟨v',S',N,⟨hv,O1,h1,h2⟩,hrun⟩:=(letI:Guard:=⟨n'⟩;g19 m ev w s.c2 i2 hap hl)
  have s':=s.swap.op w o (w _ _ g) h1 h2
  have lt2:=s.lt2 w
  refine ⟨v',S',N,⟨hv,h2.wf w,yA g h2 s.e2,i1,(i2.take m).1,o,n,n',O,O1,rows,s'.swap,q,(Mn.mv mn mb h2).1,(Mn.mv mn mb h2).2,All2.imp (fun m r ⟨ev,e1,e2⟩=>⟨ev,e1,e2.mv w h2⟩) al⟩,hrun⟩
theorem Hand.len (h:Hand S a b e B c d u l):lenW u=.ok (.int .i64 l.length):=by
 obtain ⟨w,g,i1,i2,o,n,n',O,O',rows,s,q,mn,mb,al⟩:=h
 have h':Sl S 13 u (rows.map id):=by rw [List.map_id];exact mn.sl
 rw [al.len]
 exact h'.lenI
theorem Hand.done (h:Hand S a b e B c d u l):Duo S b a e B d c:=by
 obtain ⟨w,g,i1,i2,o,n,n',O,O',rows,s,q,mn,mb,al⟩:=h
 exact ⟨w,g,i2,i1,o,n',n,O',O,s.swap,q⟩
theorem Hand.in2 (h:Hand S a b e B c d u l):∃ n O,@CoreIn ⟨n⟩ S b d O:=by
 obtain ⟨w,g,i1,i2,o,n,n',O,O',rows,s,_⟩:=h
 exact ⟨_,_,s.c2⟩
theorem Duo.in2 (h:Duo S a b e B c d):∃ n O,@CoreIn ⟨n⟩ S b d O:=by
 obtain ⟨w,g,i1,i2,o,n,n',O,O',s,q⟩:=h
 exact ⟨_,_,s.c2⟩
end
end
section
theorem aSn {S:St} (w:WF S) (n:Nat) (z c:List V) (hz:z.length=n) (hc:c.length=n) (ho:aH c=true):
  ∃ S1 S2,aY none S (.row 0 n [z])=.ok (S.next,S1)∧bG n (.ptr S.next 0 0 0) (.agg c) S1=.ok S2∧Ext S S2∧S2.heap.get S.next=some (.row 0 n [c]):=by
 have x1:Ext S (⟨S.next+1,S.heap.put S.next (.row 0 n [z])⟩:St):=Ext.new w _
 have g1:(⟨S.next+1,S.heap.put S.next (.row 0 n [z])⟩:St).heap.get S.next=some (.row 0 n [z]):=Tr.get_put_sameB _ _ _ trivial
 have e:=dE (x:=.agg c) (j:=0) (m:=n) g1 hc ho (by omega)
 have s:splice z 0 (V.agg c).cells=c:=lD z c (by rw [hc,hz])
 rw [s] at e
 exact ⟨_,_,cM ..,e,x1.set (Nat.le_refl _) (Nat.lt_succ_self _) w _,Tr.get_put_sameB _ _ _ trivial⟩
structure SafeI (S:St) (a:Nat) (g:Grp) (k:Int) (p:Int→Nat) (O:Int→Nat→Prop) (lv:V) (rows:List (List V)) (b1 b2:Nat) (la:V) (st:List Entry×List Int) (sv wv:V):Prop where
 wf:WF S
 at':GAt S a { g with sure:=st.1,whn:=st.2 } p O lv sv wv rows
 hb:S.heap.get b1=some (.row 0 7 [bB (g.cs k).h la])
 vb:S.heap.get b2=some (.row 0 6 [uC (g.cs k).view])
 hl:Sl S 3 la ((g.cs k).h.log.map bV)
 ls:∀ y,aO la=some y→aO sv≠some y
section
variable {S:St} {a:Nat} {g:Grp} {k:Int} {p:Int→Nat} {O:Int→Nat→Prop} {lv:V} {rows:List (List V)} {b1 b2:Nat} {la:V} {st:List Entry×List Int} {sv wv:V}
theorem SafeI.ext {S':St} (h:SafeI S a g k p O lv rows b1 b2 la st sv wv) (ho:∀ v,0≤v→v<5→(g.cs v).out=[]) (x:Ext S S'):SafeI S' a g k p O lv rows b1 b2 la st sv wv:=
 ⟨x.wf h.wf,h.at'.ext ho h.wf x,x.old _ _ h.hb,x.old _ _ h.vb,h.hl.ext x,h.ls⟩
theorem wne {S:St} {y ver m n:Nat} {v:V} {es el:List (List V)} (h:Mn S n v es) (hy:S.heap.get y=some (.row ver m el)) (hm:m≠n):aO v≠some y:=fun e=>by
 obtain ⟨_,ver',tl,_,h2⟩:=h.blk e
 rw [hy] at h2
 injection h2 with h2
 injection h2 with _ h2
 exact hm h2
theorem SafeI.move (h:SafeI S a g k p O lv rows b1 b2 la st sv wv) (ho:∀ v,0≤v→v<5→(g.cs v).out=[]) {S' S'':St} {su:List Entry} {wh:List Int} {sv' wv':V} (hn:S.next≤S'.next)
  (hk:∀ y b,y<S.next→aO sv≠some y→aO wv≠some y→S.heap.get y=some b→S'.heap.get y=some b)
  (hs:∀ y,aO sv'=some y→aO sv=some y∨S.next≤y) (hw:∀ y,aO wv'=some y→aO wv=some y∨S.next≤y) (ms:Mn S' 3 sv' (su.map bV)) (mw:Mn S' 1 wv' (wh.map aNd)) (w':WF S')
  (hcell:S''.heap.get a=some (.row 0 209 [aG8 { g with sure:=su,whn:=wh } p lv sv' wv'])) (hput:∀ y b,y≠a→S'.heap.get y=some b→S''.heap.get y=some b) (hn2:S'.next≤S''.next) (w'':WF S''):
  SafeI S'' a g k p O lv rows b1 b2 la (su,wh) sv' wv':=by
 have r:=h.at'.rest.lists (su:=su) (wh:=wh) ho h.wf hn hk hs hw ms mw
 have kk:∀ {y ver m el},S.heap.get y=some (.row ver m el)→m≠3→m≠1→y≠a→S''.heap.get y=some (.row ver m el):=fun hy h3 h1 hya=>hput _ _ hya (hk _ _ (h.wf _ _ hy) (wne h.at'.rest.sv hy h3) (wne h.at'.rest.wv hy h1) hy)
 have na:∀ {y ver m el},S.heap.get y=some (.row ver m el)→m≠209→y≠a:=fun hy hm e=>by
  rw [e,h.at'.cell] at hy
  injection hy with hy
  injection hy with _ hy
  exact hm hy.symm
 refine ⟨w'',⟨hcell,r.keep ho w' hn2 hput⟩,kk h.hb (by decide) (by decide) (na h.hb (by decide)),kk h.vb (by decide) (by decide) (na h.vb (by decide)),?_,fun y hy e=>?_⟩
 ·refine h.hl.keep fun y c hy hc=>?_
  have hrow:∃ ver el,c=.row ver 3 el:=by
   rcases h.hl.is with q | q | ⟨z,ver,off,el,q,g1,_⟩
   ·rw [q.1] at hy;cases hy
   ·rw [q] at hy;cases hy
   ·rw [q] at hy
    cases hy
    have:=eY g1
    rw [hc] at this
    cases this
    exact ⟨ver,el,rfl⟩
  obtain ⟨ver,el,rfl⟩:=hrow
  exact hput _ _ (na hc (by decide)) (hk _ _ (h.wf _ _ hc) (h.ls y hy) (wne h.at'.rest.wv hc (by decide)) hc)
 ·rcases hs y e with q | q
  ·exact h.ls y hy q
  ·have:=aDt h.wf h.hl y hy;omega
theorem SafeI.set (h:SafeI S a g k p O lv rows b1 b2 la st sv wv) (ho:∀ v,0≤v→v<5→(g.cs v).out=[]) {n:Nat} (h1:n<st.1.length) (h2:n<st.2.length) (x:Entry) (t:Int):
  ∃ q1 q2 S1 S2,jX 3 sv (.int .i64 (n:Int))=.ok q1∧bG 3 q1 (.agg (bV x)) S=.ok S1∧S1.heap.get b1=some (.row 0 7 [bB (g.cs k).h la])∧jX 1 wv (.int .i64 (n:Int))=.ok q2∧bG 1 q2 (.int .i64 t) S1=.ok S2∧SafeI S2 a g k p O lv rows b1 b2 la (st.1.set n x,st.2.set n t) sv wv:=by
 have r:=h.at'.rest
 obtain ⟨q1,S1,i1,s1,m1,n1,k1,w1,_⟩:=Mn.setAt r.sv h.wf (i:=n) (by rw [List.length_map];exact h1) (x:=.agg (bV x)) rfl rfl
 have m1':Mn S1 3 sv ((st.1.set n x).map bV):=by rw [List.map_set];exact m1
 have f1:=h.move ho (S':=S1) (S'':=S1) (su:=st.1.set n x) (wh:=st.2) (Nat.le_of_eq n1.symm) (fun y b _ hs _ hb=>k1 y b hs hb) (fun y hy=>.inl hy) (fun y hy=>.inl hy) m1' (Mn.fr r.wv (Nat.le_of_eq n1.symm) fun y b hy hb=>k1 y b (by
  obtain ⟨_,ver,tl,_,g1⟩:=r.wv.blk hy
  exact wne r.sv g1 (by decide)) hb) w1 (k1 _ _ (fun e=>r.na a (.inr (.inl e)) rfl) h.at'.cell) (fun y b _ hb=>hb) (Nat.le_refl _) w1
 have r1:=f1.at'.rest
 obtain ⟨q2,S2,i2,s2,m2,n2,k2,w2,_⟩:=Mn.setAt r1.wv f1.wf (i:=n) (by rw [List.length_map];exact h2) (x:=.int .i64 t) rfl rfl
 have m2':Mn S2 1 wv ((st.2.set n t).map aNd):=by rw [List.map_set];exact m2
 have f2:=f1.move ho (S':=S2) (S'':=S2) (su:=st.1.set n x) (wh:=st.2.set n t) (Nat.le_of_eq n2.symm) (fun y b _ _ hw hb=>k2 y b hw hb) (fun y hy=>.inl hy) (fun y hy=>.inl hy) (Mn.fr r1.sv (Nat.le_of_eq n2.symm) fun y b hy hb=>k2 y b (by
  obtain ⟨_,ver,tl,_,g1⟩:=r1.sv.blk hy
  exact wne r1.wv g1 (by decide)) hb) m2' w2 (k2 _ _ (fun e=>r1.na a (.inr (.inr e)) rfl) f1.at'.cell) (fun y b _ hb=>hb) (Nat.le_refl _) w2
 exact ⟨q1,q2,S1,S2,i1 .i64,s1,f1.hb,i2 .i64,s2,f2⟩
end
end
section
variable [Guard]
theorem aVj:bD 26=some (.spec (Sp.within.run prog)):=by kernel_rfl
theorem g26 (n lo hi:Int) (S:St) (h1:lo≤hi) (h2:hi≤1000000) (h3:-1000000≤lo):Does prog bD bE 26 [.int .i64 n,.int .i64 lo,.int .i64 hi] S (fun u S'=>u=.int .i64 (fK n lo hi)∧S'=S):=
 Does.step aVj (v:=.int .i64 (fK n lo hi)) (S':=S) (by unfold Sp.run fK;simp only [h1,h2,h3,decide_true,Bool.and_self,cond_true]) ⟨rfl,rfl⟩
theorem aSp (n:Int):wr .u8 n=n % 256:=by
 unfold wr
 have h1:lo .u8=0:=rfl
 have h2:hi .u8=255:=rfl
 rw [h1,h2]
 split
 ·omega
 ·rfl
theorem aSq (n:Int):V.int .u8 (wr .u8 n)=.int .u8 ((UInt8.ofNat (n % 256).toNat).toNat:Int):=by
 rw [aSp]
 congr 1
 have h:(UInt8.ofNat (n % 256).toNat).toNat=(n % 256).toNat % 256:=UInt8.toNat_ofNat'
 omega
theorem aVk:aN6 prog 74=true:=by kernel_rfl
theorem aNo {S:St} {v:V} {d:List UInt8} (h:Sl S 1 v (d.map tA)) (fr:Option Nat):bP prog 74 9 v fr S=.ok (.str d,S):=aAd aVk aMz h fr
end
section
variable [Guard]
def aQu:List V:=List.replicate 200 (.int .i64 0)
def aQv (i:Nat) (p:Nat→Nat):List V:=[if 0<i then .ptr (p 0) 0 0 0 else .nilp,if 1<i then .ptr (p 1) 0 0 0 else .nilp,if 2<i then .ptr (p 2) 0 0 0 else .nilp,if 3<i then .ptr (p 3) 0 0 0 else .nilp,if 4<i then .ptr (p 4) 0 0 0 else .nilp,.nils,.int .i64 0,.nils,.nils]++aQu
structure StartI (members:Int) (a i:Nat) (S:St) (p:Nat→Nat) (O:Nat→Nat→Prop):Prop where
 wf:WF S
 al:a<S.next
 cell:S.heap.get a=some (.row 0 209 [aQv i p])
 cores:∀ j,j<i→@CoreIn ⟨0⟩ S (p j) (aC2 members (j:Int)) (O j)
 sep:∀ j l,j<i→l<i→j≠l→∀ y,O j y→¬ O l y
 na:∀ j,j<i→∀ y,O j y→y≠a
theorem StartI.keep {members:Int} {a i:Nat} {S S':St} {p:Nat→Nat} {O:Nat→Nat→Prop} (h:StartI members a i S p O) (x:Ext S S'):StartI members a i S' p O:=by
 refine ⟨x.wf h.wf,Nat.lt_of_lt_of_le h.al x.next,x.old _ _ h.cell,fun j hj=>?_,h.sep,h.na⟩
 letI:Guard:=⟨0⟩
 exact (h.cores j hj).ext h.wf x
structure RunI (a i:Nat) (S:St):Prop where
 ex:∃ G g p O lv sv wv rows,WF S∧GAt S a g p O lv sv wv rows∧GI G g i∧0≤g.said∧g.said≤i
theorem RunI.first {members:Int} {a:Nat} {S:St} {p:Int→Nat} {O:Int→Nat→Prop} (w:WF S) (h:GAt S a (aLj members) p O .nils .nils .nils []):RunI a 0 S:=
 ⟨_,_,_,_,_,_,_,_,w,h,aLk members,Int.le_refl _,Int.le_refl _⟩
end
section
variable [Guard]
def aVl (K:KS) (ag:Ag):KS:=fun v S=>match v with
 | .tup (.bool true::x::_)=>K x S
 | .tup (.bool false::vs)=>ag vs S
 | _=>none
def aVm (K:KS):KS:=fun v S=>K (.tup [.bool true,v]) S
def aVn (K:KS):Ag:=fun vs S=>K (.tup (.bool false::vs)) S
theorem aNp {X:Type} {F:Nat→KS→Ag→Ag→An} {out:Nat→KS→X→St→An} {Q:Turn X→Prop} (hQ:∀ x S,¬ Q (.stop x S)) (h:OkL out (fun κ K aK=>F κ (aVm K) (aVn K) aK) Q):∃ vs S N,Q (.next vs S)∧∀ κ K ag aK,N≤κ→F κ K ag aK=aK vs S:=by
 obtain ⟨o,N,q,h⟩:=h
 cases o with
 | stop x S=>exact absurd q (hQ x S)
 | next vs S=>exact ⟨vs,S,N,q,fun κ K ag aK hk=>h κ (aVl K ag) aK hk⟩
section
variable {S:St} {a b1 b2:Nat} {g:Grp} {kn:Nat} {p:Int→Nat} {O:Int→Nat→Prop} {lv sv wv la:V} {rows:List (List V)}
end
end
section
def LoopOk (F:Nat→KS→List V→St→(List V→St→An)→An) (vs:List V) (S:St) (Q:V→St→Prop):Prop:=∃ v S' N,Q v S'∧∀ f κ K,N≤f→N≤κ→cW f vs S (F κ K)=K v S'
theorem LoopOk.ok {F:Nat→KS→List V→St→(List V→St→An)→An} {vs:List V} {S:St} {Q:V→St→Prop} (h:LoopOk F vs S Q):Ok (fun κ K=>cW κ vs S (F κ K)) Q:=by
 obtain ⟨v,S',N,q,h⟩:=h
 exact ⟨v,S',N,q,fun κ K hk=>h κ κ K hk hk⟩
def aO9 {X:Type} (F:Nat→KS→List V→St→(List V→St→An)→An) (out:Nat→KS→X→St→An) (Q:V→St→Prop):Turn X→Prop
 | .stop x S'=>Ok (fun κ K=>out κ K x S') Q
 | .next vs' S'=>LoopOk F vs' S' Q
theorem LoopOk.step {X:Type} {F:Nat→KS→List V→St→(List V→St→An)→An} {out:Nat→KS→X→St→An} {vs:List V} {S:St} {Q:V→St→Prop}
  (h:OkL out (fun κ K aK=>F κ K vs S aK) (aO9 F out Q)):LoopOk F vs S Q:=by
 obtain ⟨o,N,q,h⟩:=h
 cases o with
 | stop x S'=>
  obtain ⟨v,S'',N',q',h'⟩:=q
  refine ⟨v,S'',max N N'+1,q',fun f κ K hf hk=>?_⟩
  obtain ⟨f,rfl⟩:∃ f',f=f'+1:=⟨f - 1,by omega⟩
  show F κ K vs S (fun vs S=>cW f vs S (F κ K))=_
  exact (h κ K _ (by omega)).trans (h' κ K (by omega))
 | next vs' S'=>
  obtain ⟨v,S'',N',q',h'⟩:=q
  refine ⟨v,S'',max N N'+1,q',fun f κ K hf hk=>?_⟩
  obtain ⟨f,rfl⟩:∃ f',f=f'+1:=⟨f - 1,by omega⟩
  show F κ K vs S (fun vs S=>cW f vs S (F κ K))=_
  exact (h κ K _ (by omega)).trans (h' f κ K (by omega) (by omega))
def oR (b:Bool):List V:=[.bool b]
theorem nY (m:Letter) (c:Core):∀ k,(fA m k c).out.length≤c.out.length+7*k
 | 0=>Nat.le_refl _
 | k+1=>by
  have h1:=nY m c k
  have h2:=aE9 (fA m k c) m
  show ((fA m k c).take m).out.length≤_
  omega
theorem aAj:∀ (l:List Letter) (c:Core),(fL c l).out.length≤c.out.length+7*l.length
 | [],c=>Nat.le_refl _
 | m::l,c=>by
  have h1:=aE9 c m
  have h2:=aAj l (c.take m)
  show (fL (c.take m) l).out.length≤_
  rw [List.length_cons];omega
theorem aGb {c:Core} {l:List Letter} {q:Nat} {m:Letter} (h:l[q]?=some m):fL c (l.take (q+1))=(fL c (l.take q)).take m:=by
 unfold fL
 rw [List.take_add_one,h,List.foldl_append];rfl
def hB (s:List UInt8):Blk:=.row 0 7 [bB (hX s) .nils]
theorem aHm {S:St} {e:Nat} {s:List UInt8} (h:S.heap.get e=some (hB s)):aM none (.ptr e 0 0 5) S=.ok (.str s):=by rw [aX _ _ _ _ _ (aR h)];rfl
theorem aQw (h:Hard) (lv:V):eS none (bB h lv) 5=.ok (.str h.snap):=rfl
theorem aHn (m:Letter) (ev:V):eS none (aG m ev) 0=.ok (.int .i64 m.kind):=rfl
section
variable {a b e:Nat} {s:List UInt8} {x y:Core} {u p1 p4 p9:V} {l:List Letter} {i p q:Nat} {KK:Nat→KS→KS} {ag0:Nat→KS→Ag} {X:Type} {out:Nat→KS→X→St→An} {Q:Turn X→Prop}
theorem arq {q:Nat} (h:q<1000):wr .i64 ((q:Int)+1)=((q+1:Nat):Int):=by rw [dC (by omega) (by omega)];omega
theorem aQx {S:St} (h:Hand S a b e (hB s) x y u l) (hq:q<1000) (hs:y.h.snap=[]∨y.h.snap=s) (hQ:∀ S',Hand S' a b e (hB s) x y u l→Q (.next [p4,.int .i64 (p:Int),.int .i64 ((q+1:Nat):Int)] S')) {p5 p15:V}:
  OkL out (fun κ K aK=>aH0 (aC prog bD bE κ) κ (KK κ K) (ag0 κ K) aK p1 p4 p5 (.ptr e 0 0 0) p9 (.ptr b 0 0 0) (.int .i64 (p:Int)) p15 u (.int .i64 (q:Int)) S) Q:=by
 obtain ⟨n,O,hc⟩:=h.in2
 simp only [aH0]
 refine OkL.call (letI:Guard:=⟨n⟩;g14 h.wf hc h.inv2.h) fun v S1 ⟨x1,lv,e1,_⟩=>?_
 subst e1
 have h1:=h.ext x1
 have hl:=aHm h1.blk
 simp only [aQ3,aQw,eM,iW,qC,aGy]
 refine OkL.pick (fun hne=>?_) (fun _=>?_)
 ·have hss:y.h.snap=s:=by
   rcases hs with hs | hs
   ·rw [hs] at hne;cases hne
   ·exact hs
  have hb:(!(y.h.snap == s))=false:=by rw [hss];simp
  simp only [pR,aJ,Nat.reduceAdd,eM,ld9,hl,iW,qC,aGy,hb,aU,cG,arq hq]
  exact OkL.next (hQ _ h1)
 ·simp only [cG,eM,arq hq]
  exact OkL.next (hQ _ h1)
theorem aSs {S:St} {tw:List Bool} {av:V} {m:Letter} (htw:∀ S,Sl S 1 av (tw.map oR)) (h:Hand S a b e (hB s) x y u l) (hm:l[q]?=some m) (hq:q<1000) (hs:y.h.snap=[]∨y.h.snap=s) (hs':(y.take m).h.snap=[]∨(y.take m).h.snap=s) (hl:y.out.length≤999990)
  (hQ:∀ S',Hand S' a b e (hB s) x y u l→Q (.next [p4,.int .i64 (p:Int),.int .i64 ((q+1:Nat):Int)] S')) (hQ2:m.kind=5→∀ S',Hand S' a b e (hB s) x (y.take m) u l→Q (.next [p4,.int .i64 (p:Int),.int .i64 ((q+1:Nat):Int)] S')) {p5 p15:V}:
  OkL out (fun κ K aK=>aH1 (aC prog bD bE κ) κ (KK κ K) (ag0 κ K) aK av p4 p5 (.ptr e 0 0 0) p9 (.ptr b 0 0 0) (.int .i64 (p:Int)) p15 u (.int .i64 (q:Int)) S) Q:=by
 have r1:aD prog .rem 3 (.int .i64 (p:Int)) (.int .i64 5)=.ok (.int .i64 ((p % 5:Nat):Int)):=by
  rw [aBb _ _ _ _ _ (by decide),Int.tmod_eq_emod_of_nonneg (by omega)]
  rfl
 have no:OkL out (fun κ K aK=>aA6 (aC prog bD bE κ) κ (KK κ K) (ag0 κ K) aK av p4 p5 (.ptr e 0 0 0) p9 (.ptr b 0 0 0) (.int .i64 (p:Int)) p15 u (.int .i64 (q:Int)) (.bool false) S) Q:=by
  simp only [aA6,aU]
  exact aQx h hq hs hQ
 simp only [aH1,r1,eM,aS2,(htw S).lenI,bK]
 refine OkL.pickP (fun hlt=>?_) (fun _=>no)
 have hlt':p % 5<tw.length:=by omega
 obtain ⟨bo,hbo⟩:∃ bo,tw[p % 5]?=some bo:=⟨_,List.getElem?_eq_getElem hlt'⟩
 obtain ⟨q1,hq1,at1⟩:=(htw S).idx (by rw [List.getElem?_map,hbo];rfl:(tw.map oR)[p % 5]?=some (oR bo)) .i64
 have l1:aM none q1 S=.ok (.bool bo):=by rw [at1.load0];rfl
 simp only [aUi,hq1,eM,ld4,l1]
 refine OkL.pick (fun _=>?_) (fun _=>no)
 obtain ⟨q2,ev,hq2,at2,l2,hgo⟩:=h.get hm
 have l3:aM none (adv 0 q2) S=.ok (.int .i64 m.kind):=by rw [at2.load];exact aHn m ev
 simp only [aKk,hq2,eM,pS,at2.advW,eQ,l3,bF,qC,cK,aA6]
 refine OkL.pickP (fun h5=>?_) (fun _=>aQx h hq hs hQ)
 simp only [aKk,hq2,eM,xF,l2]
 refine OkL.call (hgo hl) fun v S1 ⟨_,h1⟩=>?_
 exact aQx h1 hq hs' (hQ2 h5)
theorem aVo {S:St} {tw:List Bool} {av:V} {m:Letter} {r:Nat} (htw:∀ S,Sl S 1 av (tw.map oR)) (h:Hand S a b e (hB s) x y u (List.replicate r m)) (hr:r≤2) (hy:y.out=[]) (hp:p≤500) (hs:∀ k,k≤2*r→(fA m k y).h.snap=[]∨(fA m k y).h.snap=s) {p5 p15:V}
  (hQ:∀ S' k,r≤k→k≤2*r→(m.kind≠5→k=r)→Hand S' a b e (hB s) x (fA m k y) u (List.replicate r m)→OkL out (fun κ K ag=>aC prog bD bE κ 27 [.ptr b 0 0 0] S' fun t97 S98=>cW κ [.int .i64 0] S98 (wP (aC prog bD bE κ) κ K ag av p4 p5 (.ptr e 0 0 0) p9 (.ptr b 0 0 0) (.int .i64 ((p+if m.kind=5 then r else 0:Nat):Int)) p15 t97)) Q):
  OkL out (fun κ K ag=>cW κ [p4,.int .i64 (p:Int),.int .i64 0] S (aA7 (aC prog bD bE κ) κ K ag av p5 (.ptr e 0 0 0) p9 (.ptr b 0 0 0) p15 u)) Q:=by
 refine OkL.loop (F:=fun κ K ag vs T aK=>aA7 (aC prog bD bE κ) κ K ag av p5 (.ptr e 0 0 0) p9 (.ptr b 0 0 0) p15 u vs T aK) (σ:=Unit) (ρ:=Unit) (α:=Nat) (Y:=Unit) (List.range r) (step:=fun _ _=>.inr ()) (fin:=id) (s:=())
  (out2:=fun κ K ag _ T=>aC prog bD bE κ 27 [.ptr b 0 0 0] T fun t97 S98=>cW κ [.int .i64 0] S98 (wP (aC prog bD bE κ) κ K ag av p4 p5 (.ptr e 0 0 0) p9 (.ptr b 0 0 0) (.int .i64 ((p+if m.kind=5 then r else 0:Nat):Int)) p15 t97))
  (fun q _ vs T=>vs=[p4,.int .i64 ((p+if m.kind=5 then q else 0:Nat):Int),.int .i64 (q:Int)]∧q≤r∧∃ k,q≤k∧k≤2*q∧(m.kind≠5→k=q)∧Hand T a b e (hB s) x (fA m k y) u (List.replicate r m))
  (fun _ _ T=>∃ k,r≤k∧k≤2*r∧(m.kind≠5→k=r)∧Hand T a b e (hB s) x (fA m k y) u (List.replicate r m)) ?_ ?_ ⟨by simp,Nat.zero_le _,0,Nat.le_refl _,Nat.le_refl _,fun _=>rfl,h⟩ (fun _ T ⟨k,k1,k2,k3,hT⟩=>hQ T k k1 k2 k3 hT)
 ·rintro q j _ vs T ⟨rfl,hq0,k,k1,k2,k3,hT⟩ hj
  have hql:=(List.getElem?_eq_some_iff.1 hj).1
  rw [List.length_range] at hql
  have hm:(List.replicate r m)[q]?=some m:=by rw [List.getElem?_replicate,if_pos hql]
  have hlt:(q:Int)<((List.replicate r m).length:Int):=by rw [List.length_replicate];omega
  have ho:=nY m y k
  rw [hy,List.length_nil] at ho
  have hwp:∀ z:Nat,z≤600→wr .i64 ((z:Int)+1)=((z+1:Nat):Int):=fun z hz=>by rw [dC (by omega) (by omega)];omega
  haveI:Guard:=⟨0⟩
  obtain ⟨vs,S',N',⟨r1,k',k1',k2',k3',r2⟩,hrun⟩:=aNp (X:=Unit) (F:=fun κ K ag aK=>aA7 (aC prog bD bE κ) κ K ag av p5 (.ptr e 0 0 0) p9 (.ptr b 0 0 0) p15 u [p4,.int .i64 ((p+if m.kind=5 then q else 0:Nat):Int),.int .i64 (q:Int)] T aK) (out:=fun _ _ _ _=>none)
   (Q:=fun t=>match t with
    | .stop _ _=>False
    | .next vs S'=>vs=[p4,.int .i64 ((p+if m.kind=5 then q+1 else 0:Nat):Int),.int .i64 ((q+1:Nat):Int)]∧∃ k,q+1≤k∧k≤2*(q+1)∧(m.kind≠5→k=q+1)∧Hand S' a b e (hB s) x (fA m k y) u (List.replicate r m)) (fun _ _ q=>q) (by
     obtain ⟨q2,ev,hq2,at2,l2,hgo⟩:=hT.get hm
     simp only [aA7,bH,aH6,hT.len,eM,bK,hlt,decide_true,kO,aKk,hq2,xF,l2]
     refine OkL.call (hgo (by omega)) fun v S1 ⟨_,h1⟩=>?_
     obtain ⟨q3,ev3,hq3,at3,_,_⟩:=h1.get hm
     have l3:aM none (adv 0 q3) S1=.ok (.int .i64 m.kind):=by rw [at3.load];exact aHn m ev3
     have e23:q3=q2:=by
      have:=(hq3 .i64).symm.trans (hq2 .i64)
      cases this;rfl
     subst e23
     simp only [aKk,hq2,eM,pS,at2.advW,eQ,l3,bF,qC,cK]
     have s1:=hs (k+1) (by omega)
     have ho1:=nY m y (k+1)
     rw [hy,List.length_nil] at ho1
     refine OkL.pickP (fun h5=>?_) (fun h5=>?_)
     ·have s2:=hs (k+2) (by omega)
      have e1:(p+if m.kind=5 then q else 0)=p+q:=by rw [if_pos h5]
      have e2:(p+if m.kind=5 then q+1 else 0)=p+q+1:=by rw [if_pos h5];omega
      simp only [cG,eM]
      rw [e1,e2,hwp (p+q) (by omega)]
      exact aSs (y:=fA m (k+1) y) htw h1 hm (by omega) s1 s2 (by omega) (fun S' hS=>⟨rfl,k+1,by omega,by omega,fun q=>absurd h5 q,hS⟩) (fun _ S' hS=>⟨rfl,k+2,by omega,by omega,fun q=>absurd h5 q,hS⟩)
     ·have e1:(p+if m.kind=5 then q else 0)=p:=by rw [if_neg h5];rfl
      have e2:(p+if m.kind=5 then q+1 else 0)=p:=by rw [if_neg h5];rfl
      rw [e1,e2]
      have hk:=k3 h5
      subst hk
      exact aSs (y:=fA m (k+1) y) htw h1 hm (by omega) s1 (hs (k+2) (by omega)) (by omega) (fun S' hS=>⟨rfl,k+1,by omega,by omega,fun _=>rfl,hS⟩) (fun q=>absurd q h5))
  subst r1
  exact ⟨N',.inr ⟨(),_,S',rfl,⟨rfl,hql,k',k1',k2',k3',r2⟩,fun κ K ag aK hk=>hrun κ K ag aK hk⟩⟩
 ·rintro _ vs T ⟨rfl,hq0,k,k1,k2,k3,hT⟩
  rw [List.length_range] at k1 k2 k3
  have hnl:¬ (((List.range r).length:Nat):Int)<((List.replicate r m).length:Int):=by rw [List.length_range,List.length_replicate];omega
  refine ⟨0,(),T,⟨k,k1,k2,k3,hT⟩,fun κ K ag aK _=>?_⟩
  simp only [aA7,bH,aH6,hT.len,eM,bK,hnl,decide_false,aU]
  rw [List.length_range]
theorem aVp {S:St} {l':List Letter} {p14:V} {iN:Nat} (h:Hand S b a e (hB s) y x u l') (hx:x.out=[]) (hl:l'.length≤100) (hi:iN<1000) {p5 p11 av:V}
  (hQ:∀ S',Hand S' b a e (hB s) y (fL x l') u l'→OkL out (fun κ K ag=>ag [p4,p14,.int .i64 ((iN+1:Nat):Int)] S') Q):
  OkL out (fun κ K ag=>cW κ [.int .i64 0] S (wP (aC prog bD bE κ) κ K ag av p4 p5 (.ptr e 0 0 0) (.ptr a 0 0 0) p11 p14 (.int .i64 (iN:Int)) u)) Q:=by
 refine OkL.loop (F:=fun κ K ag vs T aK=>wP (aC prog bD bE κ) κ K ag av p4 p5 (.ptr e 0 0 0) (.ptr a 0 0 0) p11 p14 (.int .i64 (iN:Int)) u vs T aK) (σ:=Unit) (ρ:=Unit) (α:=Letter) (Y:=Unit) l' (step:=fun _ _=>.inr ()) (fin:=id) (s:=())
  (out2:=fun κ K ag _ T=>ag [p4,p14,.int .i64 ((iN+1:Nat):Int)] T)
  (fun q _ vs T=>vs=[.int .i64 (q:Int)]∧Hand T b a e (hB s) y (fL x (l'.take q)) u l')
  (fun _ _ T=>Hand T b a e (hB s) y (fL x l') u l') ?_ ?_ ⟨rfl,h⟩ (fun _ T hT=>hQ T hT)
 ·rintro q m _ vs T ⟨rfl,hT⟩ hm
  have hql:=(List.getElem?_eq_some_iff.1 hm).1
  have hlt:(q:Int)<(l'.length:Int):=by omega
  have ho:=aAj (l'.take q) x
  rw [hx,List.length_nil,List.length_take] at ho
  obtain ⟨q2,ev,hq2,at2,l2,hgo⟩:=hT.get hm
  obtain ⟨v,S1,N',⟨_,h1⟩,hrun⟩:=hgo (by omega)
  refine ⟨N',.inr ⟨(),_,S1,rfl,⟨rfl,by rw [aGb hm];exact h1⟩,fun κ K ag aK hk=>?_⟩⟩
  simp only [wP,bH,aH6,hT.len,eM,bK,hlt,decide_true,kO,aKk,hq2,xF,l2,hrun κ _ hk,cG,arq (by omega:q<1000)]
 ·rintro _ vs T ⟨rfl,hT⟩
  have hnl:¬ ((l'.length:Nat):Int)<(l'.length:Int):=by omega
  rw [List.take_length] at hT
  refine ⟨0,(),T,hT,fun κ K ag aK _=>?_⟩
  simp only [wP,bH,aH6,hT.len,eM,bK,hnl,decide_false,aU,cG,arq hi]
end
end
section
theorem Ph7.xo {s:List UInt8} {x y:Core} {i p:Nat} (h:Ph7 s x y i p) (hy:y.sure<10):x.out.length≤1:=by
 cases h with
 | z=>exact absurd hy (show ¬ (10:Int)<10 by decide)
 | a=>exact Nat.le_refl _
 | b=>exact Nat.le_refl _
 | p=>exact Nat.le_refl _
 | q=>exact Nat.le_refl _
 | r=>exact Nat.zero_le _
theorem aIz (v:View):eS none (uC v) 2=.ok (.int .i64 v.commit):=rfl
theorem aVq {n p:Nat} (hn:n≤6000) (h:n≤600*p):wr .i64 ((n:Int)+600)=(n:Int)+600∧wr .i64 ((n:Int)+600 - 1)=(n:Int)+599∧wr .i64 (((n:Int)+599).tdiv 600)=(((n+599) / 600:Nat):Int)∧(((n+599) / 600:Nat):Int)≤(p:Int):=by
 refine ⟨dC (by omega) (by omega),by rw [dC (by omega) (by omega)];omega,?_,by omega⟩
 rw [Int.tdiv_eq_ediv_of_nonneg (by omega),dC (by omega) (by omega)]
 omega
section
variable {a b e:Nat} {s:List UInt8} {x y:Core} {i p:Nat} {p4:V}
theorem aVr {S:St} (h:Duo S a b e (hB s) x y) (hs:s.length≤6000) (hf:y.h.snap=s∧y.h.base=9∧y.h.baseTerm=2∧y.h.members=3∧s.length≤600*p):Ok (fun κ K=>wO (aC prog bD bE κ) κ K p4 (.int .i64 (s.length:Int)) (.ptr e 0 0 0) (.ptr b 0 0 0) (.int .i64 (p:Int)) S) fun u _=>u=.bool true:=by
 haveI:Guard:=⟨0⟩
 obtain ⟨n,O,hc⟩:=h.in2
 obtain ⟨f1,f2,f3,f4,f5⟩:=hf
 obtain ⟨w1,w2,w3,w4⟩:=aVq hs f5
 simp only [wO]
 refine Does.call (letI:Guard:=⟨n⟩;g14 h.wf hc h.inv2.h) fun v S1 ⟨x1,lv,e1,ow⟩=>?_
 subst e1
 have h1:=h.ext x1
 obtain ⟨T1,T2,v1,v2,x2,g2⟩:=aSn h1.wf 7 [.int .i64 0,.int .i64 0,.int .i64 0,.int .i64 0,.int .i64 0,.str [],.nils] (bB y.h lv) rfl rfl (eP _ ow.sl.one)
 have h2:=h1.ext x2
 have hl:=aHm h2.blk
 have k5:aM none (.ptr S1.next 0 0 5) T2=.ok (.str y.h.snap):=by rw [aX _ _ _ _ _ (aR g2)];rfl
 have k2:aM none (.ptr S1.next 0 0 2) T2=.ok (.int .i64 y.h.base):=by rw [aX _ _ _ _ _ (aR g2)];rfl
 have k3:aM none (.ptr S1.next 0 0 3) T2=.ok (.int .i64 y.h.baseTerm):=by rw [aX _ _ _ _ _ (aR g2)];rfl
 have k4:aM none (.ptr S1.next 0 0 4) T2=.ok (.int .i64 y.h.members):=by rw [aX _ _ _ _ _ (aR g2)];rfl
 rw [f1] at k5
 rw [f2] at k2
 rw [f3] at k3
 rw [f4] at k4
 have hb:(s == s)=true:=by simp
 have r3:aD prog .quo 3 (.int .i64 ((s.length:Int)+599)) (.int .i64 600)=.ok (.int .i64 (((s.length+599) / 600:Nat):Int)):=by rw [aM9 _ _ _ _ _ (by decide),w3]
 simp only [v1,eM,aKl,v2,pR,fP,wY,wZ,aJ,Nat.reduceAdd,ld9,eQ,k5,hl,iW,qC,uU,hb,kO,k2,k3,k4,bF,cK,decide_true,cG,w1,dK,w2,r3,eO,w4]
 exact aL7 rfl
theorem aVs (i:Nat):aD prog .rem 3 (.int .i64 (i:Int)) (.int .i64 3)=.ok (.int .i64 ((i % 3:Nat):Int)):=by
 rw [aBb _ _ _ _ _ (by decide),Int.tmod_eq_emod_of_nonneg (by omega)]
 rfl
theorem aSt {tw:List Bool} {av:V} (htw:∀ S,Sl S 1 av (tw.map oR)) (s1:1≤s.length) (hs:s.length≤6000):∀ (n i p:Nat) (x y:Core) (S:St),i+n=200→p≤2*i→Duo S a b e (hB s) x y→Ph7 s x y i p→
  LoopOk (fun κ K=>aDm (aC prog bD bE κ) κ K av (.int .i64 (s.length:Int)) (.ptr e 0 0 0) (.ptr a 0 0 0) (.ptr b 0 0 0)) [.bool false,.int .i64 (p:Int),.int .i64 (i:Int)] S fun u _=>u=.bool true
 | 0,i,p,x,y,S,hi,_,_,h=>absurd (h.i200 hs) (by omega)
 | n+1,i,p,x,y,S,hi,hp,hd,h=>by
  haveI:Guard:=⟨0⟩
  refine LoopOk.step (X:=Nat) (out:=fun κ K p T=>wO (aC prog bD bE κ) κ K (.bool false) (.int .i64 (s.length:Int)) (.ptr e 0 0 0) (.ptr b 0 0 0) (.int .i64 (p:Int)) T) ?_
  have hlt:(i:Int)<200:=by omega
  simp only [aDm,bH,bK,eM,hlt,decide_true,kO]
  obtain ⟨n2,O2,hc⟩:=hd.in2
  refine Gives.callL (letI:Guard:=⟨n2⟩;g17 hd.wf hc hd.inv2.h) fun S1 x1=>?_
  have h1:=hd.ext x1
  have hv:y.view.commit=y.sure:=rfl
  simp only [aQ4,aIz,hv,eM,bK]
  refine OkL.pickP (fun hy=>?_) (fun hy=>OkL.stop p (aVr h1 hs (aVi h hy)))
  obtain ⟨m,r,R⟩:=aQt s1 hs h hy
  have go:∀ {S2:St},Duo S2 a b e (hB s) (X1 i x) y→OkL (fun κ K (p:Nat) T=>wO (aC prog bD bE κ) κ K (.bool false) (.int .i64 (s.length:Int)) (.ptr e 0 0 0) (.ptr b 0 0 0) (.int .i64 (p:Int)) T)
    (fun κ K aK=>aH2 (aC prog bD bE κ) κ K aK av (.bool false) (.int .i64 (s.length:Int)) (.ptr e 0 0 0) (.ptr a 0 0 0) (.ptr b 0 0 0) (.int .i64 (p:Int)) (.int .i64 (i:Int)) S2)
    (aO9 (fun κ K=>aDm (aC prog bD bE κ) κ K av (.int .i64 (s.length:Int)) (.ptr e 0 0 0) (.ptr a 0 0 0) (.ptr b 0 0 0)) (fun κ K (p:Nat) T=>wO (aC prog bD bE κ) κ K (.bool false) (.int .i64 (s.length:Int)) (.ptr e 0 0 0) (.ptr b 0 0 0) (.int .i64 (p:Int)) T) fun u _=>u=.bool true):=fun {S2} h2=>by
   simp only [aH2]
   refine OkL.call h2.send fun u S3 h3=>?_
   rw [R.out] at h3
   refine aVo htw h3 R.r2 hd.out (by omega) R.snap fun S4 k k1 k2 k3 h4=>?_
   refine OkL.call h4.done.send fun u' S5 h5=>?_
   have ho:=nY m y k
   rw [hd.out,List.length_nil] at ho
   have hr2:=R.r2
   refine aVp h5 rfl (by omega) (by omega) fun S6 h6=>?_
   refine OkL.next (aSt htw s1 hs n (i+1) (p+if m.kind=5 then r else 0) _ _ S6 (by omega) (by split<;>omega) h6.done (R.go k k1 k2 k3))
  simp only [aVs,eM,bF,qC,cK]
  refine OkL.pickP (fun e2=>?_) (fun e2=>?_)
  ·have hx:X1 i x=x.tick 0:=if_pos (by omega)
   rw [hx] at go
   have hxo:=Ph7.xo h hy
   refine OkL.call (h1.op (c':=x.tick 0) (Inv.tick h1.inv1 0).1 (fun G O hO=>letI:Guard:=G;g18 0 h1.wf hO h1.inv1 (by omega))) fun v S2 ⟨_,h2⟩=>go h2
  ·have hx:X1 i x=x:=if_neg (by omega)
   rw [hx] at go
   exact go h1
end
end
theorem aVt:jA prog 74=some 5:=by kernel_rfl
theorem zo5:eC prog 5=some (.int .u8 0):=by kernel_rfl
theorem sz5:sz prog 5=1:=by kernel_rfl
theorem by5:prog.bytesOf 5=1:=by kernel_rfl
theorem aSu {n:Nat} (h:n≤6000):nZ prog 5 n=true:=by
 unfold nZ
 rw [by5,Nat.mul_one]
 have h1:Nat.ble n 35184372088832=true:=Nat.ble_eq_true_of_le (by omega)
 have h2:Nat.blt n eV=true:=Nat.ble_eq_true_of_le (by unfold eV;omega)
 rw [h1,h2];rfl
theorem aQy {n:Nat} (h:n≤6000) (S:St):cY prog 74 (.int .i64 (n:Int)) (.int .i64 (n:Int)) none S=.ok (.sl S.next 0 1 0 n,⟨S.next+1,S.heap.put S.next (.row 0 1 (List.replicate n [.int .u8 0]))⟩):=by
 have h1:decide ((0:Int)≤(n:Int))=true:=decide_eq_true (by omega)
 have h2:decide ((n:Int)≤(n:Int))=true:=decide_eq_true (by omega)
 have h3:decide ((n:Int)<2147483648)=true:=decide_eq_true (by omega)
 have h4:((n:Int)).toNat=n:=by omega
 unfold cY
 simp only [aVt,zo5,sz5,V.cells,h1,h2,h3,h4,aSu h,cM]
 rfl
theorem bdX (s:List UInt8):bM prog 24 [(0,.int .i64 3),(1,.int .i64 (-1)),(2,.int .i64 9),(3,.int .i64 2),(4,.int .i64 3),(5,.str s)]=.ok (.agg (bB (hX s) .nils)):=by rw [aQ1];rfl
theorem bdY:bM prog 24 [(0,.int .i64 3),(1,.int .i64 (-1)),(4,.int .i64 3)]=.ok (.agg (bB hY .nils)):=by rw [aQ1];rfl
theorem aAk (c:Core):∀ j,(uG j c).out.length≤c.out.length+7*j
 | 0=>Nat.le_refl _
 | j+1=>by
  have h1:=aAk c j
  have h2:=aL4 (uG j c) 0
  show ((uG j c).tick 0).out.length≤_
  omega
theorem aVu {S:St} {a b e:Nat} {s:List UInt8} {tw:List Bool} {av:V} (htw:∀ S,Sl S 1 av (tw.map oR)) (s1:1≤s.length) (hs:s.length≤6000) (h:Duo S a b e (hB s) (x0 s) y0):
  Ok (fun κ K=>cW κ [.int .i64 0] S (aDn (aC prog bD bE κ) κ K av (.int .i64 (s.length:Int)) (.ptr e 0 0 0) (.ptr a 0 0 0) (.ptr b 0 0 0))) fun u _=>u=.bool true:=by
 refine Ok.loopL (F:=fun κ K=>aDn (aC prog bD bE κ) κ K av (.int .i64 (s.length:Int)) (.ptr e 0 0 0) (.ptr a 0 0 0) (.ptr b 0 0 0)) (ρ:=Unit) (α:=Nat) (X:=Unit) (List.range 10) (step:=fun _ _=>.inr ()) (fin:=id) (s:=())
  (out:=fun κ K _ T=>cW κ [.bool false,.int .i64 0,.int .i64 0] T (aDm (aC prog bD bE κ) κ K av (.int .i64 (s.length:Int)) (.ptr e 0 0 0) (.ptr a 0 0 0) (.ptr b 0 0 0)))
  (fun j _ vs T=>vs=[.int .i64 (j:Int)]∧j≤10∧Duo T a b e (hB s) (uG j (x0 s)) y0)
  (fun _ _ T=>Duo T a b e (hB s) (x10 s) y0) ?_ ?_ ⟨rfl,by decide,h⟩ (fun _ T hT=>(aSt htw s1 hs 200 0 0 (x10 s) y0 T rfl (by decide) hT .a).ok)
 ·rintro j j' _ vs T ⟨rfl,hj0,hT⟩ hj
  have hjl:=(List.getElem?_eq_some_iff.1 hj).1
  rw [List.length_range] at hjl
  have hlt:(j:Int)<10:=by omega
  have ho:=aAk (x0 s) j
  have ho':(uG j (x0 s)).out.length≤999990:=by
   have:(x0 s).out.length=0:=rfl
   omega
  simp only [aDn,bH,bK,eM,hlt,decide_true,kO]
  refine OkL.call (hT.op (c':=uG (j+1) (x0 s)) (Inv.tick hT.inv1 0).1 (fun G O hO=>letI:Guard:=G;g18 0 hT.wf hO hT.inv1 ho')) fun v S2 ⟨_,h2⟩=>?_
  simp only [cG,eM,arq (by omega:j<1000)]
  exact OkL.next ⟨(),rfl,rfl,hjl,h2⟩
 ·rintro _ vs T ⟨rfl,hj0,hT⟩
  have hnl:¬ (((List.range 10).length:Nat):Int)<10:=by rw [List.length_range];omega
  refine ⟨(),?_,fun κ K aK=>?_⟩
  ·rw [List.length_range,aNe] at hT;exact hT
  ·simp only [aDn,bH,bK,eM,hnl,decide_false,aU]
theorem g7 (size:Int) (av:V) (tw:List Bool) (S:St) (w:WF S) (htw:∀ S,Sl S 1 av (tw.map oR)):Does prog bD bE 7 [.int .i64 size,av] S fun u _=>u=.bool true:=by
 letI:Guard:=⟨0⟩
 obtain ⟨n1,n2⟩:=rV size 1 6000 (by decide)
 obtain ⟨n,hn,hn1,hn2⟩:∃ n:Nat,fK size 1 6000=(n:Int)∧1≤n∧n≤6000:=⟨(fK size 1 6000).toNat,by omega,by omega,by omega⟩
 refine e7 ?_
 simp only [m7]
 refine Does.call (g26 size 1 6000 S (by decide) (by decide) (by decide)) fun u S0 ⟨e1,e2⟩=>?_
 subst e1
 subst e2
 rw [hn]
 simp only [aQy hn2,eM]
 have x1:Ext S0 (⟨S0.next+1,S0.heap.put S0.next (.row 0 1 (List.replicate n [.int .u8 0]))⟩:St):=Ext.new w _
 have gg:(⟨S0.next+1,S0.heap.put S0.next (.row 0 1 (List.replicate n [.int .u8 0]))⟩:St).heap.get S0.next=some (.row 0 1 (List.replicate n [.int .u8 0])):=Tr.get_put_sameB _ _ _ trivial
 have hr:((List.replicate n (0:UInt8)).map tA)=List.replicate n [.int .u8 0]:=by rw [List.map_replicate];rfl
 have mn:Mn (⟨S0.next+1,S0.heap.put S0.next (.row 0 1 (List.replicate n [.int .u8 0]))⟩:St) 1 (.sl S0.next 0 1 0 n) ((List.replicate n (0:UInt8)).map tA):=by
  rw [hr]
  refine ⟨.inr ⟨S0.next,0,[],by rw [List.length_replicate],Nat.zero_le _,Nat.lt_succ_self _,by rw [List.append_nil];exact gg⟩,fun c hc=>?_⟩
  rw [List.eq_of_mem_replicate hc];exact ⟨rfl,rfl⟩
 refine Ok.loopL (F:=fun κ K=>aA8 (aC prog bD bE κ) κ K av (.int .i64 (n:Int)) (.sl S0.next 0 1 0 n)) (ρ:=Unit) (α:=Nat) (X:=List UInt8) (List.range n) (step:=fun _ _=>.inr ()) (fin:=id) (s:=())
  (out:=fun κ K s T=>aA8 (aC prog bD bE κ) κ K av (.int .i64 (n:Int)) (.sl S0.next 0 1 0 n) [.int .i64 (n:Int)] T (fun _ _=>none))
  (fun i _ vs T=>vs=[.int .i64 (i:Int)]∧i≤n∧WF T∧∃ l:List UInt8,l.length=n∧Mn T 1 (.sl S0.next 0 1 0 n) (l.map tA))
  (fun _ s T=>WF T∧s.length=n∧Mn T 1 (.sl S0.next 0 1 0 n) (s.map tA)) ?_ ?_ ⟨rfl,Nat.zero_le _,x1.wf w,_,List.length_replicate,mn⟩ (fun s T ⟨wT,sl,mT⟩=>?_)
 ·rintro i j _ vs T ⟨rfl,hi0,wT,l,hl,mT⟩ hi
  have hil:=(List.getElem?_eq_some_iff.1 hi).1
  rw [List.length_range] at hil
  have hlt:(i:Int)<(n:Int):=by omega
  have hb:=aSq (wr .u8 (wr .u8 (i:Int)*7)+1)
  obtain ⟨p,T',hp,st,m',n',k',w',_⟩:=mT.setAt wT (i:=i) (by rw [List.length_map];omega) (x:=.int .u8 ((UInt8.ofNat ((wr .u8 (wr .u8 (i:Int)*7)+1) % 256).toNat).toNat:Int)) rfl rfl
  simp only [aA8,bH,bK,eM,hlt,decide_true,kO,aRx,aGx,cG,hb,aUj,hp,st5,st,aG0 hil (by omega:n≤1000000)]
  refine OkL.next ⟨(),rfl,rfl,hil,w',l.set i (UInt8.ofNat ((wr .u8 (wr .u8 (i:Int)*7)+1) % 256).toNat),by rw [List.length_set];exact hl,?_⟩
  rw [List.map_set];exact m'
 ·rintro _ vs T ⟨rfl,hi0,wT,l,hl,mT⟩
  refine ⟨l,⟨wT,hl,mT⟩,fun κ K aK=>?_⟩
  have hnl:¬ (n:Int)<(n:Int):=by omega
  rw [List.length_range]
  simp only [aA8,bH,bK,eM,hnl,decide_false,aU]
 ·have hnl:¬ (n:Int)<(n:Int):=by omega
  have s1:1≤s.length:=by omega
  have hs:s.length≤6000:=by omega
  have sne:s≠[]:=fun e=>by rw [e] at s1;exact absurd s1 (by decide)
  have cv:=aNo mT.sl none
  obtain ⟨T1,T2,v1,v2,x2,g2⟩:=aSn wT 7 [.int .i64 0,.int .i64 0,.int .i64 0,.int .i64 0,.int .i64 0,.str [],.nils] (bB (hX s) .nils) rfl rfl rfl
  have w2:=x2.wf wT
  have l2:aM (some 7) (.ptr T.next 0 0 0) T2=.ok (.agg (bB (hX s) .nils)):=by rw [aX _ _ _ _ _ (aR g2)];exact dV _ _ rfl
  simp only [aA8,bH,bK,eM,hnl,decide_false,aU,cv,bdX,v1,aKl,v2,yQ,l2]
  refine Does.call (g11 0 0 (hX s) .nils T2 w2 (Nat.zero_le _) (Sl.nilv _ _) (by show 0≤1000000;decide)) fun u S3 ⟨x3,hx⟩=>?_
  rw [aSi sne hs] at hx
  obtain ⟨a,O,rfl,in1,hO⟩:=hx
  have w3:=x3.wf w2
  simp only [rH,List.getElem?_cons_zero,List.getElem?_cons_succ,aDf,bdY,eM]
  refine Does.call (g11 1 9 hY .nils S3 w3 (Nat.zero_le _) (Sl.nilv _ _) (by show 0≤1000000;decide)) fun u S4 ⟨x4,hy⟩=>?_
  rw [aSj] at hy
  obtain ⟨b,O',rfl,in2,hO'⟩:=hy
  have w4:=x4.wf w3
  simp only [rH,List.getElem?_cons_zero,List.getElem?_cons_succ,aDf,aL6,aL5,bF,eX,qC,eM,aU,decide_true,Bool.not_true]
  rw [←sl]
  have he:T.next<T2.next:=w2 _ _ g2
  have e1:∀ u,O u→T.next<u:=fun u hu=>by have:=hO u hu;omega
  have lt1:∀ u,O u→u<S3.next:=aEg (n:=0) w3 in1
  have n3:=x3.next
  have n4:=x4.next
  refine aVu htw s1 hs ⟨w4,x4.old _ _ (x3.old _ _ g2),(Inv.new (aSi sne hs)).1,(Inv.new aSj).1,rfl,S4.next,0,O,O',⟨rW (n:=0) (in1.ext w3 x4) rfl (Nat.le_refl _),in2,fun u hu hv=>?_,e1,fun u hu=>?_⟩,aEg (n:=0) w4 in2⟩
  ·have:=lt1 u hu
   have:=hO' u hv
   omega
  ·have:=hO' u hu
   omega
theorem aLr {n:Nat} {xs:List V} (h:dM prog n 72 xs):∃ (l:List Bool) (v:V),xs=[v]∧∀ S,Sl S 1 v (l.map oR):=by
 obtain ⟨m,h | ⟨es,h,hlen,hes⟩⟩:=aL9 Try.underlying72 h
 ·exact ⟨[],.nils,h,fun S=>Sl.nilv _ _⟩
 ·obtain ⟨l,hl⟩:=aEb (enc:=oR) fun c hc=>aN9 (hes c hc).2
  subst hl
  refine ⟨l,.imm (l.map oR),h,fun S=>⟨.inr (.inl rfl),fun c hc=>?_⟩⟩
  obtain ⟨a,ha,rfl⟩:=List.mem_map.1 hc
  exact ⟨rfl,rfl⟩
end Go.Proofs.Ytbiidlmhadihlaa
end
