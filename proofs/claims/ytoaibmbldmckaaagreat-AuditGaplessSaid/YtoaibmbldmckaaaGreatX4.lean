import Derived.ChangeArms
import Derived.Lib.Walk
import Derived.ProofKit
import Derived.WalkKit
import Derived.Test.YtoaibmbldmckaaaGreatX3
set_option linter.unusedSimpArgs false
set_option linter.unusedVariables false
set_option linter.unusedSectionVars false
set_option maxRecDepth 100000
section
namespace Go.AM
theorem aXt (n:Nat) (z:List V) (parts:List (Nat×V)) (fr:Option Nat) (S:St) (hn:n≤1000):aP n z 3 parts fr S=(match sI n [z,z,z] parts with
  | .error e=>.error e
  | .ok elems=>match aJ fr S (.row 0 n elems) with
   | .error e=>.error e
   | .ok (a,S')=>.ok (.sl a 0 n 0 3,S')):=by
 unfold aP
 rw [if_pos (by omega)]
 rfl
theorem bFq (z:List V) (parts:List (Nat×V)) (fr:Option Nat) (S:St):type_of% (aXt 1 z parts fr S (by decide)):=aXt 1 z parts fr S (by decide)
theorem aQ4 (z:List V) (parts:List (Nat×V)) (fr:Option Nat) (S:St):type_of% (aX3 1 z parts fr S (by decide)):=aX3 1 z parts fr S (by decide)
theorem ix3 (b:Nat):(∀ k:IntKind,cP 1 (.sl b 0 1 0 3) (.int k 0)=.ok (.ptr b 0 0 0))∧(∀ k:IntKind,cP 1 (.sl b 0 1 0 3) (.int k 1)=.ok (.ptr b 0 1 0))∧(∀ k:IntKind,cP 1 (.sl b 0 1 0 3) (.int k 2)=.ok (.ptr b 0 2 0)) ∧
  (∀ k:IntKind,cP 1 (.sl b 0 1 0 2) (.int k 0)=.ok (.ptr b 0 0 0))∧(∀ k:IntKind,cP 1 (.sl b 0 1 0 2) (.int k 1)=.ok (.ptr b 0 1 0)):=⟨fun _=>rfl,fun _=>rfl,fun _=>rfl,fun _=>rfl,fun _=>rfl⟩
theorem aU {n m:Nat} {h:Tr Blk} {a c ver k:Nat} {b:Blk} {el:List (List V)} (hne:c≠a) (hg:aI ⟨n,h⟩ c ver=.ok (k,el)):aI ⟨m,h.put a b⟩ c ver=.ok (k,el):=by
 rw [cX m n h a c ver b hne];exact hg
end Go.AM
namespace Go.Proofs.YtoaibmbldmckaaaGreat
open Go.AM Tryz
set_option linter.unusedVariables false
set_option linter.unusedSimpArgs false
set_option maxRecDepth 100000
theorem bFr {S:St} {a b:Nat} {q:V} {x y z:Int} (hb:aI S b 0=.ok (1,[[.ptr a 0 0 0],[.ptr a 0 0 1],[.ptr a 0 0 2]])) (ha:aI S a 0=.ok (4,[[.int .i64 x,.int .i64 y,.int .i64 z,q]])) (hne:b≠a) (han:a<S.next) {K:KW}
  (H:∀ S',S'.next=S.next→(∀ y,y≠a→S'.heap.get y=S.heap.get y)→(WF S→WF S')→((gQ [x,y,z]).2=0→aI S' a 0=.ok (4,[[.int .i64 ((gQ [x,y,z]).1.getD 0 0),.int .i64 ((gQ [x,y,z]).1.getD 1 0),.int .i64 ((gQ [x,y,z]).1.getD 2 0),q]]))→K (.int .i64 (gQ [x,y,z]).2) S'):C 259 [.sl b 0 1 0 3] S K:=by
 refine bEl ?_
 simp only [aPp,kk]
 have hne':(b=a)=False:=by simp [hne]
 have key:∀ (cs:List V) (h:Tr Blk),(∀ y,y≠a→h.get y=S.heap.get y)→∀ y,y≠a→(h.put a (.row 0 4 [cs])).get y=S.heap.get y:=fun cs h hh y hy=>by rw [Tr.get_put_neB _ _ _ _ trivial hy];exact hh y hy
 have kw:∀ (cs:List V) (h:Tr Blk),(WF S→WF ⟨S.next,h⟩)→WF S→WF ⟨S.next,h.put a (.row 0 4 [cs])⟩:=fun cs h hh w=>hJ (hh w) han (Nat.le_refl _)
 have e0:∀ y,y≠a→S.heap.get y=S.heap.get y:=fun _ _=>rfl
 have w0:WF S→WF ⟨S.next,S.heap⟩:=fun w=>w
 refine ⟨4,?_⟩
 simp only [yP,aFw,kk,show ((3:Nat):Int)=3 from rfl,show (0:Int)<3 by decide,show (1:Int)<3 by decide,show (2:Int)<3 by decide,show ¬ (3:Int)<3 by decide,ix3,hb,ha,bAz,fY,iL,hne',gm,ldP,show wr .i64 (0+1)=1 from rfl,show wr .i64 (1+1)=2 from rfl,show wr .i64 (2+1)=3 from rfl]
 simp only [gQ,aS,sD,ne_eq] at H
 by_cases c1:(jS 0 x).2=0
 ·by_cases c2:(jS 0 y).2=0
  ·by_cases c3:(jS 0 z).2=0
   ·simp only [c1,c2,c3,kk,if_false,not_true_eq_false] at H ⊢
    exact H _ rfl (key _ _ (key _ _ (key _ _ e0))) (kw _ _ (kw _ _ (kw _ _ w0))) fun _=>aO _ _ _ _ _ _
   ·simp only [c1,c2,c3,kk,if_false,if_true,not_true_eq_false,not_false_eq_true] at H ⊢
    exact H _ rfl (key _ _ (key _ _ e0)) (kw _ _ (kw _ _ w0)) fun h=>h.elim
  ·simp only [c1,c2,kk,if_false,if_true,not_true_eq_false,not_false_eq_true] at H ⊢
   exact H _ rfl (key _ _ e0) (kw _ _ w0) fun h=>h.elim
 ·simp only [c1,kk,if_true,not_false_eq_true] at H ⊢
  exact H S rfl e0 id fun h=>h.elim
theorem bFs {S:St} {v:V} {es:List (List V)} (own:Own E0 S 4 v es) (w:WF S) {a b ver m i:Nat} (hv:v=.sl a ver 4 0 m) {c:List UInt8} {bp x y:Int} (hi:es[i]?=some [.str c,.int .i64 bp,.int .i64 x,.int .i64 y]) (hb:aI S b 0=.ok (1,[[.ptr a ver i 2],[.ptr a ver i 3]])) (hne:b≠a) {K:KW}
  (H:∀ S',S'.next=S.next→(∀ y,y≠a→S'.heap.get y=S.heap.get y)→WF S'→((gQ [x,y]).2=0→Own E0 S' 4 v (es.set i [.str c,.int .i64 bp,.int .i64 ((gQ [x,y]).1.getD 0 0),.int .i64 ((gQ [x,y]).1.getD 1 0)]))→K (.int .i64 (gQ [x,y]).2) S'):C 259 [.sl b 0 1 0 2] S K:=by
 refine bEl ?_
 simp only [aPp,kk]
 have hil:=(List.getElem?_eq_some_iff.1 hi).1
 obtain ⟨a1,ver1,hv1,_,_,_,_,set1⟩:=own.setK (aCk w) oU hi .i64
 obtain ⟨rfl,rfl⟩:a1=a∧ver1=ver:=by rw [hv] at hv1;injection hv1 with h1 h2;exact ⟨h1.symm,h2.symm⟩
 obtain ⟨S2,st1,x2,n2,own2,keep2,w2⟩:=set1 2 1 (.int .i64 (jS 0 x).1) rfl rfl (by decide)
 have hi2:(es.set i (splice [.str c,.int .i64 bp,.int .i64 x,.int .i64 y] 2 [.int .i64 (jS 0 x).1]))[i]?=some [.str c,.int .i64 bp,.int .i64 (jS 0 x).1,.int .i64 y]:=by rw [List.getElem?_set_self hil];rfl
 obtain ⟨a2,ver2,hv2,_,_,_,_,set2⟩:=own2.setK x2 oU hi2 .i64
 obtain ⟨rfl,rfl⟩:a2=a1∧ver2=ver1:=by rw [hv] at hv2;injection hv2 with h1 h2;exact ⟨h1.symm,h2.symm⟩
 obtain ⟨S3,mK,x3,n3,own3,keep3,w3⟩:=set2 3 1 (.int .i64 (jS 0 y).1) rfl rfl (by decide)
 have l1:=own.ld hv hi none 2
 have l2:=own2.ld hv hi2 none 3
 have hb2:=aX hb (keep2 b hne)
 simp only [V.cells,List.set_set] at own3
 simp only [kk] at l1 l2
 refine ⟨3,?_⟩
 simp only [yP,aFw,kk,show ((2:Nat):Int)=2 from rfl,show (0:Int)<2 by decide,show (1:Int)<2 by decide,show ¬ (2:Int)<2 by decide,ix3,ldP none b,hb,hb2,bAz,fY,l1,l2,st1,mK,show wr .i64 (0+1)=1 from rfl,show wr .i64 (1+1)=2 from rfl]
 simp only [gQ,aS,sD,ne_eq] at H
 by_cases c1:(jS 0 x).2=0
 ·by_cases c2:(jS 0 y).2=0
  ·simp only [c1,c2,kk,if_false,not_true_eq_false] at H ⊢
   exact H S3 (n3.trans n2) (fun y hy=>(keep3 y hy).trans (keep2 y hy)) (w3 (w2 w)) fun _=>own3
  ·simp only [c1,c2,kk,if_false,if_true,not_true_eq_false,not_false_eq_true] at H ⊢
   exact H S2 n2 keep2 (w2 w) fun h=>h.elim
 ·simp only [c1,kk,if_true,not_false_eq_true] at H ⊢
  exact H S rfl (fun _ _=>rfl) w fun h=>h.elim
theorem bFt (t:Total) (hf:t.parts.length≤1000) (S:St) (K:KW):C 228 [.agg [.int .i64 t.net,.int .i64 t.tax,.int .i64 t.gross,.imm (t.parts.map Part.enc)]] S K=K (aK2 (bU t)) S:=by
 refine (bN1 rfl ?_).eq S K
 simp only [aUo,kk,iL,aK2]
 obtain ⟨S1,hS1⟩:∃ S1:St,S1=⟨1+1,(Tr.nil.put 0 (Blk.row 0 4 [[.int .i64 t.net,.int .i64 t.tax,.int .i64 t.gross,.imm (t.parts.map Part.enc)]])).put 1 (.row 0 4 [[.int .i64 0,.int .i64 0,.int .i64 0,.nils]])⟩:=⟨_,rfl⟩
 have w1:WF S1:=by rw [hS1];exact hJ (n:=1) (hJ oU (by decide) (by decide)) (by decide) (by decide)
 have a0:aI S1 0 0=.ok (4,[[.int .i64 t.net,.int .i64 t.tax,.int .i64 t.gross,.imm (t.parts.map Part.enc)]]):=by rw [hS1];rfl
 have a1:aI S1 1 0=.ok (4,[[.int .i64 0,.int .i64 0,.int .i64 0,.nils]]):=by rw [hS1];rfl
 obtain ⟨v,S2,q1,x2,own⟩:=aHx (b:=40) aHy t.parts w1 (by omega) (by unfold eG;omega)
 have n1:S1.next=2:=by rw [hS1]
 have n2:=x2.next
 rw [←hS1]
 have b0:=x2.row a0
 have b1:=x2.row a1
 have o1:=own.one
 have o2:=own.cells
 have hvn:∀ a ver m,v=.sl a ver 4 0 m→2≤a:=by
  intro a ver m hv
  rcases own.is with ⟨rfl,_⟩ | ⟨a',ver',tl,rfl,h,_⟩
  ·cases hv
  ·cases hv;omega
 simp only [q1,kk,o1,o2,b0,bFq]
 have nn:∀ k,k<2→∀ a ver m,v=.sl a ver 4 0 m→k≠a:=fun k hk a ver m hv=>by have:=hvn a ver m hv;omega
 have nS:∀ a ver m,v=.sl a ver 4 0 m→S2.next≠a:=fun a ver m hv=>by have:=own.lt a ver m hv;omega
 have oA:=((own.put (m:=S2.next) (b:=.row 0 4 [[.int .i64 t.net,.int .i64 t.tax,.int .i64 t.gross,v]]) (Nat.le_refl _) (nn 0 (by decide))).put (k:=S2.next) (m:=S2.next+1) (b:=.row 0 1 [[.ptr 0 0 0 0],[.ptr 0 0 0 1],[.ptr 0 0 0 2]]) (Nat.le_succ _) nS).weaken (A:=E0) (Nat.zero_le _)
 have wA:WF ⟨S2.next+1,(S2.heap.put 0 (.row 0 4 [[.int .i64 t.net,.int .i64 t.tax,.int .i64 t.gross,v]])).put S2.next (.row 0 1 [[.ptr 0 0 0 0],[.ptr 0 0 0 1],[.ptr 0 0 0 2]])⟩:=hJ (n:=S2.next) (hJ (n:=S2.next) (x2.wf w1) (by omega) (Nat.le_refl _)) (by omega) (by omega)
 have bA:aI ⟨S2.next+1,(S2.heap.put 0 (.row 0 4 [[.int .i64 t.net,.int .i64 t.tax,.int .i64 t.gross,v]])).put S2.next (.row 0 1 [[.ptr 0 0 0 0],[.ptr 0 0 0 1],[.ptr 0 0 0 2]])⟩ 1 0=.ok (4,[[.int .i64 0,.int .i64 0,.int .i64 0,.nils]]):=aU (n:=S2.next) (by omega) (aU (n:=S2.next) (by decide) b1)
 refine bFr (S:=⟨S2.next+1,(S2.heap.put 0 (.row 0 4 [[.int .i64 t.net,.int .i64 t.tax,.int .i64 t.gross,v]])).put S2.next (.row 0 1 [[.ptr 0 0 0 0],[.ptr 0 0 0 1],[.ptr 0 0 0 2]])⟩) (aO _ _ _ _ _ _) (aU (n:=S2.next) (by omega) (aO S2.next _ _ _ _ _)) (by omega) (by show 0<S2.next+1;omega) fun S3 n3 keep3 w3 g3=>?_
 have n3:S3.next=S2.next+1:=n3
 have c1:=aX bA (keep3 1 (by decide))
 have o3:Own E0 S3 4 v (t.parts.map Part.enc):=oA.other (by show S2.next+1≤S3.next;omega) fun a ver m hv=>keep3 a (by have:=hvn a ver m hv;omega)
 simp only [kk,bU]
 by_cases h0:(gQ [t.net,t.tax,t.gross]).2=0
 ·have g3:=g3 h0
  have hlen:lenW v=.ok (.int .i64 (t.parts.length:Int)):=own.sl.lenI
  obtain ⟨x,hx⟩:∃ x,x=(gQ [t.net,t.tax,t.gross]).1.getD 0 0:=⟨_,rfl⟩
  obtain ⟨y,hy⟩:∃ y,y=(gQ [t.net,t.tax,t.gross]).1.getD 1 0:=⟨_,rfl⟩
  obtain ⟨z,hz⟩:∃ z,z=(gQ [t.net,t.tax,t.gross]).1.getD 2 0:=⟨_,rfl⟩
  simp only [←hx,←hy,←hz] at g3 ⊢
  simp only [h0,kk,not_true_eq_false,if_false,g3,hlen]
  refine aZ t.parts (step:=dX) (fin:=fun l=>(l,0)) (fun i s vs S=>vs=[.int .i64 0,.int .i64 (i:Int)]∧Own E0 S 4 v ((s++t.parts.drop i).map Part.enc)∧s.length=i∧WF S∧2≤S.next∧aI S 0 0=.ok (4,[[.int .i64 x,.int .i64 y,.int .i64 z,v]])∧aI S 1 0=.ok (4,[[.int .i64 0,.int .i64 0,.int .i64 0,.nils]])) (fun r=>r=aS dX (fun l=>(l,0)) t.parts []) ?_ ?_ (s:=[]) ⟨rfl,by simpa using o3,rfl,w3 wA,by omega,g3,c1⟩ rfl
  ·rintro i p s vs S hi ⟨rfl,own,hd,w,hn,r0,r1⟩ aQ H
   have hil:=(List.getElem?_eq_some_iff.1 hi).1
   have hpi:((s++t.parts.drop i).map Part.enc)[i]?=some p.enc:=by
    rw [List.getElem?_map,List.getElem?_append_right (by omega),hd,Nat.sub_self,List.getElem?_drop,Nat.add_zero,hi];rfl
   obtain ⟨a,ver,hv,_,hb,e4,_,_⟩:=own.setK (aCk w) oU hpi .i64
   simp only [dX] at H
   simp only [aFr,kk,dK hi,gm,r0,e4,aQ4,mO (show i<1000000000 by omega)]
   have oB:=own.put (k:=S.next+10) (m:=S.next+13) (b:=.row 0 1 [[.ptr a ver i 2],[.ptr a ver i 3]]) (by omega) fun a ver m hv=>by have:=own.lt a ver m hv;omega
   refine bFs oB (hJ (n:=S.next) w (by omega) (by omega)) hv hpi (aO _ _ _ _ _ _) (by omega) fun S4 n4 keep4 w4 g4=>?_
   have n4:S4.next=S.next+13:=n4
   have ha2:=hvn a ver _ hv
   have d0:=aX (aU (n:=S.next) (m:=S.next+13) (a:=S.next+10) (b:=.row 0 1 [[.ptr a ver i 2],[.ptr a ver i 3]]) (by omega) r0) (keep4 0 (by omega))
   have d1:=aX (aU (n:=S.next) (m:=S.next+13) (a:=S.next+10) (b:=.row 0 1 [[.ptr a ver i 2],[.ptr a ver i 3]]) (by omega) r1) (keep4 1 (by omega))
   by_cases c:(gQ [p.net,p.tax]).2=0
   ·have g4:=g4 c
    simp only [c,kk,not_true_eq_false,if_false] at H ⊢
    refine H _ _ ⟨rfl,?_,by simp;omega,w4,by omega,d0,d1⟩
    have:((s++t.parts.drop i).map Part.enc).set i [.str p.cat,.int .i64 p.bp,.int .i64 ((gQ [p.net,p.tax]).1.getD 0 0),.int .i64 ((gQ [p.net,p.tax]).1.getD 1 0)]=((s++[{ p with net:=(gQ [p.net,p.tax]).1.getD 0 0,tax:=(gQ [p.net,p.tax]).1.getD 1 0 }])++t.parts.drop (i+1)).map Part.enc:=by
     rw [List.drop_eq_getElem_cons hil,(List.getElem?_eq_some_iff.1 hi).2]
     simp only [List.map_append,List.map_cons,List.map_nil,List.append_assoc,List.singleton_append]
     rw [List.set_append_right _ _ (by simp;omega)]
     simp only [List.length_map,hd,Nat.sub_self,List.set_cons_zero]
     rfl
    rw [this] at g4
    exact g4
   ·simp only [c,kk,not_false_eq_true,if_true,d1] at H ⊢
    simp only [oo,←H,c,not_false_eq_true,if_true,Total.zero,List.map_nil]
  ·rintro s vs S ⟨rfl,own,hd,w,hn,r0,r1⟩ aQ H
   rw [List.drop_length,List.append_nil] at own
   have H':aS dX (fun l=>(l,0)) t.parts []=(s,0):=H.symm
   have:=(own.put (m:=S.next) (k:=1) (b:=.row 0 4 [[.int .i64 x,.int .i64 y,.int .i64 z,v]]) (Nat.le_refl _) (nn 1 (by decide))).out fun _=>rfl
   simp only [aFr,kk,Int.lt_irrefl,if_false,r0,r1,o1,o2,H',not_true_eq_false]
   simp only [oo,this]
 ·simp only [h0,kk,not_false_eq_true,if_true,c1]
  simp only [oo,Total.zero,List.map_nil]
end Go.Proofs.YtoaibmbldmckaaaGreat
end
section
namespace Go.AM
theorem Fn.back {P:Program} {pl:eU} {f:FuncId} {args:List V} {v:V} (h:∀ S K,W P pl f args S K=K v S):Fn P pl f args v:=fun S=>by
 have h1:=h S fun v' S'=>v'=v∧S'=S
 obtain ⟨v',S',e,rfl,rfl⟩:=h1.mpr ⟨rfl,rfl⟩
 exact e
theorem Own.arg {P:Program} {pl:eU} {f:FuncId} {p:Nat→Option (List dN)} (hpl:pl f=some (.val p)) {S0 S:St} {n:Nat} {v r:V} {es:List (List V)} (h:Own S0 S n v es) (hc:es.all cloVs=true) (hf:∀ S K,W P pl f [.imm es] S K=K r S) (hk:iP r=true) (K:KW):W P pl f [v] S K=K r S:=
 (Fn.back hf).frz hpl rfl (by simp only [frzVs,h.frz hc]) (by simp only [ptrsVs,h.ptrs];rfl) (.inl hk) K
theorem Own.there {S0 S:St} {n:Nat} {v:V} {es:List (List V)} (h:Own S0 S n v es) {y:Nat} (hy:blkOf v=some y):S.heap.get y≠none:=by
 rcases h.is with ⟨rfl,_⟩ | ⟨a,ver,tl,rfl,_,_,hg⟩
 ·cases hy
 ·cases hy;rw [hg];exact fun h=>by cases h
theorem aQ5 {n b:Nat} {S:St} {v:V} {es:List (List V)} (h:Own E0 S n v es) (w:WF S) {k1 k2 m:Nat} (f1:S.heap.get k1=none) (f2:S.heap.get k2=none) (hne:k1≠k2) (hm1:k1<m) (hm2:k2<m) (hm:S.next≤m) {c:List V} (hc:c.length=n∧aM c=true) (h1:(es.length+1)*b≤35184372088832) (h2:es.length+1<eG):
  ∃ v' S',cQ n b v (.sl k1 0 n 0 1) (some k2) ⟨m,S.heap.put k1 (.row 0 n [c])⟩=.ok (v',S')∧WF S'∧S'.next=m∧Own E0 S' n v' (es++[c])∧(blkOf v'=some k2∨blkOf v'=blkOf v)∧∀ y,y≠k1→y≠k2→blkOf v≠some y→S'.heap.get y=S.heap.get y:=by
 have w1:WF ⟨m,S.heap.put k1 (.row 0 n [c])⟩:=hJ (n:=S.next) w hm1 hm
 have h':Own E0 ⟨m,S.heap.put k1 (.row 0 n [c])⟩ n v es:=h.same hm fun a ha=>Tr.get_put_neB _ _ _ _ trivial fun e=>h.there ha (by rw [e];exact f1)
 have hu:bQ ⟨m,S.heap.put k1 (.row 0 n [c])⟩ (.sl k1 0 n 0 1)=.ok [c]:=by
  simp only [bQ,aO];rfl
 have hf:(⟨m,S.heap.put k1 (.row 0 n [c])⟩:St).heap.get k2=none:=by
  show (S.heap.put k1 _).get k2=none
  rw [Tr.get_put_neB _ _ _ _ trivial (Ne.symm hne)];exact f2
 obtain ⟨v',S',q1,q2,q3,q4,q5,q6⟩:=h'.pushAt (b:=b) (aCk w1) oU hu (fun d hd=>by rcases List.mem_singleton.1 hd with rfl;exact hc) (by simp) (Nat.zero_le _) hm2 hf h1 h2
 refine ⟨v',S',q1,q2.wf oU,q3,q4,q5,fun y y1 y2 y3=>?_⟩
 rw [q6 y y2 y3]
 exact Tr.get_put_neB _ _ _ _ trivial y1
theorem fresh {S:St} (w:WF S) {k:Nat} (hk:S.next≤k):S.heap.get k=none:=by
 cases hq:S.heap.get k with
 | none=>rfl
 | some b=>have:=w k b hq;omega
end Go.AM
namespace Go.Proofs.YtoaibmbldmckaaaGreat
open Go.AM Tryz
set_option linter.unusedVariables false
set_option linter.unusedSimpArgs false
set_option maxRecDepth 100000
theorem aX4 (x:Int):(gY x).length=1∧aM (gY x)=true:=⟨rfl,rfl⟩
theorem bB5 {S0 S:St} {v:V} {l:List Int} (h:Own S0 S 1 v (l.map gY)) (hl:l.length<1000000) (K:KW):C 218 [v] S K=K (.tup [.int .i64 (gZ l).1,.bool (gZ l).2]) S:=h.arg bEh (dM (fun _=>rfl) _) (fun S K=>bOi l hl S K) rfl K
theorem bPb (t:Total) (hl:t.parts.length<100000) (S:St) (K:KW):C 226 [.agg [.int .i64 t.net,.int .i64 t.tax,.int .i64 t.gross,.imm (t.parts.map Part.enc)]] S K=K (.bool (sU t)) S:=by
 refine (bMy rfl ?_).eq S K
 simp only [aUl,kk]
 refine aZ t.parts (step:=aAg) (fin:=id) (fun i s vs S=>∃ u v,vs=[u,v,.int .i64 (i:Int)]∧Own E0 S 1 u (s.1.map gY)∧Own E0 S 1 v (s.2.map gY)∧s.1.length=i∧s.2.length=i∧WF S∧(∀ y,AM.blkOf u=some y→AM.blkOf v≠some y)∧AM.blkOf u≠some 0∧AM.blkOf v≠some 0∧aI S 0 0=.ok (4,[[.int .i64 t.net,.int .i64 t.tax,.int .i64 t.gross,.imm (t.parts.map Part.enc)]])∧0<S.next) (fun r=>r=(t.parts.map (·.net),t.parts.map (·.tax))) ?_ ?_ (s:=([],[])) ⟨_,_,rfl,Own.nil _ _ _,Own.nil _ _ _,rfl,rfl,hJ oU (by decide) (by decide),fun y h=>(by cases h),fun h=>(by cases h),fun h=>(by cases h),aO _ _ _ _ _ _,Nat.zero_lt_one⟩ (by rw [bEv];rfl)
 ·rintro i p ⟨ns,ts⟩ vs S hi ⟨u,v,rfl,ou,ov,lu,lv,w,huv,hu0,hv0,r0,h0⟩ aQ H
  have hil:=(List.getElem?_eq_some_iff.1 hi).1
  have lu:ns.length=i:=lu
  have lv:ts.length=i:=lv
  simp only [aAg] at H
  have hS1:∃ S1:St,S1=⟨S.next+1,(S.heap.put S.next (.row 0 4 [[.str [],.int .i64 0,.int .i64 0,.int .i64 0]])).put S.next (.row 0 4 [p.enc])⟩:=⟨_,rfl⟩
  obtain ⟨S1,hS1⟩:=hS1
  have n1:S1.next=S.next+1:=by rw [hS1]
  have w1:WF S1:=by rw [hS1];exact (Ext.var w 4 _ _).wf w
  have x1:Ext S S1:=by rw [hS1];exact Ext.var w 4 _ _
  have g1:aI S1 S.next 0=.ok (4,[p.enc]):=by rw [hS1];exact aO _ _ _ _ _ _
  have bu:∀ y,AM.blkOf u=some y→y<S.next:=fun y hy=>(dS ou hy).2
  have bv:∀ y,AM.blkOf v=some y→y<S.next:=fun y hy=>(dS ov hy).2
  obtain ⟨u',S2,q1,w2,n2,ou2,bu2,keep2⟩:=aQ5 (b:=8) (ou.ext x1) w1 (k1:=S1.next+3) (k2:=S1.next+4) (m:=S1.next+12) (fresh w1 (by omega)) (fresh w1 (by omega)) (by omega) (by omega) (by omega) (by omega) (aX4 p.net) (by simp;omega) (by simp [eG];omega)
  have k2:∀ y,y<S1.next→AM.blkOf u≠some y→S2.heap.get y=S1.heap.get y:=fun y hy h=>keep2 y (by omega) (by omega) h
  have g2:aI S2 S.next 0=.ok (4,[p.enc]):=aX g1 (k2 S.next (by omega) fun h=>by have:=bu _ h;omega)
  have ov2:Own E0 S2 1 v (ts.map gY):=(ov.ext x1).same (by omega) fun a ha=>k2 a (by have:=bv a ha;omega) fun h=>huv a h ha
  have fr8:∀ k,5≤k→S2.heap.get (S1.next+k)=none:=fun k hk=>by
   rw [keep2 (S1.next+k) (by omega) (by omega) fun h=>by have:=bu _ h;omega];exact fresh w1 (by omega)
  obtain ⟨v',S3,q2,w3,n3,ov3,bv3,keep3⟩:=aQ5 (b:=8) ov2 w2 (k1:=S1.next+8) (k2:=S1.next+9) (m:=S2.next) (fr8 8 (by omega)) (fr8 9 (by omega)) (by omega) (by omega) (by omega) (Nat.le_refl _) (aX4 p.tax) (by simp;omega) (by simp [eG];omega)
  have hu2:∀ y,AM.blkOf u'=some y→y=S1.next+4∨AM.blkOf u=some y:=fun y hy=>by
   rcases bu2 with h | h
   ·rw [h] at hy;cases hy;exact .inl rfl
   ·rw [h] at hy;exact .inr hy
  have hv3:∀ y,AM.blkOf v'=some y→y=S1.next+9∨AM.blkOf v=some y:=fun y hy=>by
   rcases bv3 with h | h
   ·rw [h] at hy;cases hy;exact .inl rfl
   ·rw [h] at hy;exact .inr hy
  have hb8:∀ a,AM.blkOf u'=some a→a≠S1.next+8∧a≠S1.next+9:=fun a ha=>by
   rcases hu2 a ha with h | h
   ·omega
   ·have:=bu a h;omega
  have ou3:Own E0 S3 1 u' ((ns++[p.net]).map gY):=by
   rw [List.map_append]
   exact ou2.same (by omega) fun a ha=>keep3 a (hb8 a ha).1 (hb8 a ha).2 fun hv=>by
    rcases hu2 a ha with h | h
    ·have:=bv a hv;omega
    ·exact huv a h hv
  have r3:=aX (aX (x1.row r0) (k2 0 (by omega) hu0)) (keep3 0 (by omega) (by omega) hv0)
  have hh:(S.heap.put S.next (.row 0 4 [[.str [],.int .i64 0,.int .i64 0,.int .i64 0]])).put S.next (.row 0 4 [[.str p.cat,.int .i64 p.bp,.int .i64 p.net,.int .i64 p.tax]])=S1.heap:=by rw [hS1];rfl
  simp only [Part.enc] at g1
  simp only [Part.enc,n1] at g2 q1 q2
  simp only [gY] at q1 q2
  simp only [aFq,kk,dK hi,uE hi,Part.enc,mO (show i<1000000000 by omega),hh,gm,g1,bOm,q1,g2,q2]
  exact H _ _ ⟨u',v',rfl,ou3,by rw [List.map_append];exact ov3,by simp;omega,by simp;omega,w3,fun y hy hy'=>by
   rcases hu2 y hy with h | h<;>rcases hv3 y hy' with h' | h'
   ·omega
   ·have:=bv y h';omega
   ·have:=bu y h;omega
   ·exact huv y h h',fun h=>by
   rcases hu2 0 h with h | h
   ·omega
   ·exact hu0 h,fun h=>by
   rcases hv3 0 h with h | h
   ·omega
   ·exact hv0 h,r3,by omega⟩
 ·rintro ⟨ns,ts⟩ vs S ⟨u,v,rfl,ou,ov,lu,lv,w,huv,hu0,hv0,r0,h0⟩ aQ H
  have lu:ns.length=t.parts.length:=lu
  have lv:ts.length=t.parts.length:=lv
  obtain ⟨rfl,rfl⟩:ns=t.parts.map (·.net)∧ts=t.parts.map (·.tax):=Prod.mk.inj H
  have hlu:=bB5 ou (by omega)
  have hlv:=bB5 ov (by omega)
  have ow:Own E0 ⟨S.next+1,S.heap.put S.next (.row 0 1 ([t.net,t.tax].map gY))⟩ 1 (.sl S.next 0 1 0 2) ([t.net,t.tax].map gY):=⟨.inr ⟨S.next,0,[],rfl,Nat.zero_le _,Nat.lt_succ_self _,by rw [List.append_nil];exact Tr.get_put_sameB _ _ _ trivial⟩,fun c hc=>by
   rcases List.mem_cons.1 hc with rfl | hc
   ·exact aX4 _
   ·rcases List.mem_cons.1 hc with rfl | hc
    ·exact aX4 _
    ·cases hc⟩
  have hlw:=bB5 ow (by simp)
  have z0:((0:Nat)=S.next)=False:=by simp;omega
  simp only [List.map_cons,List.map_nil,gY] at hlw
  simp only [aFq,kk,Int.lt_irrefl,if_false,hlu,hlv,r0,aQ4,hlw,iL,z0,gm,sU,oo]
  split
  rotate_left
  ·rfl
  split
  rotate_left
  ·rfl
  split
  rotate_left
  ·rfl
  split
  rotate_left
  ·rfl
  split<;>rfl
end Go.Proofs.YtoaibmbldmckaaaGreat
end
section
namespace Go.Proofs.YtoaibmbldmckaaaGreat
open Go.AM Tryz
theorem bPc (t:Total) (S:St) (K:KW):C 167 [.agg [.int .i64 t.net,.int .i64 t.tax,.int .i64 t.gross,.imm (t.parts.map Part.enc)]] S K=K (.bool (eF t)) S:=by
 refine (bLl rfl ?_).eq S K
 simp only [aTb,kk,eF]
 by_cases c1:t.parts.length<1
 ·simp only [c1,show (t.parts.length:Int)<1 by omega,kk,oo,if_true]
 by_cases c2:12<t.parts.length
 ·simp only [c1,c2,show ¬ (t.parts.length:Int)<1 by omega,show (12:Int)<(t.parts.length:Int) by omega,kk,oo,if_true,if_false]
 simp only [c1,c2,show ¬ (t.parts.length:Int)<1 by omega,show ¬ (12:Int)<(t.parts.length:Int) by omega,kk,if_false]
 refine aZ t.parts (step:=fD) (fin:=fun _=>sU t) (fun i s vs S=>vs=[.bool false,.int .i64 (i:Int)]∧s=fU t.parts i∧aI S 0 0=.ok (4,[[.int .i64 t.net,.int .i64 t.tax,.int .i64 t.gross,.imm (t.parts.map Part.enc)]])∧0<S.next) (fun r=>r=aS fD (fun _=>sU t) t.parts none) ?_ ?_ (s:=none) ⟨rfl,rfl,aO _ _ _ _ _ _,Nat.zero_lt_one⟩ rfl
 ·rintro i p s vs S hi ⟨rfl,rfl,r0,h0⟩ aQ H
  have hil:=(List.getElem?_eq_some_iff.1 hi).1
  have r1:∀ (m:Nat) (b c:Blk),aI ⟨m,(S.heap.put S.next b).put S.next c⟩ 0 0=.ok (4,[[.int .i64 t.net,.int .i64 t.tax,.int .i64 t.gross,.imm (t.parts.map Part.enc)]]):=fun m b c=>aU (n:=S.next) (by omega) (aU (n:=S.next) (by omega) r0)
  have hn:fU t.parts (i+1)=some p:=by simpa [fU] using hi
  simp only [hn,fD] at H
  simp only [aFd,aFc,kk,dK hi,uE hi,Part.enc,mO (show i<1000000000 by omega),aPz,bF2,fY,r1,oo]
  obtain ⟨S',hS'⟩:∃ S':St,S'=⟨S.next+1+30,(S.heap.put S.next (.row 0 4 [[.str [],.int .i64 0,.int .i64 0,.int .i64 0]])).put S.next (.row 0 4 [[.str p.cat,.int .i64 p.bp,.int .i64 p.net,.int .i64 p.tax]])⟩:=⟨_,rfl⟩
  have r2:aI S' 0 0=.ok (4,[[.int .i64 t.net,.int .i64 t.tax,.int .i64 t.gross,.imm (t.parts.map Part.enc)]]):=by rw [hS'];exact r1 _ _ _
  have h2:0<S'.next:=by rw [hS'];exact Nat.succ_pos _
  rw [←hS']
  clear hS' r1
  cases hna:eL p.cat
  ·simp only [hna,kk,if_true] at H ⊢
   rw [←H]
  ·simp only [hna,kk,Bool.true_eq_false,if_false] at H ⊢
   cases i with
   | zero=>
    simp only [fU,lT,kk,Bool.false_eq_true,if_false,if_true,wC,wH,Bool.or_eq_true,decide_eq_true_eq] at H ⊢
    simp only [Int.natCast_zero,Int.lt_irrefl,kk,if_false]
    grind
   | succ j=>
    have hj:t.parts[j]?=some t.parts[j]:=List.getElem?_eq_getElem (by omega)
    have hp:fU t.parts (j+1)=some t.parts[j]:=by simp [fU,hj]
    simp only [hp,gt0,kk,wrm (show j+1<1000000000 by omega),uE hj,Part.enc,lT,wC,wH,Bool.or_eq_true,decide_eq_true_eq] at H ⊢
    grind
 ·rintro s vs S ⟨rfl,rfl,r0,h0⟩ aQ H
  have H':aS fD (fun _=>sU t) t.parts none=sU t:=H.symm
  simp only [aFd,kk,Int.lt_irrefl,if_false,r0,bPb t (show t.parts.length<100000 by omega),oo,H']
theorem bPd (l r:List Part) (hb:l.length<1000000) (S:St) (K:KW):C 260 [.imm (l.map Part.enc),.imm (r.map Part.enc)] S K=K (.bool (decide (l=r))) S:=by
 refine (bNm rfl ?_).eq S K
 simp only [aV9,kk]
 by_cases h:l.length=r.length
 ·simp only [show (l.length:Int)=(r.length:Int) by omega,kk,not_true_eq_false,if_false]
  refine aZ l (step:=pN r) (fin:=fun _=>true) (fun i n vs S=>n=i∧vs=[.bool false,.int .i64 (i:Int)]) (fun x=>x=decide (l=r)) ?_ ?_ (s:=0) ⟨rfl,rfl⟩ (eqL h)
  ·rintro i p n vs S hi ⟨rfl,rfl⟩ aQ H
   have hil:=(List.getElem?_eq_some_iff.1 hi).1
   have hj:r[n]?=some r[n]:=List.getElem?_eq_getElem (by omega)
   have hlt:((n:Int)<(r.length:Int))=True:=dK hj
   have he:(r[n]=p)=(((p.cat=r[n].cat∧p.bp=r[n].bp)∧p.net=r[n].net)∧p.tax=r[n].tax):=by
    obtain ⟨_,_,_,_⟩:=p;generalize r[n]=q;obtain ⟨_,_,_,_⟩:=q;simp [and_assoc,eq_comm]
   simp only [pN,hj,Option.some.injEq,he] at H
   simp only [aFx,kk,hlt,uE hi,uE hj,Part.enc,mO (show n<1000000000 by omega),oo]
   grind
  ·rintro n vs S ⟨rfl,rfl⟩ aQ H
   simp only [aFx,kk,h,Int.lt_irrefl,if_false,oo,←H]
 ·simp only [show ¬ (l.length:Int)=(r.length:Int) by omega,kk,not_false_eq_true,if_true,oo]
  have:decide (l=r)=false:=by simpa using fun e=>h (by rw [e])
  rw [this]
def Posted.enc (p:Posted):List V:=[.str p.ref.ser,.int .i64 p.ref.num,.int .i64 p.day.y,.int .i64 p.day.m,.int .i64 p.day.d,.int .i64 p.total.net,.int .i64 p.total.tax,.int .i64 p.total.gross,.imm (p.total.parts.map Part.enc),.str p.of.ser,.int .i64 p.of.num,.bool p.back]
theorem nN {l:List Posted} {i:Nat} {a:Posted} (hi:l[i]?=some a) (k:IntKind):cP 12 (.imm (l.map Posted.enc)) (.int k (i:Int))=.ok (.iptr a.enc 0):=ixI (enc:=Posted.enc) hi rfl k
theorem nO (x:Posted):x.enc.length=12∧aM x.enc=true:=⟨rfl,rfl⟩
theorem Total.ext_iff (a b:Total):(a=b)=(((a.net=b.net∧a.tax=b.tax)∧a.gross=b.gross)∧a.parts=b.parts):=by
 obtain ⟨_,_,_,_⟩:=a;obtain ⟨_,_,_,_⟩:=b;simp [and_assoc]
theorem Ref.ext_iff (a b:Ref):(a=b)=(a.ser=b.ser∧a.num=b.num):=by
 obtain ⟨_,_⟩:=a;obtain ⟨_,_⟩:=b;simp
theorem g91 (l r:List Bal) (hb:l.length<1000000) (S:St) (K:KW):C 91 [.imm (l.map Bal.enc),.imm (r.map Bal.enc)] S K=K (.bool (decide (l=r))) S:=by
 refine (v91 rfl ?_).eq S K
 simp only [m91,kk]
 by_cases h:l.length=r.length
 ·simp only [show (l.length:Int)=(r.length:Int) by omega,kk,not_true_eq_false,if_false]
  refine aZ l (step:=pN r) (fin:=fun _=>true) (fun i n vs S=>n=i∧vs=[.bool false,.int .i64 (i:Int)]) (fun x=>x=decide (l=r)) ?_ ?_ (s:=0) ⟨rfl,rfl⟩ (eqL h)
  ·rintro i p n vs S hi ⟨rfl,rfl⟩ aQ H
   have hil:=(List.getElem?_eq_some_iff.1 hi).1
   have hj:r[n]?=some r[n]:=List.getElem?_eq_getElem (by omega)
   have hlt:((n:Int)<(r.length:Int))=True:=dK hj
   have he:(r[n]=p)=(p.acc=r[n].acc∧p.amount=r[n].amount):=by
    obtain ⟨_,_⟩:=p;generalize r[n]=q;obtain ⟨_,_⟩:=q;simp [and_assoc,eq_comm]
   simp only [pN,hj,Option.some.injEq,he] at H
   simp only [aJw,kk,hlt,aDk hi,aDk hj,Bal.enc,mO (show n<1000000000 by omega),oo]
   grind
  ·rintro n vs S ⟨rfl,rfl⟩ aQ H
   simp only [aJw,kk,h,Int.lt_irrefl,if_false,oo,←H]
 ·simp only [show ¬ (l.length:Int)=(r.length:Int) by omega,kk,not_false_eq_true,if_true,oo]
  have:decide (l=r)=false:=by simpa using fun e=>h (by rw [e])
  rw [this]
theorem bPe (a b:Total) (hb:a.parts.length<1000000) (S:St) (K:KW):C 229 [.agg [.int .i64 a.net,.int .i64 a.tax,.int .i64 a.gross,.imm (a.parts.map Part.enc)],.agg [.int .i64 b.net,.int .i64 b.tax,.int .i64 b.gross,.imm (b.parts.map Part.enc)]] S K=K (.bool (decide (a=b))) S:=by
 refine (bN3 rfl ?_).eq S K
 simp only [aUq,kk,iL,bPd a.parts b.parts hb,Total.ext_iff,oo]
 grind
theorem bPf (p fr:Posted) (hb:fr.total.parts.length≤1000) (S:St) (K:KW):C 169 [.agg [.str p.ref.ser,.int .i64 p.ref.num,.int .i64 p.day.y,.int .i64 p.day.m,.int .i64 p.day.d,.int .i64 p.total.net,.int .i64 p.total.tax,.int .i64 p.total.gross,.imm (p.total.parts.map Part.enc),.str p.of.ser,.int .i64 p.of.num,.bool p.back],.agg [.str fr.ref.ser,.int .i64 fr.ref.num,.int .i64 fr.day.y,.int .i64 fr.day.m,.int .i64 fr.day.d,.int .i64 fr.total.net,.int .i64 fr.total.tax,.int .i64 fr.total.gross,.imm (fr.total.parts.map Part.enc),.str fr.of.ser,.int .i64 fr.of.num,.bool fr.back]] S K=K (.bool (nM p fr)) S:=by
 refine (bLp rfl ?_).eq S K
 have hbl:=xR fr.total
 simp only [aTf,kk,iL,bFt fr.total hb,aK2,aPx,bPe (bU fr.total).1 p.total (by omega),nM,Ref.ext_iff,Ref.zero,oo]
 grind
theorem bFu:gO prog 227=some none:=by kernel_rfl
theorem bPg (r:Ref) (p:Posted):Fr 227 (fun a=>[.agg p.enc,.ptr a 0 0 0]) 2 [.str r.ser,.int .i64 r.num] (.bool (decide (p.ref=r))) [.str r.ser,.int .i64 r.num]:=by
 refine FnR.of bEi (lv:=bF 227) (Pt.next rfl (Pt.head rfl)) rfl ?_ rfl rfl
 rw [bMz]
 simp only [aZ1,kk,Posted.enc,iL,Ref.ext_iff]
 exact ⟨by congr 1;rw [Bool.eq_iff_iff];simp,rfl⟩
theorem bPh (fk:Nat) (ht:gO prog fk=some none) {n:Nat} {cap:List V} (hcap:cloVs cap=true) (p:Posted→Bool) (hf:∀ s:Posted,Fr fk (fun a=>[.agg s.enc,.ptr a 0 0 0]) n cap (.bool (p s)) cap) (l:List Posted) (hb:l.length<1000000):
  Fr 155 (fun a=>[.imm (l.map Posted.enc),.func fk [] [.ptr a 0 0 0]]) n cap (.int .i64 (ixM p l)) cap:=by
 refine FnR.of bEc (lv:=bF 155) (Pt.fn rfl) (by simp [hcap]) ?_ rfl (by simp [hcap])
 rw [bL7]
 simp only [aYz,kk]
 refine aZ l (step:=eS p) (fin:=fun _=>-1) (fun i k vs S=>k=i∧vs=[.int .i64 0,.int .i64 (i:Int)]∧S.heap.get 0=some (.row 0 n [cap])) (fun r=>r=ixM p l) ?_ ?_ ⟨rfl,rfl,Tr.get_put_sameB _ _ _ trivial⟩ rfl
 ·rintro i s k vs S hi ⟨rfl,rfl,hg⟩ aQ H
  have hil:=(List.getElem?_eq_some_iff.1 hi).1
  have he:=(hf s).eq_same hg
  simp only [Posted.enc] at he
  simp only [aF6,kk,dK hi,nN hi,Posted.enc,sE _ _ _ _ _ _ _ _ ht,List.nil_append,List.cons_append,he,mO (show k<1000000000 by omega)]
  simp only [eS] at H
  cases hp:p s<;>simp only [hp,kk] at H ⊢
  ·exact H _ _ ⟨rfl,rfl,hg⟩
  ·exact ⟨by rw [H],hg⟩
 ·rintro k vs S ⟨rfl,rfl,hg⟩ aQ H
  simp only [aF6,kk,Int.lt_irrefl]
  exact ⟨by rw [H],hg⟩
theorem bFv (l:List Posted) (r:Ref) (hb:l.length<1000000):Fv 168 [.imm (l.map Posted.enc),.agg [.str r.ser,.int .i64 r.num]] (.int .i64 (cK l r)):=by
 refine bLn rfl ?_
 have h:=(bPh 227 bFu rfl _ (bPg r) l hb).eq_same (S:=⟨1,Tr.nil.put 0 (.row 0 2 [[.str r.ser,.int .i64 r.num]])⟩) (a:=0) (Tr.get_put_sameB _ _ _ trivial)
 simp only [aTd,kk,h,cK]
theorem bPi (l:List Posted) (r:Ref) (hb:l.length<1000000) (S:St) (K:KW):C 168 [.imm (l.map Posted.enc),.agg [.str r.ser,.int .i64 r.num]] S K=K (.int .i64 (cK l r)) S:=(bFv l r hb).eq S K
theorem bFw:(fun (a ver i j:Nat) (x:V)=>aD prog 246 (.ptr a ver i j) x)=fun a ver i j x=>(match lV x 40 with
 | none=>.error "index"
 | some k=>.ok (.ptr a ver i (j+k*1))):=by kernel_rfl
theorem aQ6 (a ver i j:Nat) {k:Nat} (h:k<40):aD prog 246 (.ptr a ver i j) (.int .i64 (k:Int))=.ok (.ptr a ver i (j+k)):=by
 have:=congrFun (congrFun (congrFun (congrFun (congrFun bFw a) ver) i) j) (.int .i64 (k:Int))
 rw [iU h] at this
 rw [this]
 simp only [Nat.mul_one]
theorem bFx:(fun (a ver i j:Nat) (x:V)=>aD prog 249 (.ptr a ver i j) x)=fun a ver i j x=>(match lV x 8 with
 | none=>.error "index"
 | some k=>.ok (.ptr a ver i (j+k*1))):=by kernel_rfl
theorem aQ7 (a ver i j:Nat) {k:Nat} (h:k<8):aD prog 249 (.ptr a ver i j) (.int .i64 (k:Int))=.ok (.ptr a ver i (j+k)):=by
 have:=congrFun (congrFun (congrFun (congrFun (congrFun bFx a) ver) i) j) (.int .i64 (k:Int))
 rw [iU h] at this
 rw [this]
 simp only [Nat.mul_one]
theorem aQ8 {l:List Int} {k:Nat} (h:k<l.length):(l.map oJ)[k]?=some (.int .i64 l[k]):=by
 rw [List.getElem?_map,List.getElem?_eq_getElem h];rfl
theorem bFy {l:List Int} {k:Nat} (h:k<l.length) (x:Int):rE (l.map oJ) k [.int .i64 x]=some ((l.set k x).map oJ):=by
 have hl:(l.map oJ).length=l.length:=List.length_map ..
 rw [wN,if_pos (by rw [hl];exact h),List.map_set]
 simp only [splice,List.length_cons,List.length_nil]
 rw [List.set_eq_take_append_cons_drop,if_pos (by rw [hl];exact h)]
 rfl
def State.enc (s:State):List V:=[.imm (s.table.map Rate.enc),.imm (s.ser.map Ser.enc),.imm (s.posted.map Posted.enc),.imm (s.book.map Bal.enc),.imm (s.sess.map Sess.enc),.int .i64 s.next]
theorem bFz:gO prog 170=some none:=by kernel_rfl
theorem bPj (p:Posted) (s:Ser):Fr 170 (fun a=>[.agg s.enc,.ptr a 0 0 0]) 12 p.enc (.bool (s.name == p.ref.ser)) p.enc:=by
 refine FnR.of bEf (lv:=bF 170) (Pt.next rfl (Pt.head rfl)) rfl ?_ rfl rfl
 rw [bLq]
 simp only [aZ0,kk,Posted.enc,Ser.enc,iL]
 rfl
theorem z8:[V.int .i64 0,.int .i64 0,.int .i64 0,.int .i64 0,.int .i64 0,.int .i64 0,.int .i64 0,.int .i64 0]=(List.replicate 8 (0:Int)).map oJ:=rfl
theorem g89 (s:State) (h8:s.ser.length≤8) (h40:s.posted.length≤40) (S:St) (K:KW):C 89 [.agg [.imm (s.table.map Rate.enc),.imm (s.ser.map Ser.enc),.imm (s.posted.map Posted.enc),.imm (s.book.map Bal.enc),.imm (s.sess.map Sess.enc),.int .i64 s.next]] S K=K (.bool (mD s.ser s.posted)) S:=by
 refine (v89 rfl ?_).eq S K
 simp only [m89,kk,iL,z8]
 refine aZ s.posted (step:=kH s.ser) (fin:=fun is=>aS jA (fun _=>true) s.ser is) (fun i is vs S=>vs=[.bool false,.int .i64 (i:Int)]∧aI S 0 0=.ok (6,[s.enc])∧aI S 1 0=.ok (8,[is.map oJ])∧is.length=8∧(∀ b∈is,0≤b∧b≤i)∧2≤S.next) (fun r=>r=mD s.ser s.posted) ?_ ?_ (s:=List.replicate 8 0) ⟨rfl,rfl,rfl,rfl,fun b hb=>by rw [List.eq_of_mem_replicate hb];omega,Nat.le_refl _⟩ rfl
 ·rintro i p is vs S hi ⟨rfl,hc,hg,hbl,hbr,h2⟩ aQ H
  have hil:=(List.getElem?_eq_some_iff.1 hi).1
  have z0:((0:Nat)=S.next)=False:=by simp;omega
  have z1:((1:Nat)=S.next)=False:=by simp;omega
  have zn:(S.next=1)=False:=by simp;omega
  obtain ⟨S1,hS1⟩:∃ S1:St,S1=⟨S.next+1,(S.heap.put S.next (.row 0 12 [zW])).put S.next (.row 0 12 [p.enc])⟩:=⟨_,rfl⟩
  have e1:S1.heap.get S.next=some (.row 0 12 [p.enc]):=by rw [hS1];exact Tr.get_put_sameB _ _ _ trivial
  have n1:S1.next=S.next+1:=by rw [hS1]
  have c1:aI S1 0 0=.ok (6,[s.enc]):=by rw [hS1];exact aU (n:=S.next) (by omega) (aU (n:=S.next) (by omega) hc)
  have g1:aI S1 1 0=.ok (8,[is.map oJ]):=by rw [hS1];exact aU (n:=S.next) (by omega) (aU (n:=S.next) (by omega) hg)
  have p1:aI S1 S.next 0=.ok (12,[p.enc]):=eV e1
  have h152:=(bF5 170 bFz rfl _ (bPj p) s.ser (by omega)).eq_same (a:=S.next) e1
  have hx:ixM (fun t:Ser=>t.name == p.ref.ser) s.ser=hU s.ser p.ref.ser:=rfl
  rw [hx] at h152
  simp only [kH] at H
  simp only [zW,Posted.enc] at hS1
  simp only [aJu,kk,dK hi,nN hi,Posted.enc,←hS1,c1,State.enc,h152]
  rcases kP s.ser p.ref.ser with hk | ⟨k,f,hk,hf,_⟩
  ·simp only [hk,show (-1:Int)<0 by decide,kk,if_true] at H ⊢
   rw [←H]
  have hks:k<s.ser.length:=(List.getElem?_eq_some_iff.1 hf).1
  have hk8:k<8:=by omega
  have hkb:k<is.length:=by omega
  have hbk:=hbr is[k] (List.getElem_mem hkb)
  have hw2:wr .i64 (is[k]+1)=is[k]+1:=kX (by omega) (by omega)
  have hbu:bump is k=is.set k (is[k]+1):=by unfold bump;rw [wJ is k hkb]
  have hkb':k<(bump is k).length:=by rw [wK];exact hkb
  have hgk:=aPu is k hkb
  have hgk2:(bump is k)[k]=is[k]+1:=by rw [←wJ _ _ hkb'];exact hgk
  have g2:aI ⟨S1.next+7,S1.heap.put 1 (.row 0 8 [(bump is k).map oJ])⟩ 1 0=.ok (8,[(bump is k).map oJ]):=aO _ _ _ _ _ _
  have p2:aI ⟨S1.next+7,S1.heap.put 1 (.row 0 8 [(bump is k).map oJ])⟩ S.next 0=.ok (12,[p.enc]):=aU (n:=S1.next) (by omega) p1
  have c2:aI ⟨S1.next+7,S1.heap.put 1 (.row 0 8 [(bump is k).map oJ])⟩ 0 0=.ok (6,[s.enc]):=aU (n:=S1.next) (by decide) c1
  simp only [Posted.enc] at p2
  simp only [hk,show ¬ (k:Int)<0 by omega,kk,if_false,Int.toNat_natCast,hgk] at H ⊢
  simp only [aQ7 _ _ _ _ hk8,kk,g1,aQ8 hkb,aQ8 hkb',hw2,bFy hkb,←hbu,g2,p2,hgk2,mO (show i<1000000000 by omega)]
  by_cases c:p.ref.num=is[k]+1
  ·simp only [c,kk,if_true,if_false,not_true_eq_false] at H ⊢
   refine H _ _ ⟨rfl,c2,g2,by rw [wK];exact hbl,fun b hb=>?_,by show 2≤S1.next+7;omega⟩
   rw [hbu] at hb
   rcases List.mem_or_eq_of_mem_set hb with hb | rfl
   ·exact ⟨(hbr b hb).1,by have:=(hbr b hb).2;omega⟩
   ·omega
  ·simp only [c,kk,if_true,if_false,not_false_eq_true] at H ⊢
   rw [←H]
 ·rintro is vs S ⟨rfl,hc,hg,hbl,hbr,h2⟩ aQ H
  have H':mD s.ser s.posted=aS jA (fun _=>true) s.ser is:=H.symm
  simp only [aJu,kk,Int.lt_irrefl,if_false,hc,State.enc,H']
  refine aZ s.ser (step:=jA) (fin:=fun _=>true) (fun i st vs S=>vs=[.bool false,.int .i64 (i:Int)]∧st=is.drop i∧aI S 1 0=.ok (8,[is.map oJ])∧2≤S.next) (fun r=>r=aS jA (fun _=>true) s.ser is) ?_ ?_ (s:=is) ⟨rfl,rfl,hg,h2⟩ rfl
  ·rintro i q st vs S hi ⟨rfl,rfl,hg,h2⟩ aQ H
   have hil:=(List.getElem?_eq_some_iff.1 hi).1
   have hi8:i<8:=by omega
   have hib:i<is.length:=by omega
   have z1:((1:Nat)=S.next)=False:=by simp;omega
   have hbi:=hbr is[i] (List.getElem_mem hib)
   have hw2:wr .i64 (is[i]+1)=is[i]+1:=kX (by omega) (by omega)
   have hhd:(is.drop i).headD 0=is[i]:=by rw [List.drop_eq_getElem_cons hib];rfl
   have htl:(is.drop i).tail=is.drop (i+1):=by rw [List.drop_eq_getElem_cons hib];rfl
   have g1:∀ m b c,aI ⟨m,(S.heap.put S.next b).put S.next c⟩ 1 0=.ok (8,[is.map oJ]):=fun m b c=>aU (n:=S.next) (by omega) (aU (n:=S.next) (by omega) hg)
   simp only [jA,hhd,htl] at H
   simp only [aJt,kk,dK hi,zF hi,Ser.enc,aQ7 _ _ _ _ hi8,g1,aQ8 hib,hw2,mO (show i<1000000000 by omega)]
   by_cases c:q.next=is[i]+1
   ·simp only [c,kk,if_true,if_false,not_true_eq_false] at H ⊢
    exact H _ _ ⟨rfl,g1 _ _ _,by show 2≤S.next+1+7;omega⟩
   ·simp only [c,kk,if_true,if_false,not_false_eq_true] at H ⊢
    simp only [oo,←H]
  ·rintro st vs S ⟨rfl,rfl,hg,h2⟩ aQ H
   simp only [aJt,kk,Int.lt_irrefl,if_false,oo,←H]
theorem z40:[V.int .i64 0,.int .i64 0,.int .i64 0,.int .i64 0,.int .i64 0,.int .i64 0,.int .i64 0,.int .i64 0,.int .i64 0,.int .i64 0,.int .i64 0,.int .i64 0,.int .i64 0,.int .i64 0,.int .i64 0,.int .i64 0,.int .i64 0,.int .i64 0,.int .i64 0,.int .i64 0,.int .i64 0,.int .i64 0,.int .i64 0,.int .i64 0,.int .i64 0,.int .i64 0,.int .i64 0,.int .i64 0,.int .i64 0,.int .i64 0,.int .i64 0,.int .i64 0,.int .i64 0,.int .i64 0,.int .i64 0,.int .i64 0,.int .i64 0,.int .i64 0,.int .i64 0,.int .i64 0]=(List.replicate 40 (0:Int)).map oJ:=rfl
theorem bG0 (l:List Posted) {i:Nat} (hi:i<l.length):cC prog 26 (.imm (l.map Posted.enc)) none (some (.int .i64 (i:Int)))=.ok (.imm ((l.take i).map Posted.enc)):=by
 have hb:cB (l.map Posted.enc).length none (some (.int .i64 (i:Int)))=.ok (0,i):=by
  have:(decide ((0:Int)≤(i:Int))&&decide ((i:Int)≤((l.map Posted.enc).length:Int)))=true:=by simp;omega
  simp only [cB,this,cond_true,Int.toNat_natCast]
 rw [aPq _ (dG (n:=12) (fun c hc=>by obtain ⟨x,_,rfl⟩:=List.mem_map.1 hc;exact nO x)).1,hb]
 simp only [List.drop_zero,Nat.sub_zero,List.map_take]
theorem aNl:(fun (a b:Bool)=>aH prog .neq 4 (.bool a) (.bool b))=fun a b=>.ok (.bool (!(a == b))):=by kernel_rfl
theorem aNm (a b:Bool):aH prog .neq 4 (.bool a) (.bool b)=.ok (.bool (!(a == b))):=congrFun (congrFun aNl a) b
theorem g88 (l:List Posted) (S:St) (K:KW):C 88 [.imm (l.map Posted.enc)] S K=K (.bool (iD l)) S:=by
 refine (v88 rfl ?_).eq S K
 simp only [m88,kk,iD]
 by_cases h40:40<l.length
 ·simp only [h40,show (40:Int)<(l.length:Int) by omega,kk,if_true,oo]
 simp only [h40,show ¬ (40:Int)<(l.length:Int) by omega,kk,if_false,z40]
 refine aZ l (step:=fO) (fin:=fun st=>aS gR (fun _=>true) l st.2) (fun i st vs S=>vs=[.bool false,.int .i64 (i:Int)]∧aI S 0 0=.ok (40,[st.2.map oJ])∧st.1=l.take i∧st.2.length=40∧(∀ b∈st.2,0≤b∧b≤i)∧(∀ p∈st.1,p.total.parts.length≤12)∧0<S.next) (fun r=>r=aS fO (fun st=>aS gR (fun _=>true) l st.2) l ([],List.replicate 40 0)) ?_ ?_ (s:=([],List.replicate 40 0)) ⟨rfl,rfl,rfl,rfl,fun b hb=>by rw [List.eq_of_mem_replicate hb];omega,(fun p h=>(by cases h)),Nat.zero_lt_one⟩ rfl
 ·rintro i p ⟨done,bs⟩ vs S hi ⟨rfl,hg,hdone,hbl,hbr,hfi,h0⟩ aQ H
  simp only at hg hdone hbl hbr hfi
  have hil:=(List.getElem?_eq_some_iff.1 hi).1
  obtain ⟨S1,hS1⟩:∃ S1:St,S1=⟨S.next+1,(S.heap.put S.next (.row 0 12 [zW])).put S.next (.row 0 12 [p.enc])⟩:=⟨_,rfl⟩
  have n1:S1.next=S.next+1:=by rw [hS1]
  have g1:aI S1 0 0=.ok (40,[bs.map oJ]):=by rw [hS1];exact aU (n:=S.next) (by omega) (aU (n:=S.next) (by omega) hg)
  have p1:aI S1 S.next 0=.ok (12,[p.enc]):=by rw [hS1];exact aO _ _ _ _ _ _
  have hdone':(done++[p])=l.take (i+1):=by
   rw [hdone,List.take_succ_eq_append_getElem hil,(List.getElem?_eq_some_iff.1 hi).2]
  simp only [fO,Ref.ext_iff,Ref.zero] at H
  simp only [zW,Posted.enc] at hS1
  simp only [Posted.enc] at p1
  simp only [aJs,kk,dK hi,nN hi,Posted.enc,←hS1,gm,p1,zX,bPc,mO (show i<1000000000 by omega),bG0 l hil,oo]
  cases h1:p.day.right
  ·simp only [h1,kk,if_true] at H ⊢
   rw [←H]
  cases h2:eF p.total
  ·simp only [h1,h2,kk,Bool.true_eq_false,if_true,if_false] at H ⊢
   rw [←H]
  simp only [h1,h2,kk,Bool.true_eq_false,if_false] at H ⊢
  have hfi':∀ q∈done++[p],q.total.parts.length≤12:=fun q hq=>by
   rcases List.mem_append.1 hq with hq | hq
   ·exact hfi q hq
   ·rw [List.mem_singleton.1 hq];exact kR h2
  by_cases h3:p.of.ser=[]∧p.of.num=0
  ·simp only [h3,and_self,BEq.rfl,decide_true,Bool.and_self,kk,if_true] at H ⊢
   exact H _ _ ⟨rfl,g1,hdone',hbl,fun b hb=>⟨(hbr b hb).1,by have:=(hbr b hb).2;omega⟩,hfi',by omega⟩
  have h3':¬ (p.of.ser == []&&decide (p.of.num=0))=true:=by simpa using h3
  have hdl:done.length≤i:=by rw [hdone,List.length_take];omega
  simp only [h3,h3',if_false,bPi done p.of (show done.length<1000000 by omega),←hdone,kk,gm,p1] at H ⊢
  rcases lJ done p.of with hk | ⟨k,f,hk,hf,_⟩
  ·simp only [hk,show (-1:Int)<0 by decide,kk,if_true] at H ⊢
   rw [←H]
  have hkd:=(List.getElem?_eq_some_iff.1 hf).1
  have hki:k<i:=by omega
  have hlk:l[k]?=some f:=by rw [hdone,List.getElem?_take,if_pos hki] at hf;exact hf
  have hfl:f.total.parts.length≤12:=hfi f (List.mem_of_getElem? hf)
  have hgd:∀ d,done.getD k d=f:=fun d=>by rw [List.getD_eq_getElem?_getD,hf];rfl
  have hkb:k<bs.length:=by omega
  have hk40:k<40:=by omega
  have hbk:=hbr bs[k] (List.getElem_mem hkb)
  have hw2:wr .i64 (bs[k]+1)=bs[k]+1:=kX (by omega) (by omega)
  have hbu:bump bs k=bs.set k (bs[k]+1):=by unfold bump;rw [wJ bs k hkb]
  have g2:aI ⟨S1.next+7+11,S1.heap.put 0 (.row 0 40 [(bump bs k).map oJ])⟩ 0 0=.ok (40,[(bump bs k).map oJ]):=aO _ _ _ _ _ _
  simp only [hk,show ¬ (k:Int)<0 by omega,kk,if_false,Int.toNat_natCast,hgd,nN hlk,Posted.enc,bPf p f (show f.total.parts.length≤1000 by omega)] at H ⊢
  cases h4:nM p f
  ·simp only [h4,kk,if_true] at H ⊢
   rw [←H]
  ·simp only [h4,kk,Bool.true_eq_false,if_false,aQ6 _ _ _ _ hk40,gm,g1,aQ8 hkb,hw2,bFy hkb,←hbu] at H ⊢
   refine H _ _ ⟨rfl,g2,hdone',by rw [wK];exact hbl,fun b hb=>?_,hfi',Nat.succ_pos _⟩
   rw [hbu] at hb
   rcases List.mem_or_eq_of_mem_set hb with hb | rfl
   ·exact ⟨(hbr b hb).1,by have:=(hbr b hb).2;omega⟩
   ·omega
 ·rintro ⟨done,bs⟩ vs S ⟨rfl,hg,hdone,hbl,hbr,hfi,h0⟩ aQ H
  simp only at hg hbl
  have H':aS fO (fun st=>aS gR (fun _=>true) l st.2) l ([],List.replicate 40 0)=aS gR (fun _=>true) l bs:=H.symm
  simp only [aJs,kk,Int.lt_irrefl,if_false,H']
  refine aZ l (step:=gR) (fin:=fun _=>true) (fun i st vs S=>vs=[.bool false,.int .i64 (i:Int)]∧st=bs.drop i∧aI S 0 0=.ok (40,[bs.map oJ])∧0<S.next) (fun r=>r=aS gR (fun _=>true) l bs) ?_ ?_ (s:=bs) ⟨rfl,rfl,hg,h0⟩ rfl
  ·rintro i p st vs S hi ⟨rfl,rfl,hg,h0⟩ aQ H
   have hil:=(List.getElem?_eq_some_iff.1 hi).1
   have hi40:i<40:=by omega
   have hib:i<bs.length:=by omega
   have hhd:(bs.drop i).headD 0=bs[i]:=by rw [List.drop_eq_getElem_cons hib];rfl
   have htl:(bs.drop i).tail=bs.drop (i+1):=by rw [List.drop_eq_getElem_cons hib];rfl
   have g1:∀ m b c,aI ⟨m,(S.heap.put S.next b).put S.next c⟩ 0 0=.ok (40,[bs.map oJ]):=fun m b c=>aU (n:=S.next) (by omega) (aU (n:=S.next) (by omega) hg)
   simp only [gR,hhd,htl] at H
   simp only [aJr,kk,dK hi,nN hi,Posted.enc,aQ6 _ _ _ _ hi40,g1,aQ8 hib,aNm,mO (show i<1000000000 by omega)]
   by_cases c1:1<bs[i]
   ·simp only [c1,kk,if_true] at H ⊢
    simp only [oo,←H]
   ·by_cases c2:p.back=decide (bs[i]=1)
    ·simp only [c1,c2,kk,if_true,if_false,BEq.rfl,Bool.not_true,Bool.false_eq_true] at H ⊢
     exact H _ _ ⟨rfl,g1 _ _ _,Nat.succ_pos _⟩
    ·have c3:(!(p.back == decide (bs[i]=1)))=true:=by simpa using c2
     simp only [c1,c2,c3,kk,if_true,if_false] at H ⊢
     simp only [oo,←H]
  ·rintro st vs S ⟨rfl,rfl,hg,h2⟩ aQ H
   simp only [aJr,kk,Int.lt_irrefl,if_false,oo,←H]
theorem bPk {v:V} (book l:List Bal) (hv:v=.imm (book.map Bal.enc)∨(v=.nils∧book=[])) (hbb:book.length+l.length<1000000) (S:St) (K:KW):C 158 [v,.imm (l.map Bal.enc)] S K=K (.tup [.imm ((cY book l).1.map Bal.enc),.int .i64 (cY book l).2]) S:=by
 rcases hv with rfl | ⟨rfl,rfl⟩
 ·exact bB4 book l hbb S K
 ·exact (Fn.back (args:=[.imm [],.imm (l.map Bal.enc)]) fun S K=>bB4 [] l hbb S K).frz bEd rfl rfl rfl (.inr rfl) K
theorem aHz (l:List Posted):dZ l=aS cO (fun b=>(b,0)) l []:=rfl
theorem g90 (l:List Posted) (hl:l.length≤1000) (hf:∀ p∈l,aNj p.total) (S:St) (K:KW):C 90 [.imm (l.map Posted.enc)] S K=K (.tup [.imm ((dZ l).1.map Bal.enc),.int .i64 (dZ l).2]) S:=by
 refine (v90 rfl ?_).eq S K
 simp only [m90,kk,aHz]
 refine aZ l (step:=cO) (fin:=fun b=>(b,0)) (fun i s vs S=>∃ v,vs=[.nils,.int .i64 0,v,.int .i64 (i:Int)]∧(v=.imm (s.map Bal.enc)∨(v=.nils∧s=[]))∧s.length≤25*i) (fun r=>r=aS cO (fun b=>(b,0)) l []) ?_ ?_ (s:=[]) ⟨_,rfl,.inr ⟨rfl,rfl⟩,Nat.zero_le _⟩ rfl
 ·rintro i p s vs S hi ⟨v,rfl,hv,hsl⟩ aQ H
  have hil:=(List.getElem?_eq_some_iff.1 hi).1
  have hfp:=hf p (List.mem_of_getElem? hi)
  simp only [cO] at H
  simp only [aJv,kk,dK hi,nN hi,Posted.enc,bFm p.total hfp,mO (show i<1000000000 by omega)]
  by_cases c1:(eH p.total).2=0
  ·have hel:=(wI p.total).resolve_right (not_not_intro c1)
   have h12:=hfp.1
   have hle:=uC s (eH p.total).1
   simp only [c1,kk,not_true_eq_false,if_false,bPk s _ hv (show s.length+(eH p.total).1.length<1000000 by omega)] at H ⊢
   by_cases c2:(cY s (eH p.total).1).2=0
   ·simp only [c2,kk,not_true_eq_false,if_false] at H ⊢
    exact H _ _ ⟨_,rfl,.inl rfl,by omega⟩
   ·simp only [c2,kk,not_false_eq_true,if_true] at H ⊢
    simp only [oo,←H,List.map_nil]
  ·simp only [c1,kk,not_false_eq_true,if_true] at H ⊢
   simp only [oo,←H,List.map_nil]
 ·rintro s vs S ⟨v,rfl,hv,hsl⟩ aQ H
  have H':aS cO (fun b=>(b,0)) l []=(s,0):=H.symm
  simp only [aJv,kk,Int.lt_irrefl,if_false,H']
  rcases hv with rfl | ⟨rfl,rfl⟩<;>simp only [oo,List.map_nil]
theorem g87 (s:State) (S:St) (K:KW):C 87 [.agg [.imm (s.table.map Rate.enc),.imm (s.ser.map Ser.enc),.imm (s.posted.map Posted.enc),.imm (s.book.map Bal.enc),.imm (s.sess.map Sess.enc),.int .i64 s.next]] S K=K (.bool (jT s)) S:=by
 refine (v87 rfl ?_).eq S K
 simp only [m87,kk,gm,grS,aX1,jT,oo]
 cases h1:fZ s.sess
 ·simp only [h1,kk,Bool.false_eq_true,if_false]
 have hb:=lR h1
 simp only [h1,kk,if_true]
 by_cases h2:1≤s.next
 ·by_cases h3:s.next≤1099511627776
  ·simp only [h2,h3,kk,if_true]
   by_cases h4:s.sess.length=0
   ·have:s.sess=[]:=List.length_eq_zero_iff.1 h4
    simp only [h4,show ((0:Nat):Int)=0 from rfl,kk,if_true,aBn,this]
   ·obtain ⟨j,hj⟩:∃ j,s.sess.length=j+1:=⟨s.sess.length - 1,by omega⟩
    have hjl:s.sess[j]?=some s.sess[j]:=List.getElem?_eq_getElem (by omega)
    simp only [h4,hj,show ¬ ((j+1:Nat):Int)=0 by omega,kk,if_false,oo,wrm (show j+1<1000000000 by omega),aBr hjl,Sess.enc,aBn,Nat.add_sub_cancel,hjl]
  ·simp only [h2,h3,kk,if_true,if_false]
 ·simp only [h2,kk,if_false]
theorem g24 (s:State) (S:St) (K:KW):C 24 [.agg [.imm (s.table.map Rate.enc),.imm (s.ser.map Ser.enc),.imm (s.posted.map Posted.enc),.imm (s.book.map Bal.enc),.imm (s.sess.map Sess.enc),.int .i64 s.next]] S K=K (.bool (bZ s)) S:=by
 refine (v24 rfl ?_).eq S K
 simp only [m24,kk,g85,g86,g87 s,g88,bZ,oo]
 cases h1:fT s.table
 ·simp only [h1,kk,if_true]
 cases h2:mN s.ser
 ·simp only [h2,kk,if_true,Bool.true_eq_false,if_false]
 cases h3:jT s
 ·simp only [h3,kk,if_true,Bool.true_eq_false,if_false]
 cases h4:iD s.posted
 ·simp only [h4,kk,if_true,Bool.true_eq_false,if_false]
 obtain ⟨h40,hok⟩:=pO h4
 simp only [kk,Bool.true_eq_false,if_false,g89 s (oH h2) h40]
 cases h5:mD s.ser s.posted
 ·simp only [h5,kk,if_true]
 have hbl:=qY s.posted [] (dZ s.posted) (fun p hp=>kR (hok p hp).2) rfl
 simp only [List.length_nil,Nat.zero_add] at hbl
 simp only [kk,Bool.true_eq_false,if_false,g90 s.posted (show s.posted.length≤1000 by omega) (fun p hp=>zC (hok p hp).2)]
 by_cases h6:(dZ s.posted).2=0
 ·simp only [h6,kk,if_true,g91 (dZ s.posted).1 s.book (show (dZ s.posted).1.length<1000000 by omega),oo]
 ·simp only [h6,kk,if_false,oo]
end Go.Proofs.YtoaibmbldmckaaaGreat
end
section
namespace Go.AM
structure Mv (a:Nat) (v:V) (S:St) (v':V) (S':St):Prop where
 next:S.next≤S'.next
 keep:∀ y,y<S.next→y≠a→blkOf v≠some y→S'.heap.get y=S.heap.get y
 fresh:∀ y,blkOf v'=some y→blkOf v=some y∨S.next≤y
theorem Mv.refl (a:Nat) (v:V) (S:St):Mv a v S v S:=⟨Nat.le_refl _,fun _ _ _ _=>rfl,fun _ h=>.inl h⟩
theorem Mv.trans {a:Nat} {u v w:V} {S S' S'':St} (h:Mv a u S v S') (k:Mv a v S' w S''):Mv a u S w S'':=
 ⟨Nat.le_trans h.next k.next,fun y hy ha hu=>by
  rw [k.keep y (Nat.lt_of_lt_of_le hy h.next) ha (fun e=>(h.fresh y e).elim hu fun q=>by omega),h.keep y hy ha hu],fun y hy=>by
  rcases k.fresh y hy with q | q
  ·exact h.fresh y q
  ·exact .inr (Nat.le_trans h.next q)⟩
theorem Mv.put {a:Nat} {v w:V} {S S':St} (h:Mv a v S w S') {k m:Nat} {b:Blk} (hk:k=a∨S.next≤k) (hm:S'.next≤m):Mv a v S w ⟨m,S'.heap.put k b⟩:=
 ⟨Nat.le_trans h.next hm,fun y hy ha hv=>by
  show (S'.heap.put k b).get y=_
  rw [Tr.get_put_neB _ _ _ _ trivial (by
   rcases hk with rfl | q
   ·exact ha
   ·omega)];exact h.keep y hy ha hv,h.fresh⟩
theorem Mv.bump {a:Nat} {v w:V} {S S':St} (h:Mv a v S w S') (c:Nat):Mv a v S w ⟨S'.next+c,S'.heap⟩:=
 ⟨Nat.le_trans h.next (Nat.le_add_right _ _),h.keep,h.fresh⟩
end Go.AM
namespace Go.Proofs.YtoaibmbldmckaaaGreat
open Go.AM Tryz
set_option linter.unusedVariables false
set_option linter.unusedSimpArgs false
set_option maxRecDepth 100000
def State.cells (s:State) (v:V):List V:=[.imm (s.table.map Rate.enc),.imm (s.ser.map Ser.enc),v,.imm (s.book.map Bal.enc),.imm (s.sess.map Sess.enc),.int .i64 s.next]
structure StAt (S:St) (a:Nat) (s:State) (v:V):Prop where
 row:aI S a 0=.ok (6,[s.cells v])
 own:Own E0 S 12 v (s.posted.map Posted.enc)
 wf:WF S
 ne:AM.blkOf v≠some a
theorem StAt.lt {S:St} {a:Nat} {s:State} {v:V} (h:StAt S a s v):a<S.next:=h.wf _ _ (wQ h.row)
theorem StAt.put {S:St} {a:Nat} {s:State} {v:V} (h:StAt S a s v) {k m:Nat} {b:Blk} (hk:k≠a) (hv:AM.blkOf v≠some k) (hm:k<m) (hn:S.next≤m):StAt ⟨m,S.heap.put k b⟩ a s v:=
 ⟨aU (n:=S.next) (Ne.symm hk) h.row,h.own.same hn fun y hy=>Tr.get_put_neB _ _ _ _ trivial (fun e=>hv (by rw [←e];exact hy)),hJ (n:=S.next) h.wf hm hn,h.ne⟩
theorem StAt.bump {S:St} {a:Nat} {s:State} {v:V} (h:StAt S a s v) (c:Nat):StAt ⟨S.next+c,S.heap⟩ a s v:=⟨h.row,h.own.bump c,h.wf.bump c,h.ne⟩
theorem StAt.set {S:St} {a:Nat} {s s':State} {v:V} (h:StAt S a s v) (hp:s'.posted=s.posted):StAt ⟨S.next,S.heap.put a (.row 0 6 [s'.cells v])⟩ a s' v:=
 ⟨aO _ _ _ _ _ _,by rw [hp];exact h.own.same (Nat.le_refl _) fun y hy=>Tr.get_put_neB _ _ _ _ trivial (fun e=>h.ne (by rw [←e];exact hy)),hJ (n:=S.next) h.wf h.lt (Nat.le_refl _),h.ne⟩
theorem StAt.new {S:St} {a:Nat} {s:State} {v:V} (h:StAt S a s v) {k:Nat} (hk:S.next≤k):AM.blkOf v≠some k:=fun e=>by have:=(dS h.own e).2;omega
theorem lK (w:Int) (S:St) (K:KW):C 103 [.int .i64 w] S K=K (.agg [.int .i64 w,.int .i64 0,.int .i64 0]) S:=by
 refine (bKi rfl ?_).eq S K
 simp only [aS7,kk,oo]
theorem bG1 {S:St} {a:Nat} {s:State} {v:V} (st:StAt S a s v) (name:List UInt8) (p:Posted) (hf:aNj p.total) (hb:s.book.length<900000) {K:KW}
  (H:∀ S' v',StAt S' a (bO s name p).1 v'→Mv a v S v' S'→K (.agg [.int .i64 (bO s name p).2.why,.int .i64 (bO s name p).2.number,.int .i64 (bO s name p).2.gross]) S'):
  C 239 [.ptr a 0 0 0,.str name,.agg [.str p.ref.ser,.int .i64 p.ref.num,.int .i64 p.day.y,.int .i64 p.day.m,.int .i64 p.day.d,.int .i64 p.total.net,.int .i64 p.total.tax,.int .i64 p.total.gross,.imm (p.total.parts.map Part.enc),.str p.of.ser,.int .i64 p.of.num,.bool p.back]] S K:=by
 refine bNf ?_
 have ha:=st.lt
 obtain ⟨S1,hS1⟩:∃ S1:St,S1=⟨S.next+1+1,(S.heap.put S.next (.row 0 12 [p.enc])).put (S.next+1) (.row 0 3 [[.int .i64 0,.int .i64 0,.int .i64 0]])⟩:=⟨_,rfl⟩
 have n1:S1.next=S.next+2:=by rw [hS1]
 have st1:StAt S1 a s v:=by
  rw [hS1]
  exact (st.put (k:=S.next) (m:=S.next+1) (by omega) (st.new (Nat.le_refl _)) (by omega) (by omega)).put (by omega) (st.new (by omega)) (by omega) (Nat.le_succ _)
 have mv1:Mv a v S v S1:=by
  rw [hS1]
  exact ((Mv.refl a v S).put (k:=S.next) (m:=S.next+1) (.inr (Nat.le_refl _)) (by omega)).put (.inr (by omega)) (Nat.le_succ _)
 have r0:aI S1 S.next 0=.ok (12,[p.enc]):=by rw [hS1];exact aU (n:=S.next+1) (by omega) (aO _ _ _ _ _ _)
 have r1:aI S1 (S.next+1) 0=.ok (3,[[.int .i64 0,.int .i64 0,.int .i64 0]]):=by rw [hS1];exact aO _ _ _ _ _ _
 have ra:=st1.row
 simp only [Posted.enc] at r0 hS1
 simp only [State.cells] at ra
 have hlen:lenW v=.ok (.int .i64 (s.posted.length:Int)):=st1.own.sl.lenI
 simp only [aV2,kk,←hS1,ra,r0,bOz,hlen,bFm p.total hf]
 simp only [lK,kk,r1]
 have hfail:∀ w:Int,bO s name p=(s,why w)→K (.agg [.int .i64 w,.int .i64 0,.int .i64 0]) ⟨S1.next,S1.heap.put (S.next+1) (.row 0 3 [[.int .i64 w,.int .i64 0,.int .i64 0]])⟩:=by
  intro w hw
  have:=H _ v (by rw [hw];exact st1.put (k:=S.next+1) (m:=S1.next) (b:=.row 0 3 [[.int .i64 w,.int .i64 0,.int .i64 0]]) (by omega) (st.new (by omega)) (by omega) (Nat.le_refl _)) (mv1.put (.inr (by omega)) (Nat.le_refl _))
  rw [hw] at this
  exact this
 by_cases c1:(dB s.ser name).2.2=0
 rotate_left
 ·simp only [c1,kk,not_false_eq_true,if_true]
  exact hfail _ (by simp only [bO,c1,not_false_eq_true,if_true,ne_eq])
 by_cases c2:40≤s.posted.length
 ·simp only [c1,show (40:Int)≤(s.posted.length:Int) by omega,kk,not_true_eq_false,if_false,if_true]
  exact hfail _ (by simp only [bO,c1,c2,not_true_eq_false,if_false,if_true,ne_eq])
 by_cases c3:(eH p.total).2=0
 rotate_left
 ·simp only [c1,c3,show ¬ (40:Int)≤(s.posted.length:Int) by omega,kk,not_true_eq_false,not_false_eq_true,if_false,if_true]
  exact hfail _ (by simp only [bO,c1,c2,c3,not_true_eq_false,not_false_eq_true,if_false,if_true,ne_eq])
 have hel:=(wI p.total).resolve_right (not_not_intro c3)
 have h12:=hf.1
 simp only [bB4 s.book (eH p.total).1 (show s.book.length+(eH p.total).1.length<1000000 by omega),kk]
 by_cases c4:(cY s.book (eH p.total).1).2=0
 rotate_left
 ·simp only [c1,c3,c4,show ¬ (40:Int)≤(s.posted.length:Int) by omega,kk,lK,r1,not_true_eq_false,not_false_eq_true,if_false,if_true]
  exact hfail (cY s.book (eH p.total).1).2 (by simp only [bO,c1,c2,c3,c4,not_true_eq_false,not_false_eq_true,if_false,if_true,ne_eq])
 simp only [c1,c3,c4,show ¬ (40:Int)≤(s.posted.length:Int) by omega,kk,not_true_eq_false,if_false,aQ2]
 obtain ⟨q,hq⟩:∃ q:Posted,q={ p with ref:=⟨name,(dB s.ser name).2.1⟩ }:=⟨_,rfl⟩
 have hiss:bO s name p=({ s with ser:=(dB s.ser name).1,book:=(cY s.book (eH p.total).1).1,posted:=s.posted++[q] },⟨0,(dB s.ser name).2.1,p.total.gross⟩):=by
  rw [hq]
  simp only [bO,c1,c2,c3,c4,not_true_eq_false,not_false_eq_true,if_false,if_true,ne_eq]
 have hqe:q.enc=[.str name,.int .i64 (dB s.ser name).2.1,.int .i64 p.day.y,.int .i64 p.day.m,.int .i64 p.day.d,.int .i64 p.total.net,.int .i64 p.total.tax,.int .i64 p.total.gross,.imm (p.total.parts.map Part.enc),.str p.of.ser,.int .i64 p.of.num,.bool p.back]:=by rw [hq];rfl
 have mK:=st1.put (k:=S.next) (m:=S1.next) (b:=.row 0 12 [q.enc]) (by omega) (st.new (Nat.le_refl _)) (by omega) (Nat.le_refl _)
 have mv2:=mv1.put (k:=S.next) (m:=S1.next) (b:=.row 0 12 [q.enc]) (.inr (Nat.le_refl _)) (Nat.le_refl _)
 obtain ⟨v',S3,q1,w3,n3,own3,bk3,keep3⟩:=aQ5 (b:=128) mK.own mK.wf (k1:=S1.next+10) (k2:=S1.next+11) (m:=S1.next+21) (fresh mK.wf (by show S1.next≤_;omega)) (fresh mK.wf (by show S1.next≤_;omega)) (by omega) (by omega) (by omega) (by show S1.next≤_;omega) (nO q) (by simp;omega) (by simp [eG];omega)
 have hbv:∀ y,AM.blkOf v=some y→y<S.next:=fun y hy=>(dS st.own hy).2
 have hn':AM.blkOf v'≠some a:=fun e=>by
  rcases bk3 with h | h
  ·rw [h] at e;have:=Option.some.inj e;omega
  ·rw [h] at e;exact st.ne e
 have mv3:Mv a v S v' S3:=⟨by omega,fun y hy hya hyv=>by rw [keep3 y (by omega) (by omega) hyv];exact mv2.keep y hy hya hyv,fun y hy=>by
  rcases bk3 with h | h
  ·rw [h] at hy;have:=Option.some.inj hy;exact .inr (by omega)
  ·rw [h] at hy;exact .inl hy⟩
 have ra3:aI S3 a 0=.ok (6,[s.cells v]):=aX mK.row (keep3 a (by omega) (by omega) st.ne)
 have r03:aI S3 S.next 0=.ok (12,[q.enc]):=aX (aO S1.next S1.heap S.next 0 12 [q.enc]) (keep3 S.next (by omega) (by omega) (st.new (Nat.le_refl _)))
 have r13:aI S3 (S.next+1) 0=.ok (3,[[.int .i64 0,.int .i64 0,.int .i64 0]]):=aX (aU (n:=S1.next) (m:=S1.next) (b:=.row 0 12 [q.enc]) (by omega) r1) (keep3 (S.next+1) (by omega) (by omega) (st.new (Nat.le_succ _)))
 have hm:s.posted.map Posted.enc++[q.enc]=(s.posted++[q]).map Posted.enc:=by rw [List.map_append];rfl
 rw [hm] at own3
 have o1:=own3.one
 have o2:=own3.cells
 have zz:(S.next=a)=False:=by simp;omega
 have zy:(a=S.next)=False:=by simp;omega
 have zx:(S.next+1=a)=False:=by simp;omega
 have zw:(a=S.next+1)=False:=by simp;omega
 have zv:(S.next+1=S.next)=False:=by simp
 have zu:(S.next=S.next+1)=False:=by simp
 rw [hqe] at q1 r03
 simp only [State.cells] at ra3
 simp only [kk,r0,gm,iL,zz,zy,zx,zw,ra]
 dsimp only at q1
 simp only [q1,kk,ra3,o1,o2,gm,iL,zz,zy,zx,zw,zv,zu,r03,r13,r1]
 have key:=H ⟨S3.next,(((S3.heap.put a (.row 0 6 [({ s with ser:=(dB s.ser name).1 }:State).cells v])).put a (.row 0 6 [({ s with ser:=(dB s.ser name).1,book:=(cY s.book (eH p.total).1).1 }:State).cells v])).put a (.row 0 6 [({ s with ser:=(dB s.ser name).1,book:=(cY s.book (eH p.total).1).1,posted:=s.posted++[q] }:State).cells v'])).put (S.next+1) (.row 0 3 [[.int .i64 0,.int .i64 (dB s.ser name).2.1,.int .i64 p.total.gross]])⟩ v' ?_ ?_
 ·rw [hiss] at key
  exact key
 ·rw [hiss]
  have ka:∀ (h:Tr Blk) (b:Blk),∀ y,AM.blkOf v'=some y→(h.put a b).get y=h.get y:=fun h b y hy=>Tr.get_put_neB _ _ _ _ trivial (fun e=>hn' (by rw [←e];exact hy))
  have kn:AM.blkOf v'≠some (S.next+1):=fun e=>by
   rcases bk3 with h | h
   ·rw [h] at e;have:=Option.some.inj e;omega
   ·rw [h] at e;have:=hbv _ e;omega
  have ow:Own E0 ⟨S3.next,((S3.heap.put a (.row 0 6 [({ s with ser:=(dB s.ser name).1 }:State).cells v])).put a (.row 0 6 [({ s with ser:=(dB s.ser name).1,book:=(cY s.book (eH p.total).1).1 }:State).cells v])).put a (.row 0 6 [({ s with ser:=(dB s.ser name).1,book:=(cY s.book (eH p.total).1).1,posted:=s.posted++[q] }:State).cells v'])⟩ 12 v' ((s.posted++[q]).map Posted.enc):=own3.same (Nat.le_refl _) fun y hy=>by
   show ((((S3.heap.put a _).put a _).put a _).get y)=_
   rw [ka _ _ y hy,ka _ _ y hy,ka _ _ y hy]
  have hs:StAt ⟨S3.next,((S3.heap.put a (.row 0 6 [({ s with ser:=(dB s.ser name).1 }:State).cells v])).put a (.row 0 6 [({ s with ser:=(dB s.ser name).1,book:=(cY s.book (eH p.total).1).1 }:State).cells v])).put a (.row 0 6 [({ s with ser:=(dB s.ser name).1,book:=(cY s.book (eH p.total).1).1,posted:=s.posted++[q] }:State).cells v'])⟩ a { s with ser:=(dB s.ser name).1,book:=(cY s.book (eH p.total).1).1,posted:=s.posted++[q] } v':=
   ⟨aO _ _ _ _ _ _,ow,hJ (n:=S3.next) (hJ (n:=S3.next) (hJ (n:=S3.next) w3 (by omega) (Nat.le_refl _)) (by omega) (Nat.le_refl _)) (by omega) (Nat.le_refl _),hn'⟩
  exact hs.put (k:=S.next+1) (m:=S3.next) (by omega) kn (by omega) (Nat.le_refl _)
 ·exact (((mv3.put (m:=S3.next) (.inl rfl) (Nat.le_refl _)).put (m:=S3.next) (.inl rfl) (Nat.le_refl _)).put (m:=S3.next) (.inl rfl) (Nat.le_refl _)).put (m:=S3.next) (.inr (Nat.le_succ _)) (Nat.le_refl _)
end Go.Proofs.YtoaibmbldmckaaaGreat
end
section
namespace Go.Proofs.YtoaibmbldmckaaaGreat
open Go.AM Tryz
theorem aAh {S:St} {a:Nat} {s:State} {v:V} (st:StAt S a s v) (n m:Nat) (x y:List V):∃ S1:St,S1=⟨S.next+1+1,(S.heap.put S.next (.row 0 n [x])).put (S.next+1) (.row 0 m [y])⟩∧S.next+1+1=S1.next∧(S.heap.put S.next (.row 0 n [x])).put (S.next+1) (.row 0 m [y])=S1.heap∧S1.next=S.next+2∧StAt S1 a s v∧Mv a v S v S1∧aI S1 S.next 0=.ok (n,[x])∧aI S1 (S.next+1) 0=.ok (m,[y]):=by
 have ha:=st.lt
 exact ⟨_,rfl,rfl,rfl,rfl,(st.put (k:=S.next) (m:=S.next+1) (by omega) (st.new (Nat.le_refl _)) (by omega) (by omega)).put (by omega) (st.new (by omega)) (by omega) (Nat.le_succ _),((Mv.refl a v S).put (k:=S.next) (m:=S.next+1) (.inr (Nat.le_refl _)) (by omega)).put (.inr (by omega)) (Nat.le_succ _),
  aU (n:=S.next+1) (by omega) (aO _ _ _ _ _ _),aO _ _ _ _ _ _⟩
theorem bPl {S:St} {a:Nat} {s:State} {v:V} (st:StAt S a s v) (c:Cmd) (hl:c.lines.length<1000000) (hb:s.book.length<900000) {K:KW}
  (H:∀ S' v',StAt S' a (mE s c).1 v'→Mv a v S v' S'→K (.agg [.int .i64 (mE s c).2.why,.int .i64 (mE s c).2.number,.int .i64 (mE s c).2.gross]) S'):
  C 180 [.ptr a 0 0 0,.agg [.int .i64 c.kind,.str c.series,.int .i64 c.limit,.str c.row.cat,.int .i64 c.row.day.y,.int .i64 c.row.day.m,.int .i64 c.row.day.d,.int .i64 c.row.bp,.int .i64 c.day.y,.int .i64 c.day.m,.int .i64 c.day.d,.imm (c.lines.map Line.enc),.str c.of.ser,.int .i64 c.of.num,.int .i64 c.session]] S K:=by
 refine bM6 ?_
 have ha:=st.lt
 obtain ⟨S1,hS1,hnx,hhp,n1,st1,mv1,r0,r1⟩:=aAh st 15 3 [.int .i64 c.kind,.str c.series,.int .i64 c.limit,.str c.row.cat,.int .i64 c.row.day.y,.int .i64 c.row.day.m,.int .i64 c.row.day.d,.int .i64 c.row.bp,.int .i64 c.day.y,.int .i64 c.day.m,.int .i64 c.day.d,.imm (c.lines.map Line.enc),.str c.of.ser,.int .i64 c.of.num,.int .i64 c.session] [.int .i64 0,.int .i64 0,.int .i64 0]
 have ra:=st1.row
 simp only [State.cells] at ra
 have e1:(S.next=S1.next+12)=False:=by simp;omega
 have e2:(S.next+1=S1.next+12)=False:=by simp;omega
 simp only [aTu,kk,hnx,hhp,gm,ra,r0,bPa s.table c.day c.lines hl,aK2,iL,e1,e2,r1,lK,gm]
 obtain ⟨S2,hS2⟩:∃ S2:St,S2=⟨S1.next+15,(S1.heap.put (S1.next+12) (.row 0 4 [[.int .i64 0,.int .i64 0,.int .i64 0,.nils]])).put (S1.next+12) (.row 0 4 [[.int .i64 (dL s.table c.day c.lines).1.net,.int .i64 (dL s.table c.day c.lines).1.tax,.int .i64 (dL s.table c.day c.lines).1.gross,.imm ((dL s.table c.day c.lines).1.parts.map Part.enc)]])⟩:=⟨_,rfl⟩
 have mK:StAt S2 a s v:=by
  rw [hS2]
  exact (st1.put (k:=S1.next+12) (m:=S1.next+15) (by omega) (st.new (by omega)) (by omega) (by omega)).put (by omega) (st.new (by omega)) (by omega) (Nat.le_refl _)
 have mv2:Mv a v S v S2:=by
  rw [hS2]
  exact (mv1.put (k:=S1.next+12) (m:=S1.next+15) (.inr (by omega)) (by omega)).put (.inr (by omega)) (Nat.le_refl _)
 have n2:S2.next=S1.next+15:=by rw [hS2]
 have r12:aI S2 (S.next+1) 0=.ok (3,[[.int .i64 0,.int .i64 0,.int .i64 0]]):=by
  rw [hS2];exact aU (n:=S1.next+15) (by omega) (aU (n:=S1.next) (by omega) r1)
 rw [←hS2]
 by_cases h:(dL s.table c.day c.lines).2=0
 ·have hbm:mE s c=bO s c.series ⟨Ref.zero,c.day,(dL s.table c.day c.lines).1,Ref.zero,false⟩:=by simp only [mE,h,ne_eq,not_true_eq_false,if_false]
  rw [hbm] at H
  simp only [h,kk,not_true_eq_false,if_false]
  refine bG1 mK c.series ⟨Ref.zero,c.day,(dL s.table c.day c.lines).1,Ref.zero,false⟩ (uD h) hb fun S3 v3 st3 mv3=>?_
  have n3:=mv3.next
  have r13:=aX r12 (mv3.keep (S.next+1) (by omega) (by omega) (st.new (Nat.le_succ _)))
  simp only [kk,r13]
  have hv3:AM.blkOf v3≠some (S.next+1):=fun e=>by
   rcases mv3.fresh _ e with q | q
   ·exact st.new (Nat.le_succ _) q
   ·omega
  exact H _ v3 (st3.put (k:=S.next+1) (m:=S3.next) (by omega) hv3 (by omega) (Nat.le_refl _)) ((mv2.trans mv3).put (.inr (Nat.le_succ _)) (Nat.le_refl _))
 ·have hbm:mE s c=(s,why (dL s.table c.day c.lines).2):=by simp only [mE,h,ne_eq,not_false_eq_true,if_true]
  rw [hbm] at H
  simp only [h,kk,not_false_eq_true,if_true]
  have:=H ⟨S2.next,S2.heap.put (S.next+1) (.row 0 3 [[.int .i64 (dL s.table c.day c.lines).2,.int .i64 0,.int .i64 0]])⟩ v (mK.put (by omega) (st.new (by omega)) (by omega) (Nat.le_refl _)) (mv2.put (.inr (Nat.le_succ _)) (Nat.le_refl _))
  subst hS2
  exact this
theorem bG2 {S:St} {a:Nat} {s:State} {v:V} (st:StAt S a s v) (l:List Ser) (w:Int) {K:KW}
  (H:∀ S' v',StAt S' a (gA s (l,w)).1 v'→Mv a v S v' S'→K (.agg [.int .i64 (gA s (l,w)).2.why,.int .i64 (gA s (l,w)).2.number,.int .i64 (gA s (l,w)).2.gross]) S'):C 176 [.ptr a 0 0 1,.imm (l.map Ser.enc),.int .i64 w] S K:=by
 refine bLy ?_
 have ha:=st.lt
 have st1:=st.put (k:=S.next) (m:=S.next+1) (b:=.row 0 3 [[.int .i64 0,.int .i64 0,.int .i64 0]]) (by omega) (st.new (Nat.le_refl _)) (by omega) (by omega)
 have mv1:=(Mv.refl a v S).put (k:=S.next) (m:=S.next+1) (b:=.row 0 3 [[.int .i64 0,.int .i64 0,.int .i64 0]]) (.inr (Nat.le_refl _)) (by omega)
 have ra:=st1.row
 simp only [State.cells] at ra
 have z:(S.next=a)=False:=by simp;omega
 by_cases h:w=0
 ·subst h
  simp only [aPm,kk,lK,ra,iL,z,if_true]
  simp only [gA,if_true,why] at H
  exact H _ v ((st1.set (s':={ s with ser:=l }) rfl).put (k:=S.next) (m:=S.next+1) (by omega) (st.new (Nat.le_refl _)) (by omega) (Nat.le_refl _)) ((mv1.put (k:=a) (m:=S.next+1) (.inl rfl) (Nat.le_refl _)).put (.inr (Nat.le_refl _)) (Nat.le_refl _))
 ·simp only [aPm,kk,lK,ra,iL,z,h,if_false]
  simp only [gA,h,if_false,why] at H
  exact H _ v (st1.put (k:=S.next) (m:=S.next+1) (by omega) (st.new (Nat.le_refl _)) (by omega) (Nat.le_refl _)) (mv1.put (.inr (Nat.le_refl _)) (Nat.le_refl _))
theorem bPm {S:St} {a:Nat} {s:State} {v:V} (st:StAt S a s v) (l:List Rate) (w:Int) {K:KW}
  (H:∀ S' v',StAt S' a (kI s (l,w)).1 v'→Mv a v S v' S'→K (.agg [.int .i64 (kI s (l,w)).2.why,.int .i64 (kI s (l,w)).2.number,.int .i64 (kI s (l,w)).2.gross]) S'):C 179 [.ptr a 0 0 0,.imm (l.map Rate.enc),.int .i64 w] S K:=by
 refine bM4 ?_
 have ha:=st.lt
 have st1:=st.put (k:=S.next) (m:=S.next+1) (b:=.row 0 3 [[.int .i64 0,.int .i64 0,.int .i64 0]]) (by omega) (st.new (Nat.le_refl _)) (by omega) (by omega)
 have mv1:=(Mv.refl a v S).put (k:=S.next) (m:=S.next+1) (b:=.row 0 3 [[.int .i64 0,.int .i64 0,.int .i64 0]]) (.inr (Nat.le_refl _)) (by omega)
 have ra:=st1.row
 simp only [State.cells] at ra
 have z:(S.next=a)=False:=by simp;omega
 by_cases h:w=0
 ·subst h
  simp only [aPn,kk,lK,ra,iL,z,if_true]
  simp only [kI,if_true,why] at H
  exact H _ v ((st1.set (s':={ s with table:=l }) rfl).put (k:=S.next) (m:=S.next+1) (by omega) (st.new (Nat.le_refl _)) (by omega) (Nat.le_refl _)) ((mv1.put (k:=a) (m:=S.next+1) (.inl rfl) (Nat.le_refl _)).put (.inr (Nat.le_refl _)) (Nat.le_refl _))
 ·simp only [aPn,kk,lK,ra,iL,z,h,if_false]
  simp only [kI,h,if_false,why] at H
  exact H _ v (st1.put (k:=S.next) (m:=S.next+1) (by omega) (st.new (Nat.le_refl _)) (by omega) (Nat.le_refl _)) (mv1.put (.inr (Nat.le_refl _)) (Nat.le_refl _))
theorem bPn {S:St} {a:Nat} {s:State} {v:V} (st:StAt S a s v) (l:List Sess) (w:Int) {K:KW}
  (H:∀ S' v',StAt S' a (iB s (l,w)).1 v'→Mv a v S v' S'→K (.agg [.int .i64 (iB s (l,w)).2.why,.int .i64 (iB s (l,w)).2.number,.int .i64 (iB s (l,w)).2.gross]) S'):C 183 [.ptr a 0 0 4,.imm (l.map Sess.enc),.int .i64 w] S K:=by
 refine bMc ?_
 have ha:=st.lt
 have st1:=st.put (k:=S.next) (m:=S.next+1) (b:=.row 0 3 [[.int .i64 0,.int .i64 0,.int .i64 0]]) (by omega) (st.new (Nat.le_refl _)) (by omega) (by omega)
 have mv1:=(Mv.refl a v S).put (k:=S.next) (m:=S.next+1) (b:=.row 0 3 [[.int .i64 0,.int .i64 0,.int .i64 0]]) (.inr (Nat.le_refl _)) (by omega)
 have ra:=st1.row
 simp only [State.cells] at ra
 have z:(S.next=a)=False:=by simp;omega
 by_cases h:w=0
 ·subst h
  simp only [aPo,kk,lK,ra,iL,z,if_true]
  simp only [iB,if_true,why] at H
  exact H _ v ((st1.set (s':={ s with sess:=l }) rfl).put (k:=S.next) (m:=S.next+1) (by omega) (st.new (Nat.le_refl _)) (by omega) (Nat.le_refl _)) ((mv1.put (k:=a) (m:=S.next+1) (.inl rfl) (Nat.le_refl _)).put (.inr (Nat.le_refl _)) (Nat.le_refl _))
 ·simp only [aPo,kk,lK,ra,iL,z,h,if_false]
  simp only [iB,h,if_false,why] at H
  exact H _ v (st1.put (k:=S.next) (m:=S.next+1) (by omega) (st.new (Nat.le_refl _)) (by omega) (Nat.le_refl _)) (mv1.put (.inr (Nat.le_refl _)) (Nat.le_refl _))
theorem bPo {S:St} {a:Nat} {s:State} {v:V} (st:StAt S a s v) (name:List UInt8) (h1:s.ser.length<1000000) (h2:s.book.length<1000000) {K:KW}
  (H:∀ S',StAt S' a s v→Mv a v S v S'→K (.agg [.int .i64 (aHs s name).why,.int .i64 (aHs s name).number,.int .i64 (aHs s name).gross]) S'):C 184 [.ptr a 0 0 0,.str name] S K:=by
 refine bMe ?_
 have ha:=st.lt
 obtain ⟨f,hf⟩:∃ f,f=(kC s.ser name).1:=⟨_,rfl⟩
 obtain ⟨S1,hS1,hnx,hhp,n1,st1,mv1,r0,r7⟩:=aAh st 3 4 [.int .i64 0,.int .i64 0,.int .i64 0] [.str [],.int .i64 0,.int .i64 0,.bool false]
 have mK:=st1.put (k:=S.next+1) (m:=S1.next) (b:=.row 0 4 [[.str f.name,.int .i64 f.next,.int .i64 f.limit,.bool f.shut]]) (by omega) (st.new (by omega)) (by omega) (Nat.le_refl _)
 have mv2:=mv1.put (k:=S.next+1) (m:=S1.next) (b:=.row 0 4 [[.str f.name,.int .i64 f.next,.int .i64 f.limit,.bool f.shut]]) (.inr (by omega)) (Nat.le_refl _)
 have ra:=st.row
 have ra2:=mK.row
 simp only [State.cells] at ra ra2
 have z0:(a=S.next)=False:=by simp;omega
 have z1:(a=S.next+1)=False:=by simp;omega
 have z2:(S.next=S.next+1)=False:=by simp
 simp only [aU1,kk,iL,z0,gm,ra,bOw s.ser name h1,←hf,hnx,hhp,lK,z2,r0]
 cases c:(kC s.ser name).2
 ·simp only [c,kk,if_true,lK,iL,z2,gm,r0]
  simp only [aHs,c,if_true] at H
  exact H _ (mK.put (k:=S.next) (m:=S1.next) (by omega) (st.new (by omega)) (by show S.next<S1.next;omega) (Nat.le_refl _)) (mv2.put (.inr (Nat.le_refl _)) (Nat.le_refl _))
 ·simp only [c,kk,Bool.true_eq_false,if_false,iL,z0,z1,gm,ra2]
  simp only [aHs,c,Bool.true_eq_false,if_false,←hf] at H
  have z3:(a=S1.next)=False:=by simp;omega
  have nk1:=st.new (k:=S1.next) (by omega)
  obtain ⟨S3,hS3⟩:∃ S3:St,S3=⟨S1.next+1,((S1.heap.put (S.next+1) (.row 0 4 [[.str f.name,.int .i64 f.next,.int .i64 f.limit,.bool f.shut]])).put S1.next (.row 0 3 [[.int .i64 0,.int .i64 0,.int .i64 0]])).put S1.next (.row 0 3 [[.int .i64 0,.int .i64 (wr .i64 (f.next - 1)),.int .i64 0]])⟩:=⟨_,rfl⟩
  have st3:StAt S3 a s v:=by rw [hS3];exact (mK.put (k:=S1.next) (m:=S1.next+1) (by omega) nk1 (by omega) (Nat.le_succ _)).put (by omega) nk1 (by omega) (Nat.le_refl _)
  have mv3:Mv a v S v S3:=by rw [hS3];exact (mv2.put (k:=S1.next) (m:=S1.next+1) (.inr (by omega)) (Nat.le_succ _)).put (.inr (by omega)) (Nat.le_refl _)
  have r03:aI S3 S.next 0=.ok (3,[[.int .i64 0,.int .i64 0,.int .i64 0]]):=by
   rw [hS3];exact aU (n:=S1.next+1) (by omega) (aU (n:=S1.next) (by omega) (aU (n:=S1.next) (by omega) r0))
  have r13:aI S3 S1.next 0=.ok (3,[[.int .i64 0,.int .i64 (wr .i64 (f.next - 1)),.int .i64 0]]):=by rw [hS3];exact aO _ _ _ _ _ _
  have n3:S3.next=S1.next+1:=by rw [hS3]
  rw [←hS3]
  have ra3:=st3.row
  simp only [State.cells] at ra3
  simp only [ra3,kk]
  refine aZ s.book (step:=wL) (fin:=id) (fun i g vs S'=>vs=[.int .i64 (i:Int)]∧StAt S' a s v∧Mv a v S v S'∧aI S' S.next 0=.ok (3,[[.int .i64 0,.int .i64 0,.int .i64 0]])∧aI S' S1.next 0=.ok (3,[[.int .i64 0,.int .i64 (wr .i64 (f.next - 1)),.int .i64 g]])∧S1.next+1≤S'.next) (fun g=>g=aS wL id s.book 0) ?_ ?_ (s:=0) ⟨rfl,st3,mv3,r03,r13,by omega⟩ rfl
  ·rintro i b g vs S' hi ⟨rfl,st4,mv4,r04,r14,h4⟩ aQ Hq
   have hil:=(List.getElem?_eq_some_iff.1 hi).1
   simp only [wL,aXq] at Hq
   have e0:(S1.next=S'.next)=False:=by simp;omega
   have nk2:=st.new (k:=S'.next) (by omega)
   have st5:=(st4.put (k:=S'.next) (m:=S'.next+1) (b:=.row 0 2 [[.str [],.int .i64 0]]) (by omega) nk2 (by omega) (Nat.le_succ _)).put (k:=S'.next) (m:=S'.next+1) (b:=.row 0 2 [[.str b.acc,.int .i64 b.amount]]) (by omega) nk2 (by omega) (Nat.le_refl _)
   have mv5:=(mv4.put (k:=S'.next) (m:=S'.next+1) (b:=.row 0 2 [[.str [],.int .i64 0]]) (.inr (by omega)) (Nat.le_succ _)).put (k:=S'.next) (m:=S'.next+1) (b:=.row 0 2 [[.str b.acc,.int .i64 b.amount]]) (.inr (by omega)) (Nat.le_refl _)
   have r05:∀ m x y,aI ⟨m,(S'.heap.put S'.next x).put S'.next y⟩ S.next 0=.ok (3,[[.int .i64 0,.int .i64 0,.int .i64 0]]):=fun m x y=>aU (n:=S'.next) (by omega) (aU (n:=S'.next) (by omega) r04)
   have r15:∀ m x y,aI ⟨m,(S'.heap.put S'.next x).put S'.next y⟩ S1.next 0=.ok (3,[[.int .i64 0,.int .i64 (wr .i64 (f.next - 1)),.int .i64 g]]):=fun m x y=>aU (n:=S'.next) (by omega) (aU (n:=S'.next) (by omega) r14)
   simp only [aFk,kk,dK hi,aDk hi,Bal.enc,r15,mO (show i<1000000000 by omega)]
   by_cases c:(b.acc == [111,119,101,100])=true
   ·simp only [c,kk,if_true] at Hq ⊢
    exact Hq _ _ ⟨rfl,st5.put (k:=S1.next) (m:=S'.next+1) (by omega) nk1 (by omega) (Nat.le_refl _),mv5.put (k:=S1.next) (m:=S'.next+1) (.inr (by omega)) (Nat.le_refl _),aU (n:=S'.next+1) (by omega) (r05 _ _ _),aO _ _ _ _ _ _,by show _≤S'.next+1;omega⟩
   ·simp only [c,kk,if_false] at Hq ⊢
    exact Hq _ _ ⟨rfl,st5,mv5,r05 _ _ _,r15 _ _ _,by show _≤S'.next+1;omega⟩
  ·rintro g vs S' ⟨rfl,st4,mv4,r04,r14,h4⟩ aQ Hq
   have Hq:g=aS wL id s.book 0:=Hq
   simp only [aFk,kk,Int.lt_irrefl,if_false,r14,r04]
   rw [←Hq] at H
   exact H _ (st4.put (k:=S.next) (m:=S'.next) (by omega) (st.new (Nat.le_refl _)) (by omega) (Nat.le_refl _)) (mv4.put (.inr (Nat.le_refl _)) (Nat.le_refl _))
end Go.Proofs.YtoaibmbldmckaaaGreat
end
section
namespace Go.AM
theorem Own.fv {S0 S:St} {n:Nat} {v:V} {α:Type} {enc:α→List V} {l:List α} (h:Own S0 S n v (l.map enc)) (hc:∀ x,cloVs (enc x)=true) (bs:List V) (hb:cloVs bs=true):frzVs lX (oS (kA S 3) S) (v::bs)=.ok (.imm (l.map enc)::bs):=by
 simp only [frzVs,h.out hc,clo_frzs bs hb]
end Go.AM
namespace Go.Proofs.YtoaibmbldmckaaaGreat
open Go.AM Tryz
set_option linter.unusedVariables false
set_option linter.unusedSimpArgs false
set_option maxRecDepth 100000
theorem bPp {S0 S:St} {v:V} {l:List Posted} (h:Own S0 S 12 v (l.map Posted.enc)) (r:Ref) (hb:l.length<1000000) (K:KW):C 168 [v,.agg [.str r.ser,.int .i64 r.num]] S K=K (.int .i64 (cK l r)) S:=
 (bFv l r hb).frz bEe rfl (h.fv (fun _=>rfl) _ rfl) (by simp only [ptrsVs,h.ptrs];rfl) (.inl rfl) K
theorem bPq {S:St} {a:Nat} {s:State} {v:V} (st:StAt S a s v) (c:Cmd) (hp:s.posted.length<900000) (hq:∀ p∈s.posted,aNj p.total) (hb:s.book.length<900000) {K:KW}
  (H:∀ S' v',StAt S' a (eX s c).1 v'→Mv a v S v' S'→K (.agg [.int .i64 (eX s c).2.why,.int .i64 (eX s c).2.number,.int .i64 (eX s c).2.gross]) S'):
  C 181 [.ptr a 0 0 0,.agg [.int .i64 c.kind,.str c.series,.int .i64 c.limit,.str c.row.cat,.int .i64 c.row.day.y,.int .i64 c.row.day.m,.int .i64 c.row.day.d,.int .i64 c.row.bp,.int .i64 c.day.y,.int .i64 c.day.m,.int .i64 c.day.d,.imm (c.lines.map Line.enc),.str c.of.ser,.int .i64 c.of.num,.int .i64 c.session]] S K:=by
 refine bM8 ?_
 have ha:=st.lt
 obtain ⟨S1,hS1,hnx,hhp,n1,st1,mv1,r0,r1⟩:=aAh st 15 3 [.int .i64 c.kind,.str c.series,.int .i64 c.limit,.str c.row.cat,.int .i64 c.row.day.y,.int .i64 c.row.day.m,.int .i64 c.row.day.d,.int .i64 c.row.bp,.int .i64 c.day.y,.int .i64 c.day.m,.int .i64 c.day.d,.imm (c.lines.map Line.enc),.str c.of.ser,.int .i64 c.of.num,.int .i64 c.session] [.int .i64 0,.int .i64 0,.int .i64 0]
 have ra:=st1.row
 simp only [State.cells] at ra
 have h168:=bPp (st1.bump 8).own c.of (show s.posted.length<1000000 by omega)
 simp only [aTw,kk,hnx,hhp,gm,ra,r0,h168,lK,r1]
 have hfail:∀ (S2:St) (w:Int),StAt S2 a s v→Mv a v S v S2→S1.next≤S2.next→eX s c=(s,why w)→K (.agg [.int .i64 w,.int .i64 0,.int .i64 0]) ⟨S2.next,S2.heap.put (S.next+1) (.row 0 3 [[.int .i64 w,.int .i64 0,.int .i64 0]])⟩:=by
  intro S2 w mK mv2 hn hw
  have:=H _ v (by rw [hw];exact mK.put (k:=S.next+1) (m:=S2.next) (b:=.row 0 3 [[.int .i64 w,.int .i64 0,.int .i64 0]]) (by omega) (st.new (by omega)) (by omega) (Nat.le_refl _)) (mv2.put (.inr (by omega)) (Nat.le_refl _))
  rw [hw] at this
  exact this
 rcases lJ s.posted c.of with hk | ⟨k,p,hk,hkp,_⟩
 ·simp only [hk,show (-1:Int)<0 by decide,kk,if_true]
  exact hfail ⟨S1.next+8,S1.heap⟩ 11 (st1.bump 8) (mv1.bump 8) (Nat.le_add_right _ _) (by simp only [eX,hk];rfl)
 have hkl:=(List.getElem?_eq_some_iff.1 hkp).1
 have hcm:eX s c=fP s c k p:=by
  have:s.posted.getD k Posted.zero=p:=by rw [List.getD_eq_getElem?_getD,hkp];rfl
  simp only [eX,hk,show ¬ (k:Int)<0 by omega,if_false,Int.toNat_natCast,this]
 have hfp:=hq p (List.mem_of_getElem? hkp)
 have hf12:=hfp.1
 have hkp':(s.posted.map Posted.enc)[k]?=some p.enc:=by rw [List.getElem?_map,hkp];rfl
 obtain ⟨va,ver,hv,_,hvb,hpp,_,_⟩:=(st1.bump 8).own.setK (aCk (st1.bump 8).wf) oU hkp' .i64
 have hld:=(st1.bump 8).own.ld hv hkp' (some 12) 0
 simp only [kk,Posted.enc] at hld
 have nkb:=st.new (k:=S1.next+8) (by omega)
 obtain ⟨S2,hS2⟩:∃ S2:St,S2=⟨S1.next+8+1,(S1.heap.put (S1.next+8) (.row 0 12 [zW])).put (S1.next+8) (.row 0 12 [p.enc])⟩:=⟨_,rfl⟩
 have mK:StAt S2 a s v:=by rw [hS2];exact (st1.put (k:=S1.next+8) (m:=S1.next+8+1) (by omega) nkb (by omega) (by omega)).put (by omega) nkb (by omega) (Nat.le_refl _)
 have mv2:Mv a v S v S2:=by rw [hS2];exact (mv1.put (k:=S1.next+8) (m:=S1.next+8+1) (.inr (by omega)) (by omega)).put (.inr (by omega)) (Nat.le_refl _)
 have n2:S2.next=S1.next+9:=by rw [hS2]
 have r02:aI S2 S.next 0=aI S1 S.next 0:=by rw [hS2,cX _ S1.next _ _ _ _ _ (by omega),cX _ S1.next _ _ _ _ _ (by omega)]
 have r12:aI S2 (S.next+1) 0=aI S1 (S.next+1) 0:=by rw [hS2,cX _ S1.next _ _ _ _ _ (by omega),cX _ S1.next _ _ _ _ _ (by omega)]
 have rp2:aI S2 (S1.next+8) 0=.ok (12,[p.enc]):=by rw [hS2];exact aO _ _ _ _ _ _
 rw [r0] at r02
 rw [r1] at r12
 simp only [zW,Posted.enc] at hS2
 simp only [Posted.enc] at rp2
 simp only [hk,show ¬ (k:Int)<0 by omega,kk,if_false,hpp,hld,gm,ra,←hS2,rp2,r02,r12,lK,zX,aPx,bFt p.total (show p.total.parts.length≤1000 by omega),aK2]
 cases d1:p.back
 rotate_left
 ·simp only [d1,kk,if_true]
  exact hfail S2 12 mK mv2 (by omega) (by rw [hcm];simp only [fP,d1,if_true])
 by_cases d2:p.of.ser=[]∧p.of.num=0
 rotate_left
 ·have d2n:¬ p.of=Ref.zero:=by rw [Ref.ext_iff];exact d2
  have d2':(!(p.of.ser == []&&decide (p.of.num=0)))=true:=by
   cases h:(p.of.ser == []&&decide (p.of.num=0)) with
   | false=>rfl
   | true=>exact absurd (by simpa using h) d2
  simp only [d1,d2',kk,if_true,Bool.false_eq_true,if_false]
  exact hfail S2 12 mK mv2 (by omega) (by rw [hcm];simp only [fP,d1,Bool.false_eq_true,if_false,d2n])
 have d2z:p.of=Ref.zero:=by rw [Ref.ext_iff];exact d2
 have d2':(p.of.ser == []&&decide (p.of.num=0))=true:=by simpa using d2
 simp only [d1,d2',kk,Bool.false_eq_true,if_false]
 cases d3:c.day.right
 ·simp only [d3,kk,if_true]
  exact hfail S2 9 mK mv2 (by omega) (by rw [hcm];simp only [fP,d1,d2z,d3,Bool.false_eq_true,if_false,if_true])
 cases d4:c.day.before p.day
 rotate_left
 ·simp only [d3,d4,kk,Bool.false_eq_true,if_false,if_true]
  exact hfail S2 9 mK mv2 (by omega) (by rw [hcm];simp only [fP,d1,d2z,d3,d4,Bool.false_eq_true,Bool.true_eq_false,if_false,if_true])
 simp only [d3,d4,kk,Bool.false_eq_true,if_false]
 have nk2:=st.new (k:=S2.next) (by omega)
 obtain ⟨S3,hS3⟩:∃ S3:St,S3=⟨S2.next+1,(S2.heap.put S2.next (.row 0 4 [[.int .i64 0,.int .i64 0,.int .i64 0,.nils]])).put S2.next (.row 0 4 [[.int .i64 (bU p.total).1.net,.int .i64 (bU p.total).1.tax,.int .i64 (bU p.total).1.gross,.imm ((bU p.total).1.parts.map Part.enc)]])⟩:=⟨_,rfl⟩
 have st3:StAt S3 a s v:=by rw [hS3];exact (mK.put (k:=S2.next) (m:=S2.next+1) (by omega) nk2 (by omega) (Nat.le_succ _)).put (by omega) nk2 (by omega) (Nat.le_refl _)
 have mv3:Mv a v S v S3:=by rw [hS3];exact (mv2.put (k:=S2.next) (m:=S2.next+1) (.inr (by omega)) (Nat.le_succ _)).put (.inr (by omega)) (Nat.le_refl _)
 have n3:S3.next=S2.next+1:=by rw [hS3]
 have r03:=aU (n:=S2.next+1) (m:=S2.next+1) (a:=S2.next) (b:=.row 0 4 [[.int .i64 (bU p.total).1.net,.int .i64 (bU p.total).1.tax,.int .i64 (bU p.total).1.gross,.imm ((bU p.total).1.parts.map Part.enc)]]) (by omega) (aU (n:=S2.next) (m:=S2.next+1) (a:=S2.next) (b:=.row 0 4 [[.int .i64 0,.int .i64 0,.int .i64 0,.nils]]) (by omega) r02)
 have r13:=aU (n:=S2.next+1) (m:=S2.next+1) (a:=S2.next) (b:=.row 0 4 [[.int .i64 (bU p.total).1.net,.int .i64 (bU p.total).1.tax,.int .i64 (bU p.total).1.gross,.imm ((bU p.total).1.parts.map Part.enc)]]) (by omega) (aU (n:=S2.next) (m:=S2.next+1) (a:=S2.next) (b:=.row 0 4 [[.int .i64 0,.int .i64 0,.int .i64 0,.nils]]) (by omega) r12)
 have rb3:aI S3 S2.next 0=.ok (4,[[.int .i64 (bU p.total).1.net,.int .i64 (bU p.total).1.tax,.int .i64 (bU p.total).1.gross,.imm ((bU p.total).1.parts.map Part.enc)]]):=by rw [hS3];exact aO _ _ _ _ _ _
 simp only [←hS3] at r03 r13 ⊢
 by_cases d5:(bU p.total).2=0
 rotate_left
 ·simp only [d5,kk,r13,not_false_eq_true,if_true]
  have:=hfail S3 (bU p.total).2 st3 mv3 (by omega) (by rw [hcm];simp only [fP,d1,d2z,d3,d4,d5,Bool.false_eq_true,Bool.true_eq_false,if_false,if_true,ne_eq,not_false_eq_true])
  subst hS3
  exact this
 simp only [d5,kk,r03,rb3,not_true_eq_false,if_false]
 obtain ⟨q,hqq⟩:∃ q:Posted,q=⟨Ref.zero,c.day,(bU p.total).1,c.of,false⟩:=⟨_,rfl⟩
 have hcq:eX s c=if (bO s c.series q).2.why=0 then ({ (bO s c.series q).1 with posted:=fI (bO s c.series q).1.posted k },(bO s c.series q).2) else bO s c.series q:=by
  rw [hcm];simp only [fP,d1,d2z,d3,d4,d5,←hqq,Bool.false_eq_true,Bool.true_eq_false,if_false,if_true,ne_eq,not_true_eq_false]
 have hfq:aNj q.total:=by rw [hqq];exact aNe hfp d5
 rw [hcq] at H
 have h239:=@bG1 S3 a s v st3 c.series q hfq hb
 obtain ⟨s',hs'⟩:∃ s',s'=(bO s c.series q).1:=⟨_,rfl⟩
 obtain ⟨r,hr⟩:∃ r,r=(bO s c.series q).2:=⟨_,rfl⟩
 obtain ⟨lx,hlx⟩:=aG6 s c.series q
 have hiq:bO s c.series q=(s',r):=by rw [hs',hr]
 simp only [hiq] at H h239 hlx
 rw [hqq] at h239
 refine h239 fun S4 v4 st4 mv4=>?_
 have n4:=mv4.next
 have hv4:∀ y,y<S3.next→AM.blkOf v≠some y→AM.blkOf v4≠some y:=fun y h1 h2 e=>by
  rcases mv4.fresh y e with h | h
  ·exact h2 h
  ·omega
 have hv4S:AM.blkOf v4≠some S4.next:=fun e=>by have:=(dS st4.own e).2;omega
 have ha4:=st4.lt
 obtain ⟨S5,hS5⟩:∃ S5:St,S5=⟨S4.next+1,(S4.heap.put S4.next (.row 0 3 [[.int .i64 0,.int .i64 0,.int .i64 0]])).put S4.next (.row 0 3 [[.int .i64 r.why,.int .i64 r.number,.int .i64 r.gross]])⟩:=⟨_,rfl⟩
 have n5:S5.next=S4.next+1:=by rw [hS5]
 have st5:StAt S5 a s' v4:=by rw [hS5];exact (st4.put (k:=S4.next) (m:=S4.next+1) (by omega) hv4S (by omega) (Nat.le_succ _)).put (by omega) hv4S (by omega) (Nat.le_refl _)
 have mv5:Mv a v S v4 S5:=by rw [hS5];exact ((mv3.trans mv4).put (k:=S4.next) (m:=S4.next+1) (.inr (by omega)) (Nat.le_succ _)).put (.inr (by omega)) (Nat.le_refl _)
 have r14:=aX r13 (mv4.keep (S.next+1) (by omega) (by omega) (st.new (Nat.le_succ _)))
 have r15:aI S5 (S.next+1) 0=.ok (3,[[.int .i64 0,.int .i64 0,.int .i64 0]]):=by rw [hS5];exact aU (n:=S4.next+1) (by omega) (aU (n:=S4.next) (by omega) r14)
 have rr5:aI S5 S4.next 0=.ok (3,[[.int .i64 r.why,.int .i64 r.number,.int .i64 r.gross]]):=by rw [hS5];exact aO _ _ _ _ _ _
 have hv41:=hv4 (S.next+1) (by omega) (st.new (Nat.le_succ _))
 have ra5:=st5.row
 simp only [State.cells] at ra5
 simp only [kk,←hS5,rr5,ra5]
 by_cases d6:r.why=0
 ·simp only [d6,if_true] at H
  have hk4:s'.posted[k]?=some p:=by rw [hlx,List.getElem?_append_left hkl];exact hkp
  have hk5:(s'.posted.map Posted.enc)[k]?=some p.enc:=by rw [List.getElem?_map,hk4];rfl
  obtain ⟨vb,ver5,hv5,_,hvb5,e5,_,set5⟩:=st5.own.setK (aCk st5.wf) oU hk5 .i64
  obtain ⟨S6,q6,x6,n6,own6,keep6,w6⟩:=set5 11 1 (.bool true) rfl rfl (by decide)
  have hblk:AM.blkOf v4=some vb:=by rw [hv5];rfl
  have hes:(s'.posted.map Posted.enc).set k (splice p.enc 11 [.bool true])=(fI s'.posted k).map Posted.enc:=by
   simp only [fI,hk4,List.map_set];rfl
  simp only [V.cells] at own6
  rw [hes] at own6
  have st6:StAt S6 a { s' with posted:=fI s'.posted k } v4:=⟨aX st5.row (keep6 a (fun e=>st5.ne (by rw [hblk,e]))),own6,w6 st5.wf,st5.ne⟩
  have mv6:Mv a v S v4 S6:=⟨by have:=mv5.next;omega,fun y h1 h2 h3=>by
   rw [keep6 y (fun e=>by
    have:=mv5.fresh y (by rw [hblk,e])
    rcases this with h | h
    ·exact h3 h
    ·omega)]
   exact mv5.keep y h1 h2 h3,mv5.fresh⟩
  have rr6:=aX rr5 (keep6 S4.next (fun e=>hv4S (by rw [hblk,e])))
  have r16:=aX r15 (keep6 (S.next+1) (fun e=>hv41 (by rw [hblk,e])))
  simp only [d6,kk,if_true,e5,q6,rr6,r16]
  have:=H _ v4 (st6.put (k:=S.next+1) (m:=S6.next) (b:=.row 0 3 [[.int .i64 r.why,.int .i64 r.number,.int .i64 r.gross]]) (by omega) hv41 (by omega) (Nat.le_refl _)) (mv6.put (.inr (Nat.le_succ _)) (Nat.le_refl _))
  simp only [d6] at this
  exact this
 ·simp only [d6,if_false] at H
  simp only [d6,kk,if_false,r15]
  exact H _ v4 (st5.put (k:=S.next+1) (m:=S5.next) (by omega) hv41 (by omega) (Nat.le_refl _)) (mv5.put (.inr (Nat.le_succ _)) (Nat.le_refl _))
end Go.Proofs.YtoaibmbldmckaaaGreat
end
section
namespace Go.Proofs.YtoaibmbldmckaaaGreat
open Go.AM Tryz
theorem bPr {S:St} {a:Nat} {s:State} {v:V} (st:StAt S a s v) (c:Cmd) (hl:c.lines.length<1000000) (hs:s.ser.length<1000000) (hp:s.posted.length<900000) (hq:∀ p∈s.posted,aNj p.total) (hb:s.book.length<900000) {K:KW}
  (H:∀ S' v',StAt S' a (sV s c).1 v'→Mv a v S v' S'→K (.agg [.int .i64 (sV s c).2.why,.int .i64 (sV s c).2.number,.int .i64 (sV s c).2.gross]) S'):
  C 106 [.ptr a 0 0 0,.agg [.int .i64 c.kind,.str c.series,.int .i64 c.limit,.str c.row.cat,.int .i64 c.row.day.y,.int .i64 c.row.day.m,.int .i64 c.row.day.d,.int .i64 c.row.bp,.int .i64 c.day.y,.int .i64 c.day.m,.int .i64 c.day.d,.imm (c.lines.map Line.enc),.str c.of.ser,.int .i64 c.of.num,.int .i64 c.session]] S K:=by
 refine bKn ?_
 have ha:=st.lt
 obtain ⟨S1,hS1,hnx,hhp,n1,st1,mv1,r0,r1⟩:=aAh st 15 3 [.int .i64 c.kind,.str c.series,.int .i64 c.limit,.str c.row.cat,.int .i64 c.row.day.y,.int .i64 c.row.day.m,.int .i64 c.row.day.d,.int .i64 c.row.bp,.int .i64 c.day.y,.int .i64 c.day.m,.int .i64 c.day.d,.imm (c.lines.map Line.enc),.str c.of.ser,.int .i64 c.of.num,.int .i64 c.session] [.int .i64 0,.int .i64 0,.int .i64 0]
 have ra:=st1.row
 simp only [State.cells] at ra
 have hend:∀ (S2:St) (v2:V) (r:State×Rep),sV s c=r→StAt S2 a r.1 v2→Mv a v S1 v2 S2→K (.agg [.int .i64 r.2.why,.int .i64 r.2.number,.int .i64 r.2.gross]) ⟨S2.next,S2.heap.put (S.next+1) (.row 0 3 [[.int .i64 r.2.why,.int .i64 r.2.number,.int .i64 r.2.gross]])⟩:=by
  rintro S2 v2 r rfl mK mv2
  have n2:=mv2.next
  have hv2:AM.blkOf v2≠some (S.next+1):=fun e=>by
   rcases mv2.fresh _ e with h | h
   ·exact st.new (Nat.le_succ _) h
   ·omega
  exact H _ v2 (mK.put (k:=S.next+1) (m:=S2.next) (by omega) hv2 (by omega) (Nat.le_refl _)) ((mv1.trans mv2).put (.inr (Nat.le_succ _)) (Nat.le_refl _))
 have hr1:∀ (S2:St) (v2:V),Mv a v S1 v2 S2→aI S2 (S.next+1) 0=.ok (3,[[.int .i64 0,.int .i64 0,.int .i64 0]]):=fun S2 v2 mv2=>aX r1 (mv2.keep (S.next+1) (by omega) (by omega) (st.new (Nat.le_succ _)))
 simp only [aSd,kk,hnx,hhp,←hS1,gm,ra,r0]
 by_cases k1:c.kind=1
 ·simp only [k1,kk,if_true,bOx]
  refine bG2 (st1.bump 14) _ _ fun S2 v2 mK mv2=>?_
  have mv2':=((Mv.refl a v S1).bump 14).trans mv2
  simp only [kk,hr1 _ _ mv2']
  exact hend S2 v2 _ (by simp only [sV,k1,if_true]) mK mv2'
 by_cases k2:c.kind=2
 ·simp only [k1,k2,kk,show ¬ (2:Int)=1 by decide,if_true,if_false,bOy]
  refine bG2 (st1.bump 12) _ _ fun S2 v2 mK mv2=>?_
  have mv2':=((Mv.refl a v S1).bump 12).trans mv2
  simp only [kk,hr1 _ _ mv2']
  exact hend S2 v2 _ (by simp only [sV,k2,show ¬ (2:Int)=1 by decide,if_true,if_false]) mK mv2'
 by_cases k3:c.kind=3
 ·simp only [k1,k2,k3,kk,show ¬ (3:Int)=1 by decide,show ¬ (3:Int)=2 by decide,if_true,if_false,bP2]
  refine bPm (st1.bump 12) _ _ fun S2 v2 mK mv2=>?_
  have mv2':=((Mv.refl a v S1).bump 12).trans mv2
  simp only [kk,hr1 _ _ mv2']
  exact hend S2 v2 _ (by simp only [sV,k3,show ¬ (3:Int)=1 by decide,show ¬ (3:Int)=2 by decide,if_true,if_false]) mK mv2'
 by_cases k4:c.kind=4
 ·simp only [k1,k2,k3,kk,if_true,if_false,show (c.kind=4)=True by simp [k4]]
  refine bPl st1 c hl hb fun S2 v2 mK mv2=>?_
  simp only [kk,hr1 _ _ mv2]
  exact hend S2 v2 _ (by simp only [sV,k1,k2,k3,show (c.kind=4)=True by simp [k4],if_true,if_false]) mK mv2
 by_cases k5:c.kind=5
 ·simp only [k1,k2,k3,k4,kk,if_true,if_false,show (c.kind=5)=True by simp [k5]]
  refine bPq st1 c hp hq hb fun S2 v2 mK mv2=>?_
  simp only [kk,hr1 _ _ mv2]
  exact hend S2 v2 _ (by simp only [sV,k1,k2,k3,k4,show (c.kind=5)=True by simp [k5],if_true,if_false]) mK mv2
 by_cases k7:c.kind=7
 ·simp only [k1,k2,k3,k4,k5,kk,if_true,if_false,show (c.kind=7)=True by simp [k7],bOr]
  refine bPn (st1.bump 12) _ _ fun S2 v2 mK mv2=>?_
  have mv2':=((Mv.refl a v S1).bump 12).trans mv2
  simp only [kk,hr1 _ _ mv2']
  exact hend S2 v2 _ (by simp only [sV,k1,k2,k3,k4,k5,show (c.kind=7)=True by simp [k7],if_true,if_false]) mK mv2'
 ·simp only [k1,k2,k3,k4,k5,k7,kk,if_false]
  refine bPo st1 c.series hs (by omega) fun S2 mK mv2=>?_
  simp only [kk,hr1 _ _ mv2]
  exact hend S2 v (s,aHs s c.series) (by simp only [sV,k1,k2,k3,k4,k5,k7,if_false]) mK mv2
end Go.Proofs.YtoaibmbldmckaaaGreat
end
section
namespace Go.AM
theorem Own.frzN {S0 S:St} {n:Nat} {v:V} {es:List (List V)} (h:Own S0 S n v es) (hc:es.all cloVs=true) (k:Nat):dH lX (oS (kA S (k+1)) S) v=.ok (.imm es):=by
 rcases h.is with ⟨rfl,rfl⟩ | ⟨a,ver,tl,rfl,_,_,q⟩
 ·rfl
 ·have he:bQ S (.sl a ver n 0 es.length)=.ok es:=h.sl.elems
  simp only [dH,oS,he,(nZ (S:=S) (n:=k) hc).1]
theorem Own.blks {S0 S:St} {n:Nat} {v:V} {es:List (List V)} (h:Own S0 S n v es) (hc:es.all cloVs=true) (k:Nat) {y:Nat} (hy:y∈gG (lG (iE S (k+1)) S) v):blkOf v=some y:=by
 rcases h.is with ⟨rfl,rfl⟩ | ⟨a,ver,tl,rfl,_,_,q⟩
 ·cases hy
 ·have he:bQ S (.sl a ver n 0 es.length)=.ok es:=h.sl.elems
  simp only [gG,lG,he,(nZ (S:=S) (n:=k) hc).2,List.mem_singleton] at hy
  rw [hy];rfl
theorem aG9 {α β:Type} {φ:α→R β}:∀ {l:List α} {out:List β},l.length=out.length→(∀ (j:Nat) (x:α),l[j]?=some x→∃ y,out[j]?=some y∧φ x=.ok y)→lW φ l=.ok out
 | [],[],_,_=>rfl
 | [],_::_,h,_=>by simp at h
 | _::_,[],h,_=>by simp at h
 | x::l,y::out,h,hx=>by
  obtain ⟨y',h1,h2⟩:=hx 0 x rfl
  cases h1
  simp only [lW,h2,aG9 (l:=l) (out:=out) (by simpa using h) fun j z hz=>hx (j+1) z hz]
theorem aI0 {φ:List V→List Nat} {a:Nat}:∀ {l:List (List V)},a∈mL φ l→∃ x∈l,a∈φ x
 | [],h=>by cases h
 | x::l,h=>by
  rcases List.mem_append.1 h with h | h
  ·exact ⟨x,List.mem_cons_self ..,h⟩
  ·obtain ⟨z,h1,h2⟩:=aI0 h
   exact ⟨z,List.mem_cons_of_mem _ h1,h2⟩
theorem aX5 {l:List Nat} {a:Nat} (h:a ∉ l):(l.any fun b=>iF b [a])=false:=by
 rw [List.any_eq_false]
 intro b hb e
 simp only [iF,Bool.or_false] at e
 exact h (by rw [←Nat.eq_of_beq_eq_true e];exact hb)
theorem copyAt {α:Type} {enc:α→List V} {n b:Nat} (hl:∀ x,(enc x).length=n∧aM (enc x)=true) (l:List α) {S:St} (w:WF S) {k m:Nat} (hk:k<m) (hm:S.next≤m) (h1:l.length*b≤35184372088832) (h2:l.length<eG):
  ∃ v S',cQ n b .nils (.imm (l.map enc)) (some k) ⟨m,S.heap⟩=.ok (v,S')∧WF S'∧S'.next=m∧Own E0 S' n v (l.map enc)∧(∀ y,blkOf v=some y→y=k)∧∀ y,y≠k→S'.heap.get y=S.heap.get y:=by
 have hc:∀ cs,cs∈l.map enc→cs.length=n∧aM cs=true:=fun cs hc=>by obtain ⟨x,_,rfl⟩:=List.mem_map.1 hc;exact hl x
 obtain ⟨a1,a2⟩:=dG hc
 have w1:WF ⟨m,S.heap⟩:=fun a b h=>by have:=w a b h;show a<m;omega
 cases l with
 | nil=>exact ⟨.nils,⟨m,S.heap⟩,rfl,w1,rfl,Own.nil _ _ _,fun y h=>(by cases h),fun _ _=>rfl⟩
 | cons x l=>
  refine ⟨.sl k 0 n 0 (l.length+1),⟨m,S.heap.put k (.row 0 n ((x::l).map enc))⟩,?_,hJ w1 hk (Nat.le_refl _),rfl,⟨.inr ⟨k,0,[],by simp,Nat.zero_le _,hk,?_⟩,hc⟩,fun y h=>(by cases h;rfl),fun y hy=>Tr.get_put_neB _ _ _ _ trivial hy⟩
  ·simp only [cQ,bQ]
   rw [if_pos ⟨a1,a2⟩]
   simp only [List.map_cons,List.length_cons,List.length_map,lM] at h1 h2 ⊢
   rw [if_pos ⟨h1,h2⟩]
  ·rw [List.append_nil];exact Tr.get_put_sameB _ _ _ trivial
theorem aX6 {S2 S:St} {v1 v2 v3 v4:V} {l1 l2 l3 l4 es es':List (List V)} {k:IntKind} {x:Int} {a n m:Nat} (h1:dH lX (oS (kA S2 3) S2) v1=.ok (.imm l1)) (h2:dH lX (oS (kA S2 3) S2) v2=.ok (.imm l2)) (h3:dH lX (oS (kA S2 3) S2) v3=.ok (.imm l3)) (h4:dH lX (oS (kA S2 3) S2) v4=.ok (.imm l4))
  (hg:S2.heap.get a=some (.row 0 n es)) (hm:lW (kA S2 3) es=.ok es') (b1:a ∉ gG (lG (iE S2 3) S2) v1) (b2:a ∉ gG (lG (iE S2 3) S2) v2) (b3:a ∉ gG (lG (iE S2 3) S2) v3) (b4:a ∉ gG (lG (iE S2 3) S2) v4) (b5:a ∉ mL (iE S2 3) es):
  pJ [2] (.agg [v1,v2,.sl a 0 n 0 m,v3,v4,.int k x]) S2 S=.ok (.agg [.imm l1,.imm l2,.sl S.next 0 n 0 m,.imm l3,.imm l4,.int k x],⟨S.next+1,S.heap.put S.next (.row 0 n es')⟩):=by
 have hb:a ∉ gG (lG (iE S2 3) S2) v1++(gG (lG (iE S2 3) S2) v2++([]++(gG (lG (iE S2 3) S2) v3++(gG (lG (iE S2 3) S2) v4++([]++[])))))++(mL (iE S2 3) es++[]):=by
  simp only [List.mem_append,List.append_nil,List.nil_append]
  rintro ((h | h | h | h) | h)
  ·exact b1 h
  ·exact b2 h
  ·exact b3 h
  ·exact b4 h
  ·exact b5 h
 have hi:zQ S2 [2] 0 S.next [v1,v2,.sl a 0 n 0 m,v3,v4,.int k x]=.ok ([.imm l1,.imm l2,.sl S.next 0 n 0 m,.imm l3,.imm l4,.int k x],[a]):=by
  simp only [zQ,iF,show Nat.beq 0 2=false from rfl,show Nat.beq (0+1) 2=false from rfl,show Nat.beq (0+1+1) 2=true from rfl,show Nat.beq (0+1+1+1) 2=false from rfl,show Nat.beq (0+1+1+1+1) 2=false from rfl,show Nat.beq (0+1+1+1+1+1) 2=false from rfl,Bool.or_false,cond_false,cond_true,h1,h2,h3,h4,dH]
 have hr:hM S2 [a]=.ok [(0,n,es')]:=by simp only [hM,hg,hm]
 have hB:tH S2 [2] 0 [v1,v2,.sl a 0 n 0 m,v3,v4,.int k x]=gG (lG (iE S2 3) S2) v1++(gG (lG (iE S2 3) S2) v2++([]++(gG (lG (iE S2 3) S2) v3++(gG (lG (iE S2 3) S2) v4++([]++[]))))):=rfl
 have hR:dP S2 [a]=mL (iE S2 3) es++[]:=by simp only [dP,hg]
 simp only [pJ,V.cells,hi,hr,pB,hB,hR,aX5 hb]
 rfl
theorem aQ9 {S2 S:St} {v1 v2 v3 v4:V} {l1 l2 l3 l4:List (List V)} {k:IntKind} {x:Int} (h1:dH lX (oS (kA S2 3) S2) v1=.ok (.imm l1)) (h2:dH lX (oS (kA S2 3) S2) v2=.ok (.imm l2)) (h3:dH lX (oS (kA S2 3) S2) v3=.ok (.imm l3)) (h4:dH lX (oS (kA S2 3) S2) v4=.ok (.imm l4)):
  pJ [2] (.agg [v1,v2,.nils,v3,v4,.int k x]) S2 S=.ok (.agg [.imm l1,.imm l2,.nils,.imm l3,.imm l4,.int k x],⟨S.next+0,S.heap⟩):=by
 have hi:zQ S2 [2] 0 S.next [v1,v2,.nils,v3,v4,.int k x]=.ok ([.imm l1,.imm l2,.nils,.imm l3,.imm l4,.int k x],[]):=by
  simp only [zQ,iF,show Nat.beq 0 2=false from rfl,show Nat.beq (0+1) 2=false from rfl,show Nat.beq (0+1+1) 2=true from rfl,show Nat.beq (0+1+1+1) 2=false from rfl,show Nat.beq (0+1+1+1+1) 2=false from rfl,show Nat.beq (0+1+1+1+1+1) 2=false from rfl,Bool.or_false,cond_false,cond_true,h1,h2,h3,h4,dH]
 have hn:∀ l:List Nat,(l.any fun b=>iF b [])=false:=fun l=>by rw [List.any_eq_false];intro b _ e;cases e
 simp only [pJ,V.cells,hi,hM,pB,hn]
 rfl
structure Cp (S:St) (cells z:List V):Prop where
 wf:WF S
 two:2≤S.next
 r0:aI S 0 0=.ok (6,[cells])
 r1:aI S 1 0=.ok (6,[z])
theorem Cp.put {S:St} {cells z:List V} (c:Cp S cells z) (cells':List V):Cp ⟨S.next,S.heap.put 0 (.row 0 6 [cells'])⟩ cells' z:=
 ⟨hJ (n:=S.next) c.wf (by have:=c.two;omega) (Nat.le_refl _),c.two,aO _ _ _ _ _ _,aU (n:=S.next) (by decide) c.r1⟩
theorem Cp.copy {α:Type} {enc:α→List V} {n b:Nat} (hl:∀ x,(enc x).length=n∧aM (enc x)=true) (l:List α) {S:St} {cells z:List V} (c:Cp S cells z) (h1:l.length*b≤35184372088832) (h2:l.length<eG):
  ∃ v S',cQ n b .nils (.imm (l.map enc)) none S=.ok (v,S')∧Cp S' cells z∧Own E0 S' n v (l.map enc)∧(∀ y,blkOf v=some y→S.next≤y∧y<S'.next)∧Ext S S':=by
 obtain ⟨v,S',q1,x,own⟩:=aHx (b:=b) hl l c.wf h1 h2
 exact ⟨v,S',q1,⟨x.wf c.wf,Nat.le_trans c.two x.next,x.row c.r0,x.row c.r1⟩,own.weaken (Nat.zero_le _),fun y hy=>dS own hy,x⟩
theorem Own.on {S S':St} {n:Nat} {v:V} {es:List (List V)} (o:Own E0 S n v es) (hb:∀ y,blkOf v=some y→2≤y) (x:Ext S S') (b:Blk):Own E0 ⟨S'.next,S'.heap.put 0 b⟩ n v es:=
 (o.ext x).same (Nat.le_refl _) fun a ha=>Tr.get_put_neB _ _ _ _ trivial (by have:=hb a ha;omega)
theorem Own.on0 {S:St} {n:Nat} {v:V} {es:List (List V)} (o:Own E0 S n v es) (hb:∀ y,blkOf v=some y→2≤y) (b:Blk):Own E0 ⟨S.next,S.heap.put 0 b⟩ n v es:=o.on hb (Ext.refl S) b
end Go.AM
namespace Go.Proofs.YtoaibmbldmckaaaGreat
open Go.AM Tryz
set_option linter.unusedVariables false
set_option linter.unusedSimpArgs false
set_option maxRecDepth 100000
end Go.Proofs.YtoaibmbldmckaaaGreat
end
section
namespace Go.Proofs.YtoaibmbldmckaaaGreat
open Go.AM Tryz
def xS:List V:=[.nils,.nils,.nils,.nils,.nils,.int .i64 0]
theorem p8 (p:Posted):p.enc=Posted.cells p (.imm (p.total.parts.map Part.enc)):=rfl
theorem bG3 {S:St} (w:WF S) (s:State) (b:Bnd s) {K:KW} (k:∀ v S',Ext S S'→Own S S' 12 v (s.posted.map Posted.enc)→K (.agg [.imm (s.table.map Rate.enc),.imm (s.ser.map Ser.enc),v,.imm (s.book.map Bal.enc),.imm (s.sess.map Sess.enc),.int .i64 s.next]) S'):
  C 102 [.agg [.imm (s.table.map Rate.enc),.imm (s.ser.map Ser.enc),.imm (s.posted.map Posted.enc),.imm (s.book.map Bal.enc),.imm (s.sess.map Sess.enc),.int .i64 s.next]] S K:=by
 have hbt:=b.bt
 have hbs:=b.bs
 have hbp:=b.bp
 have hbb:=b.bb
 have hbe:=b.be
 refine bKh rfl ?_
 obtain ⟨A0,hA0⟩:∃ A0:St,A0=⟨1+1,(Tr.nil.put 0 (.row 0 6 [s.enc])).put 1 (.row 0 6 [xS])⟩:=⟨_,rfl⟩
 have c0:Cp A0 s.enc xS:=by rw [hA0];exact ⟨hJ (n:=1) (hJ oU (by decide) (by decide)) (by decide) (by decide),Nat.le_refl _,rfl,rfl⟩
 obtain ⟨v1,A1,q1,c1,o1,b1,x1⟩:=c0.copy (b:=48) aQ3 s.table (by omega) (by unfold eG;omega)
 have d1:=c1.put [v1,.imm (s.ser.map Ser.enc),.imm (s.posted.map Posted.enc),.imm (s.book.map Bal.enc),.imm (s.sess.map Sess.enc),.int .i64 s.next]
 obtain ⟨v2,A2,q2,c2,o2,b2,x2⟩:=d1.copy (b:=40) aNi s.ser (by omega) (by unfold eG;omega)
 have d2:=c2.put [v1,v2,.imm (s.posted.map Posted.enc),.imm (s.book.map Bal.enc),.imm (s.sess.map Sess.enc),.int .i64 s.next]
 obtain ⟨v3,A3,q3,c3,o3,b3,x3⟩:=d2.copy (b:=24) aNk s.book (by omega) (by unfold eG;omega)
 have d3:=c3.put [v1,v2,.imm (s.posted.map Posted.enc),v3,.imm (s.sess.map Sess.enc),.int .i64 s.next]
 obtain ⟨v4,A4,q4,c4,o4,b4,x4⟩:=d3.copy (b:=40) aDl s.sess (by omega) (by unfold eG;omega)
 have d4:=c4.put [v1,v2,.imm (s.posted.map Posted.enc),v3,v4,.int .i64 s.next]
 have t0:=c0.two
 have t1:=c1.two
 have t2:=c2.two
 have t3:=c3.two
 have t4:=c4.two
 have m1:=x1.next
 have m2:A1.next≤A2.next:=x2.next
 have m3:A2.next≤A3.next:=x3.next
 have m4:A3.next≤A4.next:=x4.next
 have b2:∀ y,AM.blkOf v2=some y→A1.next≤y∧y<A2.next:=b2
 have b3:∀ y,AM.blkOf v3=some y→A2.next≤y∧y<A3.next:=b3
 have b4:∀ y,AM.blkOf v4=some y→A3.next≤y∧y<A4.next:=b4
 have g1:∀ y,AM.blkOf v1=some y→2≤y:=fun y hy=>by have:=b1 y hy;omega
 have g2:∀ y,AM.blkOf v2=some y→2≤y:=fun y hy=>by have:=b2 y hy;omega
 have g3:∀ y,AM.blkOf v3=some y→2≤y:=fun y hy=>by have:=b3 y hy;omega
 have g4:∀ y,AM.blkOf v4=some y→2≤y:=fun y hy=>by have:=b4 y hy;omega
 have p1:=((((o1.on0 g1 _).on g1 x2 _).on g1 x3 _).on g1 x4 (.row 0 6 [[v1,v2,.imm (s.posted.map Posted.enc),v3,v4,.int .i64 s.next]]))
 have p2:=(((o2.on0 g2 _).on g2 x3 _).on g2 x4 (.row 0 6 [[v1,v2,.imm (s.posted.map Posted.enc),v3,v4,.int .i64 s.next]]))
 have p3:=((o3.on0 g3 _).on g3 x4 (.row 0 6 [[v1,v2,.imm (s.posted.map Posted.enc),v3,v4,.int .i64 s.next]]))
 have p4:=(o4.on0 g4 (.row 0 6 [[v1,v2,.imm (s.posted.map Posted.enc),v3,v4,.int .i64 s.next]]))
 have e1:=o1.one
 have e2:=o2.one
 have e3:=o3.one
 have e4:=o4.one
 have f1:=o1.cells
 have f2:=o2.cells
 have f3:=o3.cells
 have f4:=o4.cells
 have r0:=c0.r0
 have r1:=c1.r0
 have r2:=c2.r0
 have r3:=c3.r0
 have r4:=c4.r0
 simp only [State.enc] at r0 r1 hA0
 simp only [xS] at hA0
 simp only [aS5,kk,iL,←hA0,r0,q1,e1,f1,r1,q2,e2,f2,r2,q3,e3,f3,r3,q4,e4,f4,r4]
 have w4:=d4.wf
 cases hp:s.posted with
 | nil=>
  have q5:cQ 12 128 .nils (.imm (([]:List Posted).map Posted.enc)) none ⟨A4.next,A4.heap.put 0 (.row 0 6 [[v1,v2,.imm (([]:List Posted).map Posted.enc),v3,v4,.int .i64 s.next]])⟩=.ok (.nils,⟨A4.next,A4.heap.put 0 (.row 0 6 [[v1,v2,.imm (([]:List Posted).map Posted.enc),v3,v4,.int .i64 s.next]])⟩):=rfl
  rw [hp] at k p1 p2 p3 p4 d4
  have d5:=d4.put [v1,v2,.nils,v3,v4,.int .i64 s.next]
  have d6:=d5.r1
  simp only [xS] at d6
  simp only [q5,kk]
  refine ⟨1,?_⟩
  have u1:=(((p1.on0 g1 (.row 0 6 [[v1,v2,.nils,v3,v4,.int .i64 s.next]])).put (k:=1) (m:=A4.next) (b:=.row 0 6 [[v1,v2,.nils,v3,v4,.int .i64 s.next]]) (Nat.le_refl _) fun a ver m hv=>by have:=g1 a (by rw [hv];rfl);omega).out fun _=>rfl)
  have u2:=(((p2.on0 g2 (.row 0 6 [[v1,v2,.nils,v3,v4,.int .i64 s.next]])).put (k:=1) (m:=A4.next) (b:=.row 0 6 [[v1,v2,.nils,v3,v4,.int .i64 s.next]]) (Nat.le_refl _) fun a ver m hv=>by have:=g2 a (by rw [hv];rfl);omega).out fun _=>rfl)
  have u3:=(((p3.on0 g3 (.row 0 6 [[v1,v2,.nils,v3,v4,.int .i64 s.next]])).put (k:=1) (m:=A4.next) (b:=.row 0 6 [[v1,v2,.nils,v3,v4,.int .i64 s.next]]) (Nat.le_refl _) fun a ver m hv=>by have:=g3 a (by rw [hv];rfl);omega).out fun _=>rfl)
  have u4:=(((p4.on0 g4 (.row 0 6 [[v1,v2,.nils,v3,v4,.int .i64 s.next]])).put (k:=1) (m:=A4.next) (b:=.row 0 6 [[v1,v2,.nils,v3,v4,.int .i64 s.next]]) (Nat.le_refl _) fun a ver m hv=>by have:=g4 a (by rw [hv];rfl);omega).out fun _=>rfl)
  simp only [yP,aA5,kk,Int.lt_irrefl,if_false,e1,e2,e3,e4,f1,f2,f3,f4,d6,show ((0:Nat):Int)=0 from rfl]
  rw [aQ9 u1 u2 u3 u4]
  exact k .nils _ ⟨fun a b h=>h,Nat.le_refl _,fun w=>w⟩ (Own.nil _ _ _)
 | cons pp l=>
  obtain ⟨P,hP⟩:∃ P,P=pp::l:=⟨_,rfl⟩
  have hPl:P.length=l.length+1:=by rw [hP];rfl
  have hsP:s.posted=P:=by rw [hp,hP]
  have hPlen:P.length≤100000:=by rw [←hsP];exact hbp
  have hbq:∀ p∈P,p.total.parts.length≤100000:=fun p h=>b.bq p (by rw [hsP];exact h)
  obtain ⟨a,ha⟩:∃ a,a=A4.next:=⟨_,rfl⟩
  rw [hp,←hP] at k p1 p2 p3 p4 d4 w4
  rw [←hP]
  have q5:cQ 12 128 .nils (.imm (P.map Posted.enc)) none ⟨A4.next,A4.heap.put 0 (.row 0 6 [[v1,v2,.imm (P.map Posted.enc),v3,v4,.int .i64 s.next]])⟩=.ok (.sl a 0 12 0 P.length,⟨a+1,(A4.heap.put 0 (.row 0 6 [[v1,v2,.imm (P.map Posted.enc),v3,v4,.int .i64 s.next]])).put a (.row 0 12 (P.map Posted.enc))⟩):=by
   have a1:iO 12 (P.map Posted.enc)=true∧(P.map Posted.enc).all aM=true:=dG (fun c hc=>by obtain ⟨y,_,rfl⟩:=List.mem_map.1 hc;exact nO y)
   rw [hP] at a1 ⊢
   simp only [cQ,bQ]
   rw [if_pos a1]
   have hb2:l.length+1≤100000:=by omega
   simp only [List.map_cons,List.length_cons,List.length_map,eB,←ha]
   rw [if_pos (by unfold eG;omega)]
  simp only [q5,kk,iL,show ((0:Nat)=a)=False by simp;omega]
  obtain ⟨cs5,hcs5⟩:∃ cs5,cs5=[v1,v2,.sl a 0 12 0 P.length,v3,v4,.int .i64 s.next]:=⟨_,rfl⟩
  obtain ⟨T,hT⟩:∃ T:St,T=⟨a+1,((A4.heap.put 0 (.row 0 6 [[v1,v2,.imm (P.map Posted.enc),v3,v4,.int .i64 s.next]])).put a (.row 0 12 (P.map Posted.enc))).put 0 (.row 0 6 [[v1,v2,.sl a 0 12 0 P.length,v3,v4,.int .i64 s.next]])⟩:=⟨_,rfl⟩
  have cT:Cp T cs5 xS:=by
   rw [hT,hcs5]
   exact Cp.put (S:=⟨a+1,(A4.heap.put 0 (.row 0 6 [[v1,v2,.imm (P.map Posted.enc),v3,v4,.int .i64 s.next]])).put a (.row 0 12 (P.map Posted.enc))⟩) ⟨hJ (n:=A4.next) w4 (by omega) (by omega),by show 2≤a+1;omega,aU (n:=A4.next) (by omega) (aO _ _ _ _ _ _),aU (n:=A4.next) (by omega) d4.r1⟩ _
  have oT:∀ {n:Nat} {v:V} {es:List (List V)},Own E0 ⟨A4.next,A4.heap.put 0 (.row 0 6 [[v1,v2,.imm (P.map Posted.enc),v3,v4,.int .i64 s.next]])⟩ n v es→(∀ y,AM.blkOf v=some y→2≤y)→Own E0 T n v es:=fun o g=>by
   rw [hT]
   refine o.same (by show A4.next≤a+1;omega) fun y hy=>?_
   have h1:=g y hy
   have h2:y<A4.next:=(dS o hy).2
   show (((A4.heap.put 0 _).put a _).put 0 _).get y=(A4.heap.put 0 _).get y
   rw [Tr.get_put_neB _ _ _ _ trivial (by omega),Tr.get_put_neB _ _ _ _ trivial (by omega)]
  have gT:T.heap.get a=some (.row 0 12 (P.map Posted.enc)):=by
   rw [hT]
   show (((A4.heap.put 0 _).put a _).put 0 _).get a=_
   rw [Tr.get_put_neB _ _ _ _ trivial (by omega)];exact Tr.get_put_sameB _ _ _ trivial
  have nT:T.next=a+1:=by rw [hT]
  rw [←hT]
  have l1:∀ y,AM.blkOf v1=some y→2≤y∧y<a:=fun y hy=>⟨g1 y hy,by have:=b1 y hy;omega⟩
  have l2:∀ y,AM.blkOf v2=some y→2≤y∧y<a:=fun y hy=>⟨g2 y hy,by have:=b2 y hy;omega⟩
  have l3:∀ y,AM.blkOf v3=some y→2≤y∧y<a:=fun y hy=>⟨g3 y hy,by have:=b3 y hy;omega⟩
  have l4:∀ y,AM.blkOf v4=some y→2≤y∧y<a:=fun y hy=>⟨g4 y hy,by have:=b4 y hy;omega⟩
  refine aZ P (step:=fun (_:Unit) (_:Posted)=>(.inr ():Unit⊕Unit)) (fin:=id) (fun i _ vs S'=>vs=[.int .i64 (i:Int)]∧Cp S' cs5 xS∧a<S'.next∧Own E0 S' 5 v1 (s.table.map Rate.enc)∧Own E0 S' 4 v2 (s.ser.map Ser.enc)∧Own E0 S' 2 v3 (s.book.map Bal.enc)∧Own E0 S' 5 v4 (s.sess.map Sess.enc) ∧
   ∃ es,S'.heap.get a=some (.row 0 12 es)∧es.length=P.length∧∀ (j:Nat) (p:Posted),P[j]?=some p→∃ u,es[j]?=some (p.cells u)∧((i≤j∧u=.imm (p.total.parts.map Part.enc))∨(j<i∧Own E0 S' 4 u (p.total.parts.map Part.enc)∧∀ y,AM.blkOf u=some y→a<y))) (fun _=>True) ?_ ?_ (s:=()) ⟨rfl,cT,by omega,oT p1 g1,oT p2 g2,oT p3 g3,oT p4 g4,_,gT,List.length_map ..,fun j p hj=>⟨_,by rw [List.getElem?_map,hj];rfl,.inl ⟨Nat.zero_le _,rfl⟩⟩⟩ trivial
  ·rintro i p _ vs S' hi ⟨rfl,c,hlt,u1,u2,u3,u4,es,hg,hel,hes⟩ aQ H
   have hil:=(List.getElem?_eq_some_iff.1 hi).1
   have hpl:=hbq p (List.mem_of_getElem? hi)
   have tw:=c.two
   obtain ⟨u0,hu,hu2⟩:=hes i p hi
   have hu2:u0=.imm (p.total.parts.map Part.enc):=by
    rcases hu2 with h | h
    ·exact h.2
    ·exact absurd h.1 (Nat.lt_irrefl _)
   subst hu2
   have fk:∀ y,S'.next≤y→S'.heap.get y=none:=fun y hy=>fresh c.wf hy
   obtain ⟨u,S2,q2,w2,n2,ou,bu,keep2⟩:=copyAt (b:=40) aHy p.total.parts c.wf (k:=S'.next+10) (m:=S'.next+15) (by omega) (by omega) (by omega) (by unfold eG;omega)
   have hg2:S2.heap.get a=some (.row 0 12 es):=by rw [keep2 a (by omega)];exact hg
   have hld:∀ m,bB none (.ptr a 0 i 8) ⟨m,S'.heap⟩=.ok (.imm (p.total.parts.map Part.enc)):=fun m=>by
    have:aI ⟨m,S'.heap⟩ a 0=.ok (12,es):=eV hg
    simp only [ldP,this,hu,Posted.cells,kk]
   have hix:cP 12 (.sl a 0 12 0 P.length) (.int .i64 (i:Int))=.ok (.ptr a 0 i 0):=by
    simp only [cP,iU hil,if_true,Nat.zero_add]
   have hst:aW 1 (.ptr a 0 i 8) u S2=.ok ⟨S2.next,S2.heap.put a (.row 0 12 (es.set i (p.cells u)))⟩:=by
    have hg':aI S2 a 0=.ok (12,es):=eV hg2
    simp only [stP,hg',hu]
    rw [if_pos ⟨by rw [ou.cells];rfl,by rw [ou.cells];simp [aM,ou.one],by rw [ou.cells];show 8+1≤12;decide⟩,ou.cells]
    rfl
   have r0:=aX c.r0 (keep2 0 (by omega))
   have r1:=aX c.r1 (keep2 1 (by omega))
   have rc:=c.r0
   simp only [hcs5] at r0 rc
   simp only [aA5,kk,dK hi,gm,rc,hix,show (0+5+3:Nat)=8 from rfl,show (5+3:Nat)=8 from rfl,hld,q2,r0,hst,mO (show i<1000000000 by omega)]
   have ok:∀ {n:Nat} {v:V} {el:List (List V)},Own E0 S' n v el→(∀ y,AM.blkOf v=some y→y≠a)→Own E0 ⟨S2.next,S2.heap.put a (.row 0 12 (es.set i (p.cells u)))⟩ n v el:=fun o g=>o.same (by show S'.next≤S2.next;omega) fun y hy=>by
    have:=(dS o hy).2
    show (S2.heap.put a _).get y=_
    rw [Tr.get_put_neB _ _ _ _ trivial (g y hy),keep2 y (by omega)]
   refine H _ _ ⟨rfl,⟨hJ (n:=S2.next) w2 (by omega) (Nat.le_refl _),by show 2≤S2.next;omega,aU (n:=S2.next) (by omega) (by rw [hcs5];exact r0),aU (n:=S2.next) (by omega) r1⟩,by show a<S2.next;omega,ok u1 (fun y hy=>by have:=l1 y hy;omega),ok u2 (fun y hy=>by have:=l2 y hy;omega),ok u3 (fun y hy=>by have:=l3 y hy;omega),ok u4 (fun y hy=>by have:=l4 y hy;omega),_,Tr.get_put_sameB _ _ _ trivial,by rw [List.length_set];exact hel,fun j q hj=>?_⟩
   by_cases e:j=i
   ·subst e
    rw [hi] at hj
    cases hj
    refine ⟨u,List.getElem?_set_self (by omega),.inr ⟨Nat.lt_succ_self _,ou.same (Nat.le_refl _) fun y hy=>?_,fun y hy=>by have:=bu y hy;omega⟩⟩
    have:=bu y hy
    exact Tr.get_put_neB _ _ _ _ trivial (by omega)
   ·obtain ⟨x,hx1,hx2⟩:=hes j q hj
    refine ⟨x,by rw [List.getElem?_set_ne (Ne.symm e)];exact hx1,?_⟩
    rcases hx2 with h | ⟨h1,h2,h3⟩
    ·exact .inl ⟨by omega,h.2⟩
    ·exact .inr ⟨by omega,ok h2 (fun y hy=>by have:=h3 y hy;omega),h3⟩
  ·rintro _ vs S' ⟨rfl,c,hlt,u1,u2,u3,u4,es,hg,hel,hes⟩ aQ H
   have tw:=c.two
   have rc:=c.r0
   have rd:=c.r1
   simp only [hcs5] at rc
   simp only [xS] at rd
   simp only [aA5,kk,Int.lt_irrefl,if_false,gm,rc,rd,e1,e2,e3,e4,f1,f2,f3,f4]
   obtain ⟨S3,hS3⟩:∃ S3:St,S3=⟨S'.next,S'.heap.put 1 (.row 0 6 [[v1,v2,.sl a 0 12 0 P.length,v3,v4,.int .i64 s.next]])⟩:=⟨_,rfl⟩
   have kk3:∀ {n:Nat} {v:V} {el:List (List V)},Own E0 S' n v el→(∀ y,AM.blkOf v=some y→2≤y)→Own E0 S3 n v el:=fun o g=>by
    rw [hS3]
    exact o.same (Nat.le_refl _) fun y hy=>Tr.get_put_neB _ _ _ _ trivial (by have:=g y hy;omega)
   have g3':S3.heap.get a=some (.row 0 12 es):=by rw [hS3];show (S'.heap.put 1 _).get a=_;rw [Tr.get_put_neB _ _ _ _ trivial (by omega)];exact hg
   rw [←hS3]
   have o1':=kk3 u1 g1
   have o2':=kk3 u2 g2
   have o3':=kk3 u3 g3
   have o4':=kk3 u4 g4
   have el:∀ (j:Nat) (p:Posted),P[j]?=some p→∃ u,es[j]?=some (p.cells u)∧Own E0 S3 4 u (p.total.parts.map Part.enc)∧AM.blkOf u≠some a:=fun j p hj=>by
    obtain ⟨u,h1,h2⟩:=hes j p hj
    have hjl:=(List.getElem?_eq_some_iff.1 hj).1
    rcases h2 with h | ⟨_,h2,h3⟩
    ·omega
    ·exact ⟨u,h1,kk3 h2 (fun y hy=>by have:=h3 y hy;omega),fun e=>by have:=h3 a e;omega⟩
   have hm:lW (kA S3 3) es=.ok (P.map Posted.enc):=aG9 (by rw [List.length_map];exact hel) fun j x hx=>by
    have hjl:j<P.length:=by rw [←hel];exact (List.getElem?_eq_some_iff.1 hx).1
    have hj:P[j]?=some P[j]:=List.getElem?_eq_getElem hjl
    obtain ⟨u,h1,h2,_⟩:=el j _ hj
    rw [hx] at h1
    cases h1
    refine ⟨P[j].enc,by rw [List.getElem?_map,hj];rfl,?_⟩
    have hf:=h2.frzN (dM (fun _=>rfl) _) 1
    simp only [kA,Posted.cells,frzVs,dH] at hf ⊢
    rw [hf]
    rfl
   have hnb:∀ {n:Nat} {v:V} {el:List (List V)},Own E0 S3 n v el→el.all cloVs=true→(∀ y,AM.blkOf v=some y→y≠a)→a ∉ gG (lG (iE S3 3) S3) v:=fun o hc g h=>g a (o.blks hc 2 h) rfl
   have hb5:a ∉ mL (iE S3 3) es:=fun h=>by
    obtain ⟨x,h1,h2⟩:=aI0 h
    obtain ⟨j,hj,rfl⟩:=List.getElem_of_mem h1
    have hjl:j<P.length:=by omega
    obtain ⟨u,q1,q2,q3⟩:=el j _ (List.getElem?_eq_getElem hjl)
    rw [List.getElem?_eq_getElem hj] at q1
    rw [Option.some.inj q1] at h2
    simp only [iE,Posted.cells,slsVs,gG,List.nil_append,List.append_nil] at h2
    exact q3 (q2.blks (dM (fun _=>rfl) _) 1 h2)
   rw [aX6 (o1'.out fun _=>rfl) (o2'.out fun _=>rfl) (o3'.out fun _=>rfl) (o4'.out fun _=>rfl) g3' hm (hnb o1' (dM (fun _=>rfl) _) fun y hy=>by have:=l1 y hy;omega) (hnb o2' (dM (fun _=>rfl) _) fun y hy=>by have:=l2 y hy;omega) (hnb o3' (dM (fun _=>rfl) _) fun y hy=>by have:=l3 y hy;omega) (hnb o4' (dM (fun _=>rfl) _) fun y hy=>by have:=l4 y hy;omega) hb5]
   refine k _ _ (Ext.new w _) ⟨.inr ⟨S.next,0,[],by rw [List.length_map],Nat.le_refl _,Nat.lt_succ_self _,?_⟩,fun c hc=>by obtain ⟨y,_,rfl⟩:=List.mem_map.1 hc;exact nO y⟩
   rw [List.append_nil];exact Tr.get_put_sameB _ _ _ trivial
def srV (r:State×Rep):V:=.tup [.agg [.imm (r.1.table.map Rate.enc),.imm (r.1.ser.map Ser.enc),.imm (r.1.posted.map Posted.enc),.imm (r.1.book.map Bal.enc),.imm (r.1.sess.map Sess.enc),.int .i64 r.1.next],.agg [.int .i64 r.2.why,.int .i64 r.2.number,.int .i64 r.2.gross]]
theorem bPs (s:State) (S:St) (K:KW):C 104 [.agg [.imm (s.table.map Rate.enc),.imm (s.ser.map Ser.enc),.imm (s.posted.map Posted.enc),.imm (s.book.map Bal.enc),.imm (s.sess.map Sess.enc),.int .i64 s.next]] S K=K (srV (gB s)) S:=by
 refine (bKj rfl ?_).eq S K
 simp only [aS9,aF1,kk,iL,gm,lK,bFf,gB,srV]
 by_cases c1:8≤s.sess.length
 ·simp only [c1,show (8:Int)≤(s.sess.length:Int) by omega,kk,iL,gm,lK,oo,why,true_or,if_true]
 by_cases c2:1099511627776≤s.next
 ·simp only [c1,c2,show ¬ (8:Int)≤(s.sess.length:Int) by omega,kk,iL,gm,lK,oo,why,or_true,if_true,if_false]
 simp only [c1,c2,show ¬ (8:Int)≤(s.sess.length:Int) by omega,kk,iL,gm,lK,bFf,or_self,if_false]
 by_cases c3:(mW s.sess s.next).2=0
 ·simp only [c3,kk,iL,gm,oo,why,not_true_eq_false,if_false]
 ·simp only [c3,kk,iL,gm,lK,oo,why,not_false_eq_true,if_true]
theorem g31 (S:St) (K:KW):C 31 [] S K=K (.agg [.imm ([]:List (List V)),.imm [],.imm [],.imm [],.imm [],.int .i64 1]) S:=by
 refine (v31 rfl ?_).eq S K
 simp only [m31,kk,oo]
end Go.Proofs.YtoaibmbldmckaaaGreat
end
section
namespace Go.AM
theorem Own.in3 {S0 S:St} {n:Nat} {v:V} {α:Type} {enc:α→List V} {l:List α} (h:Own S0 S n v (l.map enc)) (hc:∀ x,cloVs (enc x)=true) {x y:V} {bs:List V} (hx:xO x=true) (hy:xO y=true) (hb:cloVs bs=true):
  frzVs lX (oS (kA S 3) S) [.agg (x::y::v::bs)]=.ok [.agg (x::y::.imm (l.map enc)::bs)]∧ptrsVs [.agg (x::y::v::bs)]=[]:=by
 constructor
 ·simp only [frzVs,dH,pI x hx,pI y hy,h.out hc,clo_frzs bs hb]
 ·simp only [ptrsVs,qG,vR x hx,vR y hy,h.ptrs,clo_ptrs bs hb,List.append_nil]
theorem aLl:∀ (l:List Nat) (h:Tr Blk) {y:Nat},y ∉ l→(pA l h).get y=h.get y
 | [],_,_,_=>rfl
 | a::l,h,y,hy=>by
  simp only [List.mem_cons,not_or] at hy
  simp only [pA]
  rw [aLl l _ hy.2,Tr.get_cut,if_neg hy.1]
theorem Fn.cutE {P:Program} {pl:eU} {f:FuncId} {bs:List V} {v:V} (h:Fn P pl f bs v) {p:Nat→Option (List dN)} (hpl:pl f=some (.val p)) (hc:cloVs bs=true) {args:List V} {S:St} (hb:frzVs lX (oS (kA S 3) S) args=.ok bs) (hp:ptrsVs args=[]):
  ∃ h':Tr Blk,(∀ y,y ∉ slsVs (lG (iE S 3) S) args→h'.get y=S.heap.get y)∧∀ K,W P pl f args S K=K v ⟨S.next,h'⟩:=by
 obtain ⟨N,h⟩:=h ⟨0,.nil⟩
 obtain ⟨h',hh'⟩:∃ h',h'=(bif iP v&&qH [] then S.heap else pA (slsVs (lG (iE S 3) S) args++[]) S.heap):=⟨_,rfl⟩
 refine ⟨h',fun y hy=>?_,fun K=>aP7 ⟨N+1,fun k hk'=>?_⟩ K⟩
 ·rw [hh']
  cases iP v&&qH []
  ·exact aLl _ _ (by rw [List.append_nil];exact hy)
  ·rfl
 obtain ⟨k,rfl⟩:∃ m,k=m+1:=⟨k - 1,by omega⟩
 have:=h (k+1) (by omega)
 simp only [dW,hpl] at this ⊢
 unfold qB at this
 have e1:dU (ptrsVs bs)=[]:=by rw [clo_ptrs bs hc];rfl
 have e2:slsVs (lG (iE (⟨0,.nil⟩:St) 3) ⟨0,.nil⟩) bs=[]:=clo_sls bs hc
 rw [e1,e2] at this
 simp only [clo_frzs bs hc,hM,dP,List.append_nil,List.any_nil,cond_false,List.length_nil,tG,qD,qT] at this
 split at this
 ·cases this
 ·rename_i v0 S0 hrun
  split at this
  ·cases this
  ·rename_i v' hv'
   have hv:v'=v:=(Prod.mk.inj (Except.ok.inj this)).1
   subst hv
   have h1:dU (ptrsVs args)=[]:=by rw [hp];rfl
   have hi:(fun a=>oZ a 0 ([]:List Nat))=lX:=rfl
   have hh:∀ l:List Nat,(l.any fun a=>iF a [])=false:=by intro l;rw [List.any_eq_false];intro a _;simp [iF]
   unfold qB
   rw [h1]
   simp only [hi,hb,hM,dP,hh,cond_false,List.length_nil,tG,hrun,hv',qD,qT,List.append_nil,mM,hh']
end Go.AM
namespace Go.Proofs.YtoaibmbldmckaaaGreat
open Go.AM Tryz
set_option linter.unusedVariables false
set_option linter.unusedSimpArgs false
set_option maxRecDepth 100000
theorem a24 {S0 S:St} {s:State} {v:V} (h:Own S0 S 12 v (s.posted.map Posted.enc)) (K:KW):C 24 [.agg [.imm (s.table.map Rate.enc),.imm (s.ser.map Ser.enc),v,.imm (s.book.map Bal.enc),.imm (s.sess.map Sess.enc),.int .i64 s.next]] S K=K (.bool (bZ s)) S:=by
 obtain ⟨h1,h2⟩:=h.in3 (fun _=>rfl) (x:=.imm (s.table.map Rate.enc)) (y:=.imm (s.ser.map Ser.enc)) (bs:=[.imm (s.book.map Bal.enc),.imm (s.sess.map Sess.enc),.int .i64 s.next]) rfl rfl rfl
 exact (Fn.back fun S K=>g24 s S K).frz bKd rfl h1 h2 (.inl rfl) K
theorem aQa (x y z u:List V) (n m k j:Nat):∃ S1:St,S1=⟨3+1,(((Tr.nil.put 0 (.row 0 n [x])).put 1 (.row 0 m [y])).put 2 (.row 0 k [z])).put 3 (.row 0 j [u])⟩∧WF S1∧S1.next=4∧aI S1 0 0=.ok (n,[x])∧aI S1 1 0=.ok (m,[y])∧aI S1 2 0=.ok (k,[z])∧aI S1 3 0=.ok (j,[u]):=
 ⟨_,rfl,hJ (n:=3) (hJ (n:=2) (hJ (n:=1) (hJ oU (by decide) (by decide)) (by decide) (by decide)) (by decide) (by decide)) (by decide) (by decide),rfl,rfl,rfl,rfl,rfl⟩
theorem g33 (s:State) (c:Call) (b:Bnd s) (hl:c.cmd.lines.length<1000000) (S:St) (K:KW):C 33 [.agg [.imm (s.table.map Rate.enc),.imm (s.ser.map Ser.enc),.imm (s.posted.map Posted.enc),.imm (s.book.map Bal.enc),.imm (s.sess.map Sess.enc),.int .i64 s.next],
  .agg [.int .i64 c.session,.int .i64 c.seq,.int .i64 c.cmd.kind,.str c.cmd.series,.int .i64 c.cmd.limit,.str c.cmd.row.cat,.int .i64 c.cmd.row.day.y,.int .i64 c.cmd.row.day.m,.int .i64 c.cmd.row.day.d,.int .i64 c.cmd.row.bp,.int .i64 c.cmd.day.y,.int .i64 c.cmd.day.m,.int .i64 c.cmd.day.d,.imm (c.cmd.lines.map Line.enc),.str c.cmd.of.ser,.int .i64 c.cmd.of.num,.int .i64 c.cmd.session]] S K=K (srV (fJ s c)) S:=by
 refine (v33 rfl ?_).eq S K
 obtain ⟨A,hA,wA,nA,r0,r1,r2,r3⟩:=aQa s.enc [.int .i64 c.session,.int .i64 c.seq,.int .i64 c.cmd.kind,.str c.cmd.series,.int .i64 c.cmd.limit,.str c.cmd.row.cat,.int .i64 c.cmd.row.day.y,.int .i64 c.cmd.row.day.m,.int .i64 c.cmd.row.day.d,.int .i64 c.cmd.row.bp,.int .i64 c.cmd.day.y,.int .i64 c.cmd.day.m,.int .i64 c.cmd.day.d,.imm (c.cmd.lines.map Line.enc),.str c.cmd.of.ser,.int .i64 c.cmd.of.num,.int .i64 c.cmd.session] xS [.int .i64 0,.int .i64 0,.int .i64 0] 6 17 6 3
 simp only [State.enc] at r0 hA
 simp only [xS] at hA r2
 simp only [m33,kk,←hA,iL,r0]
 refine bG3 wA s b fun v S6 x6 own6=>?_
 have n6:4≤S6.next:=by have:=x6.next;omega
 have w6:=x6.wf wA
 have bv:∀ y,AM.blkOf v=some y→4≤y∧y<S6.next:=fun y hy=>by have:=dS own6 hy;omega
 have a0:=x6.row r0
 have a1:=x6.row r1
 have a2:=x6.row r2
 have a3:=x6.row r3
 have own6:=own6.weaken (A:=E0) (Nat.zero_le _)
 have o1:=own6.one
 have o2:=own6.cells
 obtain ⟨S7,hS7⟩:∃ S7:St,S7=⟨S6.next,S6.heap.put 0 (.row 0 6 [s.cells v])⟩:=⟨_,rfl⟩
 have st:StAt S7 0 s v:=by
  rw [hS7]
  exact ⟨aO _ _ _ _ _ _,own6.same (Nat.le_refl _) fun y hy=>Tr.get_put_neB _ _ _ _ trivial (by have:=bv y hy;omega),hJ (n:=S6.next) w6 (by omega) (Nat.le_refl _),fun e=>by have:=bv _ e;omega⟩
 have b1:aI S7 1 0=aI A 1 0:=by rw [hS7,r1];exact aU (n:=S6.next) (by decide) a1
 have b2:aI S7 2 0=aI A 2 0:=by rw [hS7,r2];exact aU (n:=S6.next) (by decide) a2
 have b3:aI S7 3 0=aI A 3 0:=by rw [hS7,r3];exact aU (n:=S6.next) (by decide) a3
 rw [r1] at b1
 rw [r2] at b2
 rw [r3] at b3
 have n7:S7.next=S6.next:=by rw [hS7]
 simp only [State.cells] at hS7
 have ra:=st.row
 simp only [State.cells] at ra
 have h24:=a24 st.own
 have hout:∀ (S8:St) (v8:V) (r:State×Rep),Own E0 S8 12 v8 (r.1.posted.map Posted.enc)→bY S8 (.tup [.agg [.imm (r.1.table.map Rate.enc),.imm (r.1.ser.map Ser.enc),v8,.imm (r.1.book.map Bal.enc),.imm (r.1.sess.map Sess.enc),.int .i64 r.1.next],.agg [.int .i64 r.2.why,.int .i64 r.2.number,.int .i64 r.2.gross]])=.ok (srV r):=by
  intro S8 v8 r o
  have:=o.out fun _=>rfl
  simp only [oo,this,srV]
 have hput:∀ (S8:St) (v8:V) (s8:State) (x y:Blk),Own E0 S8 12 v8 (s8.posted.map Posted.enc)→(∀ z,AM.blkOf v8=some z→4≤z)→Own E0 ⟨S8.next,(S8.heap.put 2 x).put 3 y⟩ 12 v8 (s8.posted.map Posted.enc):=fun S8 v8 s8 x y o g=>o.same (Nat.le_refl _) fun z hz=>by
  have:=g z hz
  show ((S8.heap.put 2 x).put 3 y).get z=_
  rw [Tr.get_put_neB _ _ _ _ trivial (by omega),Tr.get_put_neB _ _ _ _ trivial (by omega)]
 simp only [kk,a0,o1,o2,←hS7,ra,h24,gm,lK]
 cases c1:bZ s
 ·simp only [c1,kk,if_true,lK,gm,ra,b2,b3,o1,o2,iL]
  have:=hout ⟨S7.next+4,(S7.heap.put 2 (.row 0 6 [s.cells v])).put 3 (.row 0 3 [[.int .i64 1,.int .i64 0,.int .i64 0]])⟩ v (s,why 1) ((hput S7 v s _ _ st.own fun z hz=>(bv z hz).1).bump 4)
  simp only [fJ,c1,if_true]
  exact this
 simp only [c1,kk,Bool.true_eq_false,if_false,b1]
 have hk17:c.cmd.kind<1∨8<c.cmd.kind→aBh C (fun v0 S0=>bY S0 v0=Except.ok (srV (fJ s c))) (V.ptr 0 0 0 0) (V.ptr 1 0 0 0) (V.ptr (1+1) 0 0 0) (V.ptr (1+1+1) 0 0 0) (V.bool true) S7:=by
  intro h
  have:=hout ⟨S7.next+4,(S7.heap.put 2 (.row 0 6 [s.cells v])).put 3 (.row 0 3 [[.int .i64 17,.int .i64 0,.int .i64 0]])⟩ v (s,why 17) ((hput S7 v s _ _ st.own fun z hz=>(bv z hz).1).bump 4)
  simp only [aBh,kk,if_true,lK,gm,ra,b2,b3,o1,o2,iL,fJ,c1,Bool.true_eq_false,if_false,h]
  exact this
 by_cases c2:c.cmd.kind<1
 ·simp only [c2,if_true]
  exact hk17 (.inl c2)
 by_cases c3:8<c.cmd.kind
 ·simp only [c2,c3,if_false,decide_true]
  exact hk17 (.inr c3)
 have hap:fJ s c=if c.cmd.kind=6 then gB s else if (cJ s.sess c.session c.seq).2.2≠0 then (s,why (cJ s.sess c.session c.seq).2.2) else if (cJ s.sess c.session c.seq).2.1=true then (s,(cJ s.sess c.session c.seq).1) else gS (sV s c.cmd) c:=by
  simp only [fJ,c1,c2,c3,Bool.true_eq_false,if_false,or_self]
 rw [hap]
 simp only [c2,c3,if_false,decide_false,aBh,kk,Bool.false_eq_true,b1,ra]
 by_cases c6:c.cmd.kind=6
 ·obtain ⟨h1,h2⟩:=st.own.in3 (fun _=>rfl) (x:=.imm (s.table.map Rate.enc)) (y:=.imm (s.ser.map Ser.enc)) (bs:=[.imm (s.book.map Bal.enc),.imm (s.sess.map Sess.enc),.int .i64 s.next]) rfl rfl rfl
  obtain ⟨h',hk',hC⟩:=(Fn.back fun S K=>bPs s S K).cutE bE9 rfl h1 h2
  have hno:∀ y,y<4→h'.get y=S7.heap.get y:=fun y hy=>hk' y fun hm=>by
   simp only [slsVs,gG,List.nil_append,List.append_nil] at hm
   have:=st.own.blks (dM (fun _=>rfl) _) 2 hm
   have:=bv _ this
   omega
  have d2:aI ⟨S7.next,h'⟩ 2 0=.ok (6,[[.nils,.nils,.nils,.nils,.nils,.int .i64 0]]):=aX b2 (hno 2 (by decide))
  have d3:aI ⟨S7.next,h'⟩ 3 0=.ok (3,[[.int .i64 0,.int .i64 0,.int .i64 0]]):=aX b3 (hno 3 (by decide))
  simp only [c6,if_true,hC,srV,kk,d2,d3,iL,gm]
  simp only [oo]
 simp only [c6,if_false,kk,bFe]
 obtain ⟨B,hB⟩:∃ B:St,B=⟨S7.next+1,(S7.heap.put S7.next (.row 0 3 [[.int .i64 0,.int .i64 0,.int .i64 0]])).put S7.next (.row 0 3 [[.int .i64 (cJ s.sess c.session c.seq).1.why,.int .i64 (cJ s.sess c.session c.seq).1.number,.int .i64 (cJ s.sess c.session c.seq).1.gross]])⟩:=⟨_,rfl⟩
 have nB:B.next=S7.next+1:=by rw [hB]
 have nk7:=st.new (k:=S7.next) (Nat.le_refl _)
 have stB:StAt B 0 s v:=by rw [hB];exact (st.put (k:=S7.next) (m:=S7.next+1) (by omega) nk7 (by omega) (Nat.le_succ _)).put (by omega) nk7 (by omega) (Nat.le_refl _)
 have kB:∀ {y n:Nat} {el:List (List V)},y<4→aI S7 y 0=.ok (n,el)→aI B y 0=.ok (n,el):=fun hy hr=>by rw [hB];exact aU (n:=S7.next+1) (by omega) (aU (n:=S7.next) (by omega) hr)
 have rB:aI B S7.next 0=.ok (3,[[.int .i64 (cJ s.sess c.session c.seq).1.why,.int .i64 (cJ s.sess c.session c.seq).1.number,.int .i64 (cJ s.sess c.session c.seq).1.gross]]):=by rw [hB];exact aO _ _ _ _ _ _
 have e0:=kB (by decide) ra
 have e1:=kB (by decide) b1
 have e2:=kB (by decide) b2
 have e3:=kB (by decide) b3
 have hhB:(S7.heap.put S7.next (.row 0 3 [[.int .i64 0,.int .i64 0,.int .i64 0]])).put S7.next (.row 0 3 [[.int .i64 (cJ s.sess c.session c.seq).1.why,.int .i64 (cJ s.sess c.session c.seq).1.number,.int .i64 (cJ s.sess c.session c.seq).1.gross]])=B.heap:=by rw [hB]
 have oB:∀ x y,Own E0 ⟨B.next,(B.heap.put 2 x).put 3 y⟩ 12 v (s.posted.map Posted.enc):=fun x y=>hput B v s x y stB.own fun z hz=>(bv z hz).1
 have z3:(S7.next=2)=False:=by simp;omega
 have z4:(S7.next=3)=False:=by simp;omega
 simp only [hhB,←nB,gm,e0,e1,rB,lK]
 by_cases c7:(cJ s.sess c.session c.seq).2.2=0
 rotate_left
 ·have:=hout ⟨B.next+5,(B.heap.put 2 (.row 0 6 [s.cells v])).put 3 (.row 0 3 [[.int .i64 (cJ s.sess c.session c.seq).2.2,.int .i64 0,.int .i64 0]])⟩ v (s,why (cJ s.sess c.session c.seq).2.2) ((oB _ _).bump 5)
  simp only [c7,kk,e0,e2,e3,gm,lK,o1,o2,iL,not_false_eq_true,if_true,ne_eq]
  exact this
 cases c8:(cJ s.sess c.session c.seq).2.1
 rotate_left
 ·have:=hout ⟨B.next+4,(B.heap.put 2 (.row 0 6 [s.cells v])).put 3 (.row 0 3 [[.int .i64 (cJ s.sess c.session c.seq).1.why,.int .i64 (cJ s.sess c.session c.seq).1.number,.int .i64 (cJ s.sess c.session c.seq).1.gross]])⟩ v (s,(cJ s.sess c.session c.seq).1) ((oB _ _).bump 4)
  simp only [c7,c8,kk,e0,e2,e3,rB,gm,lK,o1,o2,iL,z3,z4,not_true_eq_false,if_true,if_false,ne_eq]
  exact this
 simp only [c7,c8,kk,e0,e1,gm,not_true_eq_false,if_false,Bool.false_eq_true,ne_eq]
 obtain ⟨hq40,hqok⟩:=pO (sW c1)
 refine bPr stB c.cmd hl (by have:=b.bs;omega) (by omega) (fun p hp=>zC (hqok p hp).2) (by have:=b.bb;omega) fun S4 v4 st4 mv4=>?_
 have n4:=mv4.next
 obtain ⟨s',hs'⟩:∃ s',s'=(sV s c.cmd).1:=⟨_,rfl⟩
 obtain ⟨r,hr⟩:∃ r,r=(sV s c.cmd).2:=⟨_,rfl⟩
 have hdo:sV s c.cmd=(s',r):=by rw [hs',hr]
 rw [hdo] at st4 ⊢
 have v4b:∀ y,AM.blkOf v4=some y→4≤y∧y<S4.next:=fun y hy=>by
  have h2:=(dS st4.own hy).2
  rcases mv4.fresh y hy with h | h
  ·have:=bv y h;omega
  ·omega
 have kv:∀ y,y<4→AM.blkOf v≠some y:=fun y hy e=>by have:=bv y e;omega
 have f1:=aX e1 (mv4.keep 1 (by omega) (by decide) (kv 1 (by decide)))
 have f2:=aX e2 (mv4.keep 2 (by omega) (by decide) (kv 2 (by decide)))
 have f3:=aX e3 (mv4.keep 3 (by omega) (by decide) (kv 3 (by decide)))
 have nk4:AM.blkOf v4≠some S4.next:=fun e=>by have:=v4b _ e;omega
 obtain ⟨D,hD⟩:∃ D:St,D=⟨S4.next+1,(S4.heap.put S4.next (.row 0 3 [[.int .i64 0,.int .i64 0,.int .i64 0]])).put S4.next (.row 0 3 [[.int .i64 r.why,.int .i64 r.number,.int .i64 r.gross]])⟩:=⟨_,rfl⟩
 have nD:D.next=S4.next+1:=by rw [hD]
 have stD:StAt D 0 s' v4:=by rw [hD];exact (st4.put (k:=S4.next) (m:=S4.next+1) (by omega) nk4 (by omega) (Nat.le_succ _)).put (by omega) nk4 (by omega) (Nat.le_refl _)
 have kD:∀ {y n:Nat} {el:List (List V)},y<4→aI S4 y 0=.ok (n,el)→aI D y 0=.ok (n,el):=fun hy hr=>by rw [hD];exact aU (n:=S4.next+1) (by omega) (aU (n:=S4.next) (by omega) hr)
 have rD:aI D S4.next 0=.ok (3,[[.int .i64 r.why,.int .i64 r.number,.int .i64 r.gross]]):=by rw [hD];exact aO _ _ _ _ _ _
 have h1:=kD (by decide) f1
 have h2:=kD (by decide) f2
 have h3:=kD (by decide) f3
 have h0:=stD.row
 simp only [State.cells] at h0
 have p1:=stD.own.one
 have p2:=stD.own.cells
 have y2:(S4.next=2)=False:=by simp;omega
 have y3:(S4.next=3)=False:=by simp;omega
 have y0:(S4.next=0)=False:=by simp;omega
 simp only [kk,←hD,h0,h1,rD,bOs s'.sess c.session c.seq r]
 have hend:∀ (E:St) (s9:State),E.next=D.next→Own E0 E 12 v4 (s9.posted.map Posted.enc)→aI E 0 0=.ok (6,[[.imm (s9.table.map Rate.enc),.imm (s9.ser.map Ser.enc),v4,.imm (s9.book.map Bal.enc),.imm (s9.sess.map Sess.enc),.int .i64 s9.next]])→aI E 2 0=.ok (6,[[.nils,.nils,.nils,.nils,.nils,.int .i64 0]])→aI E 3 0=.ok (3,[[.int .i64 0,.int .i64 0,.int .i64 0]])→aI E S4.next 0=.ok (3,[[.int .i64 r.why,.int .i64 r.number,.int .i64 r.gross]])→gS (s',r) c=(s9,r)→
   aF0 C (fun v0 S0=>bY S0 v0=Except.ok (srV (gS (s',r) c))) (V.ptr 0 0 0 0) (V.ptr (1+1) 0 0 0) (V.ptr (1+1+1) 0 0 0) (V.ptr S4.next 0 0 0) E:=by
  intro E s9 hn o i0 i2 i3 ir hk
  have:=hout ⟨E.next+4,(E.heap.put 2 (.row 0 6 [s9.cells v4])).put 3 (.row 0 3 [[.int .i64 r.why,.int .i64 r.number,.int .i64 r.gross]])⟩ v4 (s9,r) ((hput E v4 s9 _ _ o fun z hz=>(v4b z hz).1).bump 4)
  simp only [aF0,kk,gm,i0,i2,i3,ir,iL,y2,y3,p1,p2,hk]
  exact this
 by_cases c9:(jI s'.sess c.session c.seq r).2=0
 ·have hk:gS (s',r) c=({ s' with sess:=(jI s'.sess c.session c.seq r).1 },r):=by simp only [gS,c9,if_true]
  simp only [c9,kk,if_true]
  have stE:=stD.set (s':={ s' with sess:=(jI s'.sess c.session c.seq r).1 }) rfl
  exact hend ⟨D.next,D.heap.put 0 (.row 0 6 [({ s' with sess:=(jI s'.sess c.session c.seq r).1 }:State).cells v4])⟩ _ rfl stE.own stE.row (aU (n:=D.next) (by decide) h2) (aU (n:=D.next) (by decide) h3) (aU (n:=D.next) (by omega) rD) hk
 ·have hk:gS (s',r) c=(s',r):=by simp only [gS,c9,if_false]
  simp only [c9,kk,if_false]
  exact hend D s' rfl stD.own h0 h2 h3 rD hk
end Go.Proofs.YtoaibmbldmckaaaGreat
end
section
namespace Go.AM
theorem bB6 (z:List V) (parts:List (Nat×V)) (fr:Option Nat) (S:St):type_of% (bsl 17 z parts fr S (by decide)):=bsl 17 z parts fr S (by decide)
theorem bG4 (z:List V) (parts:List (Nat×V)) (fr:Option Nat) (S:St):type_of% (bsl 3 z parts fr S (by decide)):=bsl 3 z parts fr S (by decide)
end Go.AM
namespace Go.Proofs.YtoaibmbldmckaaaGreat
open Go.AM Tryz
set_option linter.unusedVariables false
set_option linter.unusedSimpArgs false
set_option maxRecDepth 100000
def Call.enc (c:Call):List V:=[.int .i64 c.session,.int .i64 c.seq,.int .i64 c.cmd.kind,.str c.cmd.series,.int .i64 c.cmd.limit,.str c.cmd.row.cat,.int .i64 c.cmd.row.day.y,.int .i64 c.cmd.row.day.m,.int .i64 c.cmd.row.day.d,.int .i64 c.cmd.row.bp,.int .i64 c.cmd.day.y,.int .i64 c.cmd.day.m,.int .i64 c.cmd.day.d,.imm (c.cmd.lines.map Line.enc),.str c.cmd.of.ser,.int .i64 c.cmd.of.num,.int .i64 c.cmd.session]
theorem bB7 (x:Call):x.enc.length=17∧aM x.enc=true:=⟨rfl,rfl⟩
theorem bG5 (x:Line):x.enc.length=4∧aM x.enc=true:=⟨rfl,rfl⟩
theorem bPt (x:Rep):x.enc.length=3∧aM x.enc=true:=⟨rfl,rfl⟩
theorem aQb {l:List Call} {i:Nat} {a:Call} (hi:l[i]?=some a) (k:IntKind):cP 17 (.imm (l.map Call.enc)) (.int k (i:Int))=.ok (.iptr a.enc 0):=ixI (enc:=Call.enc) hi rfl k
theorem bG6 (l:List Line) (hi:15≤l.length):cC prog 55 (.imm (l.map Line.enc)) none (some (.int .i64 15))=.ok (.imm ((l.take 15).map Line.enc)):=by
 have hb:cB (l.map Line.enc).length none (some (.int .i64 15))=.ok (0,15):=by
  have:(decide ((0:Int)≤15)&&decide ((15:Int)≤((l.map Line.enc).length:Int)))=true:=by simp;omega
  simp only [cB,this,cond_true]
  rfl
 rw [bDz _ (dG (n:=4) (fun c hc=>by obtain ⟨x,_,rfl⟩:=List.mem_map.1 hc;exact bG5 x)).1,hb]
 simp only [List.drop_zero,Nat.sub_zero,List.map_take]
def aLm {α β:Type} (f:α→β) (s:List β) (a:α):List β⊕List β:=.inr (s++[f a])
theorem aDm {α β:Type} (f:α→β):∀ (l:List α) (s:List β),aS (aLm f) id l s=s++l.map f
 | [],s=>by simp [aS]
 | a::l,s=>by simp only [aS,aLm];rw [aDm f l];simp
theorem g30 (l:List Call) (n:Nat) (hn:n≤1000) (S:St) (K:KW):C 30 [.imm (l.map Call.enc),.int .i64 (n:Int)] S K=K (.imm ((qZ l n).map Call.enc)) S:=by
 refine (v30 rfl ?_).eq S K
 simp only [m30]
 have htl:(l.take n).length≤n:=by rw [List.length_take];omega
 have htl2:(l.take n).length≤l.length:=by rw [List.length_take];omega
 refine aZ (l.take n) (step:=aLm pP) (fin:=id) (fun i s vs S=>∃ v,vs=[v,.int .i64 (i:Int)]∧Own E0 S 17 v (s.map Call.enc)∧WF S∧s.length=i) (fun r=>r=qZ l n) ?_ ?_ (s:=[]) ⟨_,rfl,Own.nil _ _ _,oU,rfl⟩ (by rw [aDm];rfl)
 ·rintro i c s vs S hi ⟨v,rfl,own,w,hsl⟩ aQ H
  have hil:=(List.getElem?_eq_some_iff.1 hi).1
  have hi':l[i]?=some c:=by rw [List.getElem?_take,if_pos (by omega)] at hi;exact hi
  have hlt:((i:Int)<(n:Int))=True:=by simp;omega
  simp only [aLm] at H
  obtain ⟨S1,hS1⟩:∃ S1:St,S1=⟨S.next+1,(S.heap.put S.next (.row 0 17 [[.int .i64 0,.int .i64 0,.int .i64 0,.str [],.int .i64 0,.str [],.int .i64 0,.int .i64 0,.int .i64 0,.int .i64 0,.int .i64 0,.int .i64 0,.int .i64 0,.nils,.str [],.int .i64 0,.int .i64 0]])).put S.next (.row 0 17 [c.enc])⟩:=⟨_,rfl⟩
  have x1:Ext S S1:=by rw [hS1];exact Ext.var w 17 _ _
  have n1:S1.next=S.next+1:=by rw [hS1]
  have r1:aI S1 S.next 0=.ok (17,[c.enc]):=by rw [hS1];exact aO _ _ _ _ _ _
  simp only [Call.enc] at r1 hS1
  have hj:∀ X:St,Own E0 X 17 v (s.map Call.enc)→WF X→aI X S.next 0=.ok (17,[(pP c).enc])→aEy C (fun v0 S0=>bY S0 v0=Except.ok (V.imm (List.map Call.enc (qZ l n)))) aQ (.imm (l.map Call.enc)) (.int .i64 (n:Int)) v (.int .i64 (i:Int)) (.ptr S.next 0 0 0) X:=by
   intro X o wX hr
   obtain ⟨v',S',q1,q2,q3,_⟩:=aLj (b:=176) o wX (cs:=[(pP c).enc]) (fun d hd=>by rcases List.mem_singleton.1 hd with rfl;exact bB7 _) (by simp) (by simp;omega) (by simp [eG];omega)
   simp only [Call.enc] at hr q1
   simp only [aEy,kk,hr,bB6,mO (show i<1000000000 by omega)]
   simp only [kk] at q1
   simp only [q1,kk]
   exact H _ _ ⟨v',rfl,by rw [List.map_append];exact q2,q3,by simp;omega⟩
  have own1:=own.ext x1
  have w1:=x1.wf w
  simp only [aEz,kk,dK hi',hlt,if_true,aQb hi',Call.enc,←hS1,r1]
  by_cases h15:15<c.cmd.lines.length
  ·have z:∀ (m:Nat) (b:Blk),Own E0 ⟨m,S1.heap.put S.next b⟩ 17 v (s.map Call.enc)→True:=fun _ _ _=>trivial
   simp only [show (15:Int)<(c.cmd.lines.length:Int) by omega,kk,if_true,bG6 c.cmd.lines (by omega),r1]
   refine hj ⟨S1.next,S1.heap.put S.next (.row 0 17 [(pP c).enc])⟩ (own1.same (Nat.le_refl _) fun y hy=>Tr.get_put_neB _ _ _ _ trivial fun e=>?_) (hJ (n:=S1.next) w1 (by omega) (Nat.le_refl _)) (aO _ _ _ _ _ _)
   have:=(dS own hy).2
   omega
  ·have hcc:(pP c).enc=c.enc:=by
    have:c.cmd.lines.take 15=c.cmd.lines:=List.take_of_length_le (by omega)
    simp only [pP,Call.enc,this]
   simp only [show ¬ (15:Int)<(c.cmd.lines.length:Int) by omega,kk,if_false]
   exact hj S1 own1 w1 (by rw [hcc];exact r1)
 ·rintro s vs S ⟨v,rfl,own,w,hsl⟩ aQ H
  have H:s=qZ l n:=H
  have ho:=own.out fun _=>rfl
  rw [H] at ho
  by_cases c1:l.length≤n
  ·have he:(l.take n).length=l.length:=by rw [List.length_take];omega
   simp only [aEz,kk,he,Int.lt_irrefl,if_false,oo,ho]
  ·have he:(l.take n).length=n:=by rw [List.length_take];omega
   have hlt:(n:Int)<(l.length:Int):=by omega
   simp only [aEz,kk,he,hlt,if_true,Int.lt_irrefl,if_false,oo,ho]
end Go.Proofs.YtoaibmbldmckaaaGreat
end
section
namespace Go.Proofs.YtoaibmbldmckaaaGreat
open Go.AM Tryz
theorem a33 {S:St} {s:State} {pv:V} (h:pv=.imm (s.posted.map Posted.enc)∨Own E0 S 12 pv (s.posted.map Posted.enc)) (c:Call) (b:Bnd s) (hl:c.cmd.lines.length<1000000):∃ h':Tr Blk,(∀ y,AM.blkOf pv≠some y→h'.get y=S.heap.get y)∧∀ K,C 33 [.agg [.imm (s.table.map Rate.enc),.imm (s.ser.map Ser.enc),pv,.imm (s.book.map Bal.enc),.imm (s.sess.map Sess.enc),.int .i64 s.next],
  .agg [.int .i64 c.session,.int .i64 c.seq,.int .i64 c.cmd.kind,.str c.cmd.series,.int .i64 c.cmd.limit,.str c.cmd.row.cat,.int .i64 c.cmd.row.day.y,.int .i64 c.cmd.row.day.m,.int .i64 c.cmd.row.day.d,.int .i64 c.cmd.row.bp,.int .i64 c.cmd.day.y,.int .i64 c.cmd.day.m,.int .i64 c.cmd.day.d,.imm (c.cmd.lines.map Line.enc),.str c.cmd.of.ser,.int .i64 c.cmd.of.num,.int .i64 c.cmd.session]] S K=K (srV (fJ s c)) ⟨S.next,h'⟩:=by
 rcases h with rfl | h
 ·exact ⟨S.heap,fun _ _=>rfl,fun K=>g33 s c b hl S K⟩
 ·obtain ⟨h1,h2⟩:=h.in3 (fun _=>rfl) (x:=.imm (s.table.map Rate.enc)) (y:=.imm (s.ser.map Ser.enc)) (bs:=[.imm (s.book.map Bal.enc),.imm (s.sess.map Sess.enc),.int .i64 s.next]) rfl rfl rfl
  have hf:=h.out fun _=>rfl
  obtain ⟨h',hk,hC⟩:=(Fn.back fun S K=>g33 s c b hl S K).cutE (S:=S) (args:=[.agg [.imm (s.table.map Rate.enc),.imm (s.ser.map Ser.enc),pv,.imm (s.book.map Bal.enc),.imm (s.sess.map Sess.enc),.int .i64 s.next],.agg c.enc]) bKe rfl (by simp only [frzVs,dH,hf,Call.enc]) (by simp only [ptrsVs,qG,h.ptrs,Call.enc];rfl)
  refine ⟨h',fun y hy=>hk y fun hm=>?_,hC⟩
  simp only [slsVs,gG,Call.enc,List.nil_append,List.append_nil] at hm
  exact hy (h.blks (dM (fun _=>rfl) _) 2 hm)
theorem g35 (s:State) (l:List Call) (sm:Sml s) (hll:l.length<100000) (hl:∀ c∈l,c.cmd.lines.length<1000000) (S:St) (K:KW):C 35 [.agg [.imm (s.table.map Rate.enc),.imm (s.ser.map Ser.enc),.imm (s.posted.map Posted.enc),.imm (s.book.map Bal.enc),.imm (s.sess.map Sess.enc),.int .i64 s.next],.imm (l.map Call.enc)] S K=
  K (.tup [.agg [.imm ((playM s l).1.table.map Rate.enc),.imm ((playM s l).1.ser.map Ser.enc),.imm ((playM s l).1.posted.map Posted.enc),.imm ((playM s l).1.book.map Bal.enc),.imm ((playM s l).1.sess.map Sess.enc),.int .i64 (playM s l).1.next],.imm ((playM s l).2.map Rep.enc)]) S:=by
 refine (v35 rfl ?_).eq S K
 obtain ⟨A,hA⟩:∃ A:St,A=⟨1+1,(Tr.nil.put 0 (.row 0 6 [s.enc])).put 1 (.row 0 6 [xS])⟩:=⟨_,rfl⟩
 have wA:WF A:=by rw [hA];exact hJ (n:=1) (hJ oU (by decide) (by decide)) (by decide) (by decide)
 have nA:A.next=2:=by rw [hA]
 have r0:aI A 0 0=.ok (6,[s.enc]):=by rw [hA];rfl
 have r1:aI A 1 0=.ok (6,[xS]):=by rw [hA];rfl
 simp only [State.enc] at r0 hA
 simp only [xS] at hA
 simp only [m35,kk,←hA,r0]
 refine bG3 wA s sm.bnd fun v S6 x6 own6=>?_
 have n6:2≤S6.next:=by have:=x6.next;omega
 have w6:=x6.wf wA
 have bv:∀ y,AM.blkOf v=some y→2≤y∧y<S6.next:=fun y hy=>by have:=dS own6 hy;omega
 have a0:=x6.row r0
 have a1:=x6.row r1
 have own6:=own6.weaken (A:=E0) (Nat.zero_le _)
 have o1:=own6.one
 have o2:=own6.cells
 simp only [kk,a0,o1,o2]
 refine aZ l (step:=aLf) (fin:=id) (fun i st vs S'=>∃ u pv,vs=[u,.int .i64 (i:Int)]∧WF S'∧2≤S'.next∧Own E0 S' 3 u (st.2.map Rep.enc)∧st.2.length=i∧Sml st.1∧aI S' 0 0=.ok (6,[st.1.cells pv])∧aI S' 1 0=.ok (6,[xS])∧(pv=.imm (st.1.posted.map Posted.enc)∨Own E0 S' 12 pv (st.1.posted.map Posted.enc))∧pv.one=true∧pv.cells=[pv]∧(∀ y,AM.blkOf pv=some y→2≤y∧AM.blkOf u≠some y)∧(∀ y,AM.blkOf u=some y→2≤y))
  (fun r=>r=playM s l) ?_ ?_ (s:=(s,[])) ⟨.nils,v,rfl,hJ (n:=S6.next) w6 (by omega) (Nat.le_refl _),n6,Own.nil _ _ _,rfl,sm,aO _ _ _ _ _ _,aU (n:=S6.next) (by decide) a1,.inr (own6.same (Nat.le_refl _) fun y hy=>Tr.get_put_neB _ _ _ _ trivial (by have:=bv y hy;omega)),o1,o2,fun y hy=>⟨(bv y hy).1,fun h=>by cases h⟩,fun y hy=>by cases hy⟩ (by rw [aDj];rfl)
 ·rintro i c ⟨s1,rs⟩ vs S1 hi ⟨u,pv,rfl,w,h2,ou,hrl,sm1,i0,i1,hpv,p1,p2,hb,hbu⟩ aQ H
  have hil:=(List.getElem?_eq_some_iff.1 hi).1
  have hrl:rs.length=i:=hrl
  simp only [aLf,rA] at H
  obtain ⟨B,hB⟩:∃ B:St,B=⟨S1.next+1+1,((S1.heap.put S1.next (.row 0 17 [bEw])).put S1.next (.row 0 17 [c.enc])).put (S1.next+1) (.row 0 3 [[.int .i64 0,.int .i64 0,.int .i64 0]])⟩:=⟨_,rfl⟩
  have nB:B.next=S1.next+2:=by rw [hB]
  have wB:WF B:=by rw [hB];exact hJ (n:=S1.next+1) (hJ (n:=S1.next+1) (hJ (n:=S1.next) w (by omega) (by omega)) (by omega) (Nat.le_refl _)) (by omega) (by omega)
  have kB:∀ y,y<S1.next→B.heap.get y=S1.heap.get y:=fun y hy=>by
   rw [hB]
   show (((S1.heap.put S1.next _).put S1.next _).put (S1.next+1) _).get y=_
   rw [Tr.get_put_neB _ _ _ _ trivial (by omega),Tr.get_put_neB _ _ _ _ trivial (by omega),Tr.get_put_neB _ _ _ _ trivial (by omega)]
  have j0:=aX i0 (kB 0 (by omega))
  have j1:=aX i1 (kB 1 (by omega))
  have jc:aI B S1.next 0=.ok (17,[c.enc]):=by rw [hB];exact aU (n:=S1.next+1) (by omega) (aO _ _ _ _ _ _)
  have jr:aI B (S1.next+1) 0=.ok (3,[[.int .i64 0,.int .i64 0,.int .i64 0]]):=by rw [hB];exact aO _ _ _ _ _ _
  have ouB:Own E0 B 3 u (rs.map Rep.enc):=ou.same (by omega) fun y hy=>kB y (dS ou hy).2
  have hpB:pv=.imm (s1.posted.map Posted.enc)∨Own E0 B 12 pv (s1.posted.map Posted.enc):=by
   rcases hpv with h | h
   ·exact .inl h
   ·exact .inr (h.same (by omega) fun y hy=>kB y (dS h hy).2)
  have hpl:∀ y,AM.blkOf pv=some y→y<S1.next:=fun y hy=>by
   rcases hpv with h | h
   ·rw [h] at hy;cases hy
   ·exact (dS h hy).2
  obtain ⟨h',hk,hC⟩:=a33 hpB c sm1.bnd (hl c (List.mem_of_getElem? hi))
  have wD:WF ⟨B.next,h'⟩:=fun y b hy=>by
   by_cases e:AM.blkOf pv=some y
   ·have:=hpl y e;show y<B.next;omega
   ·exact wB y b (by rw [←hk y e];exact hy)
  have d0:aI ⟨B.next,h'⟩ 0 0=.ok (6,[s1.cells pv]):=aX j0 (hk 0 fun e=>by have:=hb _ e;omega)
  have d1:aI ⟨B.next,h'⟩ 1 0=.ok (6,[xS]):=aX j1 (hk 1 fun e=>by have:=hb _ e;omega)
  have dr:aI ⟨B.next,h'⟩ (S1.next+1) 0=.ok (3,[[.int .i64 0,.int .i64 0,.int .i64 0]]):=aX jr (hk _ fun e=>by have:=hpl _ e;omega)
  have oD:Own E0 ⟨B.next,h'⟩ 3 u (rs.map Rep.enc):=ouB.same (Nat.le_refl _) fun y hy=>hk y fun e=>(hb y e).2 hy
  simp only [bEw,Call.enc] at hB
  simp only [Call.enc] at jc
  simp only [State.cells] at j0 d0
  simp only [aJj,kk,dK hi,aQb hi,Call.enc,←hB,j0,jc,p1,p2,hC,srV,d0,dr,iL,bG4,mO (show i<1000000000 by omega),show (S1.next+1=0)=False by simp]
  obtain ⟨s2,hs2⟩:∃ s2,s2=(fJ s1 c).1:=⟨_,rfl⟩
  obtain ⟨r,hr⟩:∃ r,r=(fJ s1 c).2:=⟨_,rfl⟩
  have sm2:Sml s2:=by rw [hs2];exact aK1 sm1 c
  simp only [←hs2,←hr] at H ⊢
  obtain ⟨E,hE⟩:∃ E:St,E=⟨B.next,(h'.put 0 (.row 0 6 [s2.enc])).put (S1.next+1) (.row 0 3 [r.enc])⟩:=⟨_,rfl⟩
  have wE:WF E:=by rw [hE];exact hJ (n:=B.next) (hJ (n:=B.next) wD (by omega) (Nat.le_refl _)) (by omega) (Nat.le_refl _)
  have nE:E.next=B.next:=by rw [hE]
  have hul:∀ y,AM.blkOf u=some y→y<S1.next:=fun y hy=>(dS ou hy).2
  have oE:Own E0 E 3 u (rs.map Rep.enc):=by
   rw [hE]
   exact oD.same (Nat.le_refl _) fun y hy=>by
    have h1:=hul y hy
    have h2:=hbu y hy
    show ((h'.put 0 _).put (S1.next+1) _).get y=_
    rw [Tr.get_put_neB _ _ _ _ trivial (by omega),Tr.get_put_neB _ _ _ _ trivial (by omega)]
  have k0:aI E 0 0=.ok (6,[s2.enc]):=by rw [hE];exact aU (n:=B.next) (by omega) (aO _ _ _ _ _ _)
  have k1:aI E 1 0=.ok (6,[xS]):=by rw [hE];exact aU (n:=B.next) (by omega) (aU (n:=B.next) (by decide) d1)
  obtain ⟨u',F,q1,q2,q3,q4⟩:=aLj (b:=24) oE wE (cs:=[r.enc]) (fun d hd=>by rcases List.mem_singleton.1 hd with rfl;exact bPt _) (by simp) (by simp;omega) (by simp [eG];omega)
  have hu':∀ y,AM.blkOf u'=some y→2≤y:=fun y hy=>by
   have hnn:∀ z,z<2→F.heap.get z=E.heap.get z:=fun z hz=>q4 z (by omega) fun a ver m hv e=>by have:=hbu a (by rw [hv];rfl);omega
   rcases q2.is with ⟨rfl,_⟩ | ⟨a',ver',tl,rfl,_,hlt,hg⟩
   ·cases hy
   ·cases hy
    rcases Nat.lt_or_ge y 2 with h | h
    ·rw [hnn y h] at hg
     have:y=0∨y=1:=by omega
     rcases this with rfl | rfl
     ·rw [wQ k0] at hg;cases hg
     ·rw [wQ k1] at hg;cases hg
    ·exact h
  have l0:aI F 0 0=.ok (6,[s2.enc]):=aX k0 (q4 0 (by omega) fun a ver m hv e=>by have:=hbu a (by rw [hv];rfl);omega)
  have l1:aI F 1 0=.ok (6,[xS]):=aX k1 (q4 1 (by omega) fun a ver m hv e=>by have:=hbu a (by rw [hv];rfl);omega)
  have hFn:2≤F.next:=by have:=q3 0 _ (wQ l0);have:=q3 1 _ (wQ l1);omega
  subst hE
  simp only [State.enc,Rep.enc,kk] at q1
  simp only [q1,kk]
  exact H _ _ ⟨u',.imm (s2.posted.map Posted.enc),rfl,q3,hFn,by rw [List.map_append];exact q2,by simp;omega,sm2,l0,l1,.inl rfl,rfl,rfl,(fun y hy=>(by cases hy)),hu'⟩
 ·rintro ⟨s1,rs⟩ vs S1 ⟨u,pv,rfl,w,h2,ou,hrl,sm1,i0,i1,hpv,p1,p2,hb,hbu⟩ aQ H
  have H':playM s l=(s1,rs):=H.symm
  simp only [State.cells] at i0
  simp only [xS] at i1
  simp only [aJj,kk,Int.lt_irrefl,if_false,i0,i1,iL,p1,p2,H']
  have hu1:dH lX (oS (kA ⟨S1.next,S1.heap.put 1 (.row 0 6 [s1.cells pv])⟩ 3) ⟨S1.next,S1.heap.put 1 (.row 0 6 [s1.cells pv])⟩) u=.ok (.imm (rs.map Rep.enc)):=(ou.same (S':=⟨S1.next,S1.heap.put 1 (.row 0 6 [s1.cells pv])⟩) (Nat.le_refl _) fun y hy=>Tr.get_put_neB _ _ _ _ trivial (by have:=hbu y hy;omega)).out fun _=>rfl
  have hu2:dH lX (oS (kA ⟨S1.next,S1.heap.put 1 (.row 0 6 [s1.cells pv])⟩ 3) ⟨S1.next,S1.heap.put 1 (.row 0 6 [s1.cells pv])⟩) pv=.ok (.imm (s1.posted.map Posted.enc)):=by
   rcases hpv with rfl | h
   ·rfl
   ·exact (h.same (S':=⟨S1.next,S1.heap.put 1 (.row 0 6 [s1.cells pv])⟩) (Nat.le_refl _) fun y hy=>Tr.get_put_neB _ _ _ _ trivial (by have:=hb y hy;omega)).out fun _=>rfl
  simp only [State.cells] at hu1 hu2
  simp only [oo,hu1,hu2]
end Go.Proofs.YtoaibmbldmckaaaGreat
end
section
set_option linter.unusedSimpArgs false
set_option linter.unusedVariables false
namespace Go.AM
structure Lit where
 args:List V
 n:Nat
 blocks:List (Nat×Blk)
 v:V
 n':Nat
 blocks':List (Nat×Blk)
theorem RelH.part {F:Nat→Option Obj} {G:Gh} {S S1:St} {H:Array Obj} (R:fL F G S H) (hn:S1.next=S.next) (hs:∀ a b,S1.heap.get a=some b→S.heap.get a=some b):fL F G S1 H:=by
 constructor
 ·intro a ha;rw [hn] at ha;exact R.fresh a ha
 ·exact R.sep
 ·exact fun a b h=>R.blk a b (hs a b h)
 ·exact fun a a' b b' i h h'=>R.inj a a' b b' i (hs a b h) (hs a' b' h')
 ·exact R.fr
 ·exact R.pr
 ·exact fun a b i h=>R.own a b i (hs a b h)
 ·exact R.lt
 ·exact fun a b h=>R.small a b (hs a b h)
end Go.AM
namespace Go.AM
end Go.AM
end
section
namespace Go.AM
open Go.RowKit Go.ChangeShapes
section
def Gh.all (W:World):Gh:={ Gh.none with pr:=fun b=>W.heap[b]? }
theorem aX7 (W:World):fL (fun i=>W.heap[i]?) (Gh.all W) St.empty W.heap:=
 ⟨fun _ _=>⟨rfl,rfl⟩,fun _ _ h=>(by cases h),fun a b h=>(by cases h),fun a a' b b' i h=>(by cases h),fun i o h=>h,fun i o h=>h,fun a b i h=>(by cases h),
  fun a i h=>(by rcases h with ⟨L,h,_⟩ | h<;>cases h),fun a b h=>(by cases h)⟩
theorem zG {P:Program} {pl:eU} (hp:PlansOK P pl) {k:Nat} {f:FuncId} {args:List V} {S':St} (h:dW P pl k f args St.empty=.ok (.bool true,S')) (W:World) {cs:List Value} (hc:VRs (Gh.all W) args cs):
  Calls P f cs.toArray W fun e W'=>e=.returned (.bool true)∧Below W.heap.size W W':=by
 refine ((yM hp k).calls h (aX7 W) hc).mono ?_
 rintro e W' ⟨G',w,rfl,q1,q2⟩
 cases q2
 refine ⟨rfl,q1.same.os,q1.same.tape,q1.same.output,q1.same.size,fun i hi=>?_⟩
 have:=Array.getElem?_eq_getElem hi
 rw [this]
 exact q1.rel.fr i _ this
def bE (P:Program):Nat→TypeId→List V→Prop
 | 0,_,_=>False
 | n+1,t,xs=>match P.underlying t with
  | some .bool=>∃ b,xs=[.bool b]
  | some (.int k)=>∃ i,xs=[.int k i]∧(Lit.int k i).wf=true
  | some .string=>∃ s,xs=[.str s]∧s.length≤maxLen
  | some (.slice e)=>∃ es,xs=[.imm es]∧es.length≤maxLen∧∀ c,c∈es→c.length=P.cellsOf e∧bE P n e c
  | some (.struct fs)=>xs.length=P.cellsOf t∧∀ f,f∈fs.toList→bE P n f.type ((xs.drop f.offset).take (P.cellsOf f.type))
  | _=>False
def aLn (P:Program):List Field→Nat→Nat→Bool
 | [],o,e=>Nat.beq o e
 | f::l,o,e=>Nat.beq f.offset o&&aLn P l (o+P.cellsOf f.type) e
def uF (P:Program):Nat→TypeId→Bool
 | 0,_=>false
 | d+1,t=>match P.underlying t with
  | some .bool=>true
  | some (.int _)=>true
  | some .string=>true
  | some (.slice e)=>Nat.blt 0 (P.cellsOf e)&&uF P d e
  | some (.struct fs)=>aLn P fs.toList 0 (P.cellsOf t)&&fs.toList.all fun f=>uF P d f.type
  | _=>false
theorem aLo {α:Type} {Q:Nat→α→Prop}:∀ n,(∀ i,i<n→∃ a,Q i a)→∃ l:List α,l.length=n∧∀ i a,l[i]?=some a→Q i a
 | 0,_=>⟨[],rfl,fun i a h=>by simp at h⟩
 | n+1,h=>by
  obtain ⟨l,h1,h2⟩:=aLo n fun i hi=>h i (by omega)
  obtain ⟨a,ha⟩:=h n (by omega)
  refine ⟨l++[a],by simp [h1],fun i x hx=>?_⟩
  by_cases c:i<n
  ·rw [List.getElem?_append_left (by omega)] at hx;exact h2 i x hx
  ·have hi:i<(l++[a]).length:=(List.getElem?_eq_some_iff.1 hx).1
   simp only [List.length_append,List.length_cons,List.length_nil] at hi
   have:i=n:=by omega
   subst this
   rw [List.getElem?_append_right (by omega),h1,Nat.sub_self] at hx
   cases hx;exact ha
theorem VRss.of {G:Gh}:∀ {l:List (List V×List Value)},(∀ x,x∈l→VRs G x.1 x.2)→VRss G (l.map (·.1)) (l.map (·.2))
 | [],_=>.nil
 | x::l,h=>.cons _ _ _ _ (h x (List.mem_cons_self ..)) (VRss.of fun y hy=>h y (List.mem_cons_of_mem _ hy))
section
variable {H:Type} {enc:TypeId×Value→H} {P:Program} {W:World} {sp:Nat→Bool} {held:Bool}
theorem aXu {n:Nat} {cs:List Value} (ih:∀ (t:TypeId) (cs:List Value) (x:DataW H×List MemPlace) (d:Nat),uF P d t=true→DataW.trod enc P W 0 sp held n t cs=some x→∃ xs,VRs (Gh.all W) xs cs∧bE P n t xs) {d:Nat}:
  ∀ (l:List Field) (o e:Nat),aLn P l o e=true→e≤cs.length→(∀ f,f∈l→uF P d f.type=true∧∃ x,DataW.trod enc P W 0 sp held n f.type ((cs.drop f.offset).take (P.cellsOf f.type))=some x)→
   o≤e∧∃ xs,VRs (Gh.all W) xs ((cs.drop o).take (e - o))∧∀ f,f∈l→o≤f.offset∧bE P n f.type ((xs.drop (f.offset - o)).take (P.cellsOf f.type))
 | [],o,e,h,he,_=>by
  have:o=e:=Nat.eq_of_beq_eq_true h
  subst this
  exact ⟨Nat.le_refl _,[],by rw [Nat.sub_self];exact .nil,fun _ h=>by cases h⟩
 | f::l,o,e,h,he,hf=>by
  simp only [aLn,Bool.and_eq_true] at h
  have h0:f.offset=o:=Nat.eq_of_beq_eq_true h.1
  obtain ⟨hle,xs,hv,hs⟩:=aXu ih l (o+P.cellsOf f.type) e h.2 he (fun g hg=>hf g (List.mem_cons_of_mem _ hg))
  obtain ⟨hpl,x,hx⟩:=hf f (List.mem_cons_self ..)
  obtain ⟨ys,hy,hsy⟩:=ih _ _ _ d hpl hx
  rw [h0] at hy
  have hyl:ys.length=P.cellsOf f.type:=by rw [hy.length,List.length_take,List.length_drop];omega
  refine ⟨by omega,ys++xs,?_,fun g hg=>?_⟩
  ·have:(cs.drop o).take (e - o)=(cs.drop o).take (P.cellsOf f.type)++(cs.drop (o+P.cellsOf f.type)).take (e - (o+P.cellsOf f.type)):=by
    rw [←List.drop_drop,←List.take_add]
    congr 1
    omega
   rw [this]
   exact hy.append hv
  ·rcases List.mem_cons.1 hg with rfl | hg
   ·refine ⟨by omega,?_⟩
    rw [h0,Nat.sub_self,List.drop_zero,List.take_append_of_le_length (by omega),List.take_of_length_le (by omega)]
    exact hsy
   ·obtain ⟨h1,h2⟩:=hs g hg
    refine ⟨by omega,?_⟩
    rw [List.drop_append,List.drop_eq_nil_of_le (by omega),List.nil_append,hyl]
    have:g.offset - o - P.cellsOf f.type=g.offset - (o+P.cellsOf f.type):=by omega
    rw [this]
    exact h2
theorem xT {a:Addr} {n:Nat} {r:List Value} (h:W.cells? 0 a n=some r):r.length=n∧∀ k v,r[k]?=some v→W.cell? (a.add k)=some v:=by
 unfold World.cells? at h
 rw [if_pos (Nat.zero_le _)] at h
 have hl:=mapM_some_length h
 rw [List.length_range] at hl
 refine ⟨hl,fun k v hk=>?_⟩
 have hkn:k<n:=by have:=(List.getElem?_eq_some_iff.1 hk).1;omega
 have:=mapM_some_get h k k (by rw [List.getElem?_range hkn])
 rw [this,hk]
theorem aLp {a:Addr} {v:Value} (h:W.cell? a=some v):∃ c ty fr,W.heap[a.block]?=some (.cells c ty fr)∧a.spot=none∧c[a.off]?=some v:=by
 unfold World.cell? at h
 split at h
 ·rename_i c ty fr hc
  split at h
  ·cases h
  ·rename_i hs
   exact ⟨c,ty,fr,hc,by simpa using hs,h⟩
 ·cases h
theorem aDn (a:Addr) (n:Nat):(a.add n).block=a.block:=by
 unfold Addr.add
 split<;>rfl
theorem aLq (a:Addr) (n:Nat):(a.add n).off=a.off+n:=by
 unfold Addr.add
 split
 ·rename_i h;rw [h,Nat.add_zero]
 ·rfl
theorem aDo (a:Addr):a.add 0=a:=by unfold Addr.add;rw [if_pos rfl]
theorem aK3:∀ (n:Nat) (t:TypeId) (cs:List Value) (x:DataW H×List MemPlace) (d:Nat),uF P d t=true→DataW.trod enc P W 0 sp held n t cs=some x→∃ xs,VRs (Gh.all W) xs cs∧bE P n t xs
 | 0,t,cs,x,d,_,h=>by simp [DataW.trod] at h
 | n+1,t,cs,x,0,hp,h=>by cases hp
 | n+1,t,cs,x,d+1,hp,h=>by
  simp only [uF] at hp
  split at hp
  ·rename_i ht
   obtain ⟨b,rfl,_⟩:=DataW.trod_bool ht h
   exact ⟨[.bool b],.cons _ _ _ _ (.bool b) .nil,by simp only [bE,ht];exact ⟨b,rfl⟩⟩
  ·rename_i k ht
   obtain ⟨i,rfl,_,hw⟩:=DataW.trod_int ht h
   exact ⟨[.int k i],.cons _ _ _ _ (.int k i) .nil,by simp only [bE,ht];exact ⟨i,rfl,hw⟩⟩
  ·rename_i ht
   obtain ⟨s,rfl,_,hs⟩:=DataW.trod_string ht h
   refine ⟨[.str s.data.toList],.cons _ _ _ _ (.str s.data.toList) .nil,?_⟩
   simp only [bE,ht]
   exact ⟨_,rfl,hs⟩
  ·rename_i e ht
   simp only [Bool.and_eq_true,Nat.blt_eq] at hp
   rcases DataW.trod_slice ht h with ⟨rfl,_⟩ | ⟨a,len,cap,elems,rest,m,hm,rfl,_,_,hlc,hcap,hel,hget,_,_⟩
   ·exact ⟨[.imm []],.cons _ _ _ _ .imm0 .nil,by simp only [bE,ht];exact ⟨[],rfl,Nat.zero_le _,fun c hc=>by cases hc⟩⟩
   ·have hm:m=n:=by omega
    subst hm
    obtain ⟨l,hl,hq⟩:=aLo (Q:=fun i (y:List V×List Value)=>W.cells? 0 (a.add (i*P.cellsOf e)) (P.cellsOf e)=some y.2∧VRs (Gh.all W) y.1 y.2∧bE P m e y.1) len (fun i hi=>by
     have h1:=hget i hi
     rw [List.getElem?_eq_getElem (by omega:i<elems.length)] at h1
     rw [Option.bind_eq_some_iff] at h1
     obtain ⟨r,h2,h3⟩:=h1
     obtain ⟨c,h4,h5⟩:=aK3 m e r _ d hp.2 h3
     exact ⟨(c,r),h2,h4,h5⟩)
    have hlen:∀ y,y∈l→y.1.length=P.cellsOf e∧y.2.length=P.cellsOf e:=fun y hy=>by
     obtain ⟨i,hi⟩:=List.mem_iff_getElem?.1 hy
     obtain ⟨h1,h2,_⟩:=hq i y hi
     have:=(xT h1).1
     exact ⟨by rw [h2.length];exact this,this⟩
    refine ⟨[.imm (l.map (·.1))],.cons _ _ _ _ (.imm _ a len cap (P.cellsOf e) (by rw [List.length_map,hl]) hlc (l.map (·.2)) (VRss.of fun y hy=>?_) (fun c hc=>?_) ?_) .nil,?_⟩
    ·obtain ⟨i,hi⟩:=List.mem_iff_getElem?.1 hy
     exact (hq i y hi).2.1
    ·obtain ⟨y,hy,rfl⟩:=List.mem_map.1 hc
     exact (hlen y hy).1
    ·by_cases h0:len=0
     ·exact .inl h0
     ·right
      obtain ⟨y0,hy0⟩:∃ y0,l[0]?=some y0:=⟨l[0]'(by omega),List.getElem?_eq_getElem (by omega)⟩
      obtain ⟨h1,_,_⟩:=hq 0 y0 hy0
      rw [Nat.zero_mul,aDo] at h1
      obtain ⟨hyl,hcell⟩:=xT h1
      obtain ⟨v0,hv0⟩:∃ v0,y0.2[0]?=some v0:=⟨y0.2[0]'(by omega),List.getElem?_eq_getElem (by omega)⟩
      have hc0:=hcell 0 v0 hv0
      rw [aDo] at hc0
      obtain ⟨c,ty,fr,hh,hs,_⟩:=aLp hc0
      refine ⟨c,ty,fr,hh,hs,fun i r hr k v hk=>?_⟩
      rw [List.getElem?_map] at hr
      obtain ⟨y,hy,rfl⟩:∃ y,l[i]?=some y∧y.2=r:=by
       cases hy:l[i]? with
       | none=>rw [hy] at hr;cases hr
       | some y=>rw [hy] at hr;exact ⟨y,rfl,Option.some.inj hr⟩
      obtain ⟨h2,_,_⟩:=hq i y hy
      obtain ⟨c',ty',fr',hh',_,hv⟩:=aLp ((xT h2).2 k v hk)
      rw [aDn,aDn,hh] at hh'
      rw [aLq,aLq] at hv
      cases hh'
      exact hv
    ·simp only [bE,ht]
     refine ⟨_,rfl,by rw [List.length_map,hl];omega,fun c hc=>?_⟩
     obtain ⟨y,hy,rfl⟩:=List.mem_map.1 hc
     obtain ⟨i,hi⟩:=List.mem_iff_getElem?.1 hy
     exact ⟨(hlen y hy).1,(hq i y hi).2.2⟩
  ·rename_i fs ht
   simp only [Bool.and_eq_true,List.all_eq_true] at hp
   obtain ⟨xs,m,hm,_,hcl,hxl,hf⟩:=DataW.trod_struct ht h
   have hm:m=n:=by omega
   subst hm
   obtain ⟨_,ys,h1,h2⟩:=aXu (enc:=enc) (sp:=sp) (held:=held) (cs:=cs) (fun t cs x d=>aK3 m t cs x d) fs.toList 0 (P.cellsOf t) hp.1 (Nat.le_of_eq hcl.symm) (fun f hfm=>by
    refine ⟨hp.2 f hfm,?_⟩
    obtain ⟨i,hi⟩:=List.mem_iff_getElem?.1 hfm
    have hi':fs[i]?=some f:=by simpa using hi
    rw [hf i f hi']
    have:i<xs.length:=by
     rw [hxl]
     by_cases c:i<fs.size
     ·exact c
     ·rw [Array.getElem?_eq_none (by omega)] at hi';cases hi'
    exact ⟨_,List.getElem?_eq_getElem this⟩)
   rw [Nat.sub_zero,List.drop_zero,List.take_of_length_le (by omega)] at h1
   refine ⟨ys,h1,?_⟩
   simp only [bE,ht]
   refine ⟨by rw [h1.length,hcl],fun f hfm=>?_⟩
   have:=(h2 f hfm).2
   rwa [Nat.sub_zero] at this
  ·cases hp
end
end
end Go.AM
end
section
namespace Go.AM
open Go.ChangeShapes Go.WideShapes Go.ChangeAt Go.RowKit
theorem aCl {H:Type} {enc:TypeId×Value→H} {P:Program} {f:Func} {s:ChangeSpec} {apart fresh handsOn:Bool} {W W':World} {args:Array Value} {v:Value} {ds gs:List (DataW H)} {before pa pv:List MemPlace}
  (hW:DataW.Whole enc P f.params.toList s.vars apart W args.toList ds gs before)
  (hres:∀ (b:Nat) (sp:Nat→Bool) (hd:Bool),DataW.TrodAll enc P W' b sp hd f.resultTypes.toList (v.resultList f.resultTypes.size) (s.fn H (ds++gs)).results [])
  (hargs:∀ sp:Nat→Bool,(∀ p∈before,sp p.block=true)→DataW.TrodAll enc P W' 0 sp true f.params.toList args.toList (s.fn H (ds++gs)).args pa)
  (hvars:∀ sp:Nat→Bool,(∀ p∈before,sp p.block=true)→DataW.TrodVars enc P W' sp s.vars (s.fn H (ds++gs)).vars pv)
  (hps:before=pa++pv) (hk:W.keptBut W' (·∈before)):
  s.post enc P f apart fresh handsOn false W args v W':=by
 have hold:∀ p∈before,(fun b=>decide (b<W.heap.size)) p.block=true:=fun p hp=>by simpa using hW.lt p hp
 refine ⟨ds,gs,before,[],pa,pv,hW,hres _ _ _,hargs _ hold,hvars _ hold,World.keptBut_mono (fun p hp=>⟨hp,?_⟩) hk,fun h=>by cases h⟩
 rw [hps,List.mem_append] at hp
 exact Or.inr hp
theorem aCm {W W':World} (h:Below W.heap.size W W') (S:MemPlace→Prop):W.keptBut W' S:=Below.frame h S
theorem aNn {H:Type} {enc:TypeId×Value→H} {P:Program} {W:World} {t:TypeId} (ht:P.underlying t=some .bool) (b:Nat) (sp:Nat→Bool) (hd:Bool):
  DataW.TrodAll enc P W b sp hd [t] ((Value.bool true).resultList 1) [.lit (.bool true)] []:=
 trodAll_mk1 ⟨1,by simp [DataW.trod,Value.cells,ht]⟩
end Go.AM
end
section
namespace Go.AM
open Go.RowKit Go.ChangeShapes
section
theorem Does.calls {P:Program} {pl:eU} {lv:lB} (hp:PlansOK P pl) {f:FuncId} {args:List V} (h:Does P pl lv f args St.empty fun u _=>u=.bool true) (W:World) {cs:List Value} (hc:VRs (Gh.all W) args cs):
  Calls P f cs.toArray W fun e W'=>e=.returned (.bool true)∧Below W.heap.size W W':=by
 obtain ⟨k,v,S',hv,hk⟩:=h.says
 subst hv
 exact zG hp hk W hc
section
variable {H:Type} {enc:TypeId×Value→H} {P:Program} {W:World} {sp:Nat→Bool} {held:Bool}
theorem aCn {r:Reach} {b0:Nat} {t e:TypeId} {v:Value} (ht:P.underlying t=some (.slice e)) (hval:Value.okWide P W r b0 t v):v.cells.toList=[v]:=by
 cases v with
 | agg cs=>simp [Value.okWide,ht,Cell.okWide,Cell.ok] at hval
 | _=>rfl
theorem aBs {r:Reach} {b0 d:Nat} {t e:TypeId} {v:Value} {dd:DataW H} {ps:List MemPlace} (ht:P.underlying t=some (.slice e)) (hpl:uF P d t=true) (hval:Value.okWide P W r b0 t v) (hd:DataW.Trod enc P W 0 sp held t v dd ps):
  ∃ x n,VR (Gh.all W) x v∧bE P n t [x]:=by
 obtain ⟨fuel,hf⟩:=hd
 obtain ⟨xs,h1,h2⟩:=aK3 fuel t _ _ d hpl hf
 rw [aCn ht hval] at h1
 cases h1 with
 | cons x _ vs _ hx t'=>
  cases t'
  exact ⟨x,fuel,hx,h2⟩
theorem aNo {t:TypeId} (hl:laidOutB P=true) (hr:P.readableRec t=true) (hrow:t<P.types.size) {W':World} {v:Value} {d:DataW H} {ps:List MemPlace} (h:DataW.Trod enc P W 0 (fun _=>true) true t v d ps) (hb:Below W.heap.size W W')
  (hlt:∀ x∈ps,x.block<W.heap.size) {sp':Nat→Bool} (hs:∀ x∈ps,sp' x.block=true):DataW.Trod enc P W' 0 sp' true t v d ps:=
 WideElems.Trod_stays hl hr hrow h (fun x hx=>hb.same (hlt x hx)) hs
end
end
end Go.AM
end
section
namespace Go.Proofs.YtoaibmbldmckaaaGreat
open Go.AM Tryz
theorem lU {P:Program} {n:Nat} {t:TypeId} {fs:Array Field} {xs:List V} (ht:P.underlying t=some (.struct fs)) (h:bE P n t xs):
  ∃ m,xs.length=P.cellsOf t∧∀ (i:Nat) (f:Field),fs[i]?=some f→bE P m f.type ((xs.drop f.offset).take (P.cellsOf f.type)):=by
 cases n with
 | zero=>cases h
 | succ m=>
  simp only [bE,ht] at h
  exact ⟨m,h.1,fun i f hf=>h.2 f (List.mem_of_getElem? (by rw [Array.getElem?_toList];exact hf))⟩
theorem aI1 {P:Program} {n:Nat} {t e:TypeId} {xs:List V} (ht:P.underlying t=some (.slice e)) (h:bE P n t xs):
  ∃ m es,xs=[.imm es]∧∀ c,c∈es→c.length=P.cellsOf e∧bE P m e c:=by
 cases n with
 | zero=>cases h
 | succ m=>
  simp only [bE,ht] at h
  obtain ⟨es,h1,_,h2⟩:=h
  exact ⟨m,es,h1,h2⟩
theorem c3:prog.cellsOf 3=1:=by kernel_rfl
theorem c9:prog.cellsOf 9=1:=by kernel_rfl
theorem lA {n:Nat} {xs:List V} (h:bE prog n 3 xs):∃ i,xs=[.int .i64 i]:=by
 cases n with
 | zero=>cases h
 | succ m=>
  simp only [bE,Tryz.underlying3] at h
  obtain ⟨i,h,_⟩:=h
  exact ⟨i,h⟩
theorem aBt {n:Nat} {xs:List V} (h:bE prog n 9 xs):∃ s,xs=[.str s]:=by
 cases n with
 | zero=>cases h
 | succ m=>
  simp only [bE,Tryz.underlying9] at h
  obtain ⟨s,h,_⟩:=h
  exact ⟨s,h⟩
theorem cut (xs:List V) (o k:Nat):xs.drop o=(xs.drop o).take k++xs.drop (o+k):=by
 rw [←List.drop_drop,List.take_append_drop]
theorem aBu {α:Type} {enc:α→List V}:∀ {es:List (List V)},(∀ c,c∈es→∃ a:α,c=enc a)→∃ l:List α,es=l.map enc
 | [],_=>⟨[],rfl⟩
 | c::es,h=>by
  obtain ⟨a,ha⟩:=h c (List.mem_cons_self ..)
  obtain ⟨l,hl⟩:=aBu fun d hd=>h d (List.mem_cons_of_mem _ hd)
  exact ⟨a::l,by rw [ha,hl];rfl⟩
theorem c52:prog.cellsOf 52=3:=by kernel_rfl
theorem aLr {n:Nat} {xs:List V} (h:bE prog n 52 xs):∃ d:Date,xs=d.enc:=by
 obtain ⟨m,hl,hf⟩:=lU Tryz.underlying52 h
 rw [c52] at hl
 have h0:bE prog m 3 ((xs.drop 0).take (prog.cellsOf 3)):=hf 0 _ rfl
 rw [c3] at h0
 obtain ⟨x0,e0⟩:=lA h0
 have q0:=cut xs 0 1
 rw [e0] at q0
 have h1:bE prog m 3 ((xs.drop 1).take (prog.cellsOf 3)):=hf 1 _ rfl
 rw [c3] at h1
 obtain ⟨x1,e1⟩:=lA h1
 have q1:=cut xs 1 1
 rw [e1] at q1
 have h2:bE prog m 3 ((xs.drop 2).take (prog.cellsOf 3)):=hf 2 _ rfl
 rw [c3] at h2
 obtain ⟨x2,e2⟩:=lA h2
 have q2:=cut xs 2 1
 rw [e2] at q2
 have hend:xs.drop 3=[]:=List.drop_eq_nil_of_le (by omega)
 have hx:xs=[.int .i64 x0]++([.int .i64 x1]++([.int .i64 x2]++[])):=by
  have z:xs=xs.drop 0:=rfl
  rw [z,q0,q1,q2]
  show _=_
  rw [show (2+1:Nat)=3 from rfl,hend]
 rw [hx]
 exact ⟨⟨x0,x1,x2⟩,rfl⟩
theorem c57:prog.cellsOf 57=2:=by kernel_rfl
theorem bB8 {n:Nat} {xs:List V} (h:bE prog n 57 xs):∃ d:Ref,xs=d.enc:=by
 obtain ⟨m,hl,hf⟩:=lU Tryz.underlying57 h
 rw [c57] at hl
 have h0:bE prog m 9 ((xs.drop 0).take (prog.cellsOf 9)):=hf 0 _ rfl
 rw [c9] at h0
 obtain ⟨x0,e0⟩:=aBt h0
 have q0:=cut xs 0 1
 rw [e0] at q0
 have h1:bE prog m 3 ((xs.drop 1).take (prog.cellsOf 3)):=hf 1 _ rfl
 rw [c3] at h1
 obtain ⟨x1,e1⟩:=lA h1
 have q1:=cut xs 1 1
 rw [e1] at q1
 have hend:xs.drop 2=[]:=List.drop_eq_nil_of_le (by omega)
 have hx:xs=[.str x0]++([.int .i64 x1]++[]):=by
  have z:xs=xs.drop 0:=rfl
  rw [z,q0,q1]
  show _=_
  rw [show (1+1:Nat)=2 from rfl,hend]
 rw [hx]
 exact ⟨⟨x0,x1⟩,rfl⟩
theorem c54:prog.cellsOf 54=5:=by kernel_rfl
theorem aX8 {n:Nat} {xs:List V} (h:bE prog n 54 xs):∃ d:Rate,xs=d.enc:=by
 obtain ⟨m,hl,hf⟩:=lU Tryz.underlying54 h
 rw [c54] at hl
 have h0:bE prog m 9 ((xs.drop 0).take (prog.cellsOf 9)):=hf 0 _ rfl
 rw [c9] at h0
 obtain ⟨x0,e0⟩:=aBt h0
 have q0:=cut xs 0 1
 rw [e0] at q0
 have h1:bE prog m 52 ((xs.drop 1).take (prog.cellsOf 52)):=hf 1 _ rfl
 rw [c52] at h1
 obtain ⟨x1,e1⟩:=aLr h1
 have q1:=cut xs 1 3
 rw [e1] at q1
 have h2:bE prog m 3 ((xs.drop 4).take (prog.cellsOf 3)):=hf 2 _ rfl
 rw [c3] at h2
 obtain ⟨x2,e2⟩:=lA h2
 have q2:=cut xs 4 1
 rw [e2] at q2
 have hend:xs.drop 5=[]:=List.drop_eq_nil_of_le (by omega)
 have hx:xs=[.str x0]++(x1.enc++([.int .i64 x2]++[])):=by
  have z:xs=xs.drop 0:=rfl
  rw [z,q0,q1,q2]
  show _=_
  rw [show (4+1:Nat)=5 from rfl,hend]
 rw [hx]
 exact ⟨⟨x0,x1,x2⟩,rfl⟩
theorem bPv:prog.cellsOf 201=4:=by kernel_rfl
theorem aX9 {n:Nat} {xs:List V} (h:bE prog n 201 xs):∃ d:Line,xs=d.enc:=by
 obtain ⟨m,hl,hf⟩:=lU Tryz.underlying201 h
 rw [bPv] at hl
 have h0:bE prog m 9 ((xs.drop 0).take (prog.cellsOf 9)):=hf 0 _ rfl
 rw [c9] at h0
 obtain ⟨x0,e0⟩:=aBt h0
 have q0:=cut xs 0 1
 rw [e0] at q0
 have h1:bE prog m 9 ((xs.drop 1).take (prog.cellsOf 9)):=hf 1 _ rfl
 rw [c9] at h1
 obtain ⟨x1,e1⟩:=aBt h1
 have q1:=cut xs 1 1
 rw [e1] at q1
 have h2:bE prog m 3 ((xs.drop 2).take (prog.cellsOf 3)):=hf 2 _ rfl
 rw [c3] at h2
 obtain ⟨x2,e2⟩:=lA h2
 have q2:=cut xs 2 1
 rw [e2] at q2
 have h3:bE prog m 3 ((xs.drop 3).take (prog.cellsOf 3)):=hf 3 _ rfl
 rw [c3] at h3
 obtain ⟨x3,e3⟩:=lA h3
 have q3:=cut xs 3 1
 rw [e3] at q3
 have hend:xs.drop 4=[]:=List.drop_eq_nil_of_le (by omega)
 have hx:xs=[.str x0]++([.str x1]++([.int .i64 x2]++([.int .i64 x3]++[]))):=by
  have z:xs=xs.drop 0:=rfl
  rw [z,q0,q1,q2,q3]
  show _=_
  rw [show (3+1:Nat)=4 from rfl,hend]
 rw [hx]
 exact ⟨⟨x0,x1,x2,x3⟩,rfl⟩
theorem c55:prog.cellsOf 55=1:=by kernel_rfl
theorem aQc {n:Nat} {xs:List V} (h:bE prog n 55 xs):∃ l:List Line,xs=[.imm (l.map Line.enc)]:=by
 obtain ⟨m,es,h,hes⟩:=aI1 Tryz.underlying55 h
 obtain ⟨l,hl⟩:=aBu (enc:=Line.enc) fun c hc=>aX9 (hes c hc).2
 exact ⟨l,by rw [h,hl]⟩
def Cmd.enc (c:Cmd):List V:=[.int .i64 c.kind,.str c.series,.int .i64 c.limit,.str c.row.cat,.int .i64 c.row.day.y,.int .i64 c.row.day.m,.int .i64 c.row.day.d,.int .i64 c.row.bp,.int .i64 c.day.y,.int .i64 c.day.m,.int .i64 c.day.d,.imm (c.lines.map Line.enc),.str c.of.ser,.int .i64 c.of.num,.int .i64 c.session]
theorem c59:prog.cellsOf 59=15:=by kernel_rfl
theorem bB9 {n:Nat} {xs:List V} (h:bE prog n 59 xs):∃ c:Cmd,xs=c.enc:=by
 obtain ⟨m,hl,hf⟩:=lU Tryz.underlying59 h
 rw [c59] at hl
 have h0:bE prog m 3 ((xs.drop 0).take (prog.cellsOf 3)):=hf 0 _ rfl
 rw [c3] at h0
 obtain ⟨x0,e0⟩:=lA h0
 have q0:=cut xs 0 1
 rw [e0] at q0
 have h1:bE prog m 9 ((xs.drop 1).take (prog.cellsOf 9)):=hf 1 _ rfl
 rw [c9] at h1
 obtain ⟨x1,e1⟩:=aBt h1
 have q1:=cut xs 1 1
 rw [e1] at q1
 have h2:bE prog m 3 ((xs.drop 2).take (prog.cellsOf 3)):=hf 2 _ rfl
 rw [c3] at h2
 obtain ⟨x2,e2⟩:=lA h2
 have q2:=cut xs 2 1
 rw [e2] at q2
 have h3:bE prog m 54 ((xs.drop 3).take (prog.cellsOf 54)):=hf 3 _ rfl
 rw [c54] at h3
 obtain ⟨x3,e3⟩:=aX8 h3
 have q3:=cut xs 3 5
 rw [e3] at q3
 have h4:bE prog m 52 ((xs.drop 8).take (prog.cellsOf 52)):=hf 4 _ rfl
 rw [c52] at h4
 obtain ⟨x4,e4⟩:=aLr h4
 have q4:=cut xs 8 3
 rw [e4] at q4
 have h5:bE prog m 55 ((xs.drop 11).take (prog.cellsOf 55)):=hf 5 _ rfl
 rw [c55] at h5
 obtain ⟨x5,e5⟩:=aQc h5
 have q5:=cut xs 11 1
 rw [e5] at q5
 have h6:bE prog m 57 ((xs.drop 12).take (prog.cellsOf 57)):=hf 6 _ rfl
 rw [c57] at h6
 obtain ⟨x6,e6⟩:=bB8 h6
 have q6:=cut xs 12 2
 rw [e6] at q6
 have h7:bE prog m 3 ((xs.drop 14).take (prog.cellsOf 3)):=hf 7 _ rfl
 rw [c3] at h7
 obtain ⟨x7,e7⟩:=lA h7
 have q7:=cut xs 14 1
 rw [e7] at q7
 have hend:xs.drop 15=[]:=List.drop_eq_nil_of_le (by omega)
 have hx:xs=[.int .i64 x0]++([.str x1]++([.int .i64 x2]++(x3.enc++(x4.enc++([.imm (x5.map Line.enc)]++(x6.enc++([.int .i64 x7]++[]))))))):=by
  have z:xs=xs.drop 0:=rfl
  rw [z,q0,q1,q2,q3,q4,q5,q6,q7]
  show _=_
  rw [show (14+1:Nat)=15 from rfl,hend]
 rw [hx]
 exact ⟨⟨x0,x1,x2,x3,x4,x5,x6,x7⟩,rfl⟩
theorem c61:prog.cellsOf 61=17:=by kernel_rfl
theorem aXa {n:Nat} {xs:List V} (h:bE prog n 61 xs):∃ c:Call,xs=c.enc:=by
 obtain ⟨m,hl,hf⟩:=lU Tryz.underlying61 h
 rw [c61] at hl
 have h0:bE prog m 3 ((xs.drop 0).take (prog.cellsOf 3)):=hf 0 _ rfl
 rw [c3] at h0
 obtain ⟨x0,e0⟩:=lA h0
 have q0:=cut xs 0 1
 rw [e0] at q0
 have h1:bE prog m 3 ((xs.drop 1).take (prog.cellsOf 3)):=hf 1 _ rfl
 rw [c3] at h1
 obtain ⟨x1,e1⟩:=lA h1
 have q1:=cut xs 1 1
 rw [e1] at q1
 have h2:bE prog m 59 ((xs.drop 2).take (prog.cellsOf 59)):=hf 2 _ rfl
 rw [c59] at h2
 obtain ⟨x2,e2⟩:=bB9 h2
 have q2:=cut xs 2 15
 rw [e2] at q2
 have hend:xs.drop 17=[]:=List.drop_eq_nil_of_le (by omega)
 have hx:xs=[.int .i64 x0]++([.int .i64 x1]++(x2.enc++[])):=by
  have z:xs=xs.drop 0:=rfl
  rw [z,q0,q1,q2]
  show _=_
  rw [show (2+15:Nat)=17 from rfl,hend]
 rw [hx]
 exact ⟨⟨x0,x1,x2⟩,rfl⟩
theorem aQd {n:Nat} {xs:List V} (h:bE prog n 44 xs):∃ l:List Call,xs=[.imm (l.map Call.enc)]:=by
 obtain ⟨m,es,h,hes⟩:=aI1 Tryz.underlying44 h
 obtain ⟨l,hl⟩:=aBu (enc:=Call.enc) fun c hc=>aXa (hes c hc).2
 exact ⟨l,by rw [h,hl]⟩
abbrev fK (n:Int):Prop:=-9223372036854775808≤n∧n≤9223372036854775807
theorem iM {n:Int} (h:fK n):wr .i64 n=n:=kX h.1 h.2
theorem aK4 (n:Int):fK (wr .i64 n):=by
 unfold wr lo hi
 simp only
 split
 ·omega
 ·rw [IntKind.wrap_i64];omega
theorem jU {n:Int} (h1:0≤n) (h2:n<18446744073709551616):wr .u64 n=n:=by
 unfold wr lo hi
 simp only
 rw [if_pos (by omega)]
theorem aLs (n:Int):wr .u64 n=n % 18446744073709551616:=by
 unfold wr lo hi
 simp only
 split
 ·omega
 ·rfl
theorem oM {a b:Int} (ha:fK a) (hb:fK b):cN a b=if fK (a+b) then (a+b,0) else (0,7):=by
 unfold cN at *
 have e1:0<b→wr .i64 (9223372036854775807 - b)=9223372036854775807 - b:=fun h=>kX (by omega) (by omega)
 have e2:b<0→wr .i64 (-9223372036854775808 - b)=-9223372036854775808 - b:=fun h=>kX (by omega) (by omega)
 by_cases h:-9223372036854775808≤a+b∧a+b≤9223372036854775807
 ·rw [if_pos h,kX h.1 h.2,if_neg]
  rintro (⟨h1,h2⟩ | ⟨h1,h2⟩)
  ·rw [e1 h1] at h2;omega
  ·rw [e2 h1] at h2;omega
 ·rw [if_neg h,if_pos]
  by_cases h0:0<b
  ·exact .inl ⟨h0,by rw [e1 h0];omega⟩
  ·exact .inr ⟨by omega,by rw [e2 (by omega)];omega⟩
theorem aNp {b:Int} (hb:fK b):jS 0 b=if b=-9223372036854775808 then (0,7) else (-b,0):=by
 unfold jS at *
 have e1:b<0→wr .i64 (9223372036854775807+b)=9223372036854775807+b:=fun h=>kX (by omega) (by omega)
 have e2:0<b→wr .i64 (-9223372036854775808+b)=-9223372036854775808+b:=fun h=>kX (by omega) (by omega)
 by_cases h:b=-9223372036854775808
 ·rw [if_pos h,if_pos]
  exact .inl ⟨by omega,by rw [e1 (by omega)];omega⟩
 ·rw [if_neg h,if_neg,Int.zero_sub,kX (by omega) (by omega)]
  rintro (⟨h1,h2⟩ | ⟨h1,h2⟩)
  ·rw [e1 h1] at h2;omega
  ·rw [e2 h1] at h2;omega
theorem aQe (a b:Int):fK (cN a b).1:=by
 unfold cN
 split
 ·show fK 0;omega
 ·exact aK4 _
theorem aBv (n bp:Int):fK (cG n bp).1:=by
 unfold cG
 have h0:fK 0:=by omega
 split
 ·exact h0
 ·simp only
  split
  ·exact h0
  ·split
   ·exact h0
   ·split
    ·exact aK4 _
    ·exact aK4 _
theorem aQf:∀ (l:List Int) (h w s:Int),(∀ n∈l,fK n)→0≤h→h<18446744073709551616→0≤w→w<18446744073709551616→(h*18446744073709551616+w - s) % 340282366920938463463374607431768211456=0→
  ∃ h' w',aS sC qX l (h,w)=qX (h',w')∧0≤h'∧h'<18446744073709551616∧0≤w'∧w'<18446744073709551616∧(h'*18446744073709551616+w' - (s+l.sum)) % 340282366920938463463374607431768211456=0
 | [],h,w,s,_,a,b,c,d,e=>⟨h,w,rfl,a,b,c,d,by simpa using e⟩
 | n::l,h,w,s,hl,a,b,c,d,e=>by
  have hn:=hl n (List.mem_cons_self ..)
  have hstep:∃ h2 w2,sC (h,w) n=.inr (h2,w2)∧0≤h2∧h2<18446744073709551616∧0≤w2∧w2<18446744073709551616∧(h2*18446744073709551616+w2 - (s+n)) % 340282366920938463463374607431768211456=0:=by
   refine ⟨_,_,rfl,?_,?_,?_,?_,?_⟩
   ·simp only;omega
   ·simp only;omega
   ·simp only;omega
   ·simp only;omega
   ·simp only [aLs]
    split<;>omega
  obtain ⟨h2,w2,e1,a2,b2,c2,d2,e2⟩:=hstep
  obtain ⟨h',w',r1,r2⟩:=aQf l h2 w2 (s+n) (fun m hm=>hl m (List.mem_cons_of_mem _ hm)) a2 b2 c2 d2 e2
  refine ⟨h',w',?_,?_⟩
  ·simp only [aS,e1];exact r1
  ·rw [List.sum_cons,←Int.add_assoc];exact r2
theorem aDp:∀ (l:List Int),(∀ n∈l,fK n)→-9223372036854775808*(l.length:Int)≤l.sum∧l.sum≤9223372036854775808*(l.length:Int)
 | [],_=>by simp
 | n::l,h=>by
  have h1:=h n (List.mem_cons_self ..)
  have h2:=aDp l fun m hm=>h m (List.mem_cons_of_mem _ hm)
  simp only [List.sum_cons,List.length_cons]
  omega
theorem nC {l:List Int} (h:∀ n∈l,fK n) (hl:l.length≤1000000):(gZ l).1=wr .i64 l.sum∧((gZ l).2=true↔fK l.sum):=by
 obtain ⟨h',w',e,a,b,c,d,m⟩:=aQf l 0 0 0 h (by decide) (by decide) (by decide) (by decide) (by decide)
 have hs:=aDp l h
 unfold gZ
 rw [e]
 have hb1:-9223372036854775808000000≤l.sum:=by omega
 have hb2:l.sum≤9223372036854775808000000:=by omega
 have key:w'=l.sum % 18446744073709551616∧h'=(l.sum / 18446744073709551616) % 18446744073709551616:=by
  rw [Int.zero_add] at m
  omega
 constructor
 ·show wr .i64 w'=wr .i64 l.sum
  unfold wr lo hi
  simp only [IntKind.wrap_i64]
  split<;>split<;>omega
 ·show (if w'.fdiv (2 ^ 63)=0 then decide (h'=0) else decide (h'=18446744073709551615))=true↔_
  have hf:w'.fdiv (2 ^ 63)=w' / 9223372036854775808:=by
   rw [Int.fdiv_eq_ediv_of_nonneg _ (by decide)]
   rfl
  rw [hf]
  split
  ·simp only [decide_eq_true_eq];omega
  ·simp only [decide_eq_true_eq];omega
theorem xU {l:List Int} (h:∀ n∈l,fK n) (hl:l.length≤1000000) (hs:fK l.sum):gZ l=(l.sum,true):=by
 obtain ⟨h1,h2⟩:=nC h hl
 exact Prod.ext (by rw [h1,iM hs]) (h2.2 hs)
theorem uG:∀ a,fS a a=false
 | []=>rfl
 | x::a=>by
  simp only [fS,cond_eq_ite]
  rw [if_neg (by simp [Nat.blt]),if_pos (by simp)]
  exact uG a
theorem aBw (x y:UInt8) (a b:List UInt8):fS (x::a) (y::b)=true↔x.toNat<y.toNat∨x.toNat=y.toNat∧fS a b=true:=by
 simp only [fS,cond_eq_ite,Nat.blt_eq,Nat.beq_eq]
 split
 ·rename_i h;simp [h]
 ·rename_i h
  split
  ·rename_i h2;simp [h2]
  ·rename_i h2;simp [h,h2]
theorem gU:∀ {a b c:List UInt8},fS a b=true→fS b c=true→fS a c=true
 | [],[],c,h,_=>by cases h
 | x::a,[],c,h,_=>by cases h
 | a,y::b,[],_,h=>by cases h
 | [],y::b,z::c,_,_=>rfl
 | x::a,y::b,z::c,h1,h2=>by
  rw [aBw] at *
  rcases h1 with h1 | ⟨h1,h3⟩<;>rcases h2 with h2 | ⟨h2,h4⟩
  ·exact .inl (by omega)
  ·exact .inl (by omega)
  ·exact .inl (by omega)
  ·exact .inr ⟨by omega,gU h3 h4⟩
theorem wS:∀ a b:List UInt8,fS a b=true∨a=b∨fS b a=true
 | [],[]=>.inr (.inl rfl)
 | [],y::b=>.inl rfl
 | x::a,[]=>.inr (.inr rfl)
 | x::a,y::b=>by
  rw [aBw,aBw]
  rcases Nat.lt_trichotomy x.toNat y.toNat with h | h | h
  ·exact .inl (.inl h)
  ·have hxy:x=y:=UInt8.toNat_inj.1 h
   rcases wS a b with h2 | h2 | h2
   ·exact .inl (.inr ⟨h,h2⟩)
   ·exact .inr (.inl (by rw [hxy,h2]))
   ·exact .inr (.inr (.inr ⟨h.symm,h2⟩))
  ·exact .inr (.inr (.inl h))
theorem bBa {a b:List UInt8} (h:fS a b=true):a≠b:=fun e=>by subst e;rw [uG] at h;cases h
theorem zH {σ ρ α:Type} {step:σ→α→ρ⊕σ} {fin:σ→ρ}:∀ (a b:List α) (s:σ),aS step fin (a++b) s=aS step (fun s=>aS step fin b s) a s
 | [],b,s=>rfl
 | x::a,b,s=>by
  simp only [List.cons_append,aS]
  split
  ·rfl
  ·exact zH a b _
theorem zJ {α:Type} {step:Option α→α→Bool⊕Option α} {good:α→Prop} {R:α→α→Prop}
  (h2:∀ a p,¬ good a→step p a=.inl false) (h3:∀ p a,good a→R p a→step (some p) a=.inr (some a)) (h4:∀ p a,good a→¬ R p a→step (some p) a=.inl false)
  (tr:∀ a b c,R a b→R b c→R a c):∀ (l:List α) (p:α),aS step (fun _=>true) l (some p)=true↔(∀ a∈l,good a)∧(∀ a∈l,R p a)∧l.Pairwise R
 | [],p=>by simp [aS]
 | a::l,p=>by
  by_cases g:good a
  ·by_cases r:R p a
   ·simp only [aS,h3 p a g r]
    rw [zJ h2 h3 h4 tr l a]
    simp only [List.mem_cons,List.pairwise_cons]
    constructor
    ·rintro ⟨q1,q2,q3⟩
     exact ⟨fun b hb=>hb.elim (fun e=>e▸g) (q1 b),fun b hb=>hb.elim (fun e=>e▸r) (fun hb=>tr _ _ _ r (q2 b hb)),q2,q3⟩
    ·rintro ⟨q1,q2,q3,q4⟩
     exact ⟨fun b hb=>q1 b (.inr hb),q3,q4⟩
   ·simp only [aS,h4 p a g r]
    constructor
    ·intro h;cases h
    ·rintro ⟨_,q2,_⟩;exact absurd (q2 a (List.mem_cons_self ..)) r
  ·simp only [aS,h2 a (some p) g]
   constructor
   ·intro h;cases h
   ·rintro ⟨q1,_,_⟩;exact absurd (q1 a (List.mem_cons_self ..)) g
theorem uH {α:Type} {step:Option α→α→Bool⊕Option α} {good:α→Prop} {R:α→α→Prop} (h1:∀ a,good a→step none a=.inr (some a))
  (h2:∀ a p,¬ good a→step p a=.inl false) (h3:∀ p a,good a→R p a→step (some p) a=.inr (some a)) (h4:∀ p a,good a→¬ R p a→step (some p) a=.inl false)
  (tr:∀ a b c,R a b→R b c→R a c):∀ (l:List α),aS step (fun _=>true) l none=true↔(∀ a∈l,good a)∧l.Pairwise R
 | []=>by simp [aS]
 | a::l=>by
  by_cases g:good a
  ·simp only [aS,h1 a g]
   rw [zJ h2 h3 h4 tr l a]
   simp only [List.mem_cons,List.pairwise_cons]
   constructor
   ·rintro ⟨q1,q2,q3⟩
    exact ⟨fun b hb=>hb.elim (fun e=>e▸g) (q1 b),q2,q3⟩
   ·rintro ⟨q1,q3,q4⟩
    exact ⟨fun b hb=>q1 b (.inr hb),q3,q4⟩
  ·simp only [aS,h2 a none g]
   constructor
   ·intro h;cases h
   ·rintro ⟨q1,_⟩;exact absurd (q1 a (List.mem_cons_self ..)) g
theorem aGa {a b c:Date} (h1:a.before b=true) (h2:b.before c=true):a.before c=true:=by
 unfold Date.before at *
 simp only [Bool.and_eq_true,decide_eq_true_eq] at *
 exact ⟨h1.1,h2.2.1,by omega⟩
theorem uJ (a b:Rate):fH a b=true↔fS a.cat b.cat=true∨a.cat=b.cat∧a.day.before b.day=true:=by
 unfold fH
 split
 ·rename_i h;simp [h]
 ·rename_i h
  split
  ·rename_i h2;simp only [beq_iff_eq] at h2;exact ⟨fun q=>.inr ⟨h2,q⟩,fun q=>q.elim (fun q=>absurd q h) (·.2)⟩
  ·rename_i h2;simp only [beq_iff_eq] at h2;simp [h,h2]
theorem pQ {a b c:Rate} (h1:fH a b=true) (h2:fH b c=true):fH a c=true:=by
 rw [uJ] at *
 rcases h1 with h1 | ⟨e1,h1⟩<;>rcases h2 with h2 | ⟨e2,h2⟩
 ·exact .inl (gU h1 h2)
 ·exact .inl (e2▸h1)
 ·exact .inl (e1▸h2)
 ·exact .inr ⟨e1.trans e2,aGa h1 h2⟩
theorem uK (l:List Rate):fT l=true↔l.length≤24∧(∀ r∈l,tY r=0)∧l.Pairwise (fun a b=>fH a b=true):=by
 unfold fT
 split
 ·rename_i h;simp;omega
 ·rename_i h
  rw [uH (good:=fun r=>tY r=0) (R:=fun a b=>fH a b=true)]
  ·constructor
   ·intro q;exact ⟨by omega,q⟩
   ·intro q;exact q.2
  ·intro a g;simp only [iK,g,ne_eq,not_true_eq_false,if_false]
  ·intro a p g;simp only [iK,ne_eq,g,not_false_eq_true,if_true]
  ·intro p a g r;simp only [iK,g,ne_eq,not_true_eq_false,if_false,r,if_true]
  ·intro p a g r;simp only [iK,g,ne_eq,not_true_eq_false,if_false,r];rfl
  ·intro a b c;exact pQ
theorem jB (l:List Ser):mN l=true↔l.length≤8∧(∀ s∈l,eL s.name=true∧qV s=false)∧l.Pairwise (fun a b=>fS a.name b.name=true):=by
 unfold mN
 split
 ·rename_i h;simp;omega
 ·rename_i h
  rw [uH (good:=fun s:Ser=>eL s.name=true∧qV s=false) (R:=fun a b=>fS a.name b.name=true)]
  ·constructor
   ·intro q;exact ⟨by omega,q⟩
   ·intro q;exact q.2
  ·intro a g;simp [mX,oG,g.1,g.2]
  ·intro a p g
   unfold mX
   split
   ·rfl
   ·split
    ·rfl
    ·split
     ·rfl
     ·rename_i h1 h2 h3
      exact absurd ⟨by simpa using h1,by simpa using h3⟩ g
  ·intro p a g r;simp [mX,oG,g.1,g.2,r]
  ·intro p a g r;simp [mX,oG,g.1,g.2,r]
  ·intro a b c;exact gU
theorem aXv:∀ (l:List Sess) (last:Int),aS iW (fun _=>true) l last=true↔(∀ s∈l,last<s.id∧0≤s.last∧s.last≤1099511627776∧(s.last=0→s.reply=Rep.zero))∧l.Pairwise (fun a b=>a.id<b.id)
 | [],last=>by simp [aS]
 | s::l,last=>by
  by_cases g:last<s.id∧0≤s.last∧s.last≤1099511627776∧(s.last=0→s.reply=Rep.zero)
  ·have e:iW last s=.inr s.id:=by
    unfold iW
    rw [if_neg (by omega),if_neg (by omega),if_neg (by omega),if_neg (fun h=>h.2 (g.2.2.2 h.1))]
   simp only [aS,e]
   rw [aXv l s.id]
   simp only [List.mem_cons,List.pairwise_cons]
   constructor
   ·rintro ⟨q1,q2⟩
    exact ⟨fun b hb=>hb.elim (fun e=>e▸g) (fun hb=>⟨by have:=(q1 b hb).1;omega,(q1 b hb).2⟩),fun b hb=>(q1 b hb).1,q2⟩
   ·rintro ⟨q1,q2,q3⟩
    exact ⟨fun b hb=>⟨q2 b hb,(q1 b (.inr hb)).2⟩,q3⟩
  ·have e:iW last s=.inl false:=by
    unfold iW
    repeat' split
    all_goals first | rfl | skip
    rename_i h1 h2 h3 h4
    refine absurd ⟨by omega,by omega,by omega,fun h=>?_⟩ g
    by_cases c:s.reply=Rep.zero
    ·exact c
    ·exact absurd ⟨h,c⟩ h4
   simp only [aS,e]
   constructor
   ·intro h;cases h
   ·rintro ⟨q1,_⟩;exact absurd (q1 s (List.mem_cons_self ..)) g
theorem sF (l:List Sess):fZ l=true↔l.length≤8∧(∀ s∈l,0<s.id∧0≤s.last∧s.last≤1099511627776∧(s.last=0→s.reply=Rep.zero))∧l.Pairwise (fun a b=>a.id<b.id):=by
 unfold fZ
 split
 ·rename_i h;simp;omega
 ·rename_i h
  rw [aXv]
  exact ⟨fun q=>⟨by omega,q⟩,fun q=>q.2⟩
theorem oO {α:Type} (p:α→Bool):∀ (l:List α) (n:Nat),aS (eM p) id l n=n+(l.takeWhile p).length
 | [],n=>rfl
 | a::l,n=>by
  by_cases c:p a=true
  ·simp only [aS,eM,c,if_true,List.takeWhile_cons]
   rw [oO p l (n+1),List.length_cons];omega
  ·simp only [aS,eM,c,if_false,List.takeWhile_cons];rfl
theorem oP {α:Type} (p:α→Bool) (l:List α) (a:α):fB l (kZ p l) a=l.takeWhile p++a::l.dropWhile p:=by
 unfold fB kZ
 rw [oO,Nat.zero_add]
 have h1:l.take (l.takeWhile p).length=l.takeWhile p:=by
  have:=congrArg (List.take (l.takeWhile p).length) (List.takeWhile_append_dropWhile (p:=p) (l:=l)).symm
  rw [List.take_left'] at this
  ·exact this
  ·rfl
 have h2:l.drop (l.takeWhile p).length=l.dropWhile p:=by
  have:=congrArg (List.drop (l.takeWhile p).length) (List.takeWhile_append_dropWhile (p:=p) (l:=l)).symm
  rw [List.drop_left'] at this
  ·exact this
  ·rfl
 rw [h1,h2]
theorem nP {α:Type} {p:α→Bool}:∀ {l:List α} {a:α},a∈l.takeWhile p→p a=true∧a∈l
 | [],a,h=>by cases h
 | x::l,a,h=>by
  rw [List.takeWhile_cons] at h
  split at h
  ·rename_i c
   rcases List.mem_cons.1 h with rfl | h
   ·exact ⟨c,List.mem_cons_self ..⟩
   ·exact ⟨(nP h).1,List.mem_cons_of_mem _ (nP h).2⟩
  ·cases h
theorem mF {α:Type} {R:α→α→Prop} {p:α→Bool} {l:List α} {a:α} (hl:l.Pairwise R) (tr:∀ a b c,R a b→R b c→R a c) (h1:∀ x∈l,p x=true→R x a) (h2:∀ x∈l,p x=false→R a x):
  (l.takeWhile p++a::l.dropWhile p).Pairwise R:=by
 induction l with
 | nil=>simp
 | cons x l ih=>
  rw [List.pairwise_cons] at hl
  by_cases c:p x=true
  ·simp only [List.takeWhile_cons,List.dropWhile_cons,c,if_true,List.cons_append,List.pairwise_cons]
   refine ⟨fun b hb=>?_,ih hl.2 (fun y hy=>h1 y (List.mem_cons_of_mem _ hy)) (fun y hy=>h2 y (List.mem_cons_of_mem _ hy))⟩
   rcases List.mem_append.1 hb with hb | hb
   ·exact hl.1 b (nP hb).2
   ·rcases List.mem_cons.1 hb with rfl | hb
    ·exact h1 x (List.mem_cons_self ..) c
    ·exact hl.1 b (List.dropWhile_suffix p |>.mem hb)
  ·have c:p x=false:=by simpa using c
   simp only [List.takeWhile_cons,List.dropWhile_cons,c,Bool.false_eq_true,if_false,List.nil_append,List.pairwise_cons]
   refine ⟨fun b hb=>?_,hl⟩
   have hx:=h2 x (List.mem_cons_self ..) (by simpa using c)
   rcases List.mem_cons.1 hb with rfl | hb
   ·exact hx
   ·exact tr _ _ _ hx (hl.1 b hb)
theorem fE {α:Type} (l:List α) (i:Nat) (a x:α):x∈fB l i a↔x=a∨x∈l:=by
 unfold fB
 rw [List.mem_append,List.mem_cons]
 constructor
 ·rintro (h | h | h)
  ·exact .inr (List.mem_of_mem_take h)
  ·exact .inl h
  ·exact .inr (List.mem_of_mem_drop h)
 ·rintro (h | h)
  ·exact .inr (.inl h)
  ·rw [←List.take_append_drop i l,List.mem_append] at h
   exact h.elim .inl (fun h=>.inr (.inr h))
theorem aNq {n:Int} (h:fK n):oF n=if n<0 then -n else n:=by
 unfold oF
 split
 ·rename_i c
  have h1:wr .u64 n=18446744073709551616+n:=by rw [aLs];omega
  rw [h1]
  have h2:aN9 (18446744073709551616+n)=-n - 1:=by
   unfold aN9
   simp only [IntKind.signed,Bool.false_eq_true,if_false]
   have hm:(IntKind.u64.max:Int)=18446744073709551615:=by decide
   rw [hm]
   have hb:IntKind.u64.bits=64:=rfl
   rw [hb]
   have:(BitVec.ofInt 64 18446744073709551615 ^^^ BitVec.ofInt 64 (18446744073709551616+n)) = ~~~ (BitVec.ofInt 64 (18446744073709551616+n)):=by
    rw [show (BitVec.ofInt 64 18446744073709551615)=BitVec.allOnes 64 from by decide,BitVec.allOnes_xor]
   rw [this,BitVec.toNat_not]
   have hv:(BitVec.ofInt 64 (18446744073709551616+n)).toNat=(18446744073709551616+n).toNat:=by
    rw [BitVec.toNat_ofInt]
    omega
   rw [hv,jU (by omega) (by omega)]
   omega
  rw [h2,jU (by omega) (by omega)]
  omega
 ·exact jU (by omega) (by omega)
def xV (u bp:Int):Option Int:=
 if 0<bp∧9223372036854775807 / bp<u / 10000 then none else
  if 9223372036854775807<u / 10000*bp+(2*(u % 10000)*bp+10000) / 20000 then none else some (u / 10000*bp+(2*(u % 10000)*bp+10000) / 20000)
theorem aGb {u bp t:Int} (hu:0≤u) (hb:0≤bp) (h:xV u bp=some t):0≤t∧t≤9223372036854775807:=by
 unfold xV at h
 split at h
 ·cases h
 ·split at h
  ·cases h
  ·rename_i h2
   cases h
   have h3:0≤u / 10000*bp:=Int.mul_nonneg (by omega) hb
   have h4:0≤2*(u % 10000)*bp:=Int.mul_nonneg (by omega) hb
   exact ⟨by omega,by omega⟩
theorem aDq {n bp:Int} (h:fK n) (h1:0≤bp) (h2:bp≤100000):cG n bp=match xV (if n<0 then -n else n) bp with
  | none=>(0,7)
  | some t=>(if n<0 then -t else t,0):=by
 unfold cG
 rw [if_neg (by omega)]
 simp only [aNq h]
 have hp:wr .u64 bp=bp:=jU h1 (by omega)
 rw [hp]
 obtain ⟨u,hu⟩:∃ u,u=(if n<0 then -n else n):=⟨_,rfl⟩
 rw [←hu]
 have hu0:0≤u∧u≤9223372036854775808:=by subst hu;split<;>omega
 have hq:u.tdiv 10000=u / 10000:=Int.tdiv_eq_ediv_of_nonneg hu0.1
 have hr:u.tmod 10000=u % 10000:=Int.tmod_eq_emod_of_nonneg hu0.1
 have hmax:(9223372036854775807:Int).tdiv bp=9223372036854775807 / bp:=Int.tdiv_eq_ediv_of_nonneg (by decide)
 rw [hq,hr,hmax,jU (n:=u / 10000) (by omega) (by omega)]
 have hdiv:0<bp→0≤9223372036854775807 / bp∧9223372036854775807 / bp<18446744073709551616:=by
  intro hb
  constructor
  ·exact Int.ediv_nonneg (by decide) (by omega)
  ·have:=Int.ediv_le_self bp (a:=9223372036854775807) (by decide);omega
 unfold xV
 by_cases c:0<bp∧9223372036854775807 / bp<u / 10000
 ·rw [if_pos c,if_pos ⟨c.1,by rw [jU (hdiv c.1).1 (hdiv c.1).2];exact c.2⟩]
 ·rw [if_neg c,if_neg (fun q=>c ⟨q.1,by have:=q.2;rwa [jU (hdiv q.1).1 (hdiv q.1).2] at this⟩)]
  have hm1:0≤u / 10000*bp:=Int.mul_nonneg (by omega) h1
  have hm2:u / 10000*bp≤9223372036854775807:=by
   by_cases hb:0<bp
   ·have hle:u / 10000≤9223372036854775807 / bp:=by
     by_cases q:u / 10000≤9223372036854775807 / bp
     ·exact q
     ·exact absurd ⟨hb,by omega⟩ c
    calc u / 10000*bp≤9223372036854775807 / bp*bp:=Int.mul_le_mul_of_nonneg_right hle h1
     _≤9223372036854775807:=Int.ediv_mul_le _ (by omega)
   ·have:bp=0:=by omega
    subst this;simp
  have hr1:0≤2*(u % 10000)*bp:=Int.mul_nonneg (by omega) h1
  have hr2:2*(u % 10000)*bp≤2*10000*100000:=Int.mul_le_mul (by omega) h2 h1 (by decide)
  rw [jU hm1 (by omega),jU (n:=2*(u % 10000)) (by omega) (by omega),jU hr1 (by omega),jU (n:=2*(u % 10000)*bp+10000) (by omega) (by omega),aBj]
  have ht:(2*(u % 10000)*bp+10000).tdiv 20000=(2*(u % 10000)*bp+10000) / 20000:=Int.tdiv_eq_ediv_of_nonneg (by omega)
  rw [ht,jU (n:=(2*(u % 10000)*bp+10000) / 20000) (by omega) (by omega),jU (n:=u / 10000*bp+(2*(u % 10000)*bp+10000) / 20000) (by omega) (by omega)]
  obtain ⟨t,htt⟩:∃ t,t=u / 10000*bp+(2*(u % 10000)*bp+10000) / 20000:=⟨_,rfl⟩
  have ht0:0≤t:=by omega
  rw [←htt]
  split
  ·rfl
  ·rename_i hle
   rw [kX (n:=t) (by omega) (by omega)]
   split
   ·rw [kX (by omega) (by omega)];simp
   ·rfl
theorem aK5 {n bp t:Int} (h:fK n) (h1:0≤bp) (h2:bp≤100000) (hn:n≠-9223372036854775808) (hs:cG n bp=(t,0)):cG (-n) bp=(-t,0)∧t≠-9223372036854775808:=by
 rw [aDq h h1 h2] at hs
 rw [aDq (by omega) h1 h2]
 have hu:(if -n<0 then - -n else -n)=if n<0 then -n else n:=by split<;>split<;>omega
 rw [hu]
 cases hx:xV (if n<0 then -n else n) bp with
 | none=>rw [hx] at hs;cases hs
 | some x=>
  rw [hx] at hs
  obtain ⟨a,b⟩:=aGb (by split<;>omega) h1 hx
  simp only [Prod.mk.injEq,and_true] at hs ⊢
  by_cases c0:n=0
  ·subst c0
   have:x=0:=by
    simp only [Int.lt_irrefl,if_false] at hx
    unfold xV at hx
    simp only [Int.zero_ediv,Int.zero_emod,Int.zero_mul,Int.mul_zero] at hx
    split at hx
    ·cases hx
    ·split at hx
     ·cases hx
     ·cases hx;decide
   subst this
   simp at hs ⊢
   omega
  ·constructor
   ·rw [←hs];split<;>split<;>omega
   ·rw [←hs];split<;>omega
theorem aI2 {σ α:Type} {step:σ→α→Bool⊕σ} (hs:∀ s a r,step s a=.inl r→r=false) (c:Bool):∀ (l:List α) (s:σ),aS step (fun _=>c) l s=(aS step (fun _=>true) l s&&c)
 | [],s=>by simp [aS]
 | a::l,s=>by
  simp only [aS]
  split
  ·rename_i r he;rw [hs _ _ _ he,Bool.false_and]
  ·exact aI2 hs c l _
structure PG (p:Part):Prop where
 name:eL p.cat=true
 lo:0≤p.bp
 hi:p.bp≤100000
 tax:cG p.net p.bp=(p.tax,0)
theorem aGc (p:Part):PG p↔eL p.cat=true∧wC p=false∧wH p=false:=by
 unfold wC wH
 simp only [Bool.or_eq_false_iff,decide_eq_false_iff_not,Bool.not_eq_false',decide_eq_true_eq]
 constructor
 ·rintro ⟨a,b,c,d⟩
  exact ⟨a,⟨by omega,by omega⟩,by rw [d],by rw [d]⟩
 ·rintro ⟨a,⟨b,c⟩,d,e⟩
  exact ⟨a,by omega,by omega,Prod.ext e d⟩
theorem aBx:∀ s a r,fD s a=.inl r→r=false:=by
 intro s a r h
 unfold fD at h
 repeat' split at h
 all_goals first | (cases h;done) | (cases h;rfl)
theorem rG (t:Total):eF t=true↔1≤t.parts.length∧t.parts.length≤12∧(∀ p∈t.parts,PG p)∧t.parts.Pairwise (fun a b=>fS a.cat b.cat=true)∧sU t=true:=by
 unfold eF
 split
 ·rename_i h;simp;omega
 ·rename_i h
  split
  ·rename_i h2;simp;omega
  ·rename_i h2
   rw [aI2 aBx,Bool.and_eq_true,uH (good:=PG) (R:=fun a b=>fS a.cat b.cat=true)]
   ·constructor
    ·rintro ⟨⟨a,b⟩,c⟩;exact ⟨by omega,by omega,a,b,c⟩
    ·rintro ⟨_,_,a,b,c⟩;exact ⟨⟨a,b⟩,c⟩
   ·intro a g
    obtain ⟨g1,g2,g3⟩:=(aGc a).1 g
    simp [fD,lT,g1,g2,g3]
   ·intro a p g
    rw [aGc] at g
    unfold fD
    split
    ·rfl
    ·split
     ·rfl
     ·split
      ·rfl
      ·split
       ·rfl
       ·rename_i h1 _ h3 h4
        exact absurd ⟨by simpa using h1,by simpa using h3,by simpa using h4⟩ g
   ·intro p a g r
    obtain ⟨g1,g2,g3⟩:=(aGc a).1 g
    simp [fD,lT,g1,g2,g3,r]
   ·intro p a g r
    obtain ⟨g1,g2,g3⟩:=(aGc a).1 g
    simp [fD,lT,g1,g2,g3,r]
   ·intro a b c;exact gU
theorem xW {t:Total} (hn:∀ p∈t.parts,fK p.net) (ht:∀ p∈t.parts,fK p.tax) (hl:t.parts.length≤1000000):
  sU t=true↔fK t.net∧fK t.tax∧fK t.gross∧t.net=(t.parts.map (·.net)).sum∧t.tax=(t.parts.map (·.tax)).sum∧t.gross=t.net+t.tax:=by
 have h1:∀ n∈t.parts.map (·.net),fK n:=fun n h=>by obtain ⟨p,hp,rfl⟩:=List.mem_map.1 h;exact hn p hp
 have h2:∀ n∈t.parts.map (·.tax),fK n:=fun n h=>by obtain ⟨p,hp,rfl⟩:=List.mem_map.1 h;exact ht p hp
 obtain ⟨a1,a2⟩:=nC h1 (by rw [List.length_map];exact hl)
 obtain ⟨b1,b2⟩:=nC h2 (by rw [List.length_map];exact hl)
 unfold sU
 constructor
 ·intro h
  repeat' split at h
  all_goals first | cases h;done | skip
  rename_i c1 c2 c3 c4 c5
  have d:=of_decide_eq_true h
  have i1:=a2.1 c1
  have i2:=b2.1 c2
  rw [a1,iM i1] at c4
  rw [b1,iM i2] at c5
  have j:∀ n∈[t.net,t.tax],fK n:=by
   intro n hn
   simp only [List.mem_cons,List.not_mem_nil,or_false] at hn
   rcases hn with rfl | rfl
   ·rw [←c4];exact i1
   ·rw [←c5];exact i2
  obtain ⟨e1,e2⟩:=nC j (by simp)
  have i3:=e2.1 c3
  rw [e1,iM i3] at d
  have hs:[t.net,t.tax].sum=t.net+t.tax:=by simp
  rw [hs] at d i3
  exact ⟨by rw [←c4];exact i1,by rw [←c5];exact i2,by rw [←d];exact i3,c4.symm,c5.symm,d.symm⟩
 ·rintro ⟨i1,i2,i3,e1,e2,e3⟩
  have j:∀ n∈[t.net,t.tax],fK n:=by
   intro n hn
   simp only [List.mem_cons,List.not_mem_nil,or_false] at hn
   rcases hn with rfl | rfl
   ·exact i1
   ·exact i2
  have hs:[t.net,t.tax].sum=t.net+t.tax:=by simp
  have k3:=xU j (by simp) (by rw [hs,←e3];exact i3)
  have k1:=xU h1 (by rw [List.length_map];exact hl) (by rw [←e1];exact i1)
  have k2:=xU h2 (by rw [List.length_map];exact hl) (by rw [←e2];exact i2)
  rw [k1,k2,k3]
  simp only [if_true,←e1,←e2,hs,←e3,decide_true]
theorem aLt {α:Type} (p:α→Bool) (l:List α):l[kZ p l]?=(l.dropWhile p)[0]?:=by
 unfold kZ
 rw [oO,Nat.zero_add]
 have h:l[(l.takeWhile p).length]?=(l.takeWhile p++l.dropWhile p)[(l.takeWhile p).length]?:=by rw [List.takeWhile_append_dropWhile]
 rw [h,List.getElem?_append_right (Nat.le_refl _),Nat.sub_self]
theorem xY {α:Type} {p:α→Bool}:∀ {l:List α} {a:α},(l.dropWhile p)[0]?=some a→p a=false
 | [],a,h=>by cases h
 | x::l,a,h=>by
  rw [List.dropWhile_cons] at h
  split at h
  ·exact xY h
  ·rename_i c;cases h;simpa using c
theorem rH {α:Type} {p:α→Bool} {R:α→α→Prop}:∀ {l:List α},l.Pairwise R→(∀ a b,R a b→p a=false→p b=false)→∀ {x:α},x∈l→p x=false→x∈l.dropWhile p
 | a::l,hl,hp,x,hx,h=>by
  rw [List.dropWhile_cons]
  rw [List.pairwise_cons] at hl
  split
  ·rename_i c
   rcases List.mem_cons.1 hx with rfl | hx
   ·rw [h] at c;cases c
   ·exact rH hl.2 hp hx h
  ·exact hx
theorem aQg {α:Type} {key:α→List UInt8} {l:List α} (hs:l.Pairwise (fun a b=>fS (key a) (key b)=true)) (k:List UInt8) (h:∀ b,l[kZ (fun x=>fS (key x) k) l]?=some b→key b≠k):
  ∀ x∈l,fS (key x) k=false→fS k (key x)=true:=by
 intro x hx hk
 have hd:=rH (p:=fun x=>fS (key x) k) hs (fun a b r ha=>by
  cases c:fS (key b) k with
  | false=>rfl
  | true=>rw [gU r c] at ha;cases ha) hx hk
 rw [aLt] at h
 have hsd:(l.dropWhile fun x=>fS (key x) k).Pairwise (fun a b=>fS (key a) (key b)=true):=hs.sublist (List.dropWhile_sublist _)
 cases hc:l.dropWhile (fun x=>fS (key x) k) with
 | nil=>rw [hc] at hd;cases hd
 | cons q r=>
  rw [hc] at hd hsd
  have hq:fS (key q) k=false:=xY (p:=fun x=>fS (key x) k) (l:=l) (by rw [hc];rfl)
  have hne:=h q (by rw [hc];rfl)
  have hkq:fS k (key q)=true:=by
   rcases wS (key q) k with h1 | h1 | h1
   ·rw [hq] at h1;cases h1
   ·exact absurd h1 hne
   ·exact h1
  rcases List.mem_cons.1 hd with rfl | hd
  ·exact hkq
  ·exact gU hkq ((List.pairwise_cons.1 hsd).1 x hd)
theorem uL {α:Type} {key:α→List UInt8} {l:List α} (hs:l.Pairwise (fun a b=>fS (key a) (key b)=true)) {i:Nat} {a b:α} (hi:l[i]?=some a) (he:key b=key a):(l.set i b).Pairwise (fun a b=>fS (key a) (key b)=true):=by
 have hm:∀ l:List α,l.Pairwise (fun a b=>fS (key a) (key b)=true)↔(l.map key).Pairwise (fun a b=>fS a b=true):=fun l=>(List.pairwise_map (f:=key) (R:=fun a b=>fS a b=true)).symm
 rw [hm] at hs ⊢
 have:(l.set i b).map key=l.map key:=by
  rw [List.map_set,he]
  apply List.ext_getElem?
  intro j
  rw [List.getElem?_set]
  split
  ·rename_i hj
   subst hj
   rw [List.getElem?_map,hi,List.length_map]
   rw [if_pos (List.getElem?_eq_some_iff.1 hi).1];rfl
  ·rfl
 rw [this];exact hs
structure PInv (l:List Part):Prop where
 name:∀ p∈l,eL p.cat=true
 bp:∀ p∈l,0≤p.bp∧p.bp≤100000
 net:∀ p∈l,fK p.net
 srt:l.Pairwise (fun a b=>fS a.cat b.cat=true)
theorem PInv.nil:PInv []:=⟨fun _ h=>(by cases h),fun _ h=>(by cases h),fun _ h=>(by cases h),.nil⟩
theorem PInv.room {l:List Part} (h:PInv l) {cat:List UInt8} {bp:Int} (hc:eL cat=true) (h1:0≤bp) (h2:bp≤100000):PInv (dQ l cat bp):=by
 unfold dQ
 split
 ·rename_i hm
  have hmem:∀ p,p∈fB l (bT l cat) ⟨cat,bp,0,0⟩→p=⟨cat,bp,0,0⟩∨p∈l:=fun p hp=>(fE _ _ _ _).1 hp
  refine ⟨fun p hp=>?_,fun p hp=>?_,fun p hp=>?_,?_⟩
  ·rcases hmem p hp with rfl | hp
   ·exact hc
   ·exact h.name p hp
  ·rcases hmem p hp with rfl | hp
   ·exact ⟨h1,h2⟩
   ·exact h.bp p hp
  ·rcases hmem p hp with rfl | hp
   ·show fK 0;omega
   ·exact h.net p hp
  ·unfold bT
   rw [oP]
   refine mF h.srt (fun a b c=>gU) (fun x hx hp=>hp) (fun x hx hp=>?_)
   refine aQg (key:=fun p:Part=>p.cat) h.srt cat (fun b hb=>?_) x hx hp
   unfold iZ bT at hm
   rw [hb] at hm
   simpa using hm
 ·exact h
theorem PInv.put {l:List Part} (h:PInv l) {cat:List UInt8} {bp n:Int} (hc:eL cat=true) (h1:0≤bp) (h2:bp≤100000):PInv (qC l cat bp n).1∧(qC l cat bp n).1≠[]:=by
 obtain ⟨b,hb⟩:=pM l cat bp
 have hr:=h.room hc h1 h2
 unfold qC
 rw [hb]
 have hbm:=List.mem_of_getElem? hb
 constructor
 ·refine ⟨fun p hp=>?_,fun p hp=>?_,fun p hp=>?_,uL (key:=fun p:Part=>p.cat) hr.srt hb rfl⟩
  ·rcases List.mem_or_eq_of_mem_set hp with hp | rfl
   ·exact hr.name p hp
   ·exact hr.name b hbm
  ·rcases List.mem_or_eq_of_mem_set hp with hp | rfl
   ·exact hr.bp p hp
   ·exact hr.bp b hbm
  ·rcases List.mem_or_eq_of_mem_set hp with hp | rfl
   ·exact hr.net p hp
   ·exact aQe _ _
 ·intro e
  have:=congrArg List.length e
  rw [List.length_set,List.length_nil] at this
  have:=(List.getElem?_eq_some_iff.1 hb).1
  omega
theorem aGd {r:Rate} (h:tY r=0):eL r.cat=true∧r.day.right=true∧0≤r.bp∧r.bp≤100000:=by
 unfold tY at h
 split at h
 ·omega
 ·rename_i h1
  split at h
  ·omega
  ·rename_i h2
   split at h
   ·omega
   ·split at h
    ·omega
    ·exact ⟨by simpa using h1,by simpa using h2,by omega,by omega⟩
theorem aXw {cat:List UInt8} {d:Date}:∀ (l:List Rate) (st:Int×Bool),(st.2=true→0≤st.1∧st.1≤100000)→(∀ r∈l,0≤r.bp∧r.bp≤100000)→(aS (iY cat d) id l st).2=true→0≤(aS (iY cat d) id l st).1∧(aS (iY cat d) id l st).1≤100000
 | [],st,h,_,h2=>h h2
 | r::l,st,h,hl,h2=>by
  simp only [aS,iY] at h2 ⊢
  refine aXw l _ ?_ (fun x hx=>hl x (List.mem_cons_of_mem _ hx)) h2
  split
  ·intro _;exact hl r (List.mem_cons_self ..)
  ·exact h
theorem aI3 {l:List Rate} {cat:List UInt8} {d:Date} (h:(iA l cat d).2=true):0≤(iA l cat d).1∧(iA l cat d).1≤100000:=by
 unfold iA at h ⊢
 split at h
 ·cases h
 ·rename_i h1
  split at h
  ·cases h
  ·rename_i h2
   rw [if_neg h1,if_neg h2]
   have ht:=(uK l).1 (by simpa using h1)
   exact aXw l _ (fun h=>by cases h) (fun r hr=>(aGd (ht.2.1 r hr)).2.2) h
theorem aQh {tab:List Rate} {d:Date} {l:Line} (h:(fC tab d l).2.2=0):eL l.cat=true∧0≤(fC tab d l).1∧(fC tab d l).1≤100000:=by
 unfold fC at h ⊢
 split at h
 ·simp at h
 ·rename_i h1
  split at h
  ·simp at h
  ·rename_i h2
   split at h
   ·simp at h
   ·rename_i h3
    split at h
    ·simp at h
    ·rename_i h4
     rw [if_neg h1,if_neg h2,if_neg h3,if_neg h4]
     exact ⟨by simpa using h2,aI3 (by simpa using h4)⟩
theorem bG7 {tab:List Rate} {d:Date}:∀ (lines:List Line) (parts:List Part) (r:Total×Int),PInv parts→aS (iC tab d) eT lines parts=r→r.2=0→∃ ps,PInv ps∧eT ps=r∧(parts≠[]∨lines≠[]→ps≠[])
 | [],parts,r,hp,h,_=>⟨parts,hp,h,fun h=>h.elim id (fun h=>absurd rfl h)⟩
 | l::lines,parts,r,hp,h,h0=>by
  simp only [aS] at h
  split at h
  ·rename_i r' he
   subst h
   unfold iC at he
   split at he
   ·rename_i hc;cases he;exact absurd h0 hc
   ·split at he
    ·rename_i hc;cases he;exact absurd h0 hc
    ·cases he
  ·rename_i s' he
   unfold iC at he
   split at he
   ·cases he
   ·rename_i hl
    split at he
    ·cases he
    ·cases he
     obtain ⟨a,b,c⟩:=aQh (Decidable.not_not.1 hl)
     obtain ⟨q1,q2⟩:=hp.put (n:=(fC tab d l).2.1) a b c
     obtain ⟨ps,i1,i2,i3⟩:=bG7 lines _ r q1 h h0
     exact ⟨ps,i1,i2,fun _=>i3 (.inl q2)⟩
def aXx (p:Part):Part:={ p with tax:=(cG p.net p.bp).1 }
theorem aQi:∀ (l:List Part) (n x:Int) (ps:List Part) (r:Total×Int),fK n→fK x→(∀ p∈l,fK p.net)→aS fR kQ l (n,x,ps)=r→r.2=0→
  r.1.parts=ps++l.map aXx∧(∀ p∈l,(cG p.net p.bp).2=0)∧r.1.net=n+(l.map (·.net)).sum∧r.1.tax=x+(l.map fun p=>(cG p.net p.bp).1).sum∧r.1.gross=r.1.net+r.1.tax∧fK r.1.net∧fK r.1.tax∧fK r.1.gross
 | [],n,x,ps,r,hn,hx,_,h,h0=>by
  simp only [aS,kQ] at h
  split at h
  ·rename_i hc;subst h;exact absurd h0 hc
  ·rename_i hc
   have hc:=Decidable.not_not.1 hc
   subst h
   simp only at hc ⊢
   rw [oM hn hx] at hc ⊢
   split at hc
   ·rename_i hi;rw [if_pos hi];refine ⟨by simp,by simp,by simp,by simp,rfl,hn,hx,hi⟩
   ·simp at hc
 | p::l,n,x,ps,r,hn,hx,hl,h,h0=>by
  simp only [aS] at h
  split at h
  ·rename_i r' he
   subst h
   unfold fR at he
   split at he
   ·cases he;simp at h0
   ·cases he
  ·rename_i s' he
   unfold fR at he
   split at he
   ·cases he
   ·rename_i hc
    cases he
    have hp:=hl p (List.mem_cons_self ..)
    have c1:(cG p.net p.bp).2=0:=by by_cases q:(cG p.net p.bp).2=0;exact q;exact absurd (.inl q) hc
    have c2:(cN n p.net).2=0:=by by_cases q:(cN n p.net).2=0;exact q;exact absurd (.inr (.inl q)) hc
    have c3:(cN x (cG p.net p.bp).1).2=0:=by by_cases q:(cN x (cG p.net p.bp).1).2=0;exact q;exact absurd (.inr (.inr q)) hc
    have e2:(cN n p.net).1=n+p.net∧fK (n+p.net):=by
     rw [oM hn hp] at c2 ⊢
     split at c2
     ·rename_i hi;rw [if_pos hi];exact ⟨rfl,hi⟩
     ·simp at c2
    have e3:(cN x (cG p.net p.bp).1).1=x+(cG p.net p.bp).1∧fK (x+(cG p.net p.bp).1):=by
     rw [oM hx (aBv _ _)] at c3 ⊢
     split at c3
     ·rename_i hi;rw [if_pos hi];exact ⟨rfl,hi⟩
     ·simp at c3
    simp only [e2.1,e3.1] at h
    obtain ⟨a1,a2,a3,a4,a5⟩:=aQi l _ _ _ r e2.2 e3.2 (fun q hq=>hl q (List.mem_cons_of_mem _ hq)) h h0
    refine ⟨by rw [a1,List.map_cons,List.append_assoc];rfl,fun q hq=>?_,?_,?_,a5⟩
    ·rcases List.mem_cons.1 hq with rfl | hq
     ·exact c1
     ·exact a2 q hq
    ·rw [a3,List.map_cons,List.sum_cons];omega
    ·rw [a4,List.map_cons,List.sum_cons];omega
theorem aQj {ps:List Part} (h:PInv ps) (h0:ps≠[]) {t:Total} (hl:t.parts.length≤12) (hw:eT ps=(t,0)):eF t=true∧(∀ p∈t.parts,fK p.net∧fK p.tax):=by
 obtain ⟨a1,a2,a3,a4,a5,a6,a7,a8⟩:=aQi ps 0 0 [] (t,0) (by omega) (by omega) h.net hw rfl
 simp only [List.nil_append,Int.zero_add] at a1 a2 a3 a4 a5 a6 a7 a8
 have hm:∀ p∈t.parts,∃ q∈ps,p=aXx q:=fun p hp=>by rw [a1] at hp;obtain ⟨q,hq,rfl⟩:=List.mem_map.1 hp;exact ⟨q,hq,rfl⟩
 have hi:∀ p∈t.parts,fK p.net∧fK p.tax:=fun p hp=>by
  obtain ⟨q,hq,rfl⟩:=hm p hp
  exact ⟨h.net q hq,aBv _ _⟩
 refine ⟨(rG t).2 ⟨?_,hl,fun p hp=>?_,?_,?_⟩,hi⟩
 ·rw [a1,List.length_map]
  cases ps with
  | nil=>exact absurd rfl h0
  | cons a l=>simp
 ·obtain ⟨q,hq,rfl⟩:=hm p hp
  exact ⟨h.name q hq,(h.bp q hq).1,(h.bp q hq).2,Prod.ext rfl (a2 q hq)⟩
 ·rw [a1,List.pairwise_map]
  exact h.srt
 ·rw [xW (fun p hp=>(hi p hp).1) (fun p hp=>(hi p hp).2) (by omega)]
  refine ⟨a6,a7,a8,?_,?_,a5⟩
  ·rw [a3,a1,List.map_map];rfl
  ·rw [a4,a1,List.map_map];rfl
theorem aGe {tab:List Rate} {d:Date} {lines:List Line} (h:(dL tab d lines).2=0):d.right=true∧eF (dL tab d lines).1=true∧∀ p∈(dL tab d lines).1.parts,fK p.net∧fK p.tax:=by
 have hf:=(uD h).1
 unfold dL at h hf ⊢
 split at h
 ·simp at h
 ·rename_i h1
  split at h
  ·simp at h
  ·rename_i h2
   split at h
   ·simp at h
   ·rename_i h3
    split at h
    ·simp at h
    ·rename_i h4
     rw [if_neg h1,if_neg h2,if_neg h3,if_neg h4] at hf ⊢
     obtain ⟨ps,i1,i2,i3⟩:=bG7 lines [] _ PInv.nil rfl h
     have hne:ps≠[]:=i3 (.inr (fun e=>h3 (by rw [e];rfl)))
     exact ⟨by simpa using h2,aQj i1 hne hf (by rw [i2];exact Prod.ext rfl h)⟩
def aGf (p:Part):Part:={ p with net:=-p.net,tax:=-p.tax }
def aCo:Int:=-9223372036854775808
theorem aDr:∀ (l d:List Int) (r:List Int×Int),(∀ n∈l,fK n)→aS sD (fun l=>(l,0)) l d=r→r.2=0→r.1=d++l.map (fun n=>-n)∧∀ n∈l,n≠aCo
 | [],d,r,_,h,_=>by subst h;simp [aS]
 | n::l,d,r,hl,h,h0=>by
  simp only [aS,sD,aNp (hl n (List.mem_cons_self ..))] at h
  by_cases c:n=-9223372036854775808
  ·simp only [c,if_true] at h
   subst h;simp at h0
  ·simp only [c,if_false] at h
   obtain ⟨a,b⟩:=aDr l _ r (fun m hm=>hl m (List.mem_cons_of_mem _ hm)) h h0
   refine ⟨by rw [a,List.map_cons,List.append_assoc];rfl,fun m hm=>?_⟩
   rcases List.mem_cons.1 hm with rfl | hm
   ·exact c
   ·exact b m hm
theorem aDs {l:List Int} (hl:∀ n∈l,fK n) (h:(gQ l).2=0):(gQ l).1=l.map (fun n=>-n)∧∀ n∈l,n≠aCo:=by
 have:=aDr l [] (gQ l) hl rfl h
 exact this
theorem aBy:∀ (l a:List Part) (r:List Part×Int),(∀ p∈l,fK p.net∧fK p.tax)→aS dX (fun l=>(l,0)) l a=r→r.2=0→r.1=a++l.map aGf∧∀ p∈l,p.net≠aCo∧p.tax≠aCo
 | [],a,r,_,h,_=>by subst h;simp [aS]
 | p::l,a,r,hl,h,h0=>by
  simp only [aS,dX] at h
  split at h
  ·rename_i r' he
   split at he
   ·rename_i hc;cases he;subst h;exact absurd h0 hc
   ·cases he
  ·rename_i s' he
   split at he
   ·cases he
   ·rename_i hc
    cases he
    have hp:=hl p (List.mem_cons_self ..)
    obtain ⟨e1,e2⟩:=aDs (l:=[p.net,p.tax]) (fun n hn=>by
     simp only [List.mem_cons,List.not_mem_nil,or_false] at hn
     rcases hn with rfl | rfl
     ·exact hp.1
     ·exact hp.2) (Decidable.not_not.1 hc)
    rw [e1] at h
    obtain ⟨q1,q2⟩:=aBy l _ r (fun m hm=>hl m (List.mem_cons_of_mem _ hm)) h h0
    refine ⟨by rw [q1,List.map_cons,List.append_assoc];rfl,fun m hm=>?_⟩
    rcases List.mem_cons.1 hm with rfl | hm
    ·exact ⟨e2 _ (List.mem_cons_self ..),e2 _ (List.mem_cons_of_mem _ (List.mem_cons_self ..))⟩
    ·exact q2 m hm
theorem aK6 {t:Total} (ht:∀ p∈t.parts,fK p.net∧fK p.tax) (h1:fK t.net) (h2:fK t.tax) (h3:fK t.gross) (h:(bU t).2=0):
  (bU t).1=⟨-t.net,-t.tax,-t.gross,t.parts.map aGf⟩∧t.net≠aCo∧t.tax≠aCo∧t.gross≠aCo∧∀ p∈t.parts,p.net≠aCo∧p.tax≠aCo:=by
 unfold bU at h ⊢
 split at h
 ·rename_i hc;exact absurd h hc
 ·rename_i hc
  split at h
  ·rename_i hc2;exact absurd h hc2
  ·rename_i hc2
   rw [if_neg hc,if_neg hc2]
   obtain ⟨e1,e2⟩:=aDs (l:=[t.net,t.tax,t.gross]) (fun n hn=>by
    simp only [List.mem_cons,List.not_mem_nil,or_false] at hn
    rcases hn with rfl | rfl | rfl
    ·exact h1
    ·exact h2
    ·exact h3) (Decidable.not_not.1 hc)
   obtain ⟨q1,q2⟩:=aBy t.parts [] _ ht rfl (Decidable.not_not.1 hc2)
   rw [e1,q1]
   exact ⟨rfl,e2 _ (by simp),e2 _ (by simp),e2 _ (by simp),q2⟩
theorem aLu:∀ l:List Int,(l.map fun n=>-n).sum=-l.sum
 | []=>rfl
 | n::l=>by rw [List.map_cons,List.sum_cons,List.sum_cons,aLu l];omega
theorem aK7 {t:Total} (ht:∀ p∈t.parts,fK p.net∧fK p.tax) (ho:eF t=true) (h:(bU t).2=0):eF (bU t).1=true∧(∀ p∈(bU t).1.parts,fK p.net∧fK p.tax)∧(bU t).1=⟨-t.net,-t.tax,-t.gross,t.parts.map aGf⟩:=by
 obtain ⟨o1,o2,o3,o4,o5⟩:=(rG t).1 ho
 obtain ⟨s1,s2,s3,s4,s5,s6⟩:=(xW (fun p hp=>(ht p hp).1) (fun p hp=>(ht p hp).2) (by omega)).1 o5
 obtain ⟨b1,b2,b3,b4,b5⟩:=aK6 ht s1 s2 s3 h
 unfold aCo at b2 b3 b4 b5
 have hm:∀ p∈t.parts.map aGf,∃ q∈t.parts,p=aGf q:=fun p hp=>by obtain ⟨q,hq,rfl⟩:=List.mem_map.1 hp;exact ⟨q,hq,rfl⟩
 have hi:∀ p∈t.parts.map aGf,fK p.net∧fK p.tax:=fun p hp=>by
  obtain ⟨q,hq,rfl⟩:=hm p hp
  have:=ht q hq
  have:=b5 q hq
  show fK (-q.net)∧fK (-q.tax)
  omega
 refine ⟨?_,by rw [b1];exact hi,b1⟩
 rw [b1,rG]
 refine ⟨by simpa using o1,by simpa using o2,fun p hp=>?_,?_,?_⟩
 ·obtain ⟨q,hq,rfl⟩:=hm p hp
  have g:=o3 q hq
  exact ⟨g.name,g.lo,g.hi,(aK5 (ht q hq).1 g.lo g.hi (b5 q hq).1 g.tax).1⟩
 ·show (t.parts.map aGf).Pairwise _
  rw [List.pairwise_map];exact o4
 ·rw [xW (fun p hp=>(hi p hp).1) (fun p hp=>(hi p hp).2) (by simp;omega)]
  have e1:(t.parts.map aGf).map (·.net)=(t.parts.map (·.net)).map fun n=>-n:=by rw [List.map_map,List.map_map];rfl
  have e2:(t.parts.map aGf).map (·.tax)=(t.parts.map (·.tax)).map fun n=>-n:=by rw [List.map_map,List.map_map];rfl
  simp only [e1,e2,aLu]
  refine ⟨?_,?_,?_,?_,?_,?_⟩
  ·show fK (-t.net);omega
  ·show fK (-t.tax);omega
  ·show fK (-t.gross);omega
  ·show -t.net=_;omega
  ·show -t.tax=_;omega
  ·show -t.gross=-t.net+-t.tax;omega
theorem aQk {y:Int} (h1:1≤y) (h2:y≤9999):Go.Proofs.YtoaibmbldmckaaaGreat.ahead y=365*(y - 1)+(y - 1) / 4 - (y - 1) / 100+(y - 1) / 400:=by
 unfold Go.Proofs.YtoaibmbldmckaaaGreat.ahead
 have a1:wr .i64 (y - 1)=y - 1:=iM (by omega)
 rw [a1]
 have a2:(y - 1).tdiv 4=(y - 1) / 4:=Int.tdiv_eq_ediv_of_nonneg (by omega)
 have a3:(y - 1).tdiv 100=(y - 1) / 100:=Int.tdiv_eq_ediv_of_nonneg (by omega)
 have a4:(y - 1).tdiv 400=(y - 1) / 400:=Int.tdiv_eq_ediv_of_nonneg (by omega)
 rw [a2,a3,a4]
 rw [iM (n:=365*(y - 1)) (by omega),iM (n:=(y - 1) / 4) (by omega),iM (n:=(y - 1) / 100) (by omega),iM (n:=(y - 1) / 400) (by omega)]
 rw [iM (n:=365*(y - 1)+(y - 1) / 4) (by omega),iM (n:=365*(y - 1)+(y - 1) / 4 - (y - 1) / 100) (by omega),iM (by omega)]
theorem jC (y m:Int):28≤fN y m∧fN y m≤31:=by
 unfold fN
 repeat' split
 all_goals omega
def fF (y:Int):Nat→Int
 | 0=>0
 | n+1=>fF y n+fN y ((n:Int)+1)
theorem lL (y:Int):∀ n:Nat,28*(n:Int)≤fF y n∧fF y n≤31*(n:Int)
 | 0=>by simp [fF]
 | n+1=>by
  have:=lL y n
  have:=jC y ((n:Int)+1)
  simp only [fF]
  omega
theorem aLv (y:Int):∀ (n k:Nat) (a:Int),-1000000000≤a→a≤1000000000→k+n≤1000→aS (lQ y) id (List.range' k n) (a+fF y k)=a+fF y (k+n)
 | 0,k,a,_,_,_=>rfl
 | n+1,k,a,h1,h2,h3=>by
  have m1:=lL y k
  have m2:=jC y ((k:Int)+1)
  rw [List.range'_succ]
  simp only [aS,lQ]
  rw [iM (by omega),Int.add_assoc]
  have:=aLv y n (k+1) a h1 h2 (by omega)
  rw [show k+(n+1)=k+1+n from by omega]
  exact this
theorem xZ (d:Date):d.right=true↔1≤d.y∧d.y≤9999∧1≤d.m∧d.m≤12∧1≤d.d∧d.d≤fN d.y d.m:=by
 unfold Date.right
 simp only [Bool.and_eq_true,decide_eq_true_eq]
theorem aLw {d:Date} (h:d.right=true):d.days=365*(d.y - 1)+(d.y - 1) / 4 - (d.y - 1) / 100+(d.y - 1) / 400+fF d.y (d.m - 1).toNat+d.d - 1:=by
 obtain ⟨h1,h2,h3,h4,h5,h6⟩:=(xZ d).1 h
 unfold Date.days
 rw [if_pos h]
 have e:=aQk h1 h2
 have hr:=jC d.y d.m
 have hm:=lL d.y (d.m - 1).toNat
 have hl:=aLv d.y (d.m - 1).toNat 0 (Go.Proofs.YtoaibmbldmckaaaGreat.ahead d.y) (by rw [e];omega) (by rw [e];omega) (by omega)
 simp only [fF,Int.add_zero,Nat.zero_add] at hl
 rw [List.range_eq_range',hl,e,iM (n:=365*(d.y - 1)+(d.y - 1) / 4 - (d.y - 1) / 100+(d.y - 1) / 400+fF d.y (d.m - 1).toNat+d.d) (by omega),iM (by omega)]
theorem aQl (y:Int):fF y 12=365+(if aJx y=true then 1 else 0):=by
 simp only [fF,fN]
 by_cases c:aJx y=true<;>simp [c]
theorem aXb {y:Int} (h:0≤y):aJx y=decide (y % 4=0∧(y % 100≠0∨y % 400=0)):=by
 unfold aJx
 have a:y.tmod 4=y % 4:=Int.tmod_eq_emod_of_nonneg h
 have b:y.tmod 100=y % 100:=Int.tmod_eq_emod_of_nonneg h
 have c:y.tmod 400=y % 400:=Int.tmod_eq_emod_of_nonneg h
 rw [a,b,c]
 split
 ·rename_i h1
  split
  ·rename_i h2;simp [h1,h2]
  ·rename_i h2;simp [h1,h2]
 ·rename_i h1;simp [h1]
theorem zK (y:Int):∀ (n k:Nat),fF y n+28*(k:Int)≤fF y (n+k)
 | n,0=>by simp
 | n,k+1=>by
  have:=zK y n k
  have:=jC y (((n+k:Nat):Int)+1)
  show _≤fF y (n+k)+fN y (((n+k:Nat):Int)+1)
  omega
theorem aDt (y:Int) {n k:Nat} (h:n<k):fF y n+fN y ((n:Int)+1)≤fF y k:=by
 have:=zK y (n+1) (k - (n+1))
 rw [show n+1+(k - (n+1))=k from by omega] at this
 simp only [fF] at this
 omega
theorem aLx {a b:Date} (ha:a.right=true) (hb:b.right=true) (h:a.y<b.y∨a.y=b.y∧(a.m<b.m∨a.m=b.m∧a.d<b.d)):a.days<b.days:=by
 rw [aLw ha,aLw hb]
 obtain ⟨a1,a2,a3,a4,a5,a6⟩:=(xZ a).1 ha
 obtain ⟨b1,b2,b3,b4,b5,b6⟩:=(xZ b).1 hb
 have hma:∀ {d:Date},1≤d.m→(((d.m - 1).toNat:Nat):Int)+1=d.m:=fun h=>by omega
 rcases h with h | ⟨hy,h | ⟨h2,h⟩⟩
 ·
  have h12:fF a.y (a.m - 1).toNat+a.d≤fF a.y 12:=by
   have:=aDt a.y (n:=(a.m - 1).toNat) (k:=12) (by omega)
   rw [hma a3] at this
   omega
  rw [aQl,aXb (by omega)] at h12
  have h0:=(lL b.y (b.m - 1).toNat).1
  by_cases c:a.y % 4=0∧(a.y % 100≠0∨a.y % 400=0)
  ·rw [if_pos (by simpa using c)] at h12
   omega
  ·rw [if_neg (by simpa using c)] at h12
   omega
 ·have:=aDt a.y (n:=(a.m - 1).toNat) (k:=(b.m - 1).toNat) (by omega)
  rw [hma a3] at this
  rw [hy] at this ⊢
  rw [hy] at a6
  omega
 ·rw [hy,h2];omega
theorem aQm {a b:Date} (ha:a.right=true) (hb:b.right=true) (h:a.days=b.days):a=b:=by
 have h1:¬ (a.y<b.y∨a.y=b.y∧(a.m<b.m∨a.m=b.m∧a.d<b.d)):=fun q=>by have:=aLx ha hb q;omega
 have h2:¬ (b.y<a.y∨b.y=a.y∧(b.m<a.m∨b.m=a.m∧b.d<a.d)):=fun q=>by have:=aLx hb ha q;omega
 have e1:a.y=b.y:=by omega
 have e2:a.m=b.m:=by omega
 have e3:a.d=b.d:=by omega
 cases a;cases b
 simp only at e1 e2 e3
 rw [e1,e2,e3]
theorem aLy {α:Type} (p:α→Bool):∀ (l:List α) (n:Nat),aS (eS p) (fun _=>-1) l n=-1→∀ a∈l,p a=false
 | [],n,_,a,h=>by cases h
 | x::l,n,h,a,ha=>by
  by_cases c:p x=true
  ·simp only [aS,eS,c,if_true] at h
   omega
  ·simp only [aS,eS,c,if_false] at h
   rcases List.mem_cons.1 ha with rfl | ha
   ·simpa using c
   ·exact aLy p l (n+1) h a ha
theorem aXc {α:Type} {p:α→Bool} {l:List α} (h:ixM p l<0):∀ a∈l,p a=false:=by
 rcases sA p l with e | ⟨i,a,e,_⟩
 ·exact aLy p l 0 e
 ·rw [e] at h;omega
theorem aDu {α:Type} (p:α→Bool):∀ (l:List α) (n i:Nat) (a:α),l[i]?=some a→p a=true→(∀ j b,j<i→l[j]?=some b→p b=false)→aS (eS p) (fun _=>-1) l n=((n+i:Nat):Int)
 | x::l,n,0,a,h,hp,_=>by
  cases h
  simp only [aS,eS,hp,if_true];rfl
 | x::l,n,i+1,a,h,hp,hj=>by
  have c:p x=false:=hj 0 x (by omega) rfl
  simp only [aS,eS,c,Bool.false_eq_true,if_false]
  rw [aDu p l (n+1) i a h hp (fun j b hji hb=>hj (j+1) b (by omega) hb)]
  omega
theorem aDv {α:Type} {p:α→Bool} {l:List α} {i:Nat} {a:α} (h:l[i]?=some a) (hp:p a=true) (hj:∀ j b,j<i→l[j]?=some b→p b=false):ixM p l=(i:Int):=by
 have:=aDu p l 0 i a h hp hj
 rw [Nat.zero_add] at this
 exact this
theorem wT {l:List Ser} (hs:l.Pairwise (fun a b=>fS a.name b.name=true)) {i:Nat} {s:Ser} (h:l[i]?=some s):hU l s.name=(i:Int):=by
 refine aDv h (by simp) (fun j b hj hb=>?_)
 have h1:=List.pairwise_iff_getElem.1 hs j i (List.getElem?_eq_some_iff.1 hb).1 (List.getElem?_eq_some_iff.1 h).1 hj
 rw [(List.getElem?_eq_some_iff.1 hb).2,(List.getElem?_eq_some_iff.1 h).2] at h1
 have:=bBa h1
 simpa using this
theorem aBz {l:List Ser} {name:List UInt8} (h:hU l name<0):∀ s∈l,s.name≠name:=fun s hs=>by
 have:=aXc h s hs
 simpa using this
def rI (l:List Posted) (name:List UInt8):Int:=((l.filter fun p=>p.ref.ser == name).length:Int)
theorem gM (a b:List Posted) (name:List UInt8):rI (a++b) name=rI a name+rI b name:=by
 unfold rI;rw [List.filter_append,List.length_append];omega
theorem sG (p:Posted) (name:List UInt8):rI [p] name=if p.ref.ser=name then 1 else 0:=by
 unfold rI
 by_cases c:p.ref.ser=name
 ·simp [c]
 ·simp [c]
theorem aC0 (l:List Posted) (name:List UInt8):0≤rI l name:=by unfold rI;omega
structure Nums (ser:List Ser) (l:List Posted):Prop where
 num:∀ i p,l[i]?=some p→(∃ s∈ser,s.name=p.ref.ser)∧p.ref.num=rI (l.take i) p.ref.ser+1
 next:∀ s∈ser,s.next=rI l s.name+1
def lC (ser:List Ser) (l:List Posted):List Int:=ser.map (fun s=>rI l s.name)++List.replicate (8 - ser.length) 0
theorem jV {ser:List Ser} {l:List Posted} {i:Nat} {s:Ser} (h:ser[i]?=some s):(lC ser l)[i]?=some (rI l s.name):=by
 unfold lC
 rw [List.getElem?_append_left (by rw [List.length_map];exact (List.getElem?_eq_some_iff.1 h).1),List.getElem?_map,h]
 rfl
theorem aK8 {ser:List Ser} (hs:ser.Pairwise (fun a b=>fS a.name b.name=true)) {l:List Posted} {p:Posted} {i:Nat} {s:Ser} (h:ser[i]?=some s) (hn:s.name=p.ref.ser):bump (lC ser l) i=lC ser (l++[p]):=by
 unfold bump
 rw [List.getD_eq_getElem?_getD,jV h]
 apply List.ext_getElem?
 intro j
 rw [List.getElem?_set]
 have hlen:ser.length≤(lC ser l).length:=by unfold lC;rw [List.length_append,List.length_map];omega
 have hi:=(List.getElem?_eq_some_iff.1 h).1
 split
 ·rename_i e
  subst e
  rw [if_pos (by omega),jV h,gM,sG,if_pos hn.symm]
  rfl
 ·rename_i e
  by_cases hj:j<ser.length
  ·have hjs:ser[j]?=some ser[j]:=List.getElem?_eq_getElem hj
   rw [jV hjs,jV hjs,gM,sG,if_neg,Int.add_zero]
   intro hc
   have e1:=wT hs hjs
   have e2:=wT hs h
   rw [hn,hc] at e2
   rw [e2] at e1
   exact e (by omega)
  ·unfold lC
   rw [List.getElem?_append_right (by rw [List.length_map];omega),List.getElem?_append_right (by rw [List.length_map];omega),List.length_map,List.length_map]
theorem bG8 {ser:List Ser} (hs:ser.Pairwise (fun a b=>fS a.name b.name=true)) (h8:ser.length≤8) {fin:List Int→Bool}:∀ (l done:List Posted),aS (kH ser) fin l (lC ser done)=true ↔
  (∀ i p,l[i]?=some p→(∃ s∈ser,s.name=p.ref.ser)∧p.ref.num=rI (done++l.take i) p.ref.ser+1)∧fin (lC ser (done++l))=true
 | [],done=>by simp [aS]
 | p::l,done=>by
  by_cases c:hU ser p.ref.ser<0
  ·have e:kH ser (lC ser done) p=.inl false:=by unfold kH;rw [if_pos c]
   simp only [aS,e]
   constructor
   ·intro h;cases h
   ·rintro ⟨h,_⟩
    obtain ⟨⟨s,h1,h2⟩,_⟩:=h 0 p rfl
    exact absurd h2 (aBz c s h1)
  ·rcases kP ser p.ref.ser with e | ⟨i,s,e,hi,hn⟩
   ·exact absurd (by rw [e];decide) c
   ·have hb:=aK8 hs (l:=done) hi hn
    have hg:(lC ser (done++[p])).getD i 0=rI done p.ref.ser+1:=by
     rw [List.getD_eq_getElem?_getD,jV hi,gM,sG,if_pos hn.symm,hn];rfl
    by_cases q:p.ref.num=rI done p.ref.ser+1
    ·have es:kH ser (lC ser done) p=.inr (lC ser (done++[p])):=by
      unfold kH
      rw [if_neg c,e]
      simp only [Int.toNat_natCast]
      rw [hb,hg,if_pos q]
     simp only [aS,es]
     rw [bG8 hs h8 l (done++[p])]
     constructor
     ·rintro ⟨h1,h2⟩
      refine ⟨fun j x hj=>?_,by rw [List.append_assoc] at h2;exact h2⟩
      cases j with
      | zero=>cases hj;exact ⟨⟨s,List.mem_of_getElem? hi,hn⟩,by simpa using q⟩
      | succ j=>have:=h1 j x hj;rw [List.append_assoc] at this;exact this
     ·rintro ⟨h1,h2⟩
      refine ⟨fun j x hj=>?_,by rw [List.append_assoc];exact h2⟩
      have:=h1 (j+1) x hj
      rw [List.append_assoc];exact this
    ·have es:kH ser (lC ser done) p=.inl false:=by
      unfold kH
      rw [if_neg c,e]
      simp only [Int.toNat_natCast]
      rw [hb,hg,if_neg q]
     simp only [aS,es]
     constructor
     ·intro h;cases h
     ·rintro ⟨h,_⟩
      have:=(h 0 p rfl).2
      simp only [List.take_zero,List.append_nil] at this
      exact absurd this q
theorem bG9:∀ (ser:List Ser) (is:List Int),aS jA (fun _=>true) ser is=true↔∀ i s,ser[i]?=some s→s.next=is.getD i 0+1
 | [],is=>by simp [aS]
 | s::l,is=>by
  have hh:is.headD 0=is.getD 0 0:=by cases is<;>rfl
  have ht:∀ j,is.tail.getD j 0=is.getD (j+1) 0:=fun j=>by cases is<;>simp
  by_cases c:s.next=is.getD 0 0+1
  ·have e:jA is s=.inr is.tail:=by unfold jA;rw [hh,if_pos c]
   simp only [aS,e]
   rw [bG9 l is.tail]
   constructor
   ·intro h i x hx
    cases i with
    | zero=>cases hx;exact c
    | succ i=>have:=h i x hx;rwa [ht] at this
   ·intro h i x hx
    have:=h (i+1) x hx
    rwa [ht]
  ·have e:jA is s=.inl false:=by unfold jA;rw [hh,if_neg c]
   simp only [aS,e]
   constructor
   ·intro h;cases h
   ·intro h;exact absurd (h 0 s rfl) c
theorem wU {ser:List Ser} (hs:ser.Pairwise (fun a b=>fS a.name b.name=true)) (h8:ser.length≤8) (l:List Posted):mD ser l=true↔Nums ser l:=by
 unfold mD
 have h0:List.replicate 8 (0:Int)=lC ser []:=by
  unfold lC
  apply List.ext_getElem?
  intro j
  by_cases hj:j<ser.length
  ·rw [List.getElem?_append_left (by rw [List.length_map];exact hj),List.getElem?_map,List.getElem?_eq_getElem hj,List.getElem?_replicate,if_pos (by omega)];rfl
  ·rw [List.getElem?_append_right (by rw [List.length_map];omega),List.length_map,List.getElem?_replicate,List.getElem?_replicate]
   by_cases hj8:j<8
   ·rw [if_pos hj8,if_pos (by omega)]
   ·rw [if_neg hj8,if_neg (by omega)]
 rw [h0,bG8 hs h8 l [],bG9]
 simp only [List.nil_append]
 constructor
 ·rintro ⟨h1,h2⟩
  refine ⟨h1,fun s hm=>?_⟩
  obtain ⟨i,hi⟩:=List.mem_iff_getElem?.1 hm
  have:=h2 i s hi
  rwa [List.getD_eq_getElem?_getD,jV hi] at this
 ·rintro ⟨h1,h2⟩
  refine ⟨h1,fun i s hi=>?_⟩
  rw [List.getD_eq_getElem?_getD,jV hi]
  exact h2 s (List.mem_of_getElem? hi)
def aQn:Posted:=⟨Ref.zero,⟨0,0,0⟩,Total.zero,Ref.zero,false⟩
def pR (p:Posted):Posted:={ p with back:=false }
def rJ (done:List Posted) (p:Posted):Prop:=p.day.right=true∧eF p.total=true∧(p.of=Ref.zero∨0≤cK done p.of∧nM p (done.getD (cK done p.of).toNat aQn)=true)
def eN (done:List Posted) (is:List Int) (p:Posted):List Int:=if p.of=Ref.zero then is else bump is (cK done p.of).toNat
def cS:List Posted→List Posted→List Int→List Int
 | _,[],is=>is
 | done,p::l,is=>cS (done++[p]) l (eN done is p)
def eA (l:List Posted):List Int:=cS [] l (List.replicate 40 0)
theorem aI4 {done:List Posted} {is:List Int} {p:Posted} (h:rJ done p):fO (done,is) p=.inr (done++[p],eN done is p):=by
 obtain ⟨h1,h2,h3⟩:=h
 unfold fO eN
 rw [if_neg (by rw [h1];simp),if_neg (by rw [h2];simp)]
 by_cases c:p.of=Ref.zero
 ·rw [if_pos c,if_pos c]
 ·rw [if_neg c,if_neg c]
  rcases h3 with h3 | ⟨h3,h4⟩
  ·exact absurd h3 c
  ·simp only
   rw [if_neg (by omega)]
   unfold aQn at h4
   rw [h4]
   simp
theorem aI5 {done:List Posted} {is:List Int} {p:Posted} (h:¬ rJ done p):fO (done,is) p=.inl false:=by
 unfold fO
 split
 ·rfl
 ·rename_i h1
  split
  ·rfl
  ·rename_i h2
   have h1:p.day.right=true:=by simpa using h1
   have h2:eF p.total=true:=by simpa using h2
   split
   ·rename_i h3;exact absurd ⟨h1,h2,.inl h3⟩ h
   ·split
    ·rfl
    ·rename_i h4
     split
     ·rfl
     ·rename_i h5
      exact absurd ⟨h1,h2,.inr ⟨by simp only at h4;omega,(Bool.not_eq_false _).mp h5⟩⟩ h
theorem aXy {fin:List Posted×List Int→Bool}:∀ (l done:List Posted) (is:List Int),aS fO fin l (done,is)=true↔(∀ i p,l[i]?=some p→rJ (done++l.take i) p)∧fin (done++l,cS done l is)=true
 | [],done,is=>by simp [aS,cS]
 | p::l,done,is=>by
  by_cases c:rJ done p
  ·simp only [aS,aI4 c]
   rw [aXy l (done++[p]) _]
   simp only [cS]
   constructor
   ·rintro ⟨h1,h2⟩
    refine ⟨fun j x hj=>?_,by rw [List.append_assoc] at h2;exact h2⟩
    cases j with
    | zero=>cases hj;simpa using c
    | succ j=>have:=h1 j x hj;rw [List.append_assoc] at this;exact this
   ·rintro ⟨h1,h2⟩
    refine ⟨fun j x hj=>?_,by rw [List.append_assoc];exact h2⟩
    have:=h1 (j+1) x hj
    rw [List.append_assoc];exact this
  ·simp only [aS,aI5 c]
   constructor
   ·intro h;cases h
   ·rintro ⟨h,_⟩
    have:=h 0 p rfl
    simp only [List.take_zero,List.append_nil] at this
    exact absurd this c
theorem bGa:∀ (l:List Posted) (is:List Int),aS gR (fun _=>true) l is=true↔∀ i p,l[i]?=some p→is.getD i 0≤1∧p.back=decide (is.getD i 0=1)
 | [],is=>by simp [aS]
 | s::l,is=>by
  have hh:is.headD 0=is.getD 0 0:=by cases is<;>rfl
  have ht:∀ j,is.tail.getD j 0=is.getD (j+1) 0:=fun j=>by cases is<;>simp
  by_cases c:is.getD 0 0≤1∧s.back=decide (is.getD 0 0=1)
  ·have e:gR is s=.inr is.tail:=by unfold gR;rw [hh,if_neg (by omega),if_pos c.2]
   simp only [aS,e]
   rw [bGa l is.tail]
   constructor
   ·intro h i x hx
    cases i with
    | zero=>cases hx;exact c
    | succ i=>have:=h i x hx;rwa [ht] at this
   ·intro h i x hx
    have:=h (i+1) x hx
    rwa [ht]
  ·have e:gR is s=.inl false:=by
    unfold gR
    rw [hh]
    split
    ·rfl
    ·split
     ·rename_i h1 h2;exact absurd ⟨by omega,h2⟩ c
     ·rfl
   simp only [aS,e]
   constructor
   ·intro h;cases h
   ·intro h;exact absurd (h 0 s rfl) c
theorem rK (l:List Posted):iD l=true↔l.length≤40∧(∀ i p,l[i]?=some p→rJ (l.take i) p)∧∀ i p,l[i]?=some p→(eA l).getD i 0≤1∧p.back=decide ((eA l).getD i 0=1):=by
 unfold iD
 split
 ·rename_i h;simp;omega
 ·rename_i h
  rw [aXy l [] _,bGa]
  simp only [List.nil_append]
  exact ⟨fun ⟨a,b⟩=>⟨by omega,a,b⟩,fun ⟨_,a,b⟩=>⟨a,b⟩⟩
theorem nH:∀ (l done:List Posted) (is:List Int) (p:Posted),cS done (l++[p]) is=eN (done++l) (cS done l is) p
 | [],done,is,p=>by simp [cS]
 | x::l,done,is,p=>by
  simp only [List.cons_append,cS]
  rw [nH l]
  rw [List.append_assoc];rfl
theorem sX (l:List Posted) (p:Posted):eA (l++[p])=eN l (eA l) p:=by
 unfold eA
 rw [nH,List.nil_append]
theorem oQ:∀ (l done:List Posted) (is:List Int),(∀ i,0≤is.getD i 0)→(∀ i,done.length≤i→is.getD i 0=0)→(∀ i p,l[i]?=some p→rJ (done++l.take i) p)→
  (∀ i,0≤(cS done l is).getD i 0)∧(∀ i,(done++l).length≤i→(cS done l is).getD i 0=0)∧(cS done l is).length=is.length
 | [],done,is,h1,h2,_=>⟨h1,by rw [List.append_nil];exact h2,rfl⟩
 | p::l,done,is,h1,h2,h3=>by
  simp only [cS]
  have hp:=h3 0 p rfl
  simp only [List.take_zero,List.append_nil] at hp
  have hb:∀ i,(eN done is p).getD i 0=is.getD i 0∨i<done.length∧(eN done is p).getD i 0=is.getD i 0+1:=by
   intro i
   unfold eN
   split
   ·exact .inl rfl
   ·rename_i hc
    obtain ⟨hp1,_⟩:=hp.2.2.resolve_left hc
    rcases lJ done p.of with e | ⟨k,x,e,hk,_⟩
    ·omega
    ·have hkl:=(List.getElem?_eq_some_iff.1 hk).1
     rw [e,Int.toNat_natCast]
     unfold bump
     simp only [List.getD_eq_getElem?_getD,List.getElem?_set]
     by_cases q:k=i
     ·rw [if_pos q]
      subst q
      split
      ·exact .inr ⟨hkl,rfl⟩
      ·rename_i hn;left;rw [List.getElem?_eq_none (by omega)]
     ·rw [if_neg q];exact .inl rfl
  have hl:(eN done is p).length=is.length:=by
   unfold eN
   split
   ·rfl
   ·exact wK _ _
  obtain ⟨a,b,c⟩:=oQ l (done++[p]) (eN done is p) (fun i=>by have:=h1 i;rcases hb i with h | ⟨_,h⟩<;>omega)
   (fun i hi=>by
    rw [List.length_append] at hi
    simp only [List.length_cons,List.length_nil] at hi
    have:=h2 i (by omega)
    rcases hb i with h | ⟨h0,h⟩<;>omega)
   (fun i x hx=>by have:=h3 (i+1) x hx;rw [List.append_assoc];exact this)
  refine ⟨a,fun i hi=>b i (by rw [List.append_assoc];exact hi),c.trans hl⟩
theorem wV {l:List Posted} (h:∀ i p,l[i]?=some p→rJ (l.take i) p):(∀ i,0≤(eA l).getD i 0)∧(∀ i,l.length≤i→(eA l).getD i 0=0)∧(eA l).length=40:=by
 have hz:∀ i,(List.replicate 40 (0:Int)).getD i 0=0:=fun i=>by
  rw [List.getD_eq_getElem?_getD,List.getElem?_replicate];split<;>rfl
 have:=oQ l [] (List.replicate 40 0) (fun i=>by rw [hz];omega) (fun i _=>hz i) (by simpa using h)
 simp only [List.nil_append,List.length_replicate] at this
 exact this
theorem yA (l:List Posted) (r:Ref):cK (l.map pR) r=cK l r:=by
 unfold cK
 rw [←aWw]
 rfl
theorem aNr (p q:Posted):nM (pR p) (pR q)=nM p q:=rfl
theorem aXd (l:List Posted) (k:Nat):(l.map pR).getD k aQn=pR (l.getD k aQn):=by
 rw [List.getD_eq_getElem?_getD,List.getD_eq_getElem?_getD,List.getElem?_map]
 cases l[k]?<;>rfl
theorem aLz (done:List Posted) (p:Posted):rJ (done.map pR) (pR p)↔rJ done p:=by
 unfold rJ
 rw [aXd,aNr]
 show _∧_∧(p.of=Ref.zero∨0≤cK (done.map pR) p.of∧_)↔_
 have e:cK (done.map pR) (pR p).of=cK done p.of:=yA done p.of
 rw [e,yA]
 exact Iff.rfl
theorem sY:∀ (l done:List Posted) (is:List Int),cS (done.map pR) (l.map pR) is=cS done l is
 | [],_,_=>rfl
 | p::l,done,is=>by
  simp only [List.map_cons,cS]
  have e:eN (done.map pR) is (pR p)=eN done is p:=by
   unfold eN
   show (if p.of=Ref.zero then is else bump is (cK (done.map pR) p.of).toNat)=_
   rw [yA]
  rw [e]
  have:=sY l (done++[p]) (eN done is p)
  rw [List.map_append] at this
  exact this
theorem aDw (l:List Posted):eA (l.map pR)=eA l:=sY l [] _
theorem aK9 (l:List Posted) (k:Nat):(fI l k).map pR=l.map pR:=by
 unfold fI
 split
 ·rfl
 ·rename_i p hp
  apply List.ext_getElem?
  intro j
  rw [List.getElem?_map,List.getElem?_map,List.getElem?_set]
  split
  ·rename_i e;subst e;rw [if_pos (List.getElem?_eq_some_iff.1 hp).1,hp];rfl
  ·rfl
theorem aQo {l m:List Posted} (e:l.map pR=m.map pR) (h:∀ i p,l[i]?=some p→rJ (l.take i) p):∀ i p,m[i]?=some p→rJ (m.take i) p:=by
 intro i p hp
 have h1:(l.map pR)[i]?=some (pR p):=by rw [e,List.getElem?_map,hp];rfl
 rw [List.getElem?_map] at h1
 cases hq:l[i]? with
 | none=>rw [hq] at h1;cases h1
 | some q=>
  rw [hq] at h1
  have hqp:pR q=pR p:=Option.some.inj h1
  have:=h i q hq
  rw [←aLz,List.map_take,hqp,e,←List.map_take,aLz] at this
  exact this
theorem zL {fin:List Bal→List Bal×Int}:∀ (l:List Posted) (a b:List Bal),aS cO (fun b=>(b,0)) l a=(b,0)→aS cO fin l a=fin b
 | [],a,b,h=>by cases h;rfl
 | p::l,a,b,h=>by
  simp only [aS] at h ⊢
  split at h
  ·rename_i r he
   unfold cO at he
   split at he
   ·rename_i hc;cases he;exact absurd (congrArg Prod.snd h) hc
   ·split at he
    ·rename_i hc;cases he;exact absurd (congrArg Prod.snd h) hc
    ·cases he
  ·exact zL l _ b h
theorem aGg {l:List Posted} {b:List Bal} (h:dZ l=(b,0)) {p:Posted} (h1:(eH p.total).2=0) (h2:(cY b (eH p.total).1).2=0):dZ (l++[p])=((cY b (eH p.total).1).1,0):=by
 unfold dZ at h ⊢
 rw [zH,zL l [] b h]
 simp only [aS,cO,h1,h2,ne_eq,not_true_eq_false,if_false]
theorem uM {fin:List Bal→List Bal×Int}:∀ (l:List Posted) (a:List Bal),aS cO fin (l.map pR) a=aS cO fin l a
 | [],_=>rfl
 | p::l,a=>by
  simp only [List.map_cons,aS]
  have e:cO a (pR p)=cO a p:=rfl
  rw [e]
  split
  ·rfl
  ·exact uM l _
theorem aKa {l m:List Posted} (e:l.map pR=m.map pR):dZ l=dZ m:=by
 unfold dZ
 rw [←uM l,e,uM]
theorem aGh (l:List Posted) (name:List UInt8):rI (l.map pR) name=rI l name:=by
 unfold rI
 rw [List.filter_map,List.length_map]
 rfl
theorem aXe {ser:List Ser} {l m:List Posted} (e:l.map pR=m.map pR) (h:Nums ser l):Nums ser m:=by
 refine ⟨fun i p hp=>?_,fun s hs=>by rw [h.next s hs,←aGh l,e,aGh]⟩
 have h1:(l.map pR)[i]?=some (pR p):=by rw [e,List.getElem?_map,hp];rfl
 rw [List.getElem?_map] at h1
 cases hq:l[i]? with
 | none=>rw [hq] at h1;cases h1
 | some q=>
  rw [hq] at h1
  have hqp:pR q=pR p:=Option.some.inj h1
  have hr:(pR q).ref=(pR p).ref:=congrArg Posted.ref hqp
  have hr:q.ref=p.ref:=hr
  obtain ⟨a,b⟩:=h.num i q hq
  rw [hr] at a b
  refine ⟨a,?_⟩
  rw [b,←aGh,List.map_take,e,←List.map_take,aGh]
theorem aI6 {l:List Sess} (hs:l.Pairwise (fun a b=>a.id<b.id)) (n:Int):aBn l n=true↔∀ s∈l,s.id<n:=by
 unfold aBn
 cases h:l[l.length - 1]? with
 | none=>
  have:l=[]:=by
   rw [List.getElem?_eq_none_iff] at h
   cases l with
   | nil=>rfl
   | cons a l=>simp only [List.length_cons] at h;omega
  subst this
  simp
 | some s=>
  simp only [decide_eq_true_eq]
  constructor
  ·intro hn x hx
   obtain ⟨i,hi⟩:=List.mem_iff_getElem?.1 hx
   have hil:=(List.getElem?_eq_some_iff.1 hi).1
   by_cases c:i=l.length - 1
   ·subst c;rw [h] at hi;cases hi;exact hn
   ·have h1:=List.pairwise_iff_getElem.1 hs i (l.length - 1) hil (by omega) (by omega)
    rw [(List.getElem?_eq_some_iff.1 h).2,(List.getElem?_eq_some_iff.1 hi).2] at h1
    omega
  ·intro q;exact q s (List.mem_of_getElem? h)
def pS (l:List Sess) (n:Int):Prop:=l.length≤8∧(∀ s∈l,0<s.id∧0≤s.last∧s.last≤1099511627776∧(s.last=0→s.reply=Rep.zero))∧l.Pairwise (fun a b=>a.id<b.id)∧1≤n∧n≤1099511627776∧∀ s∈l,s.id<n
theorem aCp (s:State):jT s=true↔pS s.sess s.next:=by
 unfold jT pS
 constructor
 ·intro h
  repeat' split at h
  all_goals first | (cases h;done) | skip
  rename_i h1 h2 h3
  obtain ⟨a,b,c⟩:=(sF _).1 h1
  exact ⟨a,b,c,h2,h3,(aI6 c _).1 h⟩
 ·rintro ⟨a,b,c,d,e,f⟩
  rw [if_pos ((sF _).2 ⟨a,b,c⟩),if_pos d,if_pos e]
  exact (aI6 c _).2 f
theorem cU (s:State):bZ s=true↔fT s.table=true∧mN s.ser=true∧pS s.sess s.next∧iD s.posted=true∧Nums s.ser s.posted∧dZ s.posted=(s.book,0):=by
 rw [←aCp]
 unfold bZ
 constructor
 ·intro h
  repeat' split at h
  all_goals first | (cases h;done) | skip
  rename_i h1 h2 h3 h4 h5 h6
  have h2':mN s.ser=true:=by simpa using h2
  obtain ⟨a,b,c⟩:=(jB _).1 h2'
  exact ⟨by simpa using h1,h2',by simpa using h3,by simpa using h4,(wU c a _).1 (by simpa using h5),Prod.ext (of_decide_eq_true h) h6⟩
 ·rintro ⟨h1,h2,h3,h4,h5,h6⟩
  obtain ⟨a,b,c⟩:=(jB _).1 h2
  rw [if_neg (by rw [h1];simp),if_neg (by rw [h2];simp),if_neg (by rw [h3];simp),if_neg (by rw [h4];simp),if_neg (by rw [(wU c a _).2 h5];simp),if_pos (by rw [h6])]
  rw [h6];simp
theorem aC1 {l:List Ser} {name:List UInt8} {limit:Int} (h:(eW l name limit).2=0):mN (eW l name limit).1=true∧(∀ s,s∈(eW l name limit).1↔s=⟨name,1,limit,false⟩∨s∈l)∧(∀ s∈l,s.name≠name)∧l.length<8:=by
 unfold eW at h ⊢
 split at h
 ·simp at h
 ·rename_i h1
  split at h
  ·simp at h
  ·rename_i h2
   split at h
   ·simp at h
   ·rename_i h3
    split at h
    ·simp at h
    ·rename_i h4
     split at h
     ·simp at h
     ·rename_i h5
      rw [if_neg h1,if_neg h2,if_neg h3,if_neg h4,if_neg h5]
      obtain ⟨a,b,c⟩:=(jB l).1 (by simpa using h1)
      have hn:=aBz (l:=l) (name:=name) (by omega)
      refine ⟨?_,fun s=>fE _ _ _ _,hn,by omega⟩
      simp only
      rw [jB]
      refine ⟨by have:=oK l (kZ (fun s=>fS s.name name) l) ⟨name,1,limit,false⟩;omega,fun s hs=>?_,?_⟩
      ·rcases (fE _ _ _ _).1 hs with rfl | hs
       ·refine ⟨by simpa using h2,?_⟩
        unfold qV
        rw [iM (by simp only;omega)]
        simp;omega
       ·exact b s hs
      ·rw [oP]
       refine mF c (fun a b c=>gU) (fun x hx hp=>hp) (fun x hx hp=>?_)
       rcases wS x.name name with q | q | q
       ·rw [hp] at q;cases q
       ·exact absurd q (hn x hx)
       ·exact q
theorem aQp {l:List Ser} {name:List UInt8} (h:(oI l name).2=0):mN (oI l name).1=true∧∃ (i:Nat) (s:Ser),l[i]?=some s∧s.name=name∧(oI l name).1=l.set i { s with shut:=true }:=by
 unfold oI at h ⊢
 split at h
 ·rename_i hc;exact absurd h hc
 ·rename_i hc
  rw [if_neg hc]
  obtain ⟨h1,i,s,e1,e2,h3,h4,h5⟩:=vZ (Decidable.not_not.1 hc)
  rw [e1]
  simp only [Int.toNat_natCast,h3]
  refine ⟨?_,i,s,h3,h4,rfl⟩
  obtain ⟨a,b,c⟩:=(jB l).1 h1
  rw [jB]
  refine ⟨by rw [List.length_set];exact a,fun x hx=>?_,uL (key:=fun s:Ser=>s.name) c h3 rfl⟩
  rcases List.mem_or_eq_of_mem_set hx with hx | rfl
  ·exact b x hx
  ·exact b s (List.mem_of_getElem? h3)
theorem aQq {l:List Ser} {name:List UInt8} (h:(dB l name).2.2=0):mN (dB l name).1=true∧∃ (i:Nat) (s:Ser),l[i]?=some s∧s.name=name∧s.shut=false∧s.next≤s.limit∧(dB l name)=(l.set i { s with next:=s.next+1 },s.next,0):=by
 unfold dB at h ⊢
 split at h
 ·rename_i hc;exact absurd h hc
 ·rename_i hc
  rw [if_neg hc]
  obtain ⟨h1,i,s,e1,e2,h3,h4,h5⟩:=vZ (Decidable.not_not.1 hc)
  rw [e1] at h ⊢
  simp only [Int.toNat_natCast,h3] at h ⊢
  split at h
  ·simp at h
  ·rename_i h6
   rw [if_neg h6]
   obtain ⟨a,b,c⟩:=(jB l).1 h1
   have hb:=(b s (List.mem_of_getElem? h3)).2
   unfold qV at hb
   simp only [Bool.or_eq_false_iff,decide_eq_false_iff_not] at hb
   obtain ⟨b1,b2,b3,b4⟩:=hb
   rw [iM (by omega)] at b4
   rw [iM (n:=s.next+1) (by omega)]
   refine ⟨?_,i,s,h3,h4,h5,by omega,rfl⟩
   rw [jB]
   refine ⟨by rw [List.length_set];exact a,fun x hx=>?_,uL (key:=fun s:Ser=>s.name) c h3 rfl⟩
   rcases List.mem_or_eq_of_mem_set hx with hx | rfl
   ·exact b x hx
   ·refine ⟨(b s (List.mem_of_getElem? h3)).1,?_⟩
    unfold qV
    rw [iM (by simp only;omega)]
    simp only [Bool.or_eq_false_iff,decide_eq_false_iff_not]
    omega
theorem aNs {l:List Ser} {post:List Posted} {name:List UInt8} {limit:Int} (h:(eW l name limit).2=0) (hn:Nums l post):Nums (eW l name limit).1 post:=by
 obtain ⟨_,hm,hne,_⟩:=aC1 h
 refine ⟨fun i p hp=>?_,fun s hs=>?_⟩
 ·obtain ⟨⟨s,h1,h2⟩,h3⟩:=hn.num i p hp
  exact ⟨⟨s,(hm s).2 (.inr h1),h2⟩,h3⟩
 ·rcases (hm s).1 hs with rfl | hs
  ·have:rI post name=0:=by
    unfold rI
    rw [List.filter_eq_nil_iff.2]
    ·rfl
    ·intro p hp hc
     obtain ⟨i,hi⟩:=List.mem_iff_getElem?.1 hp
     obtain ⟨⟨s,h1,h2⟩,_⟩:=hn.num i p hi
     exact hne s h1 (by rw [h2];simpa using hc)
   show (1:Int)=rI post name+1
   omega
  ·exact hn.next s hs
theorem aQr {l:List Ser} {post:List Posted} {i:Nat} {s:Ser} (hi:l[i]?=some s) (hn:Nums l post):Nums (l.set i { s with shut:=true }) post:=by
 have hmem:{ s with shut:=true }∈l.set i { s with shut:=true }:=List.mem_of_getElem? (i:=i) (by rw [List.getElem?_set,if_pos rfl,if_pos (List.getElem?_eq_some_iff.1 hi).1])
 refine ⟨fun j p hp=>?_,fun x hx=>?_⟩
 ·obtain ⟨⟨y,h1,h2⟩,h3⟩:=hn.num j p hp
  obtain ⟨k,hk⟩:=List.mem_iff_getElem?.1 h1
  refine ⟨?_,h3⟩
  by_cases c:i=k
  ·subst c;rw [hi] at hk;cases hk;exact ⟨_,hmem,h2⟩
  ·exact ⟨y,List.mem_of_getElem? (i:=k) (by rw [List.getElem?_set,if_neg c];exact hk),h2⟩
 ·rcases List.mem_or_eq_of_mem_set hx with hx | rfl
  ·exact hn.next x hx
  ·exact hn.next s (List.mem_of_getElem? hi)
theorem aNt {l:List Ser} (hs:l.Pairwise (fun a b=>fS a.name b.name=true)) {post:List Posted} {i:Nat} {s:Ser} (hi:l[i]?=some s) (hn:Nums l post) {p:Posted} (hp:p.ref=⟨s.name,s.next⟩):Nums (l.set i { s with next:=s.next+1 }) (post++[p]):=by
 have hmem:{ s with next:=s.next+1 }∈l.set i { s with next:=s.next+1 }:=List.mem_of_getElem? (i:=i) (by rw [List.getElem?_set,if_pos rfl,if_pos (List.getElem?_eq_some_iff.1 hi).1])
 have hrs:p.ref.ser=s.name:=by rw [hp]
 have hrn:p.ref.num=s.next:=by rw [hp]
 refine ⟨fun j q hq=>?_,fun x hx=>?_⟩
 ·by_cases hj:j<post.length
  ·rw [List.getElem?_append_left hj] at hq
   rw [List.take_append_of_le_length (by omega)]
   obtain ⟨⟨y,h1,h2⟩,h3⟩:=hn.num j q hq
   obtain ⟨k,hk⟩:=List.mem_iff_getElem?.1 h1
   refine ⟨?_,h3⟩
   by_cases c:i=k
   ·subst c;rw [hi] at hk;cases hk;exact ⟨_,hmem,h2⟩
   ·exact ⟨y,List.mem_of_getElem? (i:=k) (by rw [List.getElem?_set,if_neg c];exact hk),h2⟩
  ·have hjl:j=post.length:=by
    have:=(List.getElem?_eq_some_iff.1 hq).1
    simp only [List.length_append,List.length_cons,List.length_nil] at this
    omega
   subst hjl
   rw [List.getElem?_append_right (Nat.le_refl _),Nat.sub_self] at hq
   cases hq
   rw [List.take_append_of_le_length (Nat.le_refl _),List.take_length,hrs,hrn]
   exact ⟨⟨_,hmem,rfl⟩,hn.next s (List.mem_of_getElem? hi)⟩
 ·rw [gM,sG,hrs]
  obtain ⟨k,hk⟩:=List.mem_iff_getElem?.1 hx
  rw [List.getElem?_set] at hk
  by_cases c:i=k
  ·rw [if_pos c,if_pos (List.getElem?_eq_some_iff.1 hi).1] at hk
   cases hk
   have:=hn.next s (List.mem_of_getElem? hi)
   simp only [if_true]
   omega
  ·rw [if_neg c] at hk
   have e1:=wT hs hk
   have e2:=wT hs hi
   have hne:¬ s.name=x.name:=fun e=>by rw [e,e1] at e2;exact c (by omega)
   rw [if_neg hne,Int.add_zero]
   exact hn.next x (List.mem_of_getElem? hk)
theorem bGb {r:Rate}:∀ (l:List Rate) (k n:Nat),aS (kE r) some l k=some n→(∀ x∈l,¬ (x.cat=r.cat∧x.day=r.day))∧n=k+(l.filter fun x=>fH x r).length
 | [],k,n,h=>by cases h;simp
 | x::l,k,n,h=>by
  simp only [aS] at h
  split at h
  ·rename_i r' he
   unfold kE at he
   split at he
   ·cases he;cases h
   ·cases he
  ·rename_i s' he
   unfold kE at he
   split at he
   ·cases he
   ·rename_i hc
    cases he
    obtain ⟨a,b⟩:=bGb l _ n h
    refine ⟨fun y hy=>?_,?_⟩
    ·rcases List.mem_cons.1 hy with rfl | hy
     ·simpa using hc
     ·exact a y hy
    ·rw [b,List.filter_cons]
     split
     ·rw [List.length_cons];omega
     ·rfl
theorem sZ {α:Type} {p:α→Bool} {R:α→α→Prop}:∀ {l:List α},l.Pairwise R→(∀ a b,R a b→p b=true→p a=true)→l.filter p=l.takeWhile p
 | [],_,_=>rfl
 | x::l,hl,hp=>by
  rw [List.pairwise_cons] at hl
  rw [List.filter_cons,List.takeWhile_cons]
  split
  ·rw [sZ hl.2 hp]
  ·rename_i c
   rw [List.filter_eq_nil_iff]
   intro y hy hc
   exact c (hp x y (hl.1 y hy) hc)
theorem aKb {l:List Rate} {r:Rate} (h:(gP l r).2=0):fT (gP l r).1=true∧(gP l r).1=fB l (kZ (fun x=>fH x r) l) r∧(∀ x∈l,¬ (x.cat=r.cat∧x.day=r.day)):=by
 unfold gP at h ⊢
 split at h
 ·simp at h
 ·rename_i h1
  split at h
  ·rename_i h2;exact absurd h h2
  ·rename_i h2
   rw [if_neg h1,if_neg h2]
   cases hr:aS (kE r) some l 0 with
   | none=>rw [hr] at h;simp at h
   | some k=>
    rw [hr] at h
    simp only at h ⊢
    split at h
    ·simp at h
    ·rename_i h3
     rw [if_neg h3]
     obtain ⟨a,b,c⟩:=(uK l).1 (by simpa using h1)
     obtain ⟨hne,hk⟩:=bGb l 0 k hr
     have hpre:=sZ (p:=fun x=>fH x r) c (fun a b=>pQ)
     have hk':k=kZ (fun x=>fH x r) l:=by
      unfold kZ
      rw [oO,hk,hpre]
     rw [hk']
     refine ⟨?_,rfl,hne⟩
     rw [uK]
     have hrow:tY r=0:=Decidable.not_not.1 h2
     refine ⟨by have:=oK l (kZ (fun x=>fH x r) l) r;simp only;omega,fun x hx=>?_,?_⟩
     ·rcases (fE _ _ _ _).1 hx with rfl | hx
      ·exact hrow
      ·exact b x hx
     ·rw [oP]
      refine mF c (fun a b c=>pQ) (fun x hx hp=>hp) (fun x hx hp=>?_)
      rw [uJ]
      have hp':¬ (fS x.cat r.cat=true∨x.cat=r.cat∧x.day.before r.day=true):=fun q=>by rw [(uJ x r).2 q] at hp;cases hp
      rcases wS x.cat r.cat with q | q | q
      ·exact absurd (.inl q) hp'
      ·refine .inr ⟨q.symm,?_⟩
       have hx1:=(aGd (b x hx)).2.1
       have hr1:=(aGd hrow).2.1
       unfold Date.before at hp' ⊢
       simp only [hx1,hr1,Bool.true_and,decide_eq_true_eq] at hp' ⊢
       have hd:x.day.days≠r.day.days:=fun e=>hne x hx ⟨q,aQm hx1 hr1 e⟩
       have:¬ x.day.days<r.day.days:=fun e=>hp' (.inr ⟨q,e⟩)
       omega
      ·exact .inl q
theorem yB {s:State} {name:List UInt8} {p:Posted} (h:(bO s name p).2.why=0):
  (dB s.ser name).2.2=0∧s.posted.length<40∧(eH p.total).2=0∧(cY s.book (eH p.total).1).2=0 ∧
   bO s name p=({ s with ser:=(dB s.ser name).1,book:=(cY s.book (eH p.total).1).1,posted:=s.posted++[{ p with ref:=⟨name,(dB s.ser name).2.1⟩ }] },⟨0,(dB s.ser name).2.1,p.total.gross⟩):=by
 unfold bO at h ⊢
 split at h
 ·rename_i hc;exact absurd h hc
 ·rename_i h1
  split at h
  ·simp [why] at h
  ·rename_i h2
   split at h
   ·rename_i hc;exact absurd h hc
   ·rename_i h3
    split at h
    ·rename_i hc;exact absurd h hc
    ·rename_i h4
     rw [if_neg h1,if_neg h2,if_neg h3,if_neg h4]
     exact ⟨Decidable.not_not.1 h1,by omega,Decidable.not_not.1 h3,Decidable.not_not.1 h4,rfl⟩
theorem aDx {s:State} {name:List UInt8} {p:Posted} (h:(bO s name p).2.why≠0):(bO s name p).1=s∧(bO s name p).2=why (bO s name p).2.why:=by
 unfold bO at h ⊢
 split at h
 ·rename_i h1;rw [if_pos h1];exact ⟨rfl,rfl⟩
 ·rename_i h1
  rw [if_neg h1]
  split at h
  ·rename_i h2;rw [if_pos h2];exact ⟨rfl,rfl⟩
  ·rename_i h2
   rw [if_neg h2]
   split at h
   ·rename_i h3;rw [if_pos h3];exact ⟨rfl,rfl⟩
   ·rename_i h3
    rw [if_neg h3]
    split at h
    ·rename_i h4;rw [if_pos h4];exact ⟨rfl,rfl⟩
    ·exact absurd rfl h
theorem zM {s:State} {name:List UInt8} {p:Posted} (hr:bZ s=true) (h:(bO s name p).2.why=0) {X:List Posted} (hX:X.map pR=(s.posted++[{ p with ref:=⟨name,(dB s.ser name).2.1⟩ }]).map pR)
  (hok:rJ s.posted p) (hback:∀ i q,X[i]?=some q→(eA X).getD i 0≤1∧q.back=decide ((eA X).getD i 0=1)):
  bZ { (bO s name p).1 with posted:=X }=true:=by
 obtain ⟨h1,h2,h3,h4,h5⟩:=yB h
 obtain ⟨r1,r2,r3,r4,r5,r6⟩:=(cU s).1 hr
 obtain ⟨t1,i,ser,t2,t3,t4,t5,t6⟩:=aQq h1
 rw [h5,cU]
 obtain ⟨c1,c2,c3⟩:=(jB s.ser).1 r2
 refine ⟨r1,t1,r3,?_,?_,?_⟩
 ·show iD X=true
  rw [rK] at r4 ⊢
  refine ⟨?_,aQo hX.symm (fun j q hq=>?_),hback⟩
  ·have:=congrArg List.length hX
   simp only [List.length_map,List.length_append,List.length_cons,List.length_nil] at this
   omega
  ·by_cases hj:j<s.posted.length
   ·rw [List.getElem?_append_left hj] at hq
    rw [List.take_append_of_le_length (by omega)]
    exact r4.2.1 j q hq
   ·have hjl:j=s.posted.length:=by
     have:=(List.getElem?_eq_some_iff.1 hq).1
     simp only [List.length_append,List.length_cons,List.length_nil] at this
     omega
    subst hjl
    rw [List.getElem?_append_right (Nat.le_refl _),Nat.sub_self] at hq
    cases hq
    rw [List.take_append_of_le_length (Nat.le_refl _),List.take_length]
    exact hok
 ·show Nums (dB s.ser name).1 X
  refine aXe hX.symm ?_
  rw [t6]
  exact aNt c3 t2 r5 (p:={ p with ref:=⟨name,ser.next⟩ }) (by rw [←t3])
 ·show dZ X=_
  rw [aKa hX]
  exact aGg r6 h3 h4
def aC2 (s:State):Prop:=∀ p∈s.posted,∀ q∈p.total.parts,fK q.net∧fK q.tax
theorem aNu {l:List Posted} (hl:∀ i p,l[i]?=some p→rJ (l.take i) p) {p:Posted} (hp:rJ l p) (hb:p.back=false) (hof:p.of=Ref.zero) (h:∀ i q,l[i]?=some q→(eA l).getD i 0≤1∧q.back=decide ((eA l).getD i 0=1)) (r:Ref):
  ∀ i q,(l++[{ p with ref:=r }])[i]?=some q→(eA (l++[{ p with ref:=r }])).getD i 0≤1∧q.back=decide ((eA (l++[{ p with ref:=r }])).getD i 0=1):=by
 intro i q hq
 have e:eA (l++[{ p with ref:=r }])=eA l:=by rw [sX];unfold eN;rw [if_pos hof]
 rw [e]
 by_cases hi:i<l.length
 ·rw [List.getElem?_append_left hi] at hq
  exact h i q hq
 ·have hil:i=l.length:=by
   have:=(List.getElem?_eq_some_iff.1 hq).1
   simp only [List.length_append,List.length_cons,List.length_nil] at this
   omega
  subst hil
  rw [List.getElem?_append_right (Nat.le_refl _),Nat.sub_self] at hq
  cases hq
  rw [(wV hl).2.1 _ (Nat.le_refl _)]
  exact ⟨by omega,hb⟩
theorem aKc {s:State} (hr:bZ s=true) (hi:aC2 s) (c:Cmd):bZ (mE s c).1=true∧aC2 (mE s c).1:=by
 unfold mE
 split
 ·exact ⟨hr,hi⟩
 ·rename_i h1
  obtain ⟨a1,a2,a3⟩:=aGe (Decidable.not_not.1 h1)
  by_cases hw:(bO s c.series ⟨Ref.zero,c.day,(dL s.table c.day c.lines).1,Ref.zero,false⟩).2.why=0
  ·obtain ⟨_,_,_,_,h5⟩:=yB hw
   obtain ⟨r1,r2,r3,r4,r5,r6⟩:=(cU s).1 hr
   obtain ⟨p1,p2,p3⟩:=(rK _).1 r4
   have hok:rJ s.posted ⟨Ref.zero,c.day,(dL s.table c.day c.lines).1,Ref.zero,false⟩:=⟨a1,a2,.inl rfl⟩
   have:=zM (X:=(bO s c.series ⟨Ref.zero,c.day,(dL s.table c.day c.lines).1,Ref.zero,false⟩).1.posted) hr hw (by rw [h5]) hok (by rw [h5];exact aNu p2 hok rfl rfl p3 _)
   refine ⟨this,fun p hp=>?_⟩
   rw [h5] at hp
   rcases List.mem_append.1 hp with hp | hp
   ·exact hi p hp
   ·rw [List.mem_singleton.1 hp];exact a3
  ·rw [(aDx hw).1];exact ⟨hr,hi⟩
theorem aXf {ser:List Ser} {l:List Posted} (h:Nums ser l) {p:Posted} (hp:p∈l):1≤p.ref.num:=by
 obtain ⟨i,hi⟩:=List.mem_iff_getElem?.1 hp
 have:=(h.num i p hi).2
 have:=aC0 (l.take i) p.ref.ser
 omega
theorem aGi {s:State} (hr:bZ s=true) (hi:aC2 s) (c:Cmd):bZ (eX s c).1=true∧aC2 (eX s c).1:=by
 obtain ⟨r1,r2,r3,r4,r5,r6⟩:=(cU s).1 hr
 obtain ⟨p1,p2,p3⟩:=(rK _).1 r4
 unfold eX
 split
 ·exact ⟨hr,hi⟩
 ·rename_i h0
  rcases lJ s.posted c.of with e | ⟨k,x,e,hk,hx⟩
  ·exact absurd (by rw [e];decide) h0
  ·have hg:s.posted.getD (cK s.posted c.of).toNat Posted.zero=x:=by rw [e,Int.toNat_natCast,List.getD_eq_getElem?_getD,hk];rfl
   rw [hg]
   have hxm:=List.mem_of_getElem? hk
   unfold fP
   split
   ·exact ⟨hr,hi⟩
   ·rename_i h1
    split
    ·rename_i h2
     split
     ·exact ⟨hr,hi⟩
     ·rename_i h3
      split
      ·exact ⟨hr,hi⟩
      ·rename_i h4
       split
       ·exact ⟨hr,hi⟩
       ·rename_i h5
        have h5:=Decidable.not_not.1 h5
        have hxr:=p2 k x hk
        obtain ⟨b1,b2,b3⟩:=aK7 (hi x hxm) hxr.2.1 h5
        split
        ·rename_i h6
         obtain ⟨_,_,_,_,h7⟩:=yB h6
         have hofz:c.of≠Ref.zero:=by
          intro q
          have:=aXf r5 hxm
          rw [hx,q] at this
          exact absurd this (by decide)
         have htk:nM ⟨Ref.zero,c.day,(bU x.total).1,c.of,false⟩ x=true:=by
          unfold nM
          rw [if_pos h2,if_pos (by simpa using h4),if_pos h5]
          simp
         have hok:rJ s.posted ⟨Ref.zero,c.day,(bU x.total).1,c.of,false⟩:=by
          refine ⟨by simpa using h3,b1,.inr ⟨by show 0≤cK s.posted c.of;omega,?_⟩⟩
          show nM _ (s.posted.getD (cK s.posted c.of).toNat aQn)=true
          rw [e,Int.toNat_natCast,List.getD_eq_getElem?_getD,hk]
          exact htk
         have hposted:(bO s c.series ⟨Ref.zero,c.day,(bU x.total).1,c.of,false⟩).1.posted=s.posted++[⟨⟨c.series,(dB s.ser c.series).2.1⟩,c.day,(bU x.total).1,c.of,false⟩]:=by rw [h7]
         have hkl:=(List.getElem?_eq_some_iff.1 hk).1
         have hset:fI (bO s c.series ⟨Ref.zero,c.day,(bU x.total).1,c.of,false⟩).1.posted (cK s.posted c.of).toNat=s.posted.set k { x with back:=true }++[⟨⟨c.series,(dB s.ser c.series).2.1⟩,c.day,(bU x.total).1,c.of,false⟩]:=by
          rw [hposted,e,Int.toNat_natCast]
          unfold fI
          rw [List.getElem?_append_left hkl,hk]
          simp only
          rw [List.set_append_left _ _ hkl]
         have hnb:=aK9 (bO s c.series ⟨Ref.zero,c.day,(bU x.total).1,c.of,false⟩).1.posted (cK s.posted c.of).toNat
         have hcnt:eA (fI (bO s c.series ⟨Ref.zero,c.day,(bU x.total).1,c.of,false⟩).1.posted (cK s.posted c.of).toNat)=bump (eA s.posted) k:=by
          rw [←aDw,hnb,aDw,hposted,sX]
          unfold eN
          rw [if_neg hofz]
          show bump (eA s.posted) (cK s.posted c.of).toNat=_
          rw [e,Int.toNat_natCast]
         obtain ⟨g1,g2,g3⟩:=wV p2
         have hbk:∀ i,(bump (eA s.posted) k).getD i 0=(eA s.posted).getD i 0+(if i=k then 1 else 0):=by
          intro i
          unfold bump
          simp only [List.getD_eq_getElem?_getD,List.getElem?_set]
          by_cases q:k=i
          ·subst q;rw [if_pos rfl,if_pos (by omega),if_pos rfl];rfl
          ·rw [if_neg q,if_neg (fun q2=>q q2.symm),Int.add_zero]
         have h0k:(eA s.posted).getD k 0=0:=by
          obtain ⟨q1,q2⟩:=p3 k x hk
          have h1':x.back=false:=by simpa using h1
          rw [h1'] at q2
          have q3:=of_decide_eq_false q2.symm
          have:=g1 k
          omega
         have:=zM (X:=fI (bO s c.series ⟨Ref.zero,c.day,(bU x.total).1,c.of,false⟩).1.posted (cK s.posted c.of).toNat) hr h6 (by rw [hnb,hposted]) hok (by
          rw [hcnt,hset]
          intro i q hq
          rw [hbk]
          by_cases hil:i<s.posted.length
          ·rw [List.getElem?_append_left (by rw [List.length_set];exact hil),List.getElem?_set] at hq
           by_cases ck:k=i
           ·subst ck
            rw [if_pos rfl,if_pos hil] at hq
            cases hq
            rw [h0k,if_pos rfl]
            exact ⟨by decide,rfl⟩
           ·rw [if_neg ck] at hq
            rw [if_neg (fun q2=>ck q2.symm),Int.add_zero]
            exact p3 i q hq
          ·have hieq:i=s.posted.length:=by
            have:=(List.getElem?_eq_some_iff.1 hq).1
            simp only [List.length_append,List.length_cons,List.length_nil,List.length_set] at this
            omega
           subst hieq
           rw [List.getElem?_append_right (by rw [List.length_set];exact Nat.le_refl _),List.length_set,Nat.sub_self] at hq
           cases hq
           rw [g2 _ (Nat.le_refl _),if_neg (by omega)]
           exact ⟨by decide,rfl⟩)
         refine ⟨this,fun p hp=>?_⟩
         have hp:p∈fI (bO s c.series ⟨Ref.zero,c.day,(bU x.total).1,c.of,false⟩).1.posted (cK s.posted c.of).toNat:=hp
         rw [hset] at hp
         rcases List.mem_append.1 hp with hp | hp
         ·rcases List.mem_or_eq_of_mem_set hp with hp | rfl
          ·exact hi p hp
          ·exact hi x hxm
         ·rw [List.mem_singleton.1 hp];exact b2
        ·rename_i h6
         rw [(aDx h6).1];exact ⟨hr,hi⟩
    ·exact ⟨hr,hi⟩
theorem aDy {s:State} (hr:bZ s=true) {l:List Ser} (h1:mN l=true) (h2:Nums l s.posted):bZ { s with ser:=l }=true:=by
 obtain ⟨r1,r2,r3,r4,r5,r6⟩:=(cU s).1 hr
 exact (cU _).2 ⟨r1,h1,r3,r4,h2,r6⟩
theorem uN {s:State} (hr:bZ s=true) {l:List Sess} {n:Int} (h1:pS l n):bZ { s with sess:=l,next:=n }=true:=by
 obtain ⟨r1,r2,r3,r4,r5,r6⟩:=(cU s).1 hr
 exact (cU _).2 ⟨r1,r2,h1,r4,r5,r6⟩
theorem aKd {s:State} (hr:bZ s=true):bZ (gB s).1=true∧((gB s).1.posted=s.posted):=by
 obtain ⟨r1,r2,r3,r4,r5,r6⟩:=(cU s).1 hr
 obtain ⟨a,b,c,d,e,f⟩:=r3
 unfold gB
 split
 ·exact ⟨hr,rfl⟩
 ·rename_i h1
  split
  ·exact ⟨hr,rfl⟩
  ·rename_i h2
   have h2:=Decidable.not_not.1 h2
   refine ⟨?_,rfl⟩
   show bZ { s with sess:=(mW s.sess s.next).1,next:=wr .i64 (s.next+1) }=true
   rw [iM (by omega)]
   refine uN hr ?_
   unfold mW at h2 ⊢
   split at h2
   ·simp at h2
   ·rename_i j1
    split at h2
    ·simp at h2
    ·rename_i j2
     split at h2
     ·simp at h2
     ·rename_i j3
      rw [if_neg j1,if_neg j2,if_neg j3]
      refine ⟨by have:=oK s.sess (kZ (fun x=>decide (x.id<s.next)) s.sess) ⟨s.next,0,Rep.zero⟩;simp only;omega,fun x hx=>?_,?_,by omega,by omega,fun x hx=>?_⟩
      ·rcases (fE _ _ _ _).1 hx with rfl | hx
       ·exact ⟨by show 0<s.next;omega,by simp,by simp,fun _=>rfl⟩
       ·exact b x hx
      ·simp only
       rw [oP]
       refine mF c (fun a b c h1 h2=>by omega) (fun x hx hp=>by simpa using hp) (fun x hx hp=>?_)
       have:=f x hx
       simp at hp
       show s.next<x.id
       omega
      ·rcases (fE _ _ _ _).1 hx with rfl | hx
       ·show s.next<s.next+1;omega
       ·have:=f x hx;omega
theorem aQs {l:List Sess} {n id:Int} (h:pS l n):(fV l id).2=0→pS (fV l id).1 n:=by
 intro h0
 obtain ⟨a,b,c,d,e,f⟩:=h
 unfold fV at h0 ⊢
 split at h0
 ·simp at h0
 ·rename_i h1
  split at h0
  ·simp at h0
  ·rename_i h2
   rw [if_neg h1,if_neg h2]
   have hsub:(tZ l (gL l id).toNat).Sublist l:=by
    unfold tZ
    conv=>rhs;rw [←List.take_append_drop (gL l id).toNat l]
    refine List.Sublist.append (List.Sublist.refl _) ?_
    rw [←List.drop_drop]
    exact List.drop_sublist _ _
   exact ⟨by have:=hsub.length_le;simp only;omega,fun x hx=>b x (hsub.subset hx),c.sublist hsub,d,e,fun x hx=>f x (hsub.subset hx)⟩
theorem aXg {l:List Sess} {n id seq:Int} {r:Rep} (h:pS l n):(jI l id seq r).2=0→pS (jI l id seq r).1 n:=by
 intro h0
 obtain ⟨a,b,c,d,e,f⟩:=h
 unfold jI at h0 ⊢
 split at h0
 ·rename_i hc;exact absurd h0 hc
 ·rename_i h1
  have h1':=Decidable.not_not.1 h1
  split at h0
  ·simp at h0
  ·rename_i h2
   rw [if_neg h1,if_neg h2]
   obtain ⟨hs,i,s,e1,e2⟩:=aBk h1'
   rw [e1,Int.toNat_natCast,e2]
   have hseq:1≤seq∧seq≤1099511627776:=by
    unfold cJ at h1'
    rw [if_neg (by rw [hs];simp),if_neg (by omega)] at h1'
    split at h1'
    ·simp at h1'
    ·omega
   have hsm:=List.mem_of_getElem? e2
   refine ⟨by simp only [List.length_set];exact a,fun x hx=>?_,?_,d,e,fun x hx=>?_⟩
   ·rcases List.mem_or_eq_of_mem_set hx with hx | rfl
    ·exact b x hx
    ·exact ⟨(b s hsm).1,by simp only;omega,by simp only;omega,fun q=>by simp only at q;omega⟩
   ·simp only
    have hm:∀ l:List Sess,l.Pairwise (fun a b=>a.id<b.id)↔(l.map (·.id)).Pairwise (fun a b=>a<b):=fun l=>(List.pairwise_map (f:=fun s:Sess=>s.id) (R:=fun a b=>a<b)).symm
    rw [hm] at c ⊢
    have:(l.set i ⟨s.id,seq,r⟩).map (·.id)=l.map (·.id):=by
     apply List.ext_getElem?
     intro j
     rw [List.getElem?_map,List.getElem?_map,List.getElem?_set]
     split
     ·rename_i e;subst e;rw [if_pos (List.getElem?_eq_some_iff.1 e2).1,e2];rfl
     ·rfl
    rw [this];exact c
   ·rcases List.mem_or_eq_of_mem_set hx with hx | rfl
    ·exact f x hx
    ·exact f s hsm
theorem aQt {s:State} (hr:bZ s=true) (hi:aC2 s) (c:Cmd):bZ (sV s c).1=true∧aC2 (sV s c).1:=by
 obtain ⟨r1,r2,r3,r4,r5,r6⟩:=(cU s).1 hr
 unfold sV
 split
 ·unfold gA
  split
  ·rename_i h
   exact ⟨aDy hr (aC1 h).1 (aNs h r5),hi⟩
  ·exact ⟨hr,hi⟩
 ·split
  ·unfold gA
   split
   ·rename_i h
    obtain ⟨a,i,x,b1,b2,b3⟩:=aQp h
    exact ⟨aDy hr a (by rw [b3];exact aQr b1 r5),hi⟩
   ·exact ⟨hr,hi⟩
  ·split
   ·unfold kI
    split
    ·rename_i h
     exact ⟨(cU _).2 ⟨(aKb h).1,r2,r3,r4,r5,r6⟩,hi⟩
    ·exact ⟨hr,hi⟩
   ·split
    ·exact aKc hr hi c
    ·split
     ·exact aGi hr hi c
     ·split
      ·unfold iB
       split
       ·rename_i h
        exact ⟨uN (n:=s.next) hr (aQs r3 h),hi⟩
       ·exact ⟨hr,hi⟩
      ·exact ⟨hr,hi⟩
theorem zN {s:State} (hr:bZ s=true) (hi:aC2 s) (c:Call):bZ (fJ s c).1=true∧aC2 (fJ s c).1:=by
 unfold fJ
 rw [if_neg (by rw [hr];simp)]
 split
 ·exact ⟨hr,hi⟩
 ·split
  ·obtain ⟨a,b⟩:=aKd hr
   exact ⟨a,fun p hp=>hi p (by rw [b] at hp;exact hp)⟩
  ·split
   ·exact ⟨hr,hi⟩
   ·split
    ·exact ⟨hr,hi⟩
    ·obtain ⟨a,b⟩:=aQt hr hi c.cmd
     unfold gS
     split
     ·rename_i h
      exact ⟨uN (n:=(sV s c.cmd).1.next) a (aXg ((cU _).1 a).2.2.1 h),b⟩
     ·exact ⟨a,b⟩
theorem aDz:bZ State.new=true∧aC2 State.new:=⟨by decide,fun p hp=>by cases hp⟩
def aM0 (x:Sess) (seq:Int):Rep×Bool×Int:=if seq<1∨1099511627776<seq then (Rep.zero,false,1) else if seq=x.last then (x.reply,true,0) else if seq<x.last then (Rep.zero,false,16) else (Rep.zero,false,0)
theorem yC {l:List Sess} (hs:l.Pairwise (fun a b=>a.id<b.id)) {i:Nat} {s:Sess} (h:l[i]?=some s):gL l s.id=(i:Int):=by
 refine aDv h (by simp) (fun j b hj hb=>?_)
 have h1:=List.pairwise_iff_getElem.1 hs j i (List.getElem?_eq_some_iff.1 hb).1 (List.getElem?_eq_some_iff.1 h).1 hj
 rw [(List.getElem?_eq_some_iff.1 hb).2,(List.getElem?_eq_some_iff.1 h).2] at h1
 simp only [decide_eq_false_iff_not]
 omega
theorem aI7 {l:List Sess} (h:fZ l=true) {i:Nat} {x:Sess} (hx:l[i]?=some x) (seq:Int):cJ l x.id seq=aM0 x seq:=by
 have e:=yC ((sF l).1 h).2.2 hx
 unfold cJ aM0
 rw [if_neg (by rw [h];simp),e,if_neg (by omega),Int.toNat_natCast,hx]
theorem aQu {l:List Sess} {id seq:Int} (h:(cJ l id seq).2.2=0) (h2:(cJ l id seq).2.1=false):fZ l=true∧∃ (i:Nat) (x:Sess),l[i]?=some x∧x.id=id∧1≤seq∧seq≤1099511627776∧x.last<seq:=by
 obtain ⟨hs,i,x,e,hi⟩:=aBk h
 have hid:x.id=id:=by
  rcases iX l id with e1 | ⟨j,y,e1,e2,e3⟩
  ·rw [e1] at e;omega
  ·rw [e1] at e
   have:j=i:=by omega
   subst this
   rw [hi] at e2;cases e2;exact e3
 subst hid
 rw [aI7 hs hi] at h h2
 unfold aM0 at h h2
 split at h
 ·simp at h
 ·rename_i h3
  rw [if_neg h3] at h2
  split at h
  ·rename_i h4;rw [if_pos h4] at h2;simp at h2
  ·rename_i h4
   split at h
   ·simp at h
   ·rename_i h5
    exact ⟨hs,i,x,hi,rfl,by omega,by omega,by omega⟩
theorem aQv {l:List Sess} (h:fZ l=true) {i:Nat} {x:Sess} (hx:l[i]?=some x) {seq:Int} (h1:1≤seq) (h2:seq≤1099511627776) (h3:x.last<seq) (r:Rep):jI l x.id seq r=(l.set i ⟨x.id,seq,r⟩,0):=by
 have e:=yC ((sF l).1 h).2.2 hx
 have el:cJ l x.id seq=(Rep.zero,false,0):=by
  rw [aI7 h hx];unfold aM0
  rw [if_neg (by omega),if_neg (by omega),if_neg (by omega)]
 unfold jI
 rw [el,if_neg (by simp),if_neg (by simp),e,Int.toNat_natCast,hx]
theorem aI8 (l:List Ser) (name:List UInt8) (limit:Int):0≤(eW l name limit).2∧(eW l name limit).2≤14:=by
 unfold eW;repeat' split
 all_goals (constructor<;>first | decide | simp)
theorem aE0 (l:List Ser) (name:List UInt8):0≤(hZ l name).2∧(hZ l name).2≤14:=by
 unfold hZ;repeat' split
 all_goals (constructor<;>first | decide | simp)
theorem aNv (l:List Ser) (name:List UInt8):0≤(oI l name).2∧(oI l name).2≤14:=by
 unfold oI
 split
 ·exact aE0 l name
 ·split<;>(constructor<;>first | decide | simp)
theorem aE1 (l:List Ser) (name:List UInt8):0≤(dB l name).2.2∧(dB l name).2.2≤14:=by
 unfold dB
 split
 ·exact aE0 l name
 ·repeat' split
  all_goals (constructor<;>first | decide | simp)
theorem aQw (r:Rate):0≤tY r∧tY r≤14:=by
 unfold tY;repeat' split
 all_goals (constructor<;>first | decide | simp)
theorem aI9 (l:List Rate) (r:Rate):0≤(gP l r).2∧(gP l r).2≤14:=by
 unfold gP
 split
 ·constructor<;>first | decide | simp
 ·split
  ·exact aQw r
  ·repeat' split
   all_goals (constructor<;>first | decide | simp)
theorem aC3 (a b:Int):0≤(cN a b).2∧(cN a b).2≤14:=by
 unfold cN;split<;>(constructor<;>first | decide | simp)
theorem aQx (a b:Int):0≤(jS a b).2∧(jS a b).2≤14:=by
 unfold jS;split<;>(constructor<;>first | decide | simp)
theorem aQy (a b:Int):0≤(aJy a b).2∧(aJy a b).2≤14:=by
 unfold aJy
 simp only
 repeat' split
 all_goals (constructor<;>first | decide | simp)
theorem aNw (tab:List Rate) (d:Date) (l:Line):0≤(fC tab d l).2.2∧(fC tab d l).2.2≤14:=by
 unfold fC
 repeat' split
 all_goals first | exact aQy _ _ | (constructor<;>first | decide | simp)
theorem mG {σ ρ α:Type} {step:σ→α→ρ⊕σ} {fin:σ→ρ} (Q:ρ→Prop) (hs:∀ s a r,step s a=.inl r→Q r) (hf:∀ s,Q (fin s)):∀ (l:List α) (s:σ),Q (aS step fin l s)
 | [],s=>hf s
 | a::l,s=>by
  simp only [aS]
  split
  ·rename_i r he;exact hs _ _ _ he
  ·exact mG Q hs hf l _
theorem aKe (l:List Part):0≤(eT l).2∧(eT l).2≤14:=by
 refine mG (fun r:Total×Int=>0≤r.2∧r.2≤14) (fun s a r h=>?_) (fun s=>?_) l _
 ·unfold fR at h
  split at h
  ·cases h;constructor<;>first | decide | simp
  ·cases h
 ·unfold kQ
  split
  ·exact aC3 _ _
  ·constructor<;>first | decide | simp
theorem aQz (l:List Part) (cat:List UInt8) (bp n:Int):0≤(qC l cat bp n).2∧(qC l cat bp n).2≤14:=by
 unfold qC
 split
 ·constructor<;>first | decide | simp
 ·exact aC3 _ _
theorem aC4 (tab:List Rate) (d:Date) (lines:List Line):0≤(dL tab d lines).2∧(dL tab d lines).2≤14:=by
 unfold dL
 split
 ·constructor<;>first | decide | simp
 ·split
  ·constructor<;>first | decide | simp
  ·split
   ·constructor<;>first | decide | simp
   ·split
    ·constructor<;>first | decide | simp
    ·refine mG (fun r:Total×Int=>0≤r.2∧r.2≤14) (fun s a r h=>?_) (fun s=>aKe _) lines _
     unfold iC at h
     split at h
     ·cases h;exact aNw _ _ _
     ·split at h
      ·cases h;exact aQz _ _ _ _
      ·cases h
theorem aIa (t:Total):0≤(eH t).2∧(eH t).2≤14:=by
 refine mG (fun r:List Bal×Int=>0≤r.2∧r.2≤14) (fun s a r h=>?_) (fun s=>by constructor<;>first | decide | simp) _ _
 unfold sB at h
 split at h
 ·cases h;constructor<;>first | decide | simp
 ·split at h
  ·cases h;constructor<;>first | decide | simp
  ·cases h
theorem aC5 (b l:List Bal):0≤(cY b l).2∧(cY b l).2≤14:=by
 unfold cY
 split
 ·constructor<;>first | decide | simp
 ·refine mG (fun r:List Bal×Int=>0≤r.2∧r.2≤14) (fun s a r h=>?_) (fun s=>by constructor<;>first | decide | simp) _ _
  unfold dT at h
  split at h
  ·cases h;constructor<;>first | decide | simp
  ·split at h
   ·cases h;exact aC3 _ _
   ·cases h
theorem aIb (l:List Int):0≤(gQ l).2∧(gQ l).2≤14:=by
 refine mG (fun r:List Int×Int=>0≤r.2∧r.2≤14) (fun s a r h=>?_) (fun s=>by constructor<;>first | decide | simp) _ _
 unfold sD at h
 split at h
 ·cases h;exact aQx _ _
 ·cases h
theorem aE2 (t:Total):0≤(bU t).2∧(bU t).2≤14:=by
 unfold bU
 split
 ·exact aIb _
 ·split
  ·refine mG (fun r:List Part×Int=>0≤r.2∧r.2≤14) (fun s a r h=>?_) (fun s=>by constructor<;>first | decide | simp) _ _
   unfold dX at h
   split at h
   ·cases h;exact aIb _
   ·cases h
  ·constructor<;>first | decide | simp
theorem aKf (l:List Sess) (id:Int):0≤(fV l id).2∧(fV l id).2≤14:=by
 unfold fV;repeat' split
 all_goals (constructor<;>first | decide | simp)
def Plain (s:State) (r:State×Rep):Prop:=0≤r.2.why∧r.2.why≤14∧(r.2.why≠0→r.1=s∧r.2=why r.2.why)
theorem Plain.why {s:State} {e:Int} (h1:0≤e) (h2:e≤14):Plain s (s,Go.Proofs.YtoaibmbldmckaaaGreat.why e):=⟨h1,h2,fun _=>⟨rfl,rfl⟩⟩
theorem zO (s:State) (name:List UInt8) (p:Posted):Plain s (bO s name p):=by
 unfold bO
 split
 ·exact Plain.why (aE1 _ _).1 (aE1 _ _).2
 ·split
  ·exact Plain.why (by decide) (by decide)
  ·split
   ·exact Plain.why (aIa _).1 (aIa _).2
   ·split
    ·exact Plain.why (aC5 _ _).1 (aC5 _ _).2
    ·exact ⟨Int.le_refl 0,by show (0:Int)≤14;decide,fun h=>absurd rfl h⟩
theorem aR0 (s:State) (c:Cmd):Plain s (sV s c):=by
 have kw:∀ (e:Int) (t:State),(0≤e∧e≤14)→Plain s (if e=0 then (t,why e) else (s,why e)):=by
  intro e t h
  split
  ·rename_i h0;subst h0;exact ⟨Int.le_refl 0,by show (0:Int)≤14;decide,fun h=>absurd rfl h⟩
  ·exact Plain.why h.1 h.2
 unfold sV
 split
 ·exact kw _ _ (aI8 _ _ _)
 ·split
  ·exact kw _ _ (aNv _ _)
  ·split
   ·exact kw _ _ (aI9 _ _)
   ·split
    ·unfold mE
     split
     ·exact Plain.why (aC4 _ _ _).1 (aC4 _ _ _).2
     ·exact zO _ _ _
    ·split
     ·unfold eX
      split
      ·exact Plain.why (by decide) (by decide)
      ·unfold fP
       split
       ·exact Plain.why (by decide) (by decide)
       ·split
        ·split
         ·exact Plain.why (by decide) (by decide)
         ·split
          ·exact Plain.why (by decide) (by decide)
          ·split
           ·exact Plain.why (aE2 _).1 (aE2 _).2
           ·split
            ·rename_i h
             exact ⟨by rw [h];decide,by rw [h];decide,fun q=>absurd h q⟩
            ·exact zO _ _ _
        ·exact Plain.why (by decide) (by decide)
     ·split
      ·exact kw _ _ (aKf _ _)
      ·unfold aHs
       split
       ·exact Plain.why (e:=11) (by decide) (by decide)
       ·exact ⟨Int.le_refl 0,by show (0:Int)≤14;decide,fun h=>absurd rfl h⟩
theorem aXh (s:State) (c:Cmd):(sV s c).1.sess=s.sess∨(c.kind=7∧(fV s.sess c.session).2=0∧(sV s c).1.sess=(fV s.sess c.session).1):=by
 have hi:∀ name p,(bO s name p).1.sess=s.sess:=by
  intro name p
  unfold bO
  repeat' split
  all_goals rfl
 unfold sV
 split
 ·unfold gA;split<;>exact .inl rfl
 ·split
  ·unfold gA;split<;>exact .inl rfl
  ·split
   ·unfold kI;split<;>exact .inl rfl
   ·split
    ·unfold mE
     split
     ·exact .inl rfl
     ·exact .inl (hi _ _)
    ·split
     ·unfold eX fP
      repeat' split
      all_goals first | exact .inl rfl | exact .inl (hi _ _)
     ·split
      ·rename_i h7
       unfold iB
       split
       ·rename_i h;exact .inr ⟨h7,h,rfl⟩
       ·exact .inl rfl
      ·exact .inl rfl
theorem aNx {l:List Sess} {id:Int} (h:(fV l id).2=0) {n:Int} (hs:pS l n):∀ x,x∈(fV l id).1↔x∈l∧x.id≠id:=by
 unfold fV at h ⊢
 split at h
 ·simp at h
 ·rename_i h1
  split at h
  ·simp at h
  ·rename_i h2
   rw [if_neg h1,if_neg h2]
   rcases iX l id with e | ⟨i,y,e,hi,hy⟩
   ·rw [e] at h2;exact absurd (by decide) h2
   ·simp only [e,Int.toNat_natCast]
    intro x
    unfold tZ
    rw [List.mem_append]
    have hp:=hs.2.2.1
    have hil:=(List.getElem?_eq_some_iff.1 hi).1
    have key:∀ j z,l[j]?=some z→(z.id=id↔j=i):=by
     intro j z hz
     constructor
     ·intro hzid
      have e1:=yC hp hz
      rw [hzid,e] at e1;omega
     ·rintro rfl;rw [hi] at hz;cases hz;exact hy
    constructor
    ·rintro (hx | hx)
     ·obtain ⟨j,hj⟩:=List.mem_iff_getElem?.1 hx
      rw [List.getElem?_take] at hj
      split at hj
      ·rename_i hji
       exact ⟨List.mem_of_getElem? hj,fun q=>by have:=(key j x hj).1 q;omega⟩
      ·cases hj
     ·obtain ⟨j,hj⟩:=List.mem_iff_getElem?.1 hx
      rw [List.getElem?_drop] at hj
      exact ⟨List.mem_of_getElem? hj,fun q=>by have:=(key _ x hj).1 q;omega⟩
    ·rintro ⟨hx,hne⟩
     obtain ⟨j,hj⟩:=List.mem_iff_getElem?.1 hx
     have hji:j≠i:=fun q=>hne ((key j x hj).2 q)
     by_cases c:j<i
     ·left;exact List.mem_of_getElem? (i:=j) (by rw [List.getElem?_take,if_pos c];exact hj)
     ·right;exact List.mem_of_getElem? (i:=j - (i+1)) (by rw [List.getElem?_drop,show i+1+(j - (i+1))=j from by omega];exact hj)
def rL (s:State):Prop:=∀ x∈s.sess,x.reply.why≠0→x.reply=why x.reply.why
theorem aNy {s:State} (hr:bZ s=true) (hq:rL s):rL (gB s).1∧((gB s).2.why≠0→(gB s).1=s∧(gB s).2=why (gB s).2.why):=by
 unfold gB
 split
 ·exact ⟨hq,fun _=>⟨rfl,rfl⟩⟩
 ·split
  ·exact ⟨hq,fun _=>⟨rfl,rfl⟩⟩
  ·refine ⟨fun x hx=>?_,fun h=>absurd rfl h⟩
   rename_i h1 h2
   have h2:=Decidable.not_not.1 h2
   have hx:x∈(mW s.sess s.next).1:=hx
   unfold mW at h2 hx
   split at h2
   ·simp at h2
   ·rename_i j1
    split at h2
    ·simp at h2
    ·rename_i j2
     split at h2
     ·simp at h2
     ·rename_i j3
      rw [if_neg j1,if_neg j2,if_neg j3] at hx
      rcases (fE _ _ _ _).1 hx with rfl | hx
      ·intro h;exact absurd rfl h
      ·exact hq x hx
theorem aXi {s:State} (hr:bZ s=true) (hq:rL s) (c:Cmd):rL (sV s c).1:=by
 intro x hx
 rcases aXh s c with e | ⟨_,e1,e2⟩
 ·rw [e] at hx;exact hq x hx
 ·rw [e2] at hx
  exact hq x ((aNx e1 ((cU s).1 hr).2.2.1 x).1 hx).1
theorem aKg (r:State×Rep) (c:Call):gS r c=r∨∃ (i:Nat) (x:Sess),r.1.sess[i]?=some x∧x.id=c.session∧x.last<c.seq∧gS r c=({ r.1 with sess:=r.1.sess.set i ⟨x.id,c.seq,r.2⟩ },r.2):=by
 unfold gS
 split
 ·rename_i h
  right
  unfold jI at h
  split at h
  ·rename_i h1;exact absurd h h1
  ·rename_i h1
   have h1':=Decidable.not_not.1 h1
   split at h
   ·simp at h
   ·rename_i h2
    have h2':(cJ r.1.sess c.session c.seq).2.1=false:=by simpa using h2
    obtain ⟨hs,i,x,hx,hid,q1,q2,q3⟩:=aQu h1' h2'
    refine ⟨i,x,hx,hid,q3,?_⟩
    have:=aQv hs hx q1 q2 q3 r.2
    rw [hid] at this
    rw [this,hid]
 ·exact .inl rfl
theorem aKh {s:State} (hr:bZ s=true) (hi:aC2 s) (hq:rL s) (c:Call):rL (fJ s c).1:=by
 unfold fJ
 rw [if_neg (by rw [hr];simp)]
 split
 ·exact hq
 ·split
  ·exact (aNy hr hq).1
  ·split
   ·exact hq
   ·split
    ·exact hq
    ·have hd:=aXi hr hq c.cmd
     rcases aKg (sV s c.cmd) c with e | ⟨i,x,e1,_,_,e2⟩
     ·rw [e];exact hd
     ·rw [e2]
      intro y hy
      rcases List.mem_or_eq_of_mem_set hy with hy | rfl
      ·exact hd y hy
      ·intro h;exact ((aR0 s c.cmd).2.2 h).2
theorem aR1:rL State.new:=fun x hx=>by cases hx
structure Beh (s:State):Prop where
 right:bZ s=true
 ints:aC2 s
 reps:rL s
theorem Beh.new:Beh State.new:=⟨aDz.1,aDz.2,aR1⟩
theorem Beh.apply {s:State} (h:Beh s) (c:Call):Beh (fJ s c).1:=⟨(zN h.right h.ints c).1,(zN h.right h.ints c).2,aKh h.right h.ints h.reps c⟩
theorem Beh.play:∀ (l:List Call) (s:State) (r:List Rep),Beh s→Beh (l.foldl rA (s,r)).1
 | [],s,r,h=>h
 | c::l,s,r,h=>Beh.play l _ _ (h.apply c)
theorem Beh.playM {s:State} (h:Beh s) (l:List Call):Beh (Go.Proofs.YtoaibmbldmckaaaGreat.playM s l).1:=Beh.play l s [] h
def Later (s t:State):Prop:=s.next≤t.next∧∀ y∈t.sess,y.id=s.next∨∃ x∈s.sess,x.id=y.id∧x.last≤y.last
theorem Later.refl (s:State):Later s s:=⟨Int.le_refl _,fun y hy=>.inr ⟨y,hy,rfl,Int.le_refl _⟩⟩
end Go.Proofs.YtoaibmbldmckaaaGreat
end
