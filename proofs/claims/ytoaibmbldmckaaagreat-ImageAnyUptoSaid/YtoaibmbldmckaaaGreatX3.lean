import Derived.ChangeArms
import Derived.ProofKit
import Derived.Test.YtoaibmbldmckaaaGreatX2
set_option linter.unusedSimpArgs false
set_option linter.unusedVariables false
set_option linter.unusedSectionVars false
set_option maxRecDepth 100000
section
namespace Go.AM
theorem aW0 (n:Nat) (z:List V) (parts:List (Nat×V)) (fr:Option Nat) (S:St) (hn:n≤1000):aW n z 3 parts fr S=(match tQ n [z,z,z] parts with
  | .error e=>.error e
  | .ok elems=>match aR fr S (.row 0 n elems) with
   | .error e=>.error e
   | .ok (a,S')=>.ok (.sl a 0 n 0 3,S')):=by
 unfold aW
 rw [if_pos (by omega)]
 rfl
theorem bC8 (z:List V) (parts:List (Nat×V)) (fr:Option Nat) (S:St):type_of% (aW0 1 z parts fr S (by decide)):=aW0 1 z parts fr S (by decide)
theorem aPf (z:List V) (parts:List (Nat×V)) (fr:Option Nat) (S:St):type_of% (aRq 1 z parts fr S (by decide)):=aRq 1 z parts fr S (by decide)
theorem ix3 (b:Nat):(∀ k:IntKind,gC 1 (.sl b 0 1 0 3) (.int k 0)=.ok (.ptr b 0 0 0))∧(∀ k:IntKind,gC 1 (.sl b 0 1 0 3) (.int k 1)=.ok (.ptr b 0 1 0))∧(∀ k:IntKind,gC 1 (.sl b 0 1 0 3) (.int k 2)=.ok (.ptr b 0 2 0)) ∧
  (∀ k:IntKind,gC 1 (.sl b 0 1 0 2) (.int k 0)=.ok (.ptr b 0 0 0))∧(∀ k:IntKind,gC 1 (.sl b 0 1 0 2) (.int k 1)=.ok (.ptr b 0 1 0)):=⟨fun _=>rfl,fun _=>rfl,fun _=>rfl,fun _=>rfl,fun _=>rfl⟩
theorem bB {n m:Nat} {h:Tr Blk} {a c ver k:Nat} {b:Blk} {el:List (List V)} (hne:c≠a) (hg:aB ⟨n,h⟩ c ver=.ok (k,el)):aB ⟨m,h.put a b⟩ c ver=.ok (k,el):=by
 rw [pZ m n h a c ver b hne];exact hg
end Go.AM
namespace Go.Proofs.YtoaibmbldmckaaaGreat
open Go.AM Tryz
set_option linter.unusedVariables false
set_option linter.unusedSimpArgs false
set_option maxRecDepth 100000
theorem bC9 {S:St} {a b:Nat} {q:V} {x y z:Int} (hb:aB S b 0=.ok (1,[[.ptr a 0 0 0],[.ptr a 0 0 1],[.ptr a 0 0 2]])) (ha:aB S a 0=.ok (4,[[.int .i64 x,.int .i64 y,.int .i64 z,q]])) (hne:b≠a) (han:a<S.next) {K:KW}
  (H:∀ S',S'.next=S.next→(∀ y,y≠a→S'.heap.get y=S.heap.get y)→(WF S→WF S')→((eA [x,y,z]).2=0→aB S' a 0=.ok (4,[[.int .i64 ((eA [x,y,z]).1.getD 0 0),.int .i64 ((eA [x,y,z]).1.getD 1 0),.int .i64 ((eA [x,y,z]).1.getD 2 0),q]]))→K (.int .i64 (eA [x,y,z]).2) S'):C 259 [.sl b 0 1 0 3] S K:=by
 refine aXz ?_
 delta Tryz.f259;simp only [↓cw,↓reduceIte,Nat.reduceLT,kk]
 have hne':(b=a)=False:=by simp [hne]
 have key:∀ (cs:List V) (h:Tr Blk),(∀ y,y≠a→h.get y=S.heap.get y)→∀ y,y≠a→(h.put a (.row 0 4 [cs])).get y=S.heap.get y:=fun cs h hh y hy=>by rw [Tr.get_put_neB _ _ _ _ trivial hy];exact hh y hy
 have kw:∀ (cs:List V) (h:Tr Blk),(WF S→WF ⟨S.next,h⟩)→WF S→WF ⟨S.next,h.put a (.row 0 4 [cs])⟩:=fun cs h hh w=>lA (hh w) han (Nat.le_refl _)
 have e0:∀ y,y≠a→S.heap.get y=S.heap.get y:=fun _ _=>rfl
 have w0:WF S→WF ⟨S.next,S.heap⟩:=fun w=>w
 refine ⟨4,?_⟩
 simp only [↓cw,↓reduceIte,Nat.reduceLT,yO,kk,show ((3:Nat):Int)=3 from rfl,show (0:Int)<3 by decide,show (1:Int)<3 by decide,show (2:Int)<3 by decide,show ¬ (3:Int)<3 by decide,ix3,hb,ha,aWv,eG,tP,hne',gm,ldP,show wr .i64 (0+1)=1 from rfl,show wr .i64 (1+1)=2 from rfl,show wr .i64 (2+1)=3 from rfl]
 simp only [eA,aE,mV,ne_eq] at H
 by_cases c1:(bK 0 x).2=0
 ·by_cases c2:(bK 0 y).2=0
  ·by_cases c3:(bK 0 z).2=0
   ·simp only [↓cw,↓reduceIte,Nat.reduceLT,c1,c2,c3,kk,if_false,not_true_eq_false] at H ⊢
    exact H _ rfl (key _ _ (key _ _ (key _ _ e0))) (kw _ _ (kw _ _ (kw _ _ w0))) fun _=>aF _ _ _ _ _ _
   ·simp only [↓cw,↓reduceIte,Nat.reduceLT,c1,c2,c3,kk,if_false,if_true,not_true_eq_false,not_false_eq_true] at H ⊢
    exact H _ rfl (key _ _ (key _ _ e0)) (kw _ _ (kw _ _ w0)) fun h=>h.elim
  ·simp only [↓cw,↓reduceIte,Nat.reduceLT,c1,c2,kk,if_false,if_true,not_true_eq_false,not_false_eq_true] at H ⊢
   exact H _ rfl (key _ _ e0) (kw _ _ w0) fun h=>h.elim
 ·simp only [↓cw,↓reduceIte,Nat.reduceLT,c1,kk,if_true,not_false_eq_true] at H ⊢
  exact H S rfl e0 id fun h=>h.elim
theorem bCa {S:St} {v:V} {es:List (List V)} (own:Own E0 S 4 v es) (w:WF S) {a b ver m i:Nat} (hv:v=.sl a ver 4 0 m) {c:List UInt8} {bp x y:Int} (hi:es[i]?=some [.str c,.int .i64 bp,.int .i64 x,.int .i64 y]) (hb:aB S b 0=.ok (1,[[.ptr a ver i 2],[.ptr a ver i 3]])) (hne:b≠a) {K:KW}
  (H:∀ S',S'.next=S.next→(∀ y,y≠a→S'.heap.get y=S.heap.get y)→WF S'→((eA [x,y]).2=0→Own E0 S' 4 v (es.set i [.str c,.int .i64 bp,.int .i64 ((eA [x,y]).1.getD 0 0),.int .i64 ((eA [x,y]).1.getD 1 0)]))→K (.int .i64 (eA [x,y]).2) S'):C 259 [.sl b 0 1 0 2] S K:=by
 refine aXz ?_
 delta Tryz.f259;simp only [↓cw,↓reduceIte,Nat.reduceLT,kk]
 have hil:=(List.getElem?_eq_some_iff.1 hi).1
 obtain ⟨a1,ver1,hv1,_,_,_,_,set1⟩:=own.setK (aH7 w) xD hi .i64
 obtain ⟨rfl,rfl⟩:a1=a∧ver1=ver:=by rw [hv] at hv1;injection hv1 with h1 h2;exact ⟨h1.symm,h2.symm⟩
 obtain ⟨S2,st1,x2,n2,own2,keep2,w2⟩:=set1 2 1 (.int .i64 (bK 0 x).1) rfl rfl (by decide)
 have hi2:(es.set i (splice [.str c,.int .i64 bp,.int .i64 x,.int .i64 y] 2 [.int .i64 (bK 0 x).1]))[i]?=some [.str c,.int .i64 bp,.int .i64 (bK 0 x).1,.int .i64 y]:=by rw [List.getElem?_set_self hil];rfl
 obtain ⟨a2,ver2,hv2,_,_,_,_,set2⟩:=own2.setK x2 xD hi2 .i64
 obtain ⟨rfl,rfl⟩:a2=a1∧ver2=ver1:=by rw [hv] at hv2;injection hv2 with h1 h2;exact ⟨h1.symm,h2.symm⟩
 obtain ⟨S3,st2,x3,n3,own3,keep3,w3⟩:=set2 3 1 (.int .i64 (bK 0 y).1) rfl rfl (by decide)
 have l1:=own.ld hv hi none 2
 have l2:=own2.ld hv hi2 none 3
 have hb2:=bG hb (keep2 b hne)
 simp only [V.cells,List.set_set] at own3
 simp only [↓cw,↓reduceIte,Nat.reduceLT,kk] at l1 l2
 refine ⟨3,?_⟩
 simp only [↓cw,↓reduceIte,Nat.reduceLT,yO,kk,show ((2:Nat):Int)=2 from rfl,show (0:Int)<2 by decide,show (1:Int)<2 by decide,show ¬ (2:Int)<2 by decide,ix3,ldP none b,hb,hb2,aWv,eG,l1,l2,st1,st2,show wr .i64 (0+1)=1 from rfl,show wr .i64 (1+1)=2 from rfl]
 simp only [eA,aE,mV,ne_eq] at H
 by_cases c1:(bK 0 x).2=0
 ·by_cases c2:(bK 0 y).2=0
  ·simp only [↓cw,↓reduceIte,Nat.reduceLT,c1,c2,kk,if_false,not_true_eq_false] at H ⊢
   exact H S3 (n3.trans n2) (fun y hy=>(keep3 y hy).trans (keep2 y hy)) (w3 (w2 w)) fun _=>own3
  ·simp only [↓cw,↓reduceIte,Nat.reduceLT,c1,c2,kk,if_false,if_true,not_true_eq_false,not_false_eq_true] at H ⊢
   exact H S2 n2 keep2 (w2 w) fun h=>h.elim
 ·simp only [↓cw,↓reduceIte,Nat.reduceLT,c1,kk,if_true,not_false_eq_true] at H ⊢
  exact H S rfl (fun _ _=>rfl) w fun h=>h.elim
theorem bG1 (t:Total) (hf:t.parts.length≤1000) (S:St) (K:KW):C 228 [.agg [.int .i64 t.net,.int .i64 t.tax,.int .i64 t.gross,.imm (t.parts.map Part.enc)]] S K=K (aFd (dT t)) S:=by
 refine (bEr rfl ?_).eq S K
 delta Tryz.f228;simp only [↓cw,↓reduceIte,Nat.reduceLT,kk,tP,aFd]
 obtain ⟨S1,hS1⟩:∃ S1:St,S1=⟨1+1,(Tr.nil.put 0 (Blk.row 0 4 [[.int .i64 t.net,.int .i64 t.tax,.int .i64 t.gross,.imm (t.parts.map Part.enc)]])).put 1 (.row 0 4 [[.int .i64 0,.int .i64 0,.int .i64 0,.nils]])⟩:=⟨_,rfl⟩
 have w1:WF S1:=by rw [hS1];exact lA (n:=1) (lA xD (by decide) (by decide)) (by decide) (by decide)
 have a0:aB S1 0 0=.ok (4,[[.int .i64 t.net,.int .i64 t.tax,.int .i64 t.gross,.imm (t.parts.map Part.enc)]]):=by rw [hS1];rfl
 have a1:aB S1 1 0=.ok (4,[[.int .i64 0,.int .i64 0,.int .i64 0,.nils]]):=by rw [hS1];rfl
 obtain ⟨v,S2,q1,x2,own⟩:=aVw (b:=40) aJf t.parts w1 (by omega) (by unfold eE;omega)
 have n1:S1.next=2:=by rw [hS1]
 have n2:=x2.next
 rw [←hS1]
 have b0:=x2.row a0
 have b1:=x2.row a1
 have o1:=own.one
 have o2:=own.cells
 have hvn:∀ a ver m,v=.sl a ver 4 0 m→2≤a:=by
  intro a ver m hv
  rcases own.is with ⟨rfl,_⟩ | ⟨a',ver',tl,rfl,h,_⟩
  ·cases hv
  ·cases hv;omega
 simp only [↓cw,↓reduceIte,Nat.reduceLT,q1,kk,o1,o2,b0,bC8]
 have nn:∀ k,k<2→∀ a ver m,v=.sl a ver 4 0 m→k≠a:=fun k hk a ver m hv=>by have:=hvn a ver m hv;omega
 have nS:∀ a ver m,v=.sl a ver 4 0 m→S2.next≠a:=fun a ver m hv=>by have:=own.lt a ver m hv;omega
 have oA:=((own.put (m:=S2.next) (b:=.row 0 4 [[.int .i64 t.net,.int .i64 t.tax,.int .i64 t.gross,v]]) (Nat.le_refl _) (nn 0 (by decide))).put (k:=S2.next) (m:=S2.next+1) (b:=.row 0 1 [[.ptr 0 0 0 0],[.ptr 0 0 0 1],[.ptr 0 0 0 2]]) (Nat.le_succ _) nS).weaken (A:=E0) (Nat.zero_le _)
 have wA:WF ⟨S2.next+1,(S2.heap.put 0 (.row 0 4 [[.int .i64 t.net,.int .i64 t.tax,.int .i64 t.gross,v]])).put S2.next (.row 0 1 [[.ptr 0 0 0 0],[.ptr 0 0 0 1],[.ptr 0 0 0 2]])⟩:=lA (n:=S2.next) (lA (n:=S2.next) (x2.wf w1) (by omega) (Nat.le_refl _)) (by omega) (by omega)
 have bA:aB ⟨S2.next+1,(S2.heap.put 0 (.row 0 4 [[.int .i64 t.net,.int .i64 t.tax,.int .i64 t.gross,v]])).put S2.next (.row 0 1 [[.ptr 0 0 0 0],[.ptr 0 0 0 1],[.ptr 0 0 0 2]])⟩ 1 0=.ok (4,[[.int .i64 0,.int .i64 0,.int .i64 0,.nils]]):=bB (n:=S2.next) (by omega) (bB (n:=S2.next) (by decide) b1)
 refine bC9 (S:=⟨S2.next+1,(S2.heap.put 0 (.row 0 4 [[.int .i64 t.net,.int .i64 t.tax,.int .i64 t.gross,v]])).put S2.next (.row 0 1 [[.ptr 0 0 0 0],[.ptr 0 0 0 1],[.ptr 0 0 0 2]])⟩) (aF _ _ _ _ _ _) (bB (n:=S2.next) (by omega) (aF S2.next _ _ _ _ _)) (by omega) (by show 0<S2.next+1;omega) fun S3 n3 keep3 w3 g3=>?_
 have n3:S3.next=S2.next+1:=n3
 have c1:=bG bA (keep3 1 (by decide))
 have o3:Own E0 S3 4 v (t.parts.map Part.enc):=oA.other (by show S2.next+1≤S3.next;omega) fun a ver m hv=>keep3 a (by have:=hvn a ver m hv;omega)
 simp only [↓cw,↓reduceIte,Nat.reduceLT,kk,dT]
 by_cases h0:(eA [t.net,t.tax,t.gross]).2=0
 ·have g3:=g3 h0
  have hlen:lenW v=.ok (.int .i64 (t.parts.length:Int)):=own.sl.lenI
  obtain ⟨x,hx⟩:∃ x,x=(eA [t.net,t.tax,t.gross]).1.getD 0 0:=⟨_,rfl⟩
  obtain ⟨y,hy⟩:∃ y,y=(eA [t.net,t.tax,t.gross]).1.getD 1 0:=⟨_,rfl⟩
  obtain ⟨z,hz⟩:∃ z,z=(eA [t.net,t.tax,t.gross]).1.getD 2 0:=⟨_,rfl⟩
  simp only [←hx,←hy,←hz] at g3 ⊢
  simp only [↓cw,↓reduceIte,Nat.reduceLT,h0,kk,not_true_eq_false,if_false,g3,hlen]
  refine aG t.parts (step:=cU) (fin:=fun l=>(l,0)) (fun i s vs S=>vs=[.int .i64 0,.int .i64 (i:Int)]∧Own E0 S 4 v ((s++t.parts.drop i).map Part.enc)∧s.length=i∧WF S∧2≤S.next∧aB S 0 0=.ok (4,[[.int .i64 x,.int .i64 y,.int .i64 z,v]])∧aB S 1 0=.ok (4,[[.int .i64 0,.int .i64 0,.int .i64 0,.nils]])) (fun r=>r=aE cU (fun l=>(l,0)) t.parts []) ?_ ?_ (s:=[]) ⟨rfl,by simpa using o3,rfl,w3 wA,by omega,g3,c1⟩ rfl
  ·rintro i p s vs S hi ⟨rfl,own,hd,w,hn,r0,r1⟩ aC H
   have hil:=(List.getElem?_eq_some_iff.1 hi).1
   have hpi:((s++t.parts.drop i).map Part.enc)[i]?=some p.enc:=by
    rw [List.getElem?_map,List.getElem?_append_right (by omega),hd,Nat.sub_self,List.getElem?_drop,Nat.add_zero,hi];rfl
   obtain ⟨a,ver,hv,_,hb,e4,_,_⟩:=own.setK (aH7 w) xD hpi .i64
   simp only [cU] at H
   simp only [↓cw,↓reduceIte,Nat.reduceLT,kk,aY hi,gm,r0,e4,aPf,fV (show i<1000000000 by omega)]
   have oB:=own.put (k:=S.next+10) (m:=S.next+13) (b:=.row 0 1 [[.ptr a ver i 2],[.ptr a ver i 3]]) (by omega) fun a ver m hv=>by have:=own.lt a ver m hv;omega
   refine bCa oB (lA (n:=S.next) w (by omega) (by omega)) hv hpi (aF _ _ _ _ _ _) (by omega) fun S4 n4 keep4 w4 g4=>?_
   have n4:S4.next=S.next+13:=n4
   have ha2:=hvn a ver _ hv
   have d0:=bG (bB (n:=S.next) (m:=S.next+13) (a:=S.next+10) (b:=.row 0 1 [[.ptr a ver i 2],[.ptr a ver i 3]]) (by omega) r0) (keep4 0 (by omega))
   have d1:=bG (bB (n:=S.next) (m:=S.next+13) (a:=S.next+10) (b:=.row 0 1 [[.ptr a ver i 2],[.ptr a ver i 3]]) (by omega) r1) (keep4 1 (by omega))
   by_cases c:(eA [p.net,p.tax]).2=0
   ·have g4:=g4 c
    simp only [↓cw,↓reduceIte,Nat.reduceLT,c,kk,not_true_eq_false,if_false] at H ⊢
    refine H _ _ ⟨rfl,?_,by simp;omega,w4,by omega,d0,d1⟩
    have:((s++t.parts.drop i).map Part.enc).set i [.str p.cat,.int .i64 p.bp,.int .i64 ((eA [p.net,p.tax]).1.getD 0 0),.int .i64 ((eA [p.net,p.tax]).1.getD 1 0)]=((s++[{ p with net:=(eA [p.net,p.tax]).1.getD 0 0,tax:=(eA [p.net,p.tax]).1.getD 1 0 }])++t.parts.drop (i+1)).map Part.enc:=by
     rw [List.drop_eq_getElem_cons hil,(List.getElem?_eq_some_iff.1 hi).2]
     simp only [List.map_append,List.map_cons,List.map_nil,List.append_assoc,List.singleton_append]
     rw [List.set_append_right _ _ (by simp;omega)]
     simp only [List.length_map,hd,Nat.sub_self,List.set_cons_zero]
     rfl
    rw [this] at g4
    exact g4
   ·simp only [↓cw,↓reduceIte,Nat.reduceLT,c,kk,not_false_eq_true,if_true,d1] at H ⊢
    simp only [oo,←H,c,not_false_eq_true,if_true,Total.zero,List.map_nil]
  ·rintro s vs S ⟨rfl,own,hd,w,hn,r0,r1⟩ aC H
   rw [List.drop_length,List.append_nil] at own
   have H':aE cU (fun l=>(l,0)) t.parts []=(s,0):=H.symm
   have:=(own.put (m:=S.next) (k:=1) (b:=.row 0 4 [[.int .i64 x,.int .i64 y,.int .i64 z,v]]) (Nat.le_refl _) (nn 1 (by decide))).out fun _=>rfl
   simp only [↓cw,↓reduceIte,Nat.reduceLT,kk,Int.lt_irrefl,if_false,r0,r1,o1,o2,H',not_true_eq_false]
   simp only [oo,this]
 ·simp only [↓cw,↓reduceIte,Nat.reduceLT,h0,kk,not_false_eq_true,if_true,c1]
  simp only [oo,Total.zero,List.map_nil]
end Go.Proofs.YtoaibmbldmckaaaGreat
end
section
namespace Go.AM
theorem Fn.back {P:Program} {pl:gO} {f:FuncId} {args:List V} {v:V} (h:∀ S K,W P pl f args S K=K v S):Fn P pl f args v:=fun S=>by
 have h1:=h S fun v' S'=>v'=v∧S'=S
 obtain ⟨v',S',e,rfl,rfl⟩:=h1.mpr ⟨rfl,rfl⟩
 exact e
theorem Own.arg {P:Program} {pl:gO} {f:FuncId} {p:Nat→Option (List bH)} (hpl:pl f=some (.val p)) {S0 S:St} {n:Nat} {v r:V} {es:List (List V)} (h:Own S0 S n v es) (hc:es.all cloVs=true) (hf:∀ S K,W P pl f [.imm es] S K=K r S) (hk:iY r=true) (K:KW):W P pl f [v] S K=K r S:=
 (Fn.back hf).frz hpl rfl (by simp only [frzVs,h.frz hc]) (by simp only [ptrsVs,h.ptrs];rfl) (.inl hk) K
theorem Own.there {S0 S:St} {n:Nat} {v:V} {es:List (List V)} (h:Own S0 S n v es) {y:Nat} (hy:blkOf v=some y):S.heap.get y≠none:=by
 rcases h.is with ⟨rfl,_⟩ | ⟨a,ver,tl,rfl,_,_,hg⟩
 ·cases hy
 ·cases hy;rw [hg];exact fun h=>by cases h
theorem aJg {n b:Nat} {S:St} {v:V} {es:List (List V)} (h:Own E0 S n v es) (w:WF S) {k1 k2 m:Nat} (f1:S.heap.get k1=none) (f2:S.heap.get k2=none) (hne:k1≠k2) (hm1:k1<m) (hm2:k2<m) (hm:S.next≤m) {c:List V} (hc:c.length=n∧aI c=true) (h1:(es.length+1)*b≤35184372088832) (h2:es.length+1<eE):
  ∃ v' S',eN n b v (.sl k1 0 n 0 1) (some k2) ⟨m,S.heap.put k1 (.row 0 n [c])⟩=.ok (v',S')∧WF S'∧S'.next=m∧Own E0 S' n v' (es++[c])∧(blkOf v'=some k2∨blkOf v'=blkOf v)∧∀ y,y≠k1→y≠k2→blkOf v≠some y→S'.heap.get y=S.heap.get y:=by
 have w1:WF ⟨m,S.heap.put k1 (.row 0 n [c])⟩:=lA (n:=S.next) w hm1 hm
 have h':Own E0 ⟨m,S.heap.put k1 (.row 0 n [c])⟩ n v es:=h.same hm fun a ha=>Tr.get_put_neB _ _ _ _ trivial fun e=>h.there ha (by rw [e];exact f1)
 have hu:aM ⟨m,S.heap.put k1 (.row 0 n [c])⟩ (.sl k1 0 n 0 1)=.ok [c]:=by
  simp only [aM,aF];rfl
 have hf:(⟨m,S.heap.put k1 (.row 0 n [c])⟩:St).heap.get k2=none:=by
  show (S.heap.put k1 _).get k2=none
  rw [Tr.get_put_neB _ _ _ _ trivial (Ne.symm hne)];exact f2
 obtain ⟨v',S',q1,q2,q3,q4,q5,q6⟩:=h'.pushAt (b:=b) (aH7 w1) xD hu (fun d hd=>by rcases List.mem_singleton.1 hd with rfl;exact hc) (by simp) (Nat.zero_le _) hm2 hf h1 h2
 refine ⟨v',S',q1,q2.wf xD,q3,q4,q5,fun y y1 y2 y3=>?_⟩
 rw [q6 y y2 y3]
 exact Tr.get_put_neB _ _ _ _ trivial y1
theorem fresh {S:St} (w:WF S) {k:Nat} (hk:S.next≤k):S.heap.get k=none:=by
 cases hq:S.heap.get k with
 | none=>rfl
 | some b=>have:=w k b hq;omega
end Go.AM
namespace Go.Proofs.YtoaibmbldmckaaaGreat
open Go.AM Tryz
set_option linter.unusedVariables false
set_option linter.unusedSimpArgs false
set_option maxRecDepth 100000
theorem aLd (x:Int):(bS x).length=1∧aI (bS x)=true:=⟨rfl,rfl⟩
theorem aX0 {S0 S:St} {v:V} {l:List Int} (h:Own S0 S 1 v (l.map bS)) (hl:l.length<1000000) (K:KW):C 218 [v] S K=K (.tup [.int .i64 (cR l).1,.bool (cR l).2]) S:=h.arg aXw (kY (fun _=>rfl) _) (fun S K=>bFm l hl S K) rfl K
theorem bG2 (t:Total) (hl:t.parts.length<100000) (S:St) (K:KW):C 226 [.agg [.int .i64 t.net,.int .i64 t.tax,.int .i64 t.gross,.imm (t.parts.map Part.enc)]] S K=K (.bool (fB t)) S:=by
 refine (bEp rfl ?_).eq S K
 delta Tryz.f226;simp only [↓cw,↓reduceIte,Nat.reduceLT,kk]
 refine aG t.parts (step:=pG) (fin:=id) (fun i s vs S=>∃ u v,vs=[u,v,.int .i64 (i:Int)]∧Own E0 S 1 u (s.1.map bS)∧Own E0 S 1 v (s.2.map bS)∧s.1.length=i∧s.2.length=i∧WF S∧(∀ y,AM.blkOf u=some y→AM.blkOf v≠some y)∧AM.blkOf u≠some 0∧AM.blkOf v≠some 0∧aB S 0 0=.ok (4,[[.int .i64 t.net,.int .i64 t.tax,.int .i64 t.gross,.imm (t.parts.map Part.enc)]])∧0<S.next) (fun r=>r=(t.parts.map (·.net),t.parts.map (·.tax))) ?_ ?_ (s:=([],[])) ⟨_,_,rfl,Own.nil _ _ _,Own.nil _ _ _,rfl,rfl,lA xD (by decide) (by decide),fun y h=>(by cases h),fun h=>(by cases h),fun h=>(by cases h),aF _ _ _ _ _ _,Nat.zero_lt_one⟩ (by rw [aWs];rfl)
 ·rintro i p ⟨ns,ts⟩ vs S hi ⟨u,v,rfl,ou,ov,lu,lv,w,huv,hu0,hv0,r0,h0⟩ aC H
  have hil:=(List.getElem?_eq_some_iff.1 hi).1
  have lu:ns.length=i:=lu
  have lv:ts.length=i:=lv
  simp only [pG] at H
  have hS1:∃ S1:St,S1=⟨S.next+1,(S.heap.put S.next (.row 0 4 [[.str [],.int .i64 0,.int .i64 0,.int .i64 0]])).put S.next (.row 0 4 [p.enc])⟩:=⟨_,rfl⟩
  obtain ⟨S1,hS1⟩:=hS1
  have n1:S1.next=S.next+1:=by rw [hS1]
  have w1:WF S1:=by rw [hS1];exact (Ext.var w 4 _ _).wf w
  have x1:Ext S S1:=by rw [hS1];exact Ext.var w 4 _ _
  have g1:aB S1 S.next 0=.ok (4,[p.enc]):=by rw [hS1];exact aF _ _ _ _ _ _
  have bu:∀ y,AM.blkOf u=some y→y<S.next:=fun y hy=>(fE ou hy).2
  have bv:∀ y,AM.blkOf v=some y→y<S.next:=fun y hy=>(fE ov hy).2
  obtain ⟨u',S2,q1,w2,n2,ou2,bu2,keep2⟩:=aJg (b:=8) (ou.ext x1) w1 (k1:=S1.next+3) (k2:=S1.next+4) (m:=S1.next+12) (fresh w1 (by omega)) (fresh w1 (by omega)) (by omega) (by omega) (by omega) (by omega) (aLd p.net) (by simp;omega) (by simp [eE];omega)
  have k2:∀ y,y<S1.next→AM.blkOf u≠some y→S2.heap.get y=S1.heap.get y:=fun y hy h=>keep2 y (by omega) (by omega) h
  have g2:aB S2 S.next 0=.ok (4,[p.enc]):=bG g1 (k2 S.next (by omega) fun h=>by have:=bu _ h;omega)
  have ov2:Own E0 S2 1 v (ts.map bS):=(ov.ext x1).same (by omega) fun a ha=>k2 a (by have:=bv a ha;omega) fun h=>huv a h ha
  have fr8:∀ k,5≤k→S2.heap.get (S1.next+k)=none:=fun k hk=>by
   rw [keep2 (S1.next+k) (by omega) (by omega) fun h=>by have:=bu _ h;omega];exact fresh w1 (by omega)
  obtain ⟨v',S3,q2,w3,n3,ov3,bv3,keep3⟩:=aJg (b:=8) ov2 w2 (k1:=S1.next+8) (k2:=S1.next+9) (m:=S2.next) (fr8 8 (by omega)) (fr8 9 (by omega)) (by omega) (by omega) (by omega) (Nat.le_refl _) (aLd p.tax) (by simp;omega) (by simp [eE];omega)
  have hu2:∀ y,AM.blkOf u'=some y→y=S1.next+4∨AM.blkOf u=some y:=fun y hy=>by
   rcases bu2 with h | h
   ·rw [h] at hy;cases hy;exact .inl rfl
   ·rw [h] at hy;exact .inr hy
  have hv3:∀ y,AM.blkOf v'=some y→y=S1.next+9∨AM.blkOf v=some y:=fun y hy=>by
   rcases bv3 with h | h
   ·rw [h] at hy;cases hy;exact .inl rfl
   ·rw [h] at hy;exact .inr hy
  have hb8:∀ a,AM.blkOf u'=some a→a≠S1.next+8∧a≠S1.next+9:=fun a ha=>by
   rcases hu2 a ha with h | h
   ·omega
   ·have:=bu a h;omega
  have ou3:Own E0 S3 1 u' ((ns++[p.net]).map bS):=by
   rw [List.map_append]
   exact ou2.same (by omega) fun a ha=>keep3 a (hb8 a ha).1 (hb8 a ha).2 fun hv=>by
    rcases hu2 a ha with h | h
    ·have:=bv a hv;omega
    ·exact huv a h hv
  have r3:=bG (bG (x1.row r0) (k2 0 (by omega) hu0)) (keep3 0 (by omega) (by omega) hv0)
  have hh:(S.heap.put S.next (.row 0 4 [[.str [],.int .i64 0,.int .i64 0,.int .i64 0]])).put S.next (.row 0 4 [[.str p.cat,.int .i64 p.bp,.int .i64 p.net,.int .i64 p.tax]])=S1.heap:=by rw [hS1];rfl
  simp only [Part.enc] at g1
  simp only [Part.enc,n1] at g2 q1 q2
  simp only [bS] at q1 q2
  simp only [↓cw,↓reduceIte,Nat.reduceLT,kk,aY hi,eW hi,Part.enc,fV (show i<1000000000 by omega),hh,gm,g1,uH,q1,g2,q2]
  exact H _ _ ⟨u',v',rfl,ou3,by rw [List.map_append];exact ov3,by simp;omega,by simp;omega,w3,fun y hy hy'=>by
   rcases hu2 y hy with h | h<;>rcases hv3 y hy' with h' | h'
   ·omega
   ·have:=bv y h';omega
   ·have:=bu y h;omega
   ·exact huv y h h',fun h=>by
   rcases hu2 0 h with h | h
   ·omega
   ·exact hu0 h,fun h=>by
   rcases hv3 0 h with h | h
   ·omega
   ·exact hv0 h,r3,by omega⟩
 ·rintro ⟨ns,ts⟩ vs S ⟨u,v,rfl,ou,ov,lu,lv,w,huv,hu0,hv0,r0,h0⟩ aC H
  have lu:ns.length=t.parts.length:=lu
  have lv:ts.length=t.parts.length:=lv
  obtain ⟨rfl,rfl⟩:ns=t.parts.map (·.net)∧ts=t.parts.map (·.tax):=Prod.mk.inj H
  have hlu:=aX0 ou (by omega)
  have hlv:=aX0 ov (by omega)
  have ow:Own E0 ⟨S.next+1,S.heap.put S.next (.row 0 1 ([t.net,t.tax].map bS))⟩ 1 (.sl S.next 0 1 0 2) ([t.net,t.tax].map bS):=⟨.inr ⟨S.next,0,[],rfl,Nat.zero_le _,Nat.lt_succ_self _,by rw [List.append_nil];exact Tr.get_put_sameB _ _ _ trivial⟩,fun c hc=>by
   rcases List.mem_cons.1 hc with rfl | hc
   ·exact aLd _
   ·rcases List.mem_cons.1 hc with rfl | hc
    ·exact aLd _
    ·cases hc⟩
  have hlw:=aX0 ow (by simp)
  have z0:((0:Nat)=S.next)=False:=by simp;omega
  simp only [List.map_cons,List.map_nil,bS] at hlw
  simp only [↓cw,↓reduceIte,Nat.reduceLT,kk,Int.lt_irrefl,if_false,hlu,hlv,r0,aPf,hlw,tP,z0,gm,fB,oo]
  split
  rotate_left
  ·rfl
  split
  rotate_left
  ·rfl
  split
  rotate_left
  ·rfl
  split
  rotate_left
  ·rfl
  split<;>rfl
end Go.Proofs.YtoaibmbldmckaaaGreat
end
section
namespace Go.Proofs.YtoaibmbldmckaaaGreat
open Go.AM Tryz
theorem bG3 (t:Total) (S:St) (K:KW):C 167 [.agg [.int .i64 t.net,.int .i64 t.tax,.int .i64 t.gross,.imm (t.parts.map Part.enc)]] S K=K (.bool (bR t)) S:=by
 refine (bE0 rfl ?_).eq S K
 delta Tryz.f167;simp only [↓cw,↓reduceIte,Nat.reduceLT,kk,bR]
 by_cases c1:t.parts.length<1
 ·simp only [↓cw,↓reduceIte,Nat.reduceLT,c1,show (t.parts.length:Int)<1 by omega,kk,oo,if_true]
 by_cases c2:12<t.parts.length
 ·simp only [↓cw,↓reduceIte,Nat.reduceLT,c1,c2,show ¬ (t.parts.length:Int)<1 by omega,show (12:Int)<(t.parts.length:Int) by omega,kk,oo,if_true,if_false]
 simp only [↓cw,↓reduceIte,Nat.reduceLT,c1,c2,show ¬ (t.parts.length:Int)<1 by omega,show ¬ (12:Int)<(t.parts.length:Int) by omega,kk,if_false]
 refine aG t.parts (step:=bU) (fin:=fun _=>fB t) (fun i s vs S=>vs=[.bool false,.int .i64 (i:Int)]∧s=bL t.parts i∧aB S 0 0=.ok (4,[[.int .i64 t.net,.int .i64 t.tax,.int .i64 t.gross,.imm (t.parts.map Part.enc)]])∧0<S.next) (fun r=>r=aE bU (fun _=>fB t) t.parts none) ?_ ?_ (s:=none) ⟨rfl,rfl,aF _ _ _ _ _ _,Nat.zero_lt_one⟩ rfl
 ·rintro i p s vs S hi ⟨rfl,rfl,r0,h0⟩ aC H
  have hil:=(List.getElem?_eq_some_iff.1 hi).1
  have r1:∀ (m:Nat) (b c:Blk),aB ⟨m,(S.heap.put S.next b).put S.next c⟩ 0 0=.ok (4,[[.int .i64 t.net,.int .i64 t.tax,.int .i64 t.gross,.imm (t.parts.map Part.enc)]]):=fun m b c=>bB (n:=S.next) (by omega) (bB (n:=S.next) (by omega) r0)
  have hn:bL t.parts (i+1)=some p:=by simpa [bL] using hi
  simp only [hn,bU] at H
  simp only [↓cw,↓reduceIte,Nat.reduceLT,kk,aY hi,eW hi,Part.enc,fV (show i<1000000000 by omega),aWy,bFk,eG,r1,oo]
  obtain ⟨S',hS'⟩:∃ S':St,S'=⟨S.next+1+30,(S.heap.put S.next (.row 0 4 [[.str [],.int .i64 0,.int .i64 0,.int .i64 0]])).put S.next (.row 0 4 [[.str p.cat,.int .i64 p.bp,.int .i64 p.net,.int .i64 p.tax]])⟩:=⟨_,rfl⟩
  have r2:aB S' 0 0=.ok (4,[[.int .i64 t.net,.int .i64 t.tax,.int .i64 t.gross,.imm (t.parts.map Part.enc)]]):=by rw [hS'];exact r1 _ _ _
  have h2:0<S'.next:=by rw [hS'];exact Nat.succ_pos _
  rw [←hS']
  clear hS' r1
  cases hna:dX p.cat
  ·simp only [↓cw,↓reduceIte,Nat.reduceLT,hna,kk,if_true] at H ⊢
   rw [←H]
  ·simp only [↓cw,↓reduceIte,Nat.reduceLT,hna,kk,Bool.true_eq_false,if_false] at H ⊢
   cases i with
   | zero=>
    simp only [↓cw,↓reduceIte,Nat.reduceLT,bL,eK,kk,Bool.false_eq_true,if_false,if_true,pH,pI,Bool.or_eq_true,decide_eq_true_eq] at H ⊢
    simp only [↓cw,↓reduceIte,Nat.reduceLT,Int.natCast_zero,Int.lt_irrefl,kk,if_false]
    grind
   | succ j=>
    have hj:t.parts[j]?=some t.parts[j]:=List.getElem?_eq_getElem (by omega)
    have hp:bL t.parts (j+1)=some t.parts[j]:=by simp [bL,hj]
    simp only [↓cw,↓reduceIte,Nat.reduceLT,hp,gt0,kk,wrm (show j+1<1000000000 by omega),eW hj,Part.enc,eK,pH,pI,Bool.or_eq_true,decide_eq_true_eq] at H ⊢
    grind
 ·rintro s vs S ⟨rfl,rfl,r0,h0⟩ aC H
  have H':aE bU (fun _=>fB t) t.parts none=fB t:=H.symm
  simp only [↓cw,↓reduceIte,Nat.reduceLT,kk,Int.lt_irrefl,if_false,r0,bG2 t (show t.parts.length<100000 by omega),oo,H']
theorem bG4 (l r:List Part) (hb:l.length<1000000) (S:St) (K:KW):C 260 [.imm (l.map Part.enc),.imm (r.map Part.enc)] S K=K (.bool (decide (l=r))) S:=by
 refine (bEx rfl ?_).eq S K
 delta Tryz.f260;simp only [↓cw,↓reduceIte,Nat.reduceLT,kk]
 by_cases h:l.length=r.length
 ·simp only [↓cw,↓reduceIte,Nat.reduceLT,show (l.length:Int)=(r.length:Int) by omega,kk,not_true_eq_false,if_false]
  refine aG l (step:=cN r) (fin:=fun _=>true) (fun i n vs S=>n=i∧vs=[.bool false,.int .i64 (i:Int)]) (fun x=>x=decide (l=r)) ?_ ?_ (s:=0) ⟨rfl,rfl⟩ (eqL h)
  ·rintro i p n vs S hi ⟨rfl,rfl⟩ aC H
   have hil:=(List.getElem?_eq_some_iff.1 hi).1
   have hj:r[n]?=some r[n]:=List.getElem?_eq_getElem (by omega)
   have hlt:((n:Int)<(r.length:Int))=True:=aY hj
   have he:(r[n]=p)=(((p.cat=r[n].cat∧p.bp=r[n].bp)∧p.net=r[n].net)∧p.tax=r[n].tax):=by
    obtain ⟨_,_,_,_⟩:=p;generalize r[n]=q;obtain ⟨_,_,_,_⟩:=q;simp [and_assoc,eq_comm]
   simp only [cN,hj,Option.some.injEq,he] at H
   simp only [↓cw,↓reduceIte,Nat.reduceLT,kk,hlt,eW hi,eW hj,Part.enc,fV (show n<1000000000 by omega),oo]
   grind
  ·rintro n vs S ⟨rfl,rfl⟩ aC H
   simp only [↓cw,↓reduceIte,Nat.reduceLT,kk,h,Int.lt_irrefl,if_false,oo,←H]
 ·simp only [↓cw,↓reduceIte,Nat.reduceLT,show ¬ (l.length:Int)=(r.length:Int) by omega,kk,not_false_eq_true,if_true,oo]
  have:decide (l=r)=false:=by simpa using fun e=>h (by rw [e])
  rw [this]
def Posted.enc (p:Posted):List V:=[.str p.ref.ser,.int .i64 p.ref.num,.int .i64 p.day.y,.int .i64 p.day.m,.int .i64 p.day.d,.int .i64 p.total.net,.int .i64 p.total.tax,.int .i64 p.total.gross,.imm (p.total.parts.map Part.enc),.str p.of.ser,.int .i64 p.of.num,.bool p.back]
theorem fM {l:List Posted} {i:Nat} {a:Posted} (hi:l[i]?=some a) (k:IntKind):gC 12 (.imm (l.map Posted.enc)) (.int k (i:Int))=.ok (.iptr a.enc 0):=ixI (enc:=Posted.enc) hi rfl k
theorem aX1 (x:Posted):x.enc.length=12∧aI x.enc=true:=⟨rfl,rfl⟩
theorem Total.ext_iff (a b:Total):(a=b)=(((a.net=b.net∧a.tax=b.tax)∧a.gross=b.gross)∧a.parts=b.parts):=by
 obtain ⟨_,_,_,_⟩:=a;obtain ⟨_,_,_,_⟩:=b;simp [and_assoc]
theorem Ref.ext_iff (a b:Ref):(a=b)=(a.ser=b.ser∧a.num=b.num):=by
 obtain ⟨_,_⟩:=a;obtain ⟨_,_⟩:=b;simp
theorem g91 (l r:List Bal) (hb:l.length<1000000) (S:St) (K:KW):C 91 [.imm (l.map Bal.enc),.imm (r.map Bal.enc)] S K=K (.bool (decide (l=r))) S:=by
 refine (v91 rfl ?_).eq S K
 delta Tryz.f91;simp only [↓cw,↓reduceIte,Nat.reduceLT,kk]
 by_cases h:l.length=r.length
 ·simp only [↓cw,↓reduceIte,Nat.reduceLT,show (l.length:Int)=(r.length:Int) by omega,kk,not_true_eq_false,if_false]
  refine aG l (step:=cN r) (fin:=fun _=>true) (fun i n vs S=>n=i∧vs=[.bool false,.int .i64 (i:Int)]) (fun x=>x=decide (l=r)) ?_ ?_ (s:=0) ⟨rfl,rfl⟩ (eqL h)
  ·rintro i p n vs S hi ⟨rfl,rfl⟩ aC H
   have hil:=(List.getElem?_eq_some_iff.1 hi).1
   have hj:r[n]?=some r[n]:=List.getElem?_eq_getElem (by omega)
   have hlt:((n:Int)<(r.length:Int))=True:=aY hj
   have he:(r[n]=p)=(p.acc=r[n].acc∧p.amount=r[n].amount):=by
    obtain ⟨_,_⟩:=p;generalize r[n]=q;obtain ⟨_,_⟩:=q;simp [and_assoc,eq_comm]
   simp only [cN,hj,Option.some.injEq,he] at H
   simp only [↓cw,↓reduceIte,Nat.reduceLT,kk,hlt,jZ hi,jZ hj,Bal.enc,fV (show n<1000000000 by omega),oo]
   grind
  ·rintro n vs S ⟨rfl,rfl⟩ aC H
   simp only [↓cw,↓reduceIte,Nat.reduceLT,kk,h,Int.lt_irrefl,if_false,oo,←H]
 ·simp only [↓cw,↓reduceIte,Nat.reduceLT,show ¬ (l.length:Int)=(r.length:Int) by omega,kk,not_false_eq_true,if_true,oo]
  have:decide (l=r)=false:=by simpa using fun e=>h (by rw [e])
  rw [this]
theorem bG5 (a b:Total) (hb:a.parts.length<1000000) (S:St) (K:KW):C 229 [.agg [.int .i64 a.net,.int .i64 a.tax,.int .i64 a.gross,.imm (a.parts.map Part.enc)],.agg [.int .i64 b.net,.int .i64 b.tax,.int .i64 b.gross,.imm (b.parts.map Part.enc)]] S K=K (.bool (decide (a=b))) S:=by
 refine (bEs rfl ?_).eq S K
 delta Tryz.f229;simp only [↓cw,↓reduceIte,Nat.reduceLT,kk,tP,bG4 a.parts b.parts hb,Total.ext_iff,oo]
 grind
theorem bG6 (p fr:Posted) (hb:fr.total.parts.length≤1000) (S:St) (K:KW):C 169 [.agg [.str p.ref.ser,.int .i64 p.ref.num,.int .i64 p.day.y,.int .i64 p.day.m,.int .i64 p.day.d,.int .i64 p.total.net,.int .i64 p.total.tax,.int .i64 p.total.gross,.imm (p.total.parts.map Part.enc),.str p.of.ser,.int .i64 p.of.num,.bool p.back],.agg [.str fr.ref.ser,.int .i64 fr.ref.num,.int .i64 fr.day.y,.int .i64 fr.day.m,.int .i64 fr.day.d,.int .i64 fr.total.net,.int .i64 fr.total.tax,.int .i64 fr.total.gross,.imm (fr.total.parts.map Part.enc),.str fr.of.ser,.int .i64 fr.of.num,.bool fr.back]] S K=K (.bool (mW p fr)) S:=by
 refine (bE2 rfl ?_).eq S K
 have hbl:=aBq fr.total
 delta Tryz.f169;simp only [↓cw,↓reduceIte,Nat.reduceLT,kk,tP,bG1 fr.total hb,aFd,bBw,bG5 (dT fr.total).1 p.total (by omega),mW,Ref.ext_iff,Ref.zero,oo]
 grind
theorem bCb:dK prog 227=some none:=by kernel_rfl
theorem bG7 (r:Ref) (p:Posted):Fr 227 (fun a=>[.agg p.enc,.ptr a 0 0 0]) 2 [.str r.ser,.int .i64 r.num] (.bool (decide (p.ref=r))) [.str r.ser,.int .i64 r.num]:=by
 refine FnR.of aXy (lv:=mQ []) (Pt.next rfl (Pt.head rfl)) rfl ?_ rfl rfl
 rw [bEq]
 delta Tryz.f227;simp only [↓cw,↓reduceIte,Nat.reduceLT,kk,Posted.enc,tP,Ref.ext_iff]
 exact ⟨by congr 1;rw [Bool.eq_iff_iff];simp,rfl⟩
theorem bG8 (fk:Nat) (ht:dK prog fk=some none) {n:Nat} {cap:List V} (p:Posted→Bool) (hf:∀ s:Posted,Fr fk (fun a=>[.agg s.enc,.ptr a 0 0 0]) n cap (.bool (p s)) cap) (l:List Posted) (hb:l.length<1000000) {S:St} {a:Nat} (hg:S.heap.get a=some (.row 0 n [cap])):
  ∀ K:KW,C 155 [.imm (l.map Posted.enc),.func fk [] [.ptr a 0 0 0]] S K=K (.int .i64 (ixM p l)) S:=by
 refine bC0 (bDr ?_)
 delta Tryz.f155;simp only [↓cw,↓reduceIte,Nat.reduceLT,kk]
 refine aG l (step:=cM p) (fin:=fun _=>-1) (fun i k vs X=>k=i∧vs=[.int .i64 0,.int .i64 (i:Int)]∧X=S) (fun r=>r=ixM p l) ?_ ?_ ⟨rfl,rfl,rfl⟩ rfl
 ·rintro i s k vs X hi ⟨rfl,rfl,rfl⟩ aC H
  have hil:=(List.getElem?_eq_some_iff.1 hi).1
  have he:=(hf s).eq_same hg
  simp only [Posted.enc] at he
  simp only [↓cw,↓reduceIte,Nat.reduceLT,kk,aY hi,fM hi,Posted.enc,↓aBl prog C ht,List.nil_append,List.cons_append,he,fV (show k<1000000000 by omega)]
  simp only [cM] at H
  cases hp:p s<;>simp only [↓cw,↓reduceIte,Nat.reduceLT,hp,kk] at H ⊢
  ·exact H _ _ ⟨rfl,rfl⟩
  ·rw [H]
 ·rintro k vs X ⟨rfl,rfl,rfl⟩ aC H
  simp only [↓cw,↓reduceIte,Nat.reduceLT,kk,Int.lt_irrefl]
  rw [H]
theorem f168 (l:List Posted) (r:Ref) (hb:l.length<1000000):Fv 168 [.imm (l.map Posted.enc),.agg [.str r.ser,.int .i64 r.num]] (.int .i64 (cE l r)):=by
 refine bE1 rfl ?_
 have h:=bG8 227 bCb _ (bG7 r) l hb (S:=⟨1,Tr.nil.put 0 (.row 0 2 [[.str r.ser,.int .i64 r.num]])⟩) (a:=0) (Tr.get_put_sameB _ _ _ trivial)
 delta Tryz.f168;simp only [↓cw,↓reduceIte,Nat.reduceLT,kk,h,cE]
theorem bG9 (l:List Posted) (r:Ref) (hb:l.length<1000000) (S:St) (K:KW):C 168 [.imm (l.map Posted.enc),.agg [.str r.ser,.int .i64 r.num]] S K=K (.int .i64 (cE l r)) S:=(f168 l r hb).eq S K
theorem bCc:(fun (a ver i j:Nat) (x:V)=>cC prog 246 (.ptr a ver i j) x)=fun a ver i j x=>(match jN x 40 with
 | none=>.error "index"
 | some k=>.ok (.ptr a ver i (j+k*1))):=by kernel_rfl
theorem aPg (a ver i j:Nat) {k:Nat} (h:k<40):cC prog 246 (.ptr a ver i j) (.int .i64 (k:Int))=.ok (.ptr a ver i (j+k)):=by
 have:=congrFun (congrFun (congrFun (congrFun (congrFun bCc a) ver) i) j) (.int .i64 (k:Int))
 rw [iH h] at this
 rw [this]
 simp only [Nat.mul_one]
theorem bCd:(fun (a ver i j:Nat) (x:V)=>cC prog 249 (.ptr a ver i j) x)=fun a ver i j x=>(match jN x 8 with
 | none=>.error "index"
 | some k=>.ok (.ptr a ver i (j+k*1))):=by kernel_rfl
theorem aPh (a ver i j:Nat) {k:Nat} (h:k<8):cC prog 249 (.ptr a ver i j) (.int .i64 (k:Int))=.ok (.ptr a ver i (j+k)):=by
 have:=congrFun (congrFun (congrFun (congrFun (congrFun bCd a) ver) i) j) (.int .i64 (k:Int))
 rw [iH h] at this
 rw [this]
 simp only [Nat.mul_one]
theorem aPi {l:List Int} {k:Nat} (h:k<l.length):(l.map lS)[k]?=some (.int .i64 l[k]):=by
 rw [List.getElem?_map,List.getElem?_eq_getElem h];rfl
theorem bCe {l:List Int} {k:Nat} (h:k<l.length) (x:Int):oQ (l.map lS) k [.int .i64 x]=some ((l.set k x).map lS):=by
 have hl:(l.map lS).length=l.length:=List.length_map ..
 rw [tE,if_pos (by rw [hl];exact h),List.map_set]
 simp only [splice,List.length_cons,List.length_nil]
 rw [List.set_eq_take_append_cons_drop,if_pos (by rw [hl];exact h)]
 rfl
def State.enc (s:State):List V:=[.imm (s.table.map Rate.enc),.imm (s.ser.map Ser.enc),.imm (s.posted.map Posted.enc),.imm (s.book.map Bal.enc),.imm (s.sess.map Sess.enc),.int .i64 s.next]
theorem bCf:dK prog 170=some none:=by kernel_rfl
theorem bGa (p:Posted) (s:Ser):Fr 170 (fun a=>[.agg s.enc,.ptr a 0 0 0]) 12 p.enc (.bool (s.name == p.ref.ser)) p.enc:=by
 refine FnR.of aXv (lv:=mQ []) (Pt.next rfl (Pt.head rfl)) rfl ?_ rfl rfl
 rw [bE3]
 delta Tryz.f170;simp only [↓cw,↓reduceIte,Nat.reduceLT,kk,Posted.enc,Ser.enc,tP]
 rfl
theorem z8:[V.int .i64 0,.int .i64 0,.int .i64 0,.int .i64 0,.int .i64 0,.int .i64 0,.int .i64 0,.int .i64 0]=(List.replicate 8 (0:Int)).map lS:=rfl
theorem g89 (s:State) (h8:s.ser.length≤8) (h40:s.posted.length≤40) (S:St) (K:KW):C 89 [.agg [.imm (s.table.map Rate.enc),.imm (s.ser.map Ser.enc),.imm (s.posted.map Posted.enc),.imm (s.book.map Bal.enc),.imm (s.sess.map Sess.enc),.int .i64 s.next]] S K=K (.bool (jX s.ser s.posted)) S:=by
 refine (v89 rfl ?_).eq S K
 delta Tryz.f89;simp only [↓cw,↓reduceIte,Nat.reduceLT,kk,tP,z8]
 refine aG s.posted (step:=hP s.ser) (fin:=fun is=>aE gI (fun _=>true) s.ser is) (fun i is vs S=>vs=[.bool false,.int .i64 (i:Int)]∧aB S 0 0=.ok (6,[s.enc])∧aB S 1 0=.ok (8,[is.map lS])∧is.length=8∧(∀ b∈is,0≤b∧b≤i)∧2≤S.next) (fun r=>r=jX s.ser s.posted) ?_ ?_ (s:=List.replicate 8 0) ⟨rfl,rfl,rfl,rfl,fun b hb=>by rw [List.eq_of_mem_replicate hb];omega,Nat.le_refl _⟩ rfl
 ·rintro i p is vs S hi ⟨rfl,hc,hg,hbl,hbr,h2⟩ aC H
  have hil:=(List.getElem?_eq_some_iff.1 hi).1
  have z0:((0:Nat)=S.next)=False:=by simp;omega
  have z1:((1:Nat)=S.next)=False:=by simp;omega
  have zn:(S.next=1)=False:=by simp;omega
  obtain ⟨S1,hS1⟩:∃ S1:St,S1=⟨S.next+1,(S.heap.put S.next (.row 0 12 [sY])).put S.next (.row 0 12 [p.enc])⟩:=⟨_,rfl⟩
  have e1:S1.heap.get S.next=some (.row 0 12 [p.enc]):=by rw [hS1];exact Tr.get_put_sameB _ _ _ trivial
  have n1:S1.next=S.next+1:=by rw [hS1]
  have c1:aB S1 0 0=.ok (6,[s.enc]):=by rw [hS1];exact bB (n:=S.next) (by omega) (bB (n:=S.next) (by omega) hc)
  have g1:aB S1 1 0=.ok (8,[is.map lS]):=by rw [hS1];exact bB (n:=S.next) (by omega) (bB (n:=S.next) (by omega) hg)
  have p1:aB S1 S.next 0=.ok (12,[p.enc]):=bQ e1
  have h152:=bFs 170 bCf _ (bGa p) s.ser (by omega) (a:=S.next) e1
  have hx:ixM (fun t:Ser=>t.name == p.ref.ser) s.ser=eH s.ser p.ref.ser:=rfl
  rw [hx] at h152
  simp only [hP] at H
  simp only [sY,Posted.enc] at hS1
  simp only [↓cw,↓reduceIte,Nat.reduceLT,kk,aY hi,fM hi,Posted.enc,←hS1,c1,State.enc,h152]
  rcases vG s.ser p.ref.ser with hk | ⟨k,f,hk,hf,_⟩
  ·simp only [↓cw,↓reduceIte,Nat.reduceLT,hk,show (-1:Int)<0 by decide,kk,if_true] at H ⊢
   rw [←H]
  have hks:k<s.ser.length:=(List.getElem?_eq_some_iff.1 hf).1
  have hk8:k<8:=by omega
  have hkb:k<is.length:=by omega
  have hbk:=hbr is[k] (List.getElem_mem hkb)
  have hw2:wr .i64 (is[k]+1)=is[k]+1:=kM (by omega) (by omega)
  have hbu:bump is k=is.set k (is[k]+1):=by unfold bump;rw [tA is k hkb]
  have hkb':k<(bump is k).length:=by rw [tC];exact hkb
  have hgk:=aPd is k hkb
  have hgk2:(bump is k)[k]=is[k]+1:=by rw [←tA _ _ hkb'];exact hgk
  have g2:aB ⟨S1.next+7,S1.heap.put 1 (.row 0 8 [(bump is k).map lS])⟩ 1 0=.ok (8,[(bump is k).map lS]):=aF _ _ _ _ _ _
  have p2:aB ⟨S1.next+7,S1.heap.put 1 (.row 0 8 [(bump is k).map lS])⟩ S.next 0=.ok (12,[p.enc]):=bB (n:=S1.next) (by omega) p1
  have c2:aB ⟨S1.next+7,S1.heap.put 1 (.row 0 8 [(bump is k).map lS])⟩ 0 0=.ok (6,[s.enc]):=bB (n:=S1.next) (by decide) c1
  simp only [Posted.enc] at p2
  simp only [↓cw,↓reduceIte,Nat.reduceLT,hk,show ¬ (k:Int)<0 by omega,kk,if_false,Int.toNat_natCast,hgk] at H ⊢
  simp only [↓cw,↓reduceIte,Nat.reduceLT,aPh _ _ _ _ hk8,kk,g1,aPi hkb,aPi hkb',hw2,bCe hkb,←hbu,g2,p2,hgk2,fV (show i<1000000000 by omega)]
  by_cases c:p.ref.num=is[k]+1
  ·simp only [↓cw,↓reduceIte,Nat.reduceLT,c,kk,if_true,if_false,not_true_eq_false] at H ⊢
   refine H _ _ ⟨rfl,c2,g2,by rw [tC];exact hbl,fun b hb=>?_,by show 2≤S1.next+7;omega⟩
   rw [hbu] at hb
   rcases List.mem_or_eq_of_mem_set hb with hb | rfl
   ·exact ⟨(hbr b hb).1,by have:=(hbr b hb).2;omega⟩
   ·omega
  ·simp only [↓cw,↓reduceIte,Nat.reduceLT,c,kk,if_true,if_false,not_false_eq_true] at H ⊢
   rw [←H]
 ·rintro is vs S ⟨rfl,hc,hg,hbl,hbr,h2⟩ aC H
  have H':jX s.ser s.posted=aE gI (fun _=>true) s.ser is:=H.symm
  simp only [↓cw,↓reduceIte,Nat.reduceLT,kk,Int.lt_irrefl,if_false,hc,State.enc,H']
  refine aG s.ser (step:=gI) (fin:=fun _=>true) (fun i st vs S=>vs=[.bool false,.int .i64 (i:Int)]∧st=is.drop i∧aB S 1 0=.ok (8,[is.map lS])∧2≤S.next) (fun r=>r=aE gI (fun _=>true) s.ser is) ?_ ?_ (s:=is) ⟨rfl,rfl,hg,h2⟩ rfl
  ·rintro i q st vs S hi ⟨rfl,rfl,hg,h2⟩ aC H
   have hil:=(List.getElem?_eq_some_iff.1 hi).1
   have hi8:i<8:=by omega
   have hib:i<is.length:=by omega
   have z1:((1:Nat)=S.next)=False:=by simp;omega
   have hbi:=hbr is[i] (List.getElem_mem hib)
   have hw2:wr .i64 (is[i]+1)=is[i]+1:=kM (by omega) (by omega)
   have hhd:(is.drop i).headD 0=is[i]:=by rw [List.drop_eq_getElem_cons hib];rfl
   have htl:(is.drop i).tail=is.drop (i+1):=by rw [List.drop_eq_getElem_cons hib];rfl
   have g1:∀ m b c,aB ⟨m,(S.heap.put S.next b).put S.next c⟩ 1 0=.ok (8,[is.map lS]):=fun m b c=>bB (n:=S.next) (by omega) (bB (n:=S.next) (by omega) hg)
   simp only [gI,hhd,htl] at H
   simp only [↓cw,↓reduceIte,Nat.reduceLT,kk,aY hi,kX hi,Ser.enc,aPh _ _ _ _ hi8,g1,aPi hib,hw2,fV (show i<1000000000 by omega)]
   by_cases c:q.next=is[i]+1
   ·simp only [↓cw,↓reduceIte,Nat.reduceLT,c,kk,if_true,if_false,not_true_eq_false] at H ⊢
    exact H _ _ ⟨rfl,g1 _ _ _,by show 2≤S.next+1+7;omega⟩
   ·simp only [↓cw,↓reduceIte,Nat.reduceLT,c,kk,if_true,if_false,not_false_eq_true] at H ⊢
    simp only [oo,←H]
  ·rintro st vs S ⟨rfl,rfl,hg,h2⟩ aC H
   simp only [↓cw,↓reduceIte,Nat.reduceLT,kk,Int.lt_irrefl,if_false,oo,←H]
theorem z40:[V.int .i64 0,.int .i64 0,.int .i64 0,.int .i64 0,.int .i64 0,.int .i64 0,.int .i64 0,.int .i64 0,.int .i64 0,.int .i64 0,.int .i64 0,.int .i64 0,.int .i64 0,.int .i64 0,.int .i64 0,.int .i64 0,.int .i64 0,.int .i64 0,.int .i64 0,.int .i64 0,.int .i64 0,.int .i64 0,.int .i64 0,.int .i64 0,.int .i64 0,.int .i64 0,.int .i64 0,.int .i64 0,.int .i64 0,.int .i64 0,.int .i64 0,.int .i64 0,.int .i64 0,.int .i64 0,.int .i64 0,.int .i64 0,.int .i64 0,.int .i64 0,.int .i64 0,.int .i64 0]=(List.replicate 40 (0:Int)).map lS:=rfl
theorem bCg (l:List Posted) {i:Nat} (hi:i<l.length):fW prog 26 (.imm (l.map Posted.enc)) none (some (.int .i64 (i:Int)))=.ok (.imm ((l.take i).map Posted.enc)):=by
 have hb:eR (l.map Posted.enc).length none (some (.int .i64 (i:Int)))=.ok (0,i):=by
  have:(decide ((0:Int)≤(i:Int))&&decide ((i:Int)≤((l.map Posted.enc).length:Int)))=true:=by simp;omega
  simp only [eR,this,cond_true,Int.toNat_natCast]
 rw [bAv _ (eJ (n:=12) (fun c hc=>by obtain ⟨x,_,rfl⟩:=List.mem_map.1 hc;exact aX1 x)).1,hb]
 simp only [List.drop_zero,Nat.sub_zero,List.map_take]
theorem aLe:(fun (a b:Bool)=>bJ prog .neq 4 (.bool a) (.bool b))=fun a b=>.ok (.bool (!(a == b))):=by kernel_rfl
theorem uJ (a b:Bool):bJ prog .neq 4 (.bool a) (.bool b)=.ok (.bool (!(a == b))):=congrFun (congrFun aLe a) b
theorem g88 (l:List Posted) (S:St) (K:KW):C 88 [.imm (l.map Posted.enc)] S K=K (.bool (jH l)) S:=by
 refine (v88 rfl ?_).eq S K
 delta Tryz.f88;simp only [↓cw,↓reduceIte,Nat.reduceLT,kk,jH]
 by_cases h40:40<l.length
 ·simp only [↓cw,↓reduceIte,Nat.reduceLT,h40,show (40:Int)<(l.length:Int) by omega,kk,if_true,oo]
 simp only [↓cw,↓reduceIte,Nat.reduceLT,h40,show ¬ (40:Int)<(l.length:Int) by omega,kk,if_false,z40]
 refine aG l (step:=eI) (fin:=fun st=>aE eY (fun _=>true) l st.2) (fun i st vs S=>vs=[.bool false,.int .i64 (i:Int)]∧aB S 0 0=.ok (40,[st.2.map lS])∧st.1=l.take i∧st.2.length=40∧(∀ b∈st.2,0≤b∧b≤i)∧(∀ p∈st.1,p.total.parts.length≤12)∧0<S.next) (fun r=>r=aE eI (fun st=>aE eY (fun _=>true) l st.2) l ([],List.replicate 40 0)) ?_ ?_ (s:=([],List.replicate 40 0)) ⟨rfl,rfl,rfl,rfl,fun b hb=>by rw [List.eq_of_mem_replicate hb];omega,(fun p h=>(by cases h)),Nat.zero_lt_one⟩ rfl
 ·rintro i p ⟨done,bs⟩ vs S hi ⟨rfl,hg,hdone,hbl,hbr,hfi,h0⟩ aC H
  simp only at hg hdone hbl hbr hfi
  have hil:=(List.getElem?_eq_some_iff.1 hi).1
  obtain ⟨S1,hS1⟩:∃ S1:St,S1=⟨S.next+1,(S.heap.put S.next (.row 0 12 [sY])).put S.next (.row 0 12 [p.enc])⟩:=⟨_,rfl⟩
  have n1:S1.next=S.next+1:=by rw [hS1]
  have g1:aB S1 0 0=.ok (40,[bs.map lS]):=by rw [hS1];exact bB (n:=S.next) (by omega) (bB (n:=S.next) (by omega) hg)
  have p1:aB S1 S.next 0=.ok (12,[p.enc]):=by rw [hS1];exact aF _ _ _ _ _ _
  have hdone':(done++[p])=l.take (i+1):=by
   rw [hdone,List.take_succ_eq_append_getElem hil,(List.getElem?_eq_some_iff.1 hi).2]
  simp only [eI,Ref.ext_iff,Ref.zero] at H
  simp only [sY,Posted.enc] at hS1
  simp only [Posted.enc] at p1
  simp only [↓cw,↓reduceIte,Nat.reduceLT,kk,aY hi,fM hi,Posted.enc,←hS1,gm,p1,aRn,bG3,fV (show i<1000000000 by omega),bCg l hil,oo]
  cases h1:p.day.right
  ·simp only [↓cw,↓reduceIte,Nat.reduceLT,h1,kk,if_true] at H ⊢
   rw [←H]
  cases h2:bR p.total
  ·simp only [↓cw,↓reduceIte,Nat.reduceLT,h1,h2,kk,Bool.true_eq_false,if_true,if_false] at H ⊢
   rw [←H]
  simp only [↓cw,↓reduceIte,Nat.reduceLT,h1,h2,kk,Bool.true_eq_false,if_false] at H ⊢
  have hfi':∀ q∈done++[p],q.total.parts.length≤12:=fun q hq=>by
   rcases List.mem_append.1 hq with hq | hq
   ·exact hfi q hq
   ·rw [List.mem_singleton.1 hq];exact oO h2
  by_cases h3:p.of.ser=[]∧p.of.num=0
  ·simp only [↓cw,↓reduceIte,Nat.reduceLT,h3,and_self,BEq.rfl,decide_true,Bool.and_self,kk,if_true] at H ⊢
   exact H _ _ ⟨rfl,g1,hdone',hbl,fun b hb=>⟨(hbr b hb).1,by have:=(hbr b hb).2;omega⟩,hfi',by omega⟩
  have h3':¬ (p.of.ser == []&&decide (p.of.num=0))=true:=by simpa using h3
  have hdl:done.length≤i:=by rw [hdone,List.length_take];omega
  simp only [↓cw,↓reduceIte,Nat.reduceLT,h3,h3',if_false,bG9 done p.of (show done.length<1000000 by omega),←hdone,kk,gm,p1] at H ⊢
  rcases sX done p.of with hk | ⟨k,f,hk,hf,_⟩
  ·simp only [↓cw,↓reduceIte,Nat.reduceLT,hk,show (-1:Int)<0 by decide,kk,if_true] at H ⊢
   rw [←H]
  have hkd:=(List.getElem?_eq_some_iff.1 hf).1
  have hki:k<i:=by omega
  have hlk:l[k]?=some f:=by rw [hdone,List.getElem?_take,if_pos hki] at hf;exact hf
  have hfl:f.total.parts.length≤12:=hfi f (List.mem_of_getElem? hf)
  have hgd:∀ d,done.getD k d=f:=fun d=>by rw [List.getD_eq_getElem?_getD,hf];rfl
  have hkb:k<bs.length:=by omega
  have hk40:k<40:=by omega
  have hbk:=hbr bs[k] (List.getElem_mem hkb)
  have hw2:wr .i64 (bs[k]+1)=bs[k]+1:=kM (by omega) (by omega)
  have hbu:bump bs k=bs.set k (bs[k]+1):=by unfold bump;rw [tA bs k hkb]
  have g2:aB ⟨S1.next+7+11,S1.heap.put 0 (.row 0 40 [(bump bs k).map lS])⟩ 0 0=.ok (40,[(bump bs k).map lS]):=aF _ _ _ _ _ _
  simp only [↓cw,↓reduceIte,Nat.reduceLT,hk,show ¬ (k:Int)<0 by omega,kk,if_false,Int.toNat_natCast,hgd,fM hlk,Posted.enc,bG6 p f (show f.total.parts.length≤1000 by omega)] at H ⊢
  cases h4:mW p f
  ·simp only [↓cw,↓reduceIte,Nat.reduceLT,h4,kk,if_true] at H ⊢
   rw [←H]
  ·simp only [↓cw,↓reduceIte,Nat.reduceLT,h4,kk,Bool.true_eq_false,if_false,aPg _ _ _ _ hk40,gm,g1,aPi hkb,hw2,bCe hkb,←hbu] at H ⊢
   refine H _ _ ⟨rfl,g2,hdone',by rw [tC];exact hbl,fun b hb=>?_,hfi',Nat.succ_pos _⟩
   rw [hbu] at hb
   rcases List.mem_or_eq_of_mem_set hb with hb | rfl
   ·exact ⟨(hbr b hb).1,by have:=(hbr b hb).2;omega⟩
   ·omega
 ·rintro ⟨done,bs⟩ vs S ⟨rfl,hg,hdone,hbl,hbr,hfi,h0⟩ aC H
  simp only at hg hbl
  have H':aE eI (fun st=>aE eY (fun _=>true) l st.2) l ([],List.replicate 40 0)=aE eY (fun _=>true) l bs:=H.symm
  simp only [↓cw,↓reduceIte,Nat.reduceLT,kk,Int.lt_irrefl,if_false,H']
  refine aG l (step:=eY) (fin:=fun _=>true) (fun i st vs S=>vs=[.bool false,.int .i64 (i:Int)]∧st=bs.drop i∧aB S 0 0=.ok (40,[bs.map lS])∧0<S.next) (fun r=>r=aE eY (fun _=>true) l bs) ?_ ?_ (s:=bs) ⟨rfl,rfl,hg,h0⟩ rfl
  ·rintro i p st vs S hi ⟨rfl,rfl,hg,h0⟩ aC H
   have hil:=(List.getElem?_eq_some_iff.1 hi).1
   have hi40:i<40:=by omega
   have hib:i<bs.length:=by omega
   have hhd:(bs.drop i).headD 0=bs[i]:=by rw [List.drop_eq_getElem_cons hib];rfl
   have htl:(bs.drop i).tail=bs.drop (i+1):=by rw [List.drop_eq_getElem_cons hib];rfl
   have g1:∀ m b c,aB ⟨m,(S.heap.put S.next b).put S.next c⟩ 0 0=.ok (40,[bs.map lS]):=fun m b c=>bB (n:=S.next) (by omega) (bB (n:=S.next) (by omega) hg)
   simp only [eY,hhd,htl] at H
   simp only [↓cw,↓reduceIte,Nat.reduceLT,kk,aY hi,fM hi,Posted.enc,aPg _ _ _ _ hi40,g1,aPi hib,uJ,fV (show i<1000000000 by omega)]
   by_cases c1:1<bs[i]
   ·simp only [↓cw,↓reduceIte,Nat.reduceLT,c1,kk,if_true] at H ⊢
    simp only [oo,←H]
   ·by_cases c2:p.back=decide (bs[i]=1)
    ·simp only [↓cw,↓reduceIte,Nat.reduceLT,c1,c2,kk,if_true,if_false,BEq.rfl,Bool.not_true,Bool.false_eq_true] at H ⊢
     exact H _ _ ⟨rfl,g1 _ _ _,Nat.succ_pos _⟩
    ·have c3:(!(p.back == decide (bs[i]=1)))=true:=by simpa using c2
     simp only [↓cw,↓reduceIte,Nat.reduceLT,c1,c2,c3,kk,if_true,if_false] at H ⊢
     simp only [oo,←H]
  ·rintro st vs S ⟨rfl,rfl,hg,h2⟩ aC H
   simp only [↓cw,↓reduceIte,Nat.reduceLT,kk,Int.lt_irrefl,if_false,oo,←H]
theorem bGb {v:V} (book l:List Bal) (hv:v=.imm (book.map Bal.enc)∨(v=.nils∧book=[])) (hbb:book.length+l.length<1000000) (S:St) (K:KW):C 158 [v,.imm (l.map Bal.enc)] S K=K (.tup [.imm ((cH book l).1.map Bal.enc),.int .i64 (cH book l).2]) S:=by
 rcases hv with rfl | ⟨rfl,rfl⟩
 ·exact bC7 book l hbb S K
 ·exact (Fn.back (args:=[.imm [],.imm (l.map Bal.enc)]) fun S K=>bC7 [] l hbb S K).frz aYc rfl rfl rfl (.inr rfl) K
theorem aFe (l:List Posted):hN l=aE cD (fun b=>(b,0)) l []:=rfl
theorem g90 (l:List Posted) (hl:l.length≤1000) (hf:∀ p∈l,aRr p.total) (S:St) (K:KW):C 90 [.imm (l.map Posted.enc)] S K=K (.tup [.imm ((hN l).1.map Bal.enc),.int .i64 (hN l).2]) S:=by
 refine (v90 rfl ?_).eq S K
 delta Tryz.f90;simp only [↓cw,↓reduceIte,Nat.reduceLT,kk,aFe]
 refine aG l (step:=cD) (fin:=fun b=>(b,0)) (fun i s vs S=>∃ v,vs=[.nils,.int .i64 0,v,.int .i64 (i:Int)]∧(v=.imm (s.map Bal.enc)∨(v=.nils∧s=[]))∧s.length≤25*i) (fun r=>r=aE cD (fun b=>(b,0)) l []) ?_ ?_ (s:=[]) ⟨_,rfl,.inr ⟨rfl,rfl⟩,Nat.zero_le _⟩ rfl
 ·rintro i p s vs S hi ⟨v,rfl,hv,hsl⟩ aC H
  have hil:=(List.getElem?_eq_some_iff.1 hi).1
  have hfp:=hf p (List.mem_of_getElem? hi)
  simp only [cD] at H
  simp only [↓cw,↓reduceIte,Nat.reduceLT,kk,aY hi,fM hi,Posted.enc,bFy p.total hfp,fV (show i<1000000000 by omega)]
  by_cases c1:(dG p.total).2=0
  ·have hel:=(zH p.total).resolve_right (not_not_intro c1)
   have h12:=hfp.1
   have hle:=rJ s (dG p.total).1
   simp only [↓cw,↓reduceIte,Nat.reduceLT,c1,kk,not_true_eq_false,if_false,bGb s _ hv (show s.length+(dG p.total).1.length<1000000 by omega)] at H ⊢
   by_cases c2:(cH s (dG p.total).1).2=0
   ·simp only [↓cw,↓reduceIte,Nat.reduceLT,c2,kk,not_true_eq_false,if_false] at H ⊢
    exact H _ _ ⟨_,rfl,.inl rfl,by omega⟩
   ·simp only [↓cw,↓reduceIte,Nat.reduceLT,c2,kk,not_false_eq_true,if_true] at H ⊢
    simp only [oo,←H,List.map_nil]
  ·simp only [↓cw,↓reduceIte,Nat.reduceLT,c1,kk,not_false_eq_true,if_true] at H ⊢
   simp only [oo,←H,List.map_nil]
 ·rintro s vs S ⟨v,rfl,hv,hsl⟩ aC H
  have H':aE cD (fun b=>(b,0)) l []=(s,0):=H.symm
  simp only [↓cw,↓reduceIte,Nat.reduceLT,kk,Int.lt_irrefl,if_false,H']
  rcases hv with rfl | ⟨rfl,rfl⟩<;>simp only [oo,List.map_nil]
theorem g87 (s:State) (S:St) (K:KW):C 87 [.agg [.imm (s.table.map Rate.enc),.imm (s.ser.map Ser.enc),.imm (s.posted.map Posted.enc),.imm (s.book.map Bal.enc),.imm (s.sess.map Sess.enc),.int .i64 s.next]] S K=K (.bool (fR s)) S:=by
 refine (v87 rfl ?_).eq S K
 delta Tryz.f87;simp only [↓cw,↓reduceIte,Nat.reduceLT,kk,gm,grS,bFt,fR,oo]
 cases h1:kU s.sess
 ·simp only [↓cw,↓reduceIte,Nat.reduceLT,h1,kk,Bool.false_eq_true,if_false]
 have hb:=aBn h1
 simp only [↓cw,↓reduceIte,Nat.reduceLT,h1,kk,if_true]
 by_cases h2:1≤s.next
 ·by_cases h3:s.next≤1099511627776
  ·simp only [↓cw,↓reduceIte,Nat.reduceLT,h2,h3,kk,if_true]
   by_cases h4:s.sess.length=0
   ·have:s.sess=[]:=List.length_eq_zero_iff.1 h4
    simp only [↓cw,↓reduceIte,Nat.reduceLT,h4,show ((0:Nat):Int)=0 from rfl,kk,if_true,mX,this]
   ·obtain ⟨j,hj⟩:∃ j,s.sess.length=j+1:=⟨s.sess.length - 1,by omega⟩
    have hjl:s.sess[j]?=some s.sess[j]:=List.getElem?_eq_getElem (by omega)
    simp only [↓cw,↓reduceIte,Nat.reduceLT,h4,hj,show ¬ ((j+1:Nat):Int)=0 by omega,kk,if_false,oo,wrm (show j+1<1000000000 by omega),jY hjl,Sess.enc,mX,Nat.add_sub_cancel,hjl]
  ·simp only [↓cw,↓reduceIte,Nat.reduceLT,h2,h3,kk,if_true,if_false]
 ·simp only [↓cw,↓reduceIte,Nat.reduceLT,h2,kk,if_false]
theorem g24 (s:State) (S:St) (K:KW):C 24 [.agg [.imm (s.table.map Rate.enc),.imm (s.ser.map Ser.enc),.imm (s.posted.map Posted.enc),.imm (s.book.map Bal.enc),.imm (s.sess.map Sess.enc),.int .i64 s.next]] S K=K (.bool (fL s)) S:=by
 refine (v24 rfl ?_).eq S K
 delta Tryz.f24;simp only [↓cw,↓reduceIte,Nat.reduceLT,kk,g85,g86,g87 s,g88,fL,oo]
 cases h1:iT s.table
 ·simp only [↓cw,↓reduceIte,Nat.reduceLT,h1,kk,if_true]
 cases h2:rG s.ser
 ·simp only [↓cw,↓reduceIte,Nat.reduceLT,h2,kk,if_true,Bool.true_eq_false,if_false]
 cases h3:fR s
 ·simp only [↓cw,↓reduceIte,Nat.reduceLT,h3,kk,if_true,Bool.true_eq_false,if_false]
 cases h4:jH s.posted
 ·simp only [↓cw,↓reduceIte,Nat.reduceLT,h4,kk,if_true,Bool.true_eq_false,if_false]
 obtain ⟨h40,hok⟩:=aH6 h4
 simp only [↓cw,↓reduceIte,Nat.reduceLT,kk,Bool.true_eq_false,if_false,g89 s (aF7 h2) h40]
 cases h5:jX s.ser s.posted
 ·simp only [↓cw,↓reduceIte,Nat.reduceLT,h5,kk,if_true]
 have hbl:=vK s.posted [] (hN s.posted) (fun p hp=>oO (hok p hp).2) rfl
 simp only [List.length_nil,Nat.zero_add] at hbl
 simp only [↓cw,↓reduceIte,Nat.reduceLT,kk,Bool.true_eq_false,if_false,g90 s.posted (show s.posted.length≤1000 by omega) (fun p hp=>vJ (hok p hp).2)]
 by_cases h6:(hN s.posted).2=0
 ·simp only [↓cw,↓reduceIte,Nat.reduceLT,h6,kk,if_true,g91 (hN s.posted).1 s.book (show (hN s.posted).1.length<1000000 by omega),oo]
 ·simp only [↓cw,↓reduceIte,Nat.reduceLT,h6,kk,if_false,oo]
end Go.Proofs.YtoaibmbldmckaaaGreat
end
section
namespace Go.AM
theorem Own.frzN {S0 S:St} {n:Nat} {v:V} {es:List (List V)} (h:Own S0 S n v es) (hc:es.all cloVs=true) (k:Nat):cP lX (nL (kK S (k+1)) S) v=.ok (.imm es):=by
 rcases h.is with ⟨rfl,rfl⟩ | ⟨a,ver,tl,rfl,_,_,q⟩
 ·rfl
 ·have he:aM S (.sl a ver n 0 es.length)=.ok es:=h.sl.elems
  simp only [cP,nL,he,(oJ (S:=S) (n:=k) hc).1]
theorem aJh {α β:Type} {φ:α→R β}:∀ {l:List α} {out:List β},l.length=out.length→(∀ (j:Nat) (x:α),l[j]?=some x→∃ y,out[j]?=some y∧φ x=.ok y)→jQ φ l=.ok out
 | [],[],_,_=>rfl
 | [],_::_,h,_=>by simp at h
 | _::_,[],h,_=>by simp at h
 | x::l,y::out,h,hx=>by
  obtain ⟨y',h1,h2⟩:=hx 0 x rfl
  cases h1
  simp only [jQ,h2,aJh (l:=l) (out:=out) (by simpa using h) fun j z hz=>hx (j+1) z hz]
end Go.AM
namespace Go.Proofs.YtoaibmbldmckaaaGreat
open Go.AM Tryz
set_option linter.unusedVariables false
set_option linter.unusedSimpArgs false
set_option maxRecDepth 100000
end Go.Proofs.YtoaibmbldmckaaaGreat
end
section
namespace Go.Proofs.YtoaibmbldmckaaaGreat
open Go.AM Tryz
def zst:List V:=[.nils,.nils,.nils,.nils,.nils,.int .i64 0]
end Go.Proofs.YtoaibmbldmckaaaGreat
end
section
namespace Go.AM
open Go.RowKit Go.ChangeShapes
section
def Gh.all (W:World):Gh:={ Gh.none with pr:=fun b=>W.heap[b]? }
theorem aRs (W:World):dI (fun i=>W.heap[i]?) (Gh.all W) St.empty W.heap:=
 ⟨fun _ _=>⟨rfl,rfl⟩,fun _ _ h=>(by cases h),fun a b h=>(by cases h),fun a a' b b' i h=>(by cases h),fun i o h=>h,fun i o h=>h,fun a b i h=>(by cases h),
  fun a i h=>(by rcases h with ⟨L,h,_⟩ | h<;>cases h),fun a b h=>(by cases h)⟩
theorem aFf {P:Program} {pl:gO} (hp:PlansOK P pl) {k:Nat} {f:FuncId} {args:List V} {S':St} (h:dV P pl k f args St.empty=.ok (.bool true,S')) (W:World) {cs:List Value} (hc:VRs (Gh.all W) args cs):
  Calls P f cs.toArray W fun e W'=>e=.returned (.bool true)∧Below W.heap.size W W':=by
 refine ((oF hp k).calls h (aRs W) hc).mono ?_
 rintro e W' ⟨G',w,rfl,q1,q2⟩
 cases q2
 refine ⟨rfl,q1.same.os,q1.same.tape,q1.same.output,q1.same.size,fun i hi=>?_⟩
 have:=Array.getElem?_eq_getElem hi
 rw [this]
 exact q1.rel.fr i _ this
def aD (P:Program):Nat→TypeId→List V→Prop
 | 0,_,_=>False
 | n+1,t,xs=>match P.underlying t with
  | some .bool=>∃ b,xs=[.bool b]
  | some (.int k)=>∃ i,xs=[.int k i]∧(Lit.int k i).wf=true
  | some .string=>∃ s,xs=[.str s]∧s.length≤maxLen
  | some (.slice e)=>∃ es,xs=[.imm es]∧es.length≤maxLen∧∀ c,c∈es→c.length=P.cellsOf e∧aD P n e c
  | some (.struct fs)=>xs.length=P.cellsOf t∧∀ f,f∈fs.toList→aD P n f.type ((xs.drop f.offset).take (P.cellsOf f.type))
  | _=>False
def aJi (P:Program):List Field→Nat→Nat→Bool
 | [],o,e=>Nat.beq o e
 | f::l,o,e=>Nat.beq f.offset o&&aJi P l (o+P.cellsOf f.type) e
def rK (P:Program):Nat→TypeId→Bool
 | 0,_=>false
 | d+1,t=>match P.underlying t with
  | some .bool=>true
  | some (.int _)=>true
  | some .string=>true
  | some (.slice e)=>Nat.blt 0 (P.cellsOf e)&&rK P d e
  | some (.struct fs)=>aJi P fs.toList 0 (P.cellsOf t)&&fs.toList.all fun f=>rK P d f.type
  | _=>false
theorem aJj {α:Type} {Q:Nat→α→Prop}:∀ n,(∀ i,i<n→∃ a,Q i a)→∃ l:List α,l.length=n∧∀ i a,l[i]?=some a→Q i a
 | 0,_=>⟨[],rfl,fun i a h=>by simp at h⟩
 | n+1,h=>by
  obtain ⟨l,h1,h2⟩:=aJj n fun i hi=>h i (by omega)
  obtain ⟨a,ha⟩:=h n (by omega)
  refine ⟨l++[a],by simp [h1],fun i x hx=>?_⟩
  by_cases c:i<n
  ·rw [List.getElem?_append_left (by omega)] at hx;exact h2 i x hx
  ·have hi:i<(l++[a]).length:=(List.getElem?_eq_some_iff.1 hx).1
   simp only [List.length_append,List.length_cons,List.length_nil] at hi
   have:i=n:=by omega
   subst this
   rw [List.getElem?_append_right (by omega),h1,Nat.sub_self] at hx
   cases hx;exact ha
theorem VRss.of {G:Gh}:∀ {l:List (List V×List Value)},(∀ x,x∈l→VRs G x.1 x.2)→VRss G (l.map (·.1)) (l.map (·.2))
 | [],_=>.nil
 | x::l,h=>.cons _ _ _ _ (h x (List.mem_cons_self ..)) (VRss.of fun y hy=>h y (List.mem_cons_of_mem _ hy))
section
variable {H:Type} {enc:TypeId×Value→H} {P:Program} {W:World} {sp:Nat→Bool} {held:Bool}
theorem uK {a:Addr} {n:Nat} {r:List Value} (h:W.cells? 0 a n=some r):r.length=n∧∀ k v,r[k]?=some v→W.cell? (a.add k)=some v:=by
 unfold World.cells? at h
 rw [if_pos (Nat.zero_le _)] at h
 have hl:=mapM_some_length h
 rw [List.length_range] at hl
 refine ⟨hl,fun k v hk=>?_⟩
 have hkn:k<n:=by have:=(List.getElem?_eq_some_iff.1 hk).1;omega
 have:=mapM_some_get h k k (by rw [List.getElem?_range hkn])
 rw [this,hk]
theorem aJk {a:Addr} {v:Value} (h:W.cell? a=some v):∃ c ty fr,W.heap[a.block]?=some (.cells c ty fr)∧a.spot=none∧c[a.off]?=some v:=by
 unfold World.cell? at h
 split at h
 ·rename_i c ty fr hc
  split at h
  ·cases h
  ·rename_i hs
   exact ⟨c,ty,fr,hc,by simpa using hs,h⟩
 ·cases h
theorem aBr (a:Addr) (n:Nat):(a.add n).block=a.block:=by
 unfold Addr.add
 split<;>rfl
theorem aJl (a:Addr) (n:Nat):(a.add n).off=a.off+n:=by
 unfold Addr.add
 split
 ·rename_i h;rw [h,Nat.add_zero]
 ·rfl
theorem aBs (a:Addr):a.add 0=a:=by unfold Addr.add;rw [if_pos rfl]
end
end
end Go.AM
end
section
namespace Go.AM
open Go.ChangeShapes Go.WideShapes Go.ChangeAt Go.RowKit
theorem aAm {H:Type} {enc:TypeId×Value→H} {P:Program} {f:Func} {s:ChangeSpec} {apart fresh handsOn:Bool} {W W':World} {args:Array Value} {v:Value} {ds gs:List (DataW H)} {before pa pv:List MemPlace}
  (hW:DataW.Whole enc P f.params.toList s.vars apart W args.toList ds gs before)
  (hres:∀ (b:Nat) (sp:Nat→Bool) (hd:Bool),DataW.TrodAll enc P W' b sp hd f.resultTypes.toList (v.resultList f.resultTypes.size) (s.fn H (ds++gs)).results [])
  (hargs:∀ sp:Nat→Bool,(∀ p∈before,sp p.block=true)→DataW.TrodAll enc P W' 0 sp true f.params.toList args.toList (s.fn H (ds++gs)).args pa)
  (hvars:∀ sp:Nat→Bool,(∀ p∈before,sp p.block=true)→DataW.TrodVars enc P W' sp s.vars (s.fn H (ds++gs)).vars pv)
  (hps:before=pa++pv) (hk:W.keptBut W' (·∈before)):
  s.post enc P f apart fresh handsOn false W args v W':=by
 have hold:∀ p∈before,(fun b=>decide (b<W.heap.size)) p.block=true:=fun p hp=>by simpa using hW.lt p hp
 refine ⟨ds,gs,before,[],pa,pv,hW,hres _ _ _,hargs _ hold,hvars _ hold,World.keptBut_mono (fun p hp=>⟨hp,?_⟩) hk,fun h=>by cases h⟩
 rw [hps,List.mem_append] at hp
 exact Or.inr hp
theorem aAn {W W':World} (h:Below W.heap.size W W') (S:MemPlace→Prop):W.keptBut W' S:=Below.frame h S
theorem aLf {H:Type} {enc:TypeId×Value→H} {P:Program} {W:World} {t:TypeId} (ht:P.underlying t=some .bool) (b:Nat) (sp:Nat→Bool) (hd:Bool):
  DataW.TrodAll enc P W b sp hd [t] ((Value.bool true).resultList 1) [.lit (.bool true)] []:=
 trodAll_mk1 ⟨1,by simp [DataW.trod,Value.cells,ht]⟩
end Go.AM
end
section
namespace Go.AM
open Go.RowKit Go.ChangeShapes
section
section
variable {H:Type} {enc:TypeId×Value→H} {P:Program} {W:World} {sp:Nat→Bool} {held:Bool}
theorem aLg {t:TypeId} (hl:laidOutB P=true) (hr:P.readableRec t=true) (hrow:t<P.types.size) {W':World} {v:Value} {d:DataW H} {ps:List MemPlace} (h:DataW.Trod enc P W 0 (fun _=>true) true t v d ps) (hb:Below W.heap.size W W')
  (hlt:∀ x∈ps,x.block<W.heap.size) {sp':Nat→Bool} (hs:∀ x∈ps,sp' x.block=true):DataW.Trod enc P W' 0 sp' true t v d ps:=
 WideElems.Trod_stays hl hr hrow h (fun x hx=>hb.same (hlt x hx)) hs
end
end
end Go.AM
end
section
namespace Go.Proofs.YtoaibmbldmckaaaGreat
open Go.AM Tryz
theorem bW {P:Program} {n:Nat} {t:TypeId} {fs:Array Field} {xs:List V} (ht:P.underlying t=some (.struct fs)) (h:aD P n t xs):
  ∃ m,xs.length=P.cellsOf t∧∀ (i:Nat) (f:Field),fs[i]?=some f→aD P m f.type ((xs.drop f.offset).take (P.cellsOf f.type)):=by
 cases n with
 | zero=>cases h
 | succ m=>
  simp only [aD,ht] at h
  exact ⟨m,h.1,fun i f hf=>h.2 f (List.mem_of_getElem? (by rw [Array.getElem?_toList];exact hf))⟩
theorem kA {P:Program} {n:Nat} {t e:TypeId} {xs:List V} (ht:P.underlying t=some (.slice e)) (h:aD P n t xs):
  ∃ m es,xs=[.imm es]∧∀ c,c∈es→c.length=P.cellsOf e∧aD P m e c:=by
 cases n with
 | zero=>cases h
 | succ m=>
  simp only [aD,ht] at h
  obtain ⟨es,h1,_,h2⟩:=h
  exact ⟨m,es,h1,h2⟩
theorem c3:prog.cellsOf 3=1:=by kernel_rfl
theorem c9:prog.cellsOf 9=1:=by kernel_rfl
theorem eB {n:Nat} {xs:List V} (h:aD prog n 3 xs):∃ i,xs=[.int .i64 i]:=by
 cases n with
 | zero=>cases h
 | succ m=>
  simp only [aD,Tryz.underlying3] at h
  obtain ⟨i,h,_⟩:=h
  exact ⟨i,h⟩
theorem zL {n:Nat} {xs:List V} (h:aD prog n 9 xs):∃ s,xs=[.str s]:=by
 cases n with
 | zero=>cases h
 | succ m=>
  simp only [aD,Tryz.underlying9] at h
  obtain ⟨s,h,_⟩:=h
  exact ⟨s,h⟩
theorem cut (xs:List V) (o k:Nat):xs.drop o=(xs.drop o).take k++xs.drop (o+k):=by
 rw [←List.drop_drop,List.take_append_drop]
theorem kC {α:Type} {enc:α→List V}:∀ {es:List (List V)},(∀ c,c∈es→∃ a:α,c=enc a)→∃ l:List α,es=l.map enc
 | [],_=>⟨[],rfl⟩
 | c::es,h=>by
  obtain ⟨a,ha⟩:=h c (List.mem_cons_self ..)
  obtain ⟨l,hl⟩:=kC fun d hd=>h d (List.mem_cons_of_mem _ hd)
  exact ⟨a::l,by rw [ha,hl];rfl⟩
theorem c52:prog.cellsOf 52=3:=by kernel_rfl
theorem aJm {n:Nat} {xs:List V} (h:aD prog n 52 xs):∃ d:Date,xs=d.enc:=by
 obtain ⟨m,hl,hf⟩:=bW Tryz.underlying52 h
 rw [c52] at hl
 have h0:aD prog m 3 ((xs.drop 0).take (prog.cellsOf 3)):=hf 0 _ rfl
 rw [c3] at h0
 obtain ⟨x0,e0⟩:=eB h0
 have q0:=cut xs 0 1
 rw [e0] at q0
 have h1:aD prog m 3 ((xs.drop 1).take (prog.cellsOf 3)):=hf 1 _ rfl
 rw [c3] at h1
 obtain ⟨x1,e1⟩:=eB h1
 have q1:=cut xs 1 1
 rw [e1] at q1
 have h2:aD prog m 3 ((xs.drop 2).take (prog.cellsOf 3)):=hf 2 _ rfl
 rw [c3] at h2
 obtain ⟨x2,e2⟩:=eB h2
 have q2:=cut xs 2 1
 rw [e2] at q2
 have hend:xs.drop 3=[]:=List.drop_eq_nil_of_le (by omega)
 have hx:xs=[.int .i64 x0]++([.int .i64 x1]++([.int .i64 x2]++[])):=by
  have z:xs=xs.drop 0:=rfl
  rw [z,q0,q1,q2]
  show _=_
  rw [show (2+1:Nat)=3 from rfl,hend]
 rw [hx]
 exact ⟨⟨x0,x1,x2⟩,rfl⟩
theorem c57:prog.cellsOf 57=2:=by kernel_rfl
theorem aPj {n:Nat} {xs:List V} (h:aD prog n 57 xs):∃ d:Ref,xs=d.enc:=by
 obtain ⟨m,hl,hf⟩:=bW Tryz.underlying57 h
 rw [c57] at hl
 have h0:aD prog m 9 ((xs.drop 0).take (prog.cellsOf 9)):=hf 0 _ rfl
 rw [c9] at h0
 obtain ⟨x0,e0⟩:=zL h0
 have q0:=cut xs 0 1
 rw [e0] at q0
 have h1:aD prog m 3 ((xs.drop 1).take (prog.cellsOf 3)):=hf 1 _ rfl
 rw [c3] at h1
 obtain ⟨x1,e1⟩:=eB h1
 have q1:=cut xs 1 1
 rw [e1] at q1
 have hend:xs.drop 2=[]:=List.drop_eq_nil_of_le (by omega)
 have hx:xs=[.str x0]++([.int .i64 x1]++[]):=by
  have z:xs=xs.drop 0:=rfl
  rw [z,q0,q1]
  show _=_
  rw [show (1+1:Nat)=2 from rfl,hend]
 rw [hx]
 exact ⟨⟨x0,x1⟩,rfl⟩
theorem c54:prog.cellsOf 54=5:=by kernel_rfl
theorem aRt {n:Nat} {xs:List V} (h:aD prog n 54 xs):∃ d:Rate,xs=d.enc:=by
 obtain ⟨m,hl,hf⟩:=bW Tryz.underlying54 h
 rw [c54] at hl
 have h0:aD prog m 9 ((xs.drop 0).take (prog.cellsOf 9)):=hf 0 _ rfl
 rw [c9] at h0
 obtain ⟨x0,e0⟩:=zL h0
 have q0:=cut xs 0 1
 rw [e0] at q0
 have h1:aD prog m 52 ((xs.drop 1).take (prog.cellsOf 52)):=hf 1 _ rfl
 rw [c52] at h1
 obtain ⟨x1,e1⟩:=aJm h1
 have q1:=cut xs 1 3
 rw [e1] at q1
 have h2:aD prog m 3 ((xs.drop 4).take (prog.cellsOf 3)):=hf 2 _ rfl
 rw [c3] at h2
 obtain ⟨x2,e2⟩:=eB h2
 have q2:=cut xs 4 1
 rw [e2] at q2
 have hend:xs.drop 5=[]:=List.drop_eq_nil_of_le (by omega)
 have hx:xs=[.str x0]++(x1.enc++([.int .i64 x2]++[])):=by
  have z:xs=xs.drop 0:=rfl
  rw [z,q0,q1,q2]
  show _=_
  rw [show (4+1:Nat)=5 from rfl,hend]
 rw [hx]
 exact ⟨⟨x0,x1,x2⟩,rfl⟩
abbrev I64 (n:Int):Prop:=-9223372036854775808≤n∧n≤9223372036854775807
theorem lB {n:Int} (h:I64 n):wr .i64 n=n:=kM h.1 h.2
theorem aH8 (n:Int):I64 (wr .i64 n):=by
 unfold wr lo hi
 simp only
 split
 ·omega
 ·rw [IntKind.wrap_i64];omega
theorem cJ {n:Int} (h1:0≤n) (h2:n<18446744073709551616):wr .u64 n=n:=by
 unfold wr lo hi
 simp only
 rw [if_pos (by omega)]
theorem xF (n:Int):wr .u64 n=n % 18446744073709551616:=by
 unfold wr lo hi
 simp only
 split
 ·omega
 ·rfl
theorem aLh {a b:Int} (ha:I64 a) (hb:I64 b):iS a b=if I64 (a+b) then (a+b,0) else (0,7):=by
 unfold iS at *
 have e1:0<b→wr .i64 (9223372036854775807 - b)=9223372036854775807 - b:=fun h=>kM (by omega) (by omega)
 have e2:b<0→wr .i64 (-9223372036854775808 - b)=-9223372036854775808 - b:=fun h=>kM (by omega) (by omega)
 by_cases h:-9223372036854775808≤a+b∧a+b≤9223372036854775807
 ·rw [if_pos h,kM h.1 h.2,if_neg]
  rintro (⟨h1,h2⟩ | ⟨h1,h2⟩)
  ·rw [e1 h1] at h2;omega
  ·rw [e2 h1] at h2;omega
 ·rw [if_neg h,if_pos]
  by_cases h0:0<b
  ·exact .inl ⟨h0,by rw [e1 h0];omega⟩
  ·exact .inr ⟨by omega,by rw [e2 (by omega)];omega⟩
theorem aLi {b:Int} (hb:I64 b):bK 0 b=if b=-9223372036854775808 then (0,7) else (-b,0):=by
 unfold bK at *
 have e1:b<0→wr .i64 (9223372036854775807+b)=9223372036854775807+b:=fun h=>kM (by omega) (by omega)
 have e2:0<b→wr .i64 (-9223372036854775808+b)=-9223372036854775808+b:=fun h=>kM (by omega) (by omega)
 by_cases h:b=-9223372036854775808
 ·rw [if_pos h,if_pos]
  exact .inl ⟨by omega,by rw [e1 (by omega)];omega⟩
 ·rw [if_neg h,if_neg,Int.zero_sub,kM (by omega) (by omega)]
  rintro (⟨h1,h2⟩ | ⟨h1,h2⟩)
  ·rw [e1 h1] at h2;omega
  ·rw [e2 h1] at h2;omega
theorem aPk:∀ (l:List Int) (h w s:Int),(∀ n∈l,I64 n)→0≤h→h<18446744073709551616→0≤w→w<18446744073709551616→(h*18446744073709551616+w - s) % 340282366920938463463374607431768211456=0→
  ∃ h' w',aE pF oM l (h,w)=oM (h',w')∧0≤h'∧h'<18446744073709551616∧0≤w'∧w'<18446744073709551616∧(h'*18446744073709551616+w' - (s+l.sum)) % 340282366920938463463374607431768211456=0
 | [],h,w,s,_,a,b,c,d,e=>⟨h,w,rfl,a,b,c,d,by simpa using e⟩
 | n::l,h,w,s,hl,a,b,c,d,e=>by
  have hn:=hl n (List.mem_cons_self ..)
  have hstep:∃ h2 w2,pF (h,w) n=.inr (h2,w2)∧0≤h2∧h2<18446744073709551616∧0≤w2∧w2<18446744073709551616∧(h2*18446744073709551616+w2 - (s+n)) % 340282366920938463463374607431768211456=0:=by
   refine ⟨_,_,rfl,?_,?_,?_,?_,?_⟩
   ·simp only;omega
   ·simp only;omega
   ·simp only;omega
   ·simp only;omega
   ·simp only [xF]
    split<;>omega
  obtain ⟨h2,w2,e1,a2,b2,c2,d2,e2⟩:=hstep
  obtain ⟨h',w',r1,r2⟩:=aPk l h2 w2 (s+n) (fun m hm=>hl m (List.mem_cons_of_mem _ hm)) a2 b2 c2 d2 e2
  refine ⟨h',w',?_,?_⟩
  ·simp only [aE,e1];exact r1
  ·rw [List.sum_cons,←Int.add_assoc];exact r2
theorem aBt:∀ (l:List Int),(∀ n∈l,I64 n)→-9223372036854775808*(l.length:Int)≤l.sum∧l.sum≤9223372036854775808*(l.length:Int)
 | [],_=>by simp
 | n::l,h=>by
  have h1:=h n (List.mem_cons_self ..)
  have h2:=aBt l fun m hm=>h m (List.mem_cons_of_mem _ hm)
  simp only [List.sum_cons,List.length_cons]
  omega
theorem dY {l:List Int} (h:∀ n∈l,I64 n) (hl:l.length≤1000000):(cR l).1=wr .i64 l.sum∧((cR l).2=true↔I64 l.sum):=by
 obtain ⟨h',w',e,a,b,c,d,m⟩:=aPk l 0 0 0 h (by decide) (by decide) (by decide) (by decide) (by decide)
 have hs:=aBt l h
 unfold cR
 rw [e]
 have hb1:-9223372036854775808000000≤l.sum:=by omega
 have hb2:l.sum≤9223372036854775808000000:=by omega
 have key:w'=l.sum % 18446744073709551616∧h'=(l.sum / 18446744073709551616) % 18446744073709551616:=by
  rw [Int.zero_add] at m
  omega
 constructor
 ·show wr .i64 w'=wr .i64 l.sum
  unfold wr lo hi
  simp only [IntKind.wrap_i64]
  split<;>split<;>omega
 ·show (if w'.fdiv (2 ^ 63)=0 then decide (h'=0) else decide (h'=18446744073709551615))=true↔_
  have hf:w'.fdiv (2 ^ 63)=w' / 9223372036854775808:=by
   rw [Int.fdiv_eq_ediv_of_nonneg _ (by decide)]
   rfl
  rw [hf]
  split
  ·simp only [decide_eq_true_eq];omega
  ·simp only [decide_eq_true_eq];omega
theorem uL {l:List Int} (h:∀ n∈l,I64 n) (hl:l.length≤1000000) (hs:I64 l.sum):cR l=(l.sum,true):=by
 obtain ⟨h1,h2⟩:=dY h hl
 exact Prod.ext (by rw [h1,lB hs]) (h2.2 hs)
theorem rM:∀ a,iW a a=false
 | []=>rfl
 | x::a=>by
  simp only [iW,cond_eq_ite]
  rw [if_neg (by simp [Nat.blt]),if_pos (by simp)]
  exact rM a
theorem aPl (x y:UInt8) (a b:List UInt8):iW (x::a) (y::b)=true↔x.toNat<y.toNat∨x.toNat=y.toNat∧iW a b=true:=by
 simp only [iW,cond_eq_ite,Nat.blt_eq,Nat.beq_eq]
 split
 ·rename_i h;simp [h]
 ·rename_i h
  split
  ·rename_i h2;simp [h2]
  ·rename_i h2;simp [h,h2]
theorem pK:∀ {a b c:List UInt8},iW a b=true→iW b c=true→iW a c=true
 | [],[],c,h,_=>by cases h
 | x::a,[],c,h,_=>by cases h
 | a,y::b,[],_,h=>by cases h
 | [],y::b,z::c,_,_=>rfl
 | x::a,y::b,z::c,h1,h2=>by
  rw [aPl] at *
  rcases h1 with h1 | ⟨h1,h3⟩<;>rcases h2 with h2 | ⟨h2,h4⟩
  ·exact .inl (by omega)
  ·exact .inl (by omega)
  ·exact .inl (by omega)
  ·exact .inr ⟨by omega,pK h3 h4⟩
theorem aX2 {a b:List UInt8} (h:iW a b=true):a≠b:=fun e=>by subst e;rw [rM] at h;cases h
theorem vL {α:Type} {step:Option α→α→Bool⊕Option α} {good:α→Prop} {R:α→α→Prop}
  (h2:∀ a p,¬ good a→step p a=.inl false) (h3:∀ p a,good a→R p a→step (some p) a=.inr (some a)) (h4:∀ p a,good a→¬ R p a→step (some p) a=.inl false)
  (tr:∀ a b c,R a b→R b c→R a c):∀ (l:List α) (p:α),aE step (fun _=>true) l (some p)=true↔(∀ a∈l,good a)∧(∀ a∈l,R p a)∧l.Pairwise R
 | [],p=>by simp [aE]
 | a::l,p=>by
  by_cases g:good a
  ·by_cases r:R p a
   ·simp only [aE,h3 p a g r]
    rw [vL h2 h3 h4 tr l a]
    simp only [List.mem_cons,List.pairwise_cons]
    constructor
    ·rintro ⟨q1,q2,q3⟩
     exact ⟨fun b hb=>hb.elim (fun e=>e▸g) (q1 b),fun b hb=>hb.elim (fun e=>e▸r) (fun hb=>tr _ _ _ r (q2 b hb)),q2,q3⟩
    ·rintro ⟨q1,q2,q3,q4⟩
     exact ⟨fun b hb=>q1 b (.inr hb),q3,q4⟩
   ·simp only [aE,h4 p a g r]
    constructor
    ·intro h;cases h
    ·rintro ⟨_,q2,_⟩;exact absurd (q2 a (List.mem_cons_self ..)) r
  ·simp only [aE,h2 a (some p) g]
   constructor
   ·intro h;cases h
   ·rintro ⟨q1,_,_⟩;exact absurd (q1 a (List.mem_cons_self ..)) g
theorem rN {α:Type} {step:Option α→α→Bool⊕Option α} {good:α→Prop} {R:α→α→Prop} (h1:∀ a,good a→step none a=.inr (some a))
  (h2:∀ a p,¬ good a→step p a=.inl false) (h3:∀ p a,good a→R p a→step (some p) a=.inr (some a)) (h4:∀ p a,good a→¬ R p a→step (some p) a=.inl false)
  (tr:∀ a b c,R a b→R b c→R a c):∀ (l:List α),aE step (fun _=>true) l none=true↔(∀ a∈l,good a)∧l.Pairwise R
 | []=>by simp [aE]
 | a::l=>by
  by_cases g:good a
  ·simp only [aE,h1 a g]
   rw [vL h2 h3 h4 tr l a]
   simp only [List.mem_cons,List.pairwise_cons]
   constructor
   ·rintro ⟨q1,q2,q3⟩
    exact ⟨fun b hb=>hb.elim (fun e=>e▸g) (q1 b),q2,q3⟩
   ·rintro ⟨q1,q3,q4⟩
    exact ⟨fun b hb=>q1 b (.inr hb),q3,q4⟩
  ·simp only [aE,h2 a none g]
   constructor
   ·intro h;cases h
   ·rintro ⟨q1,_⟩;exact absurd (q1 a (List.mem_cons_self ..)) g
theorem aDd {a b c:Date} (h1:a.before b=true) (h2:b.before c=true):a.before c=true:=by
 unfold Date.before at *
 simp only [Bool.and_eq_true,decide_eq_true_eq] at *
 exact ⟨h1.1,h2.2.1,by omega⟩
theorem aH9 (a b:Rate):gG a b=true↔iW a.cat b.cat=true∨a.cat=b.cat∧a.day.before b.day=true:=by
 unfold gG
 split
 ·rename_i h;simp [h]
 ·rename_i h
  split
  ·rename_i h2;simp only [beq_iff_eq] at h2;exact ⟨fun q=>.inr ⟨h2,q⟩,fun q=>q.elim (fun q=>absurd q h) (·.2)⟩
  ·rename_i h2;simp only [beq_iff_eq] at h2;simp [h,h2]
theorem aDe {a b c:Rate} (h1:gG a b=true) (h2:gG b c=true):gG a c=true:=by
 rw [aH9] at *
 rcases h1 with h1 | ⟨e1,h1⟩<;>rcases h2 with h2 | ⟨e2,h2⟩
 ·exact .inl (pK h1 h2)
 ·exact .inl (e2▸h1)
 ·exact .inl (e1▸h2)
 ·exact .inr ⟨e1.trans e2,aDd h1 h2⟩
theorem zM (l:List Rate):iT l=true↔l.length≤24∧(∀ r∈l,zF r=0)∧l.Pairwise (fun a b=>gG a b=true):=by
 unfold iT
 split
 ·rename_i h;simp;omega
 ·rename_i h
  rw [rN (good:=fun r=>zF r=0) (R:=fun a b=>gG a b=true)]
  ·constructor
   ·intro q;exact ⟨by omega,q⟩
   ·intro q;exact q.2
  ·intro a g;simp only [dS,g,ne_eq,not_true_eq_false,if_false]
  ·intro a p g;simp only [dS,ne_eq,g,not_false_eq_true,if_true]
  ·intro p a g r;simp only [dS,g,ne_eq,not_true_eq_false,if_false,r,if_true]
  ·intro p a g r;simp only [dS,g,ne_eq,not_true_eq_false,if_false,r];rfl
  ·intro a b c;exact aDe
theorem kE (l:List Ser):rG l=true↔l.length≤8∧(∀ s∈l,dX s.name=true∧mS s=false)∧l.Pairwise (fun a b=>iW a.name b.name=true):=by
 unfold rG
 split
 ·rename_i h;simp;omega
 ·rename_i h
  rw [rN (good:=fun s:Ser=>dX s.name=true∧mS s=false) (R:=fun a b=>iW a.name b.name=true)]
  ·constructor
   ·intro q;exact ⟨by omega,q⟩
   ·intro q;exact q.2
  ·intro a g;simp [gH,iI,g.1,g.2]
  ·intro a p g
   unfold gH
   split
   ·rfl
   ·split
    ·rfl
    ·split
     ·rfl
     ·rename_i h1 h2 h3
      exact absurd ⟨by simpa using h1,by simpa using h3⟩ g
  ·intro p a g r;simp [gH,iI,g.1,g.2,r]
  ·intro p a g r;simp [gH,iI,g.1,g.2,r]
  ·intro a b c;exact pK
theorem aW1:∀ (l:List Sess) (last:Int),aE dC (fun _=>true) l last=true↔(∀ s∈l,last<s.id∧0≤s.last∧s.last≤1099511627776∧(s.last=0→s.reply=Rep.zero))∧l.Pairwise (fun a b=>a.id<b.id)
 | [],last=>by simp [aE]
 | s::l,last=>by
  by_cases g:last<s.id∧0≤s.last∧s.last≤1099511627776∧(s.last=0→s.reply=Rep.zero)
  ·have e:dC last s=.inr s.id:=by
    unfold dC
    rw [if_neg (by omega),if_neg (by omega),if_neg (by omega),if_neg (fun h=>h.2 (g.2.2.2 h.1))]
   simp only [aE,e]
   rw [aW1 l s.id]
   simp only [List.mem_cons,List.pairwise_cons]
   constructor
   ·rintro ⟨q1,q2⟩
    exact ⟨fun b hb=>hb.elim (fun e=>e▸g) (fun hb=>⟨by have:=(q1 b hb).1;omega,(q1 b hb).2⟩),fun b hb=>(q1 b hb).1,q2⟩
   ·rintro ⟨q1,q2,q3⟩
    exact ⟨fun b hb=>⟨q2 b hb,(q1 b (.inr hb)).2⟩,q3⟩
  ·have e:dC last s=.inl false:=by
    unfold dC
    repeat' split
    all_goals first | rfl | skip
    rename_i h1 h2 h3 h4
    refine absurd ⟨by omega,by omega,by omega,fun h=>?_⟩ g
    by_cases c:s.reply=Rep.zero
    ·exact c
    ·exact absurd ⟨h,c⟩ h4
   simp only [aE,e]
   constructor
   ·intro h;cases h
   ·rintro ⟨q1,_⟩;exact absurd (q1 s (List.mem_cons_self ..)) g
theorem aBu (l:List Sess):kU l=true↔l.length≤8∧(∀ s∈l,0<s.id∧0≤s.last∧s.last≤1099511627776∧(s.last=0→s.reply=Rep.zero))∧l.Pairwise (fun a b=>a.id<b.id):=by
 unfold kU
 split
 ·rename_i h;simp;omega
 ·rename_i h
  rw [aW1]
  exact ⟨fun q=>⟨by omega,q⟩,fun q=>q.2⟩
theorem aLj {n:Int} (h:I64 n):aJc n=if n<0 then -n else n:=by
 unfold aJc
 split
 ·rename_i c
  have h1:wr .u64 n=18446744073709551616+n:=by rw [xF];omega
  rw [h1]
  have h2:aDa (18446744073709551616+n)=-n - 1:=by
   unfold aDa
   simp only [IntKind.signed,Bool.false_eq_true,if_false]
   have hm:(IntKind.u64.max:Int)=18446744073709551615:=by decide
   rw [hm]
   have hb:IntKind.u64.bits=64:=rfl
   rw [hb]
   have:(BitVec.ofInt 64 18446744073709551615 ^^^ BitVec.ofInt 64 (18446744073709551616+n)) = ~~~ (BitVec.ofInt 64 (18446744073709551616+n)):=by
    rw [show (BitVec.ofInt 64 18446744073709551615)=BitVec.allOnes 64 from by decide,BitVec.allOnes_xor]
   rw [this,BitVec.toNat_not]
   have hv:(BitVec.ofInt 64 (18446744073709551616+n)).toNat=(18446744073709551616+n).toNat:=by
    rw [BitVec.toNat_ofInt]
    omega
   rw [hv,cJ (by omega) (by omega)]
   omega
  rw [h2,cJ (by omega) (by omega)]
  omega
 ·exact cJ (by omega) (by omega)
def rO (u bp:Int):Option Int:=
 if 0<bp∧9223372036854775807 / bp<u / 10000 then none else
  if 9223372036854775807<u / 10000*bp+(2*(u % 10000)*bp+10000) / 20000 then none else some (u / 10000*bp+(2*(u % 10000)*bp+10000) / 20000)
theorem aDf {u bp t:Int} (hu:0≤u) (hb:0≤bp) (h:rO u bp=some t):0≤t∧t≤9223372036854775807:=by
 unfold rO at h
 split at h
 ·cases h
 ·split at h
  ·cases h
  ·rename_i h2
   cases h
   have h3:0≤u / 10000*bp:=Int.mul_nonneg (by omega) hb
   have h4:0≤2*(u % 10000)*bp:=Int.mul_nonneg (by omega) hb
   exact ⟨by omega,by omega⟩
theorem uM {n bp:Int} (h:I64 n) (h1:0≤bp) (h2:bp≤100000):cY n bp=match rO (if n<0 then -n else n) bp with
  | none=>(0,7)
  | some t=>(if n<0 then -t else t,0):=by
 unfold cY
 rw [if_neg (by omega)]
 simp only [aLj h]
 have hp:wr .u64 bp=bp:=cJ h1 (by omega)
 rw [hp]
 obtain ⟨u,hu⟩:∃ u,u=(if n<0 then -n else n):=⟨_,rfl⟩
 rw [←hu]
 have hu0:0≤u∧u≤9223372036854775808:=by subst hu;split<;>omega
 have hq:u.tdiv 10000=u / 10000:=Int.tdiv_eq_ediv_of_nonneg hu0.1
 have hr:u.tmod 10000=u % 10000:=Int.tmod_eq_emod_of_nonneg hu0.1
 have hmax:(9223372036854775807:Int).tdiv bp=9223372036854775807 / bp:=Int.tdiv_eq_ediv_of_nonneg (by decide)
 rw [hq,hr,hmax,cJ (n:=u / 10000) (by omega) (by omega)]
 have hdiv:0<bp→0≤9223372036854775807 / bp∧9223372036854775807 / bp<18446744073709551616:=by
  intro hb
  constructor
  ·exact Int.ediv_nonneg (by decide) (by omega)
  ·have:=Int.ediv_le_self bp (a:=9223372036854775807) (by decide);omega
 unfold rO
 by_cases c:0<bp∧9223372036854775807 / bp<u / 10000
 ·rw [if_pos c,if_pos ⟨c.1,by rw [cJ (hdiv c.1).1 (hdiv c.1).2];exact c.2⟩]
 ·rw [if_neg c,if_neg (fun q=>c ⟨q.1,by have:=q.2;rwa [cJ (hdiv q.1).1 (hdiv q.1).2] at this⟩)]
  have hm1:0≤u / 10000*bp:=Int.mul_nonneg (by omega) h1
  have hm2:u / 10000*bp≤9223372036854775807:=by
   by_cases hb:0<bp
   ·have hle:u / 10000≤9223372036854775807 / bp:=by
     by_cases q:u / 10000≤9223372036854775807 / bp
     ·exact q
     ·exact absurd ⟨hb,by omega⟩ c
    calc u / 10000*bp≤9223372036854775807 / bp*bp:=Int.mul_le_mul_of_nonneg_right hle h1
     _≤9223372036854775807:=Int.ediv_mul_le _ (by omega)
   ·have:bp=0:=by omega
    subst this;simp
  have hr1:0≤2*(u % 10000)*bp:=Int.mul_nonneg (by omega) h1
  have hr2:2*(u % 10000)*bp≤2*10000*100000:=Int.mul_le_mul (by omega) h2 h1 (by decide)
  rw [cJ hm1 (by omega),cJ (n:=2*(u % 10000)) (by omega) (by omega),cJ hr1 (by omega),cJ (n:=2*(u % 10000)*bp+10000) (by omega) (by omega),zD]
  have ht:(2*(u % 10000)*bp+10000).tdiv 20000=(2*(u % 10000)*bp+10000) / 20000:=Int.tdiv_eq_ediv_of_nonneg (by omega)
  rw [ht,cJ (n:=(2*(u % 10000)*bp+10000) / 20000) (by omega) (by omega),cJ (n:=u / 10000*bp+(2*(u % 10000)*bp+10000) / 20000) (by omega) (by omega)]
  obtain ⟨t,htt⟩:∃ t,t=u / 10000*bp+(2*(u % 10000)*bp+10000) / 20000:=⟨_,rfl⟩
  have ht0:0≤t:=by omega
  rw [←htt]
  split
  ·rfl
  ·rename_i hle
   rw [kM (n:=t) (by omega) (by omega)]
   split
   ·rw [kM (by omega) (by omega)];simp
   ·rfl
theorem aHa {n bp t:Int} (h:I64 n) (h1:0≤bp) (h2:bp≤100000) (hn:n≠-9223372036854775808) (hs:cY n bp=(t,0)):cY (-n) bp=(-t,0)∧t≠-9223372036854775808:=by
 rw [uM h h1 h2] at hs
 rw [uM (by omega) h1 h2]
 have hu:(if -n<0 then - -n else -n)=if n<0 then -n else n:=by split<;>split<;>omega
 rw [hu]
 cases hx:rO (if n<0 then -n else n) bp with
 | none=>rw [hx] at hs;cases hs
 | some x=>
  rw [hx] at hs
  obtain ⟨a,b⟩:=aDf (by split<;>omega) h1 hx
  simp only [Prod.mk.injEq,and_true] at hs ⊢
  by_cases c0:n=0
  ·subst c0
   have:x=0:=by
    simp only [Int.lt_irrefl,if_false] at hx
    unfold rO at hx
    simp only [Int.zero_ediv,Int.zero_emod,Int.zero_mul,Int.mul_zero] at hx
    split at hx
    ·cases hx
    ·split at hx
     ·cases hx
     ·cases hx;decide
   subst this
   simp at hs ⊢
   omega
  ·constructor
   ·rw [←hs];split<;>split<;>omega
   ·rw [←hs];split<;>omega
theorem aFg {σ α:Type} {step:σ→α→Bool⊕σ} (hs:∀ s a r,step s a=.inl r→r=false) (c:Bool):∀ (l:List α) (s:σ),aE step (fun _=>c) l s=(aE step (fun _=>true) l s&&c)
 | [],s=>by simp [aE]
 | a::l,s=>by
  simp only [aE]
  split
  ·rename_i r he;rw [hs _ _ _ he,Bool.false_and]
  ·exact aFg hs c l _
structure PG (p:Part):Prop where
 name:dX p.cat=true
 lo:0≤p.bp
 hi:p.bp≤100000
 tax:cY p.net p.bp=(p.tax,0)
theorem aDg (p:Part):PG p↔dX p.cat=true∧pH p=false∧pI p=false:=by
 unfold pH pI
 simp only [Bool.or_eq_false_iff,decide_eq_false_iff_not,Bool.not_eq_false',decide_eq_true_eq]
 constructor
 ·rintro ⟨a,b,c,d⟩
  exact ⟨a,⟨by omega,by omega⟩,by rw [d],by rw [d]⟩
 ·rintro ⟨a,⟨b,c⟩,d,e⟩
  exact ⟨a,by omega,by omega,Prod.ext e d⟩
theorem zN:∀ s a r,bU s a=.inl r→r=false:=by
 intro s a r h
 unfold bU at h
 repeat' split at h
 all_goals first | (cases h;done) | (cases h;rfl)
theorem fS (t:Total):bR t=true↔1≤t.parts.length∧t.parts.length≤12∧(∀ p∈t.parts,PG p)∧t.parts.Pairwise (fun a b=>iW a.cat b.cat=true)∧fB t=true:=by
 unfold bR
 split
 ·rename_i h;simp;omega
 ·rename_i h
  split
  ·rename_i h2;simp;omega
  ·rename_i h2
   rw [aFg zN,Bool.and_eq_true,rN (good:=PG) (R:=fun a b=>iW a.cat b.cat=true)]
   ·constructor
    ·rintro ⟨⟨a,b⟩,c⟩;exact ⟨by omega,by omega,a,b,c⟩
    ·rintro ⟨_,_,a,b,c⟩;exact ⟨⟨a,b⟩,c⟩
   ·intro a g
    obtain ⟨g1,g2,g3⟩:=(aDg a).1 g
    simp [bU,eK,g1,g2,g3]
   ·intro a p g
    rw [aDg] at g
    unfold bU
    split
    ·rfl
    ·split
     ·rfl
     ·split
      ·rfl
      ·split
       ·rfl
       ·rename_i h1 _ h3 h4
        exact absurd ⟨by simpa using h1,by simpa using h3,by simpa using h4⟩ g
   ·intro p a g r
    obtain ⟨g1,g2,g3⟩:=(aDg a).1 g
    simp [bU,eK,g1,g2,g3,r]
   ·intro p a g r
    obtain ⟨g1,g2,g3⟩:=(aDg a).1 g
    simp [bU,eK,g1,g2,g3,r]
   ·intro a b c;exact pK
theorem uN {t:Total} (hn:∀ p∈t.parts,I64 p.net) (ht:∀ p∈t.parts,I64 p.tax) (hl:t.parts.length≤1000000):
  fB t=true↔I64 t.net∧I64 t.tax∧I64 t.gross∧t.net=(t.parts.map (·.net)).sum∧t.tax=(t.parts.map (·.tax)).sum∧t.gross=t.net+t.tax:=by
 have h1:∀ n∈t.parts.map (·.net),I64 n:=fun n h=>by obtain ⟨p,hp,rfl⟩:=List.mem_map.1 h;exact hn p hp
 have h2:∀ n∈t.parts.map (·.tax),I64 n:=fun n h=>by obtain ⟨p,hp,rfl⟩:=List.mem_map.1 h;exact ht p hp
 obtain ⟨a1,a2⟩:=dY h1 (by rw [List.length_map];exact hl)
 obtain ⟨b1,b2⟩:=dY h2 (by rw [List.length_map];exact hl)
 unfold fB
 constructor
 ·intro h
  repeat' split at h
  all_goals first | cases h;done | skip
  rename_i c1 c2 c3 c4 c5
  have d:=of_decide_eq_true h
  have i1:=a2.1 c1
  have i2:=b2.1 c2
  rw [a1,lB i1] at c4
  rw [b1,lB i2] at c5
  have j:∀ n∈[t.net,t.tax],I64 n:=by
   intro n hn
   simp only [List.mem_cons,List.not_mem_nil,or_false] at hn
   rcases hn with rfl | rfl
   ·rw [←c4];exact i1
   ·rw [←c5];exact i2
  obtain ⟨e1,e2⟩:=dY j (by simp)
  have i3:=e2.1 c3
  rw [e1,lB i3] at d
  have hs:[t.net,t.tax].sum=t.net+t.tax:=by simp
  rw [hs] at d i3
  exact ⟨by rw [←c4];exact i1,by rw [←c5];exact i2,by rw [←d];exact i3,c4.symm,c5.symm,d.symm⟩
 ·rintro ⟨i1,i2,i3,e1,e2,e3⟩
  have j:∀ n∈[t.net,t.tax],I64 n:=by
   intro n hn
   simp only [List.mem_cons,List.not_mem_nil,or_false] at hn
   rcases hn with rfl | rfl
   ·exact i1
   ·exact i2
  have hs:[t.net,t.tax].sum=t.net+t.tax:=by simp
  have k3:=uL j (by simp) (by rw [hs,←e3];exact i3)
  have k1:=uL h1 (by rw [List.length_map];exact hl) (by rw [←e1];exact i1)
  have k2:=uL h2 (by rw [List.length_map];exact hl) (by rw [←e2];exact i2)
  rw [k1,k2,k3]
  simp only [if_true,←e1,←e2,hs,←e3,decide_true]
theorem aDh {r:Rate} (h:zF r=0):dX r.cat=true∧r.day.right=true∧0≤r.bp∧r.bp≤100000:=by
 unfold zF at h
 split at h
 ·omega
 ·rename_i h1
  split at h
  ·omega
  ·rename_i h2
   split at h
   ·omega
   ·split at h
    ·omega
    ·exact ⟨by simpa using h1,by simpa using h2,by omega,by omega⟩
def aDi (p:Part):Part:={ p with net:=-p.net,tax:=-p.tax }
def aAo:Int:=-9223372036854775808
theorem aBv:∀ (l d:List Int) (r:List Int×Int),(∀ n∈l,I64 n)→aE mV (fun l=>(l,0)) l d=r→r.2=0→r.1=d++l.map (fun n=>-n)∧∀ n∈l,n≠aAo
 | [],d,r,_,h,_=>by subst h;simp [aE]
 | n::l,d,r,hl,h,h0=>by
  simp only [aE,mV,aLi (hl n (List.mem_cons_self ..))] at h
  by_cases c:n=-9223372036854775808
  ·simp only [c,if_true] at h
   subst h;simp at h0
  ·simp only [c,if_false] at h
   obtain ⟨a,b⟩:=aBv l _ r (fun m hm=>hl m (List.mem_cons_of_mem _ hm)) h h0
   refine ⟨by rw [a,List.map_cons,List.append_assoc];rfl,fun m hm=>?_⟩
   rcases List.mem_cons.1 hm with rfl | hm
   ·exact c
   ·exact b m hm
theorem aBw {l:List Int} (hl:∀ n∈l,I64 n) (h:(eA l).2=0):(eA l).1=l.map (fun n=>-n)∧∀ n∈l,n≠aAo:=by
 have:=aBv l [] (eA l) hl rfl h
 exact this
theorem zO:∀ (l a:List Part) (r:List Part×Int),(∀ p∈l,I64 p.net∧I64 p.tax)→aE cU (fun l=>(l,0)) l a=r→r.2=0→r.1=a++l.map aDi∧∀ p∈l,p.net≠aAo∧p.tax≠aAo
 | [],a,r,_,h,_=>by subst h;simp [aE]
 | p::l,a,r,hl,h,h0=>by
  simp only [aE,cU] at h
  split at h
  ·rename_i r' he
   split at he
   ·rename_i hc;cases he;subst h;exact absurd h0 hc
   ·cases he
  ·rename_i s' he
   split at he
   ·cases he
   ·rename_i hc
    cases he
    have hp:=hl p (List.mem_cons_self ..)
    obtain ⟨e1,e2⟩:=aBw (l:=[p.net,p.tax]) (fun n hn=>by
     simp only [List.mem_cons,List.not_mem_nil,or_false] at hn
     rcases hn with rfl | rfl
     ·exact hp.1
     ·exact hp.2) (Decidable.not_not.1 hc)
    rw [e1] at h
    obtain ⟨q1,q2⟩:=zO l _ r (fun m hm=>hl m (List.mem_cons_of_mem _ hm)) h h0
    refine ⟨by rw [q1,List.map_cons,List.append_assoc];rfl,fun m hm=>?_⟩
    rcases List.mem_cons.1 hm with rfl | hm
    ·exact ⟨e2 _ (List.mem_cons_self ..),e2 _ (List.mem_cons_of_mem _ (List.mem_cons_self ..))⟩
    ·exact q2 m hm
theorem aHb {t:Total} (ht:∀ p∈t.parts,I64 p.net∧I64 p.tax) (h1:I64 t.net) (h2:I64 t.tax) (h3:I64 t.gross) (h:(dT t).2=0):
  (dT t).1=⟨-t.net,-t.tax,-t.gross,t.parts.map aDi⟩∧t.net≠aAo∧t.tax≠aAo∧t.gross≠aAo∧∀ p∈t.parts,p.net≠aAo∧p.tax≠aAo:=by
 unfold dT at h ⊢
 split at h
 ·rename_i hc;exact absurd h hc
 ·rename_i hc
  split at h
  ·rename_i hc2;exact absurd h hc2
  ·rename_i hc2
   rw [if_neg hc,if_neg hc2]
   obtain ⟨e1,e2⟩:=aBw (l:=[t.net,t.tax,t.gross]) (fun n hn=>by
    simp only [List.mem_cons,List.not_mem_nil,or_false] at hn
    rcases hn with rfl | rfl | rfl
    ·exact h1
    ·exact h2
    ·exact h3) (Decidable.not_not.1 hc)
   obtain ⟨q1,q2⟩:=zO t.parts [] _ ht rfl (Decidable.not_not.1 hc2)
   rw [e1,q1]
   exact ⟨rfl,e2 _ (by simp),e2 _ (by simp),e2 _ (by simp),q2⟩
theorem aJn:∀ l:List Int,(l.map fun n=>-n).sum=-l.sum
 | []=>rfl
 | n::l=>by rw [List.map_cons,List.sum_cons,List.sum_cons,aJn l];omega
theorem aHc {t:Total} (ht:∀ p∈t.parts,I64 p.net∧I64 p.tax) (ho:bR t=true) (h:(dT t).2=0):bR (dT t).1=true∧(∀ p∈(dT t).1.parts,I64 p.net∧I64 p.tax)∧(dT t).1=⟨-t.net,-t.tax,-t.gross,t.parts.map aDi⟩:=by
 obtain ⟨o1,o2,o3,o4,o5⟩:=(fS t).1 ho
 obtain ⟨s1,s2,s3,s4,s5,s6⟩:=(uN (fun p hp=>(ht p hp).1) (fun p hp=>(ht p hp).2) (by omega)).1 o5
 obtain ⟨b1,b2,b3,b4,b5⟩:=aHb ht s1 s2 s3 h
 unfold aAo at b2 b3 b4 b5
 have hm:∀ p∈t.parts.map aDi,∃ q∈t.parts,p=aDi q:=fun p hp=>by obtain ⟨q,hq,rfl⟩:=List.mem_map.1 hp;exact ⟨q,hq,rfl⟩
 have hi:∀ p∈t.parts.map aDi,I64 p.net∧I64 p.tax:=fun p hp=>by
  obtain ⟨q,hq,rfl⟩:=hm p hp
  have:=ht q hq
  have:=b5 q hq
  show I64 (-q.net)∧I64 (-q.tax)
  omega
 refine ⟨?_,by rw [b1];exact hi,b1⟩
 rw [b1,fS]
 refine ⟨by simpa using o1,by simpa using o2,fun p hp=>?_,?_,?_⟩
 ·obtain ⟨q,hq,rfl⟩:=hm p hp
  have g:=o3 q hq
  exact ⟨g.name,g.lo,g.hi,(aHa (ht q hq).1 g.lo g.hi (b5 q hq).1 g.tax).1⟩
 ·show (t.parts.map aDi).Pairwise _
  rw [List.pairwise_map];exact o4
 ·rw [uN (fun p hp=>(hi p hp).1) (fun p hp=>(hi p hp).2) (by simp;omega)]
  have e1:(t.parts.map aDi).map (·.net)=(t.parts.map (·.net)).map fun n=>-n:=by rw [List.map_map,List.map_map];rfl
  have e2:(t.parts.map aDi).map (·.tax)=(t.parts.map (·.tax)).map fun n=>-n:=by rw [List.map_map,List.map_map];rfl
  simp only [e1,e2,aJn]
  refine ⟨?_,?_,?_,?_,?_,?_⟩
  ·show I64 (-t.net);omega
  ·show I64 (-t.tax);omega
  ·show I64 (-t.gross);omega
  ·show -t.net=_;omega
  ·show -t.tax=_;omega
  ·show -t.gross=-t.net+-t.tax;omega
theorem zP (y m:Int):28≤fH y m∧fH y m≤31:=by
 unfold fH
 repeat' split
 all_goals omega
theorem aLk (d:Date):d.right=true↔1≤d.y∧d.y≤9999∧1≤d.m∧d.m≤12∧1≤d.d∧d.d≤fH d.y d.m:=by
 unfold Date.right
 simp only [Bool.and_eq_true,decide_eq_true_eq]
theorem aJo {α:Type} (p:α→Bool):∀ (l:List α) (n:Nat),aE (cM p) (fun _=>-1) l n=-1→∀ a∈l,p a=false
 | [],n,_,a,h=>by cases h
 | x::l,n,h,a,ha=>by
  by_cases c:p x=true
  ·simp only [aE,cM,c,if_true] at h
   omega
  ·simp only [aE,cM,c,if_false] at h
   rcases List.mem_cons.1 ha with rfl | ha
   ·simpa using c
   ·exact aJo p l (n+1) h a ha
theorem aRu {α:Type} {p:α→Bool} {l:List α} (h:ixM p l<0):∀ a∈l,p a=false:=by
 rcases fQ p l with e | ⟨i,a,e,_⟩
 ·exact aJo p l 0 e
 ·rw [e] at h;omega
theorem aBx {α:Type} (p:α→Bool):∀ (l:List α) (n i:Nat) (a:α),l[i]?=some a→p a=true→(∀ j b,j<i→l[j]?=some b→p b=false)→aE (cM p) (fun _=>-1) l n=((n+i:Nat):Int)
 | x::l,n,0,a,h,hp,_=>by
  cases h
  simp only [aE,cM,hp,if_true];rfl
 | x::l,n,i+1,a,h,hp,hj=>by
  have c:p x=false:=hj 0 x (by omega) rfl
  simp only [aE,cM,c,Bool.false_eq_true,if_false]
  rw [aBx p l (n+1) i a h hp (fun j b hji hb=>hj (j+1) b (by omega) hb)]
  omega
theorem aLl {α:Type} {p:α→Bool} {l:List α} {i:Nat} {a:α} (h:l[i]?=some a) (hp:p a=true) (hj:∀ j b,j<i→l[j]?=some b→p b=false):ixM p l=(i:Int):=by
 have:=aBx p l 0 i a h hp hj
 rw [Nat.zero_add] at this
 exact this
theorem tH {l:List Ser} (hs:l.Pairwise (fun a b=>iW a.name b.name=true)) {i:Nat} {s:Ser} (h:l[i]?=some s):eH l s.name=(i:Int):=by
 refine aLl h (by simp) (fun j b hj hb=>?_)
 have h1:=List.pairwise_iff_getElem.1 hs j i (List.getElem?_eq_some_iff.1 hb).1 (List.getElem?_eq_some_iff.1 h).1 hj
 rw [(List.getElem?_eq_some_iff.1 hb).2,(List.getElem?_eq_some_iff.1 h).2] at h1
 have:=aX2 h1
 simpa using this
theorem zQ {l:List Ser} {name:List UInt8} (h:eH l name<0):∀ s∈l,s.name≠name:=fun s hs=>by
 have:=aRu h s hs
 simpa using this
def rQ (l:List Posted) (name:List UInt8):Int:=((l.filter fun p=>p.ref.ser == name).length:Int)
theorem fN (a b:List Posted) (name:List UInt8):rQ (a++b) name=rQ a name+rQ b name:=by
 unfold rQ;rw [List.filter_append,List.length_append];omega
theorem pM (p:Posted) (name:List UInt8):rQ [p] name=if p.ref.ser=name then 1 else 0:=by
 unfold rQ
 by_cases c:p.ref.ser=name
 ·simp [c]
 ·simp [c]
theorem kH (l:List Posted) (name:List UInt8):0≤rQ l name:=by unfold rQ;omega
structure Nums (ser:List Ser) (l:List Posted):Prop where
 num:∀ i p,l[i]?=some p→(∃ s∈ser,s.name=p.ref.ser)∧p.ref.num=rQ (l.take i) p.ref.ser+1
 next:∀ s∈ser,s.next=rQ l s.name+1
def jB (ser:List Ser) (l:List Posted):List Int:=ser.map (fun s=>rQ l s.name)++List.replicate (8 - ser.length) 0
theorem hJ {ser:List Ser} {l:List Posted} {i:Nat} {s:Ser} (h:ser[i]?=some s):(jB ser l)[i]?=some (rQ l s.name):=by
 unfold jB
 rw [List.getElem?_append_left (by rw [List.length_map];exact (List.getElem?_eq_some_iff.1 h).1),List.getElem?_map,h]
 rfl
theorem aHd {ser:List Ser} (hs:ser.Pairwise (fun a b=>iW a.name b.name=true)) {l:List Posted} {p:Posted} {i:Nat} {s:Ser} (h:ser[i]?=some s) (hn:s.name=p.ref.ser):bump (jB ser l) i=jB ser (l++[p]):=by
 unfold bump
 rw [List.getD_eq_getElem?_getD,hJ h]
 apply List.ext_getElem?
 intro j
 rw [List.getElem?_set]
 have hlen:ser.length≤(jB ser l).length:=by unfold jB;rw [List.length_append,List.length_map];omega
 have hi:=(List.getElem?_eq_some_iff.1 h).1
 split
 ·rename_i e
  subst e
  rw [if_pos (by omega),hJ h,fN,pM,if_pos hn.symm]
  rfl
 ·rename_i e
  by_cases hj:j<ser.length
  ·have hjs:ser[j]?=some ser[j]:=List.getElem?_eq_getElem hj
   rw [hJ hjs,hJ hjs,fN,pM,if_neg,Int.add_zero]
   intro hc
   have e1:=tH hs hjs
   have e2:=tH hs h
   rw [hn,hc] at e2
   rw [e2] at e1
   exact e (by omega)
  ·unfold jB
   rw [List.getElem?_append_right (by rw [List.length_map];omega),List.getElem?_append_right (by rw [List.length_map];omega),List.length_map,List.length_map]
theorem bCh {ser:List Ser} (hs:ser.Pairwise (fun a b=>iW a.name b.name=true)) (h8:ser.length≤8) {fin:List Int→Bool}:∀ (l done:List Posted),aE (hP ser) fin l (jB ser done)=true ↔
  (∀ i p,l[i]?=some p→(∃ s∈ser,s.name=p.ref.ser)∧p.ref.num=rQ (done++l.take i) p.ref.ser+1)∧fin (jB ser (done++l))=true
 | [],done=>by simp [aE]
 | p::l,done=>by
  by_cases c:eH ser p.ref.ser<0
  ·have e:hP ser (jB ser done) p=.inl false:=by unfold hP;rw [if_pos c]
   simp only [aE,e]
   constructor
   ·intro h;cases h
   ·rintro ⟨h,_⟩
    obtain ⟨⟨s,h1,h2⟩,_⟩:=h 0 p rfl
    exact absurd h2 (zQ c s h1)
  ·rcases vG ser p.ref.ser with e | ⟨i,s,e,hi,hn⟩
   ·exact absurd (by rw [e];decide) c
   ·have hb:=aHd hs (l:=done) hi hn
    have hg:(jB ser (done++[p])).getD i 0=rQ done p.ref.ser+1:=by
     rw [List.getD_eq_getElem?_getD,hJ hi,fN,pM,if_pos hn.symm,hn];rfl
    by_cases q:p.ref.num=rQ done p.ref.ser+1
    ·have es:hP ser (jB ser done) p=.inr (jB ser (done++[p])):=by
      unfold hP
      rw [if_neg c,e]
      simp only [Int.toNat_natCast]
      rw [hb,hg,if_pos q]
     simp only [aE,es]
     rw [bCh hs h8 l (done++[p])]
     constructor
     ·rintro ⟨h1,h2⟩
      refine ⟨fun j x hj=>?_,by rw [List.append_assoc] at h2;exact h2⟩
      cases j with
      | zero=>cases hj;exact ⟨⟨s,List.mem_of_getElem? hi,hn⟩,by simpa using q⟩
      | succ j=>have:=h1 j x hj;rw [List.append_assoc] at this;exact this
     ·rintro ⟨h1,h2⟩
      refine ⟨fun j x hj=>?_,by rw [List.append_assoc];exact h2⟩
      have:=h1 (j+1) x hj
      rw [List.append_assoc];exact this
    ·have es:hP ser (jB ser done) p=.inl false:=by
      unfold hP
      rw [if_neg c,e]
      simp only [Int.toNat_natCast]
      rw [hb,hg,if_neg q]
     simp only [aE,es]
     constructor
     ·intro h;cases h
     ·rintro ⟨h,_⟩
      have:=(h 0 p rfl).2
      simp only [List.take_zero,List.append_nil] at this
      exact absurd this q
theorem bCi:∀ (ser:List Ser) (is:List Int),aE gI (fun _=>true) ser is=true↔∀ i s,ser[i]?=some s→s.next=is.getD i 0+1
 | [],is=>by simp [aE]
 | s::l,is=>by
  have hh:is.headD 0=is.getD 0 0:=by cases is<;>rfl
  have ht:∀ j,is.tail.getD j 0=is.getD (j+1) 0:=fun j=>by cases is<;>simp
  by_cases c:s.next=is.getD 0 0+1
  ·have e:gI is s=.inr is.tail:=by unfold gI;rw [hh,if_pos c]
   simp only [aE,e]
   rw [bCi l is.tail]
   constructor
   ·intro h i x hx
    cases i with
    | zero=>cases hx;exact c
    | succ i=>have:=h i x hx;rwa [ht] at this
   ·intro h i x hx
    have:=h (i+1) x hx
    rwa [ht]
  ·have e:gI is s=.inl false:=by unfold gI;rw [hh,if_neg c]
   simp only [aE,e]
   constructor
   ·intro h;cases h
   ·intro h;exact absurd (h 0 s rfl) c
theorem tJ {ser:List Ser} (hs:ser.Pairwise (fun a b=>iW a.name b.name=true)) (h8:ser.length≤8) (l:List Posted):jX ser l=true↔Nums ser l:=by
 unfold jX
 have h0:List.replicate 8 (0:Int)=jB ser []:=by
  unfold jB
  apply List.ext_getElem?
  intro j
  by_cases hj:j<ser.length
  ·rw [List.getElem?_append_left (by rw [List.length_map];exact hj),List.getElem?_map,List.getElem?_eq_getElem hj,List.getElem?_replicate,if_pos (by omega)];rfl
  ·rw [List.getElem?_append_right (by rw [List.length_map];omega),List.length_map,List.getElem?_replicate,List.getElem?_replicate]
   by_cases hj8:j<8
   ·rw [if_pos hj8,if_pos (by omega)]
   ·rw [if_neg hj8,if_neg (by omega)]
 rw [h0,bCh hs h8 l [],bCi]
 simp only [List.nil_append]
 constructor
 ·rintro ⟨h1,h2⟩
  refine ⟨h1,fun s hm=>?_⟩
  obtain ⟨i,hi⟩:=List.mem_iff_getElem?.1 hm
  have:=h2 i s hi
  rwa [List.getD_eq_getElem?_getD,hJ hi] at this
 ·rintro ⟨h1,h2⟩
  refine ⟨h1,fun i s hi=>?_⟩
  rw [List.getD_eq_getElem?_getD,hJ hi]
  exact h2 s (List.mem_of_getElem? hi)
def aPm:Posted:=⟨Ref.zero,⟨0,0,0⟩,Total.zero,Ref.zero,false⟩
def vW (done:List Posted) (p:Posted):Prop:=p.day.right=true∧bR p.total=true∧(p.of=Ref.zero∨0≤cE done p.of∧mW p (done.getD (cE done p.of).toNat aPm)=true)
def fI (done:List Posted) (is:List Int) (p:Posted):List Int:=if p.of=Ref.zero then is else bump is (cE done p.of).toNat
def cI:List Posted→List Posted→List Int→List Int
 | _,[],is=>is
 | done,p::l,is=>cI (done++[p]) l (fI done is p)
def iU (l:List Posted):List Int:=cI [] l (List.replicate 40 0)
theorem aFh {done:List Posted} {is:List Int} {p:Posted} (h:vW done p):eI (done,is) p=.inr (done++[p],fI done is p):=by
 obtain ⟨h1,h2,h3⟩:=h
 unfold eI fI
 rw [if_neg (by rw [h1];simp),if_neg (by rw [h2];simp)]
 by_cases c:p.of=Ref.zero
 ·rw [if_pos c,if_pos c]
 ·rw [if_neg c,if_neg c]
  rcases h3 with h3 | ⟨h3,h4⟩
  ·exact absurd h3 c
  ·simp only
   rw [if_neg (by omega)]
   unfold aPm at h4
   rw [h4]
   simp
theorem aFi {done:List Posted} {is:List Int} {p:Posted} (h:¬ vW done p):eI (done,is) p=.inl false:=by
 unfold eI
 split
 ·rfl
 ·rename_i h1
  split
  ·rfl
  ·rename_i h2
   have h1:p.day.right=true:=by simpa using h1
   have h2:bR p.total=true:=by simpa using h2
   split
   ·rename_i h3;exact absurd ⟨h1,h2,.inl h3⟩ h
   ·split
    ·rfl
    ·rename_i h4
     split
     ·rfl
     ·rename_i h5
      exact absurd ⟨h1,h2,.inr ⟨by simp only at h4;omega,(Bool.not_eq_false _).mp h5⟩⟩ h
theorem aW2 {fin:List Posted×List Int→Bool}:∀ (l done:List Posted) (is:List Int),aE eI fin l (done,is)=true↔(∀ i p,l[i]?=some p→vW (done++l.take i) p)∧fin (done++l,cI done l is)=true
 | [],done,is=>by simp [aE,cI]
 | p::l,done,is=>by
  by_cases c:vW done p
  ·simp only [aE,aFh c]
   rw [aW2 l (done++[p]) _]
   simp only [cI]
   constructor
   ·rintro ⟨h1,h2⟩
    refine ⟨fun j x hj=>?_,by rw [List.append_assoc] at h2;exact h2⟩
    cases j with
    | zero=>cases hj;simpa using c
    | succ j=>have:=h1 j x hj;rw [List.append_assoc] at this;exact this
   ·rintro ⟨h1,h2⟩
    refine ⟨fun j x hj=>?_,by rw [List.append_assoc];exact h2⟩
    have:=h1 (j+1) x hj
    rw [List.append_assoc];exact this
  ·simp only [aE,aFi c]
   constructor
   ·intro h;cases h
   ·rintro ⟨h,_⟩
    have:=h 0 p rfl
    simp only [List.take_zero,List.append_nil] at this
    exact absurd this c
theorem bCj:∀ (l:List Posted) (is:List Int),aE eY (fun _=>true) l is=true↔∀ i p,l[i]?=some p→is.getD i 0≤1∧p.back=decide (is.getD i 0=1)
 | [],is=>by simp [aE]
 | s::l,is=>by
  have hh:is.headD 0=is.getD 0 0:=by cases is<;>rfl
  have ht:∀ j,is.tail.getD j 0=is.getD (j+1) 0:=fun j=>by cases is<;>simp
  by_cases c:is.getD 0 0≤1∧s.back=decide (is.getD 0 0=1)
  ·have e:eY is s=.inr is.tail:=by unfold eY;rw [hh,if_neg (by omega),if_pos c.2]
   simp only [aE,e]
   rw [bCj l is.tail]
   constructor
   ·intro h i x hx
    cases i with
    | zero=>cases hx;exact c
    | succ i=>have:=h i x hx;rwa [ht] at this
   ·intro h i x hx
    have:=h (i+1) x hx
    rwa [ht]
  ·have e:eY is s=.inl false:=by
    unfold eY
    rw [hh]
    split
    ·rfl
    ·split
     ·rename_i h1 h2;exact absurd ⟨by omega,h2⟩ c
     ·rfl
   simp only [aE,e]
   constructor
   ·intro h;cases h
   ·intro h;exact absurd (h 0 s rfl) c
theorem fT (l:List Posted):jH l=true↔l.length≤40∧(∀ i p,l[i]?=some p→vW (l.take i) p)∧∀ i p,l[i]?=some p→(iU l).getD i 0≤1∧p.back=decide ((iU l).getD i 0=1):=by
 unfold jH
 split
 ·rename_i h;simp;omega
 ·rename_i h
  rw [aW2 l [] _,bCj]
  simp only [List.nil_append]
  exact ⟨fun ⟨a,b⟩=>⟨by omega,a,b⟩,fun ⟨_,a,b⟩=>⟨a,b⟩⟩
theorem lC:∀ (l done:List Posted) (is:List Int) (p:Posted),cI done (l++[p]) is=fI (done++l) (cI done l is) p
 | [],done,is,p=>by simp [cI]
 | x::l,done,is,p=>by
  simp only [List.cons_append,cI]
  rw [lC l]
  rw [List.append_assoc];rfl
theorem aAp (l:List Posted) (p:Posted):iU (l++[p])=fI l (iU l) p:=by
 unfold iU
 rw [lC,List.nil_append]
theorem lT:∀ (l done:List Posted) (is:List Int),(∀ i,0≤is.getD i 0)→(∀ i,done.length≤i→is.getD i 0=0)→(∀ i p,l[i]?=some p→vW (done++l.take i) p)→
  (∀ i,0≤(cI done l is).getD i 0)∧(∀ i,(done++l).length≤i→(cI done l is).getD i 0=0)∧(cI done l is).length=is.length
 | [],done,is,h1,h2,_=>⟨h1,by rw [List.append_nil];exact h2,rfl⟩
 | p::l,done,is,h1,h2,h3=>by
  simp only [cI]
  have hp:=h3 0 p rfl
  simp only [List.take_zero,List.append_nil] at hp
  have hb:∀ i,(fI done is p).getD i 0=is.getD i 0∨i<done.length∧(fI done is p).getD i 0=is.getD i 0+1:=by
   intro i
   unfold fI
   split
   ·exact .inl rfl
   ·rename_i hc
    obtain ⟨hp1,_⟩:=hp.2.2.resolve_left hc
    rcases sX done p.of with e | ⟨k,x,e,hk,_⟩
    ·omega
    ·have hkl:=(List.getElem?_eq_some_iff.1 hk).1
     rw [e,Int.toNat_natCast]
     unfold bump
     simp only [List.getD_eq_getElem?_getD,List.getElem?_set]
     by_cases q:k=i
     ·rw [if_pos q]
      subst q
      split
      ·exact .inr ⟨hkl,rfl⟩
      ·rename_i hn;left;rw [List.getElem?_eq_none (by omega)]
     ·rw [if_neg q];exact .inl rfl
  have hl:(fI done is p).length=is.length:=by
   unfold fI
   split
   ·rfl
   ·exact tC _ _
  obtain ⟨a,b,c⟩:=lT l (done++[p]) (fI done is p) (fun i=>by have:=h1 i;rcases hb i with h | ⟨_,h⟩<;>omega)
   (fun i hi=>by
    rw [List.length_append] at hi
    simp only [List.length_cons,List.length_nil] at hi
    have:=h2 i (by omega)
    rcases hb i with h | ⟨h0,h⟩<;>omega)
   (fun i x hx=>by have:=h3 (i+1) x hx;rw [List.append_assoc];exact this)
  refine ⟨a,fun i hi=>b i (by rw [List.append_assoc];exact hi),c.trans hl⟩
theorem aDj {l:List Posted} (h:∀ i p,l[i]?=some p→vW (l.take i) p):(∀ i,0≤(iU l).getD i 0)∧(∀ i,l.length≤i→(iU l).getD i 0=0)∧(iU l).length=40:=by
 have hz:∀ i,(List.replicate 40 (0:Int)).getD i 0=0:=fun i=>by
  rw [List.getD_eq_getElem?_getD,List.getElem?_replicate];split<;>rfl
 have:=lT l [] (List.replicate 40 0) (fun i=>by rw [hz];omega) (fun i _=>hz i) (by simpa using h)
 simp only [List.nil_append,List.length_replicate] at this
 exact this
theorem aFj {l:List Sess} (hs:l.Pairwise (fun a b=>a.id<b.id)) (n:Int):mX l n=true↔∀ s∈l,s.id<n:=by
 unfold mX
 cases h:l[l.length - 1]? with
 | none=>
  have:l=[]:=by
   rw [List.getElem?_eq_none_iff] at h
   cases l with
   | nil=>rfl
   | cons a l=>simp only [List.length_cons] at h;omega
  subst this
  simp
 | some s=>
  simp only [decide_eq_true_eq]
  constructor
  ·intro hn x hx
   obtain ⟨i,hi⟩:=List.mem_iff_getElem?.1 hx
   have hil:=(List.getElem?_eq_some_iff.1 hi).1
   by_cases c:i=l.length - 1
   ·subst c;rw [h] at hi;cases hi;exact hn
   ·have h1:=List.pairwise_iff_getElem.1 hs i (l.length - 1) hil (by omega) (by omega)
    rw [(List.getElem?_eq_some_iff.1 h).2,(List.getElem?_eq_some_iff.1 hi).2] at h1
    omega
  ·intro q;exact q s (List.mem_of_getElem? h)
def aDk (l:List Sess) (n:Int):Prop:=l.length≤8∧(∀ s∈l,0<s.id∧0≤s.last∧s.last≤1099511627776∧(s.last=0→s.reply=Rep.zero))∧l.Pairwise (fun a b=>a.id<b.id)∧1≤n∧n≤1099511627776∧∀ s∈l,s.id<n
theorem qH (s:State):fR s=true↔aDk s.sess s.next:=by
 unfold fR aDk
 constructor
 ·intro h
  repeat' split at h
  all_goals first | (cases h;done) | skip
  rename_i h1 h2 h3
  obtain ⟨a,b,c⟩:=(aBu _).1 h1
  exact ⟨a,b,c,h2,h3,(aFj c _).1 h⟩
 ·rintro ⟨a,b,c,d,e,f⟩
  rw [if_pos ((aBu _).2 ⟨a,b,c⟩),if_pos d,if_pos e]
  exact (aFj c _).2 f
theorem mY (s:State):fL s=true↔iT s.table=true∧rG s.ser=true∧aDk s.sess s.next∧jH s.posted=true∧Nums s.ser s.posted∧hN s.posted=(s.book,0):=by
 rw [←qH]
 unfold fL
 constructor
 ·intro h
  repeat' split at h
  all_goals first | (cases h;done) | skip
  rename_i h1 h2 h3 h4 h5 h6
  have h2':rG s.ser=true:=by simpa using h2
  obtain ⟨a,b,c⟩:=(kE _).1 h2'
  exact ⟨by simpa using h1,h2',by simpa using h3,by simpa using h4,(tJ c a _).1 (by simpa using h5),Prod.ext (of_decide_eq_true h) h6⟩
 ·rintro ⟨h1,h2,h3,h4,h5,h6⟩
  obtain ⟨a,b,c⟩:=(kE _).1 h2
  rw [if_neg (by rw [h1];simp),if_neg (by rw [h2];simp),if_neg (by rw [h3];simp),if_neg (by rw [h4];simp),if_neg (by rw [(tJ c a _).2 h5];simp),if_pos (by rw [h6])]
  rw [h6];simp
def aFk (s:State):Prop:=∀ p∈s.posted,∀ q∈p.total.parts,I64 q.net∧I64 q.tax
theorem zR {ser:List Ser} {l:List Posted} (h:Nums ser l) {i j:Nat} {p q:Posted} (hi:l[i]?=some p) (hj:l[j]?=some q) (e:p.ref=q.ref):i=j:=by
 have key:∀ {i j:Nat} {p q:Posted},l[i]?=some p→l[j]?=some q→p.ref=q.ref→¬ i<j:=by
  intro i j p q hi hj e hlt
  have h1:=(h.num i p hi).2
  have h2:=(h.num j q hj).2
  have hjl:=(List.getElem?_eq_some_iff.1 hj).1
  have hpre:l.take j=l.take i++(l.take j).drop i:=by
   conv=>lhs;rw [←List.take_append_drop i (l.take j)]
   rw [List.take_take,Nat.min_eq_left (by omega)]
  have hmem:((l.take j).drop i)[0]?=some p:=by
   rw [List.getElem?_drop,List.getElem?_take,if_pos (by omega)];exact hi
  have hc:1≤rQ ((l.take j).drop i) q.ref.ser:=by
   cases hd:(l.take j).drop i with
   | nil=>rw [hd] at hmem;cases hmem
   | cons a r=>
    rw [hd] at hmem
    cases hmem
    have:=fN [p] r q.ref.ser
    rw [pM,if_pos (by rw [e])] at this
    have:=kH r q.ref.ser
    show 1≤rQ ([p]++r) q.ref.ser
    omega
  rw [hpre,fN] at h2
  rw [e] at h1
  omega
 have h1:=key hi hj e
 have h2:=key hj hi e.symm
 omega
theorem aRv {ser:List Ser} {l:List Posted} (h:Nums ser l) {p:Posted} (hp:p∈l):1≤p.ref.num:=by
 obtain ⟨i,hi⟩:=List.mem_iff_getElem?.1 hp
 have:=(h.num i p hi).2
 have:=kH (l.take i) p.ref.ser
 omega
theorem aDl (l:List Posted) (name:List UInt8):rQ l name≤l.length:=by
 unfold rQ
 have:=List.length_filter_le (fun p:Posted=>p.ref.ser == name) l
 omega
end Go.Proofs.YtoaibmbldmckaaaGreat
end
section
namespace Go.AM
theorem aW3 {n b:Nat} {S:St} {v:V} {es:List (List V)} (h:Own E0 S n v es) (w:WF S) {c:List V} (hc:c.length=n∧aI c=true) (h1:(es.length+1)*b≤35184372088832) (h2:es.length+1<eE):
  ∃ v' S',eN n b v (.sl S.next 0 n 0 1) none ⟨S.next+1,S.heap.put S.next (.row 0 n [c])⟩=.ok (v',S')∧Own E0 S' n v' (es++[c])∧WF S'∧S.next+1≤S'.next∧(blkOf v'=blkOf v∨blkOf v'=some (S.next+1))∧∀ y,y<S.next→blkOf v≠some y→S'.heap.get y=S.heap.get y:=by
 obtain ⟨v',S',q1,q2,q3,q4⟩:=aVz (b:=b) h w (cs:=[c]) (fun d hd=>by rcases List.mem_singleton.1 hd with rfl;exact hc) (by simp) h1 h2
 have hu:aM ⟨S.next+1,S.heap.put S.next (.row 0 n [c])⟩ (.sl S.next 0 n 0 1)=.ok [c]:=by
  simp only [aM,aF];rfl
 have hk:∀ y,y<S.next→blkOf v≠some y→S'.heap.get y=S.heap.get y:=fun y hy hb=>q4 y hy fun a ver m hv e=>hb (by rw [hv,e];rfl)
 refine ⟨v',S',q1,q2,q3,?_,?_,hk⟩
 ·have q1:eN n b v (.sl S.next 0 n 0 1) none ⟨S.next+1,S.heap.put S.next (.row 0 n [c])⟩=.ok (v',S'):=q1
  unfold eN at q1
  simp only [hu] at q1
  repeat' split at q1
  all_goals first | (cases q1;done) | skip
  ·rename_i hn
   rw [eT] at hn
   cases hn;cases q1;exact Nat.le_succ _
  ·cases q1;exact Nat.le_refl _
 ·have q1:eN n b v (.sl S.next 0 n 0 1) none ⟨S.next+1,S.heap.put S.next (.row 0 n [c])⟩=.ok (v',S'):=q1
  unfold eN at q1
  simp only [hu] at q1
  repeat' split at q1
  all_goals first | (cases q1;done) | skip
  ·rename_i hn
   rw [eT] at hn
   cases hn;cases q1;exact .inr rfl
  ·cases q1;exact .inl rfl
end Go.AM
namespace Go.Proofs.YtoaibmbldmckaaaGreat
open Go.AM Tryz
set_option linter.unusedVariables false
set_option linter.unusedSimpArgs false
set_option maxRecDepth 100000
structure Nest (m:Nat) (S:St) (v:V) (l:List Posted):Prop where
 low:∀ y,AM.blkOf v=some y→m≤y
 is:∃ es,Own E0 S 12 v es∧es.length=l.length∧∀ (j:Nat) (p:Posted),l[j]?=some p→∃ u,es[j]?=some (p.cells u)∧Own E0 S 4 u (p.total.parts.map Part.enc)∧∀ y,AM.blkOf u=some y→m≤y∧AM.blkOf v≠some y
theorem Nest.nil (m:Nat) (S:St):Nest m S .nils []:=⟨fun y h=>(by cases h),[],Own.nil _ _ _,rfl,fun j p h=>(by cases h)⟩
theorem Nest.same {m:Nat} {S S':St} {v:V} {l:List Posted} (h:Nest m S v l) (hn:S.next≤S'.next) (hg:∀ y,m≤y→y<S.next→S'.heap.get y=S.heap.get y):Nest m S' v l:=by
 obtain ⟨low,es,o,hl,hes⟩:=h
 refine ⟨low,es,o.same hn fun y hy=>hg y (low y hy) (fE o hy).2,hl,fun j p hj=>?_⟩
 obtain ⟨u,h1,h2,h3⟩:=hes j p hj
 exact ⟨u,h1,h2.same hn fun y hy=>hg y (h3 y hy).1 (fE h2 hy).2,h3⟩
theorem Nest.lt {m:Nat} {S:St} {v:V} {l:List Posted} (h:Nest m S v l) {y:Nat} (hy:AM.blkOf v=some y):m≤y∧y<S.next:=by
 obtain ⟨low,es,o,_⟩:=h
 exact ⟨low y hy,(fE o hy).2⟩
theorem Nest.one {m:Nat} {S:St} {v:V} {l:List Posted} (h:Nest m S v l):v.one=true∧v.cells=[v]:=by
 obtain ⟨low,es,o,_⟩:=h
 exact ⟨o.one,o.cells⟩
theorem Nest.out {m:Nat} {S:St} {v:V} {l:List Posted} (h:Nest m S v l):cP lX (nL (kK S 3) S) v=.ok (.imm (l.map Posted.enc)):=by
 obtain ⟨low,es,o,hl,hes⟩:=h
 have hm:jQ (kK S 3) es=.ok (l.map Posted.enc):=aJh (by rw [List.length_map];exact hl) fun j x hx=>by
  have hjl:j<l.length:=by rw [←hl];exact (List.getElem?_eq_some_iff.1 hx).1
  have hj:l[j]?=some l[j]:=List.getElem?_eq_getElem hjl
  obtain ⟨u,h1,h2,_⟩:=hes j _ hj
  rw [hx] at h1
  cases h1
  refine ⟨l[j].enc,by rw [List.getElem?_map,hj];rfl,?_⟩
  have hf:=h2.frzN (kY (fun _=>rfl) _) 1
  simp only [kK,Posted.cells,frzVs,cP] at hf ⊢
  rw [hf]
  rfl
 rcases o.is with ⟨rfl,rfl⟩ | ⟨a,ver,tl,rfl,_,_,q⟩
 ·cases l with
  | nil=>rfl
  | cons p l=>simp at hl
 ·have he:aM S (.sl a ver 12 0 es.length)=.ok es:=o.sl.elems
  simp only [cP,nL,he,hm]
theorem Nest.push {m:Nat} {S:St} {v:V} {l:List Posted} (h:Nest m S v l) (w:WF S) (p:Posted) {u:V} (hu:Own E0 S 4 u (p.total.parts.map Part.enc)) (hb:∀ y,AM.blkOf u=some y→m≤y∧AM.blkOf v≠some y) (hm:m≤S.next) (hl:l.length≤1000000):
  ∃ v' S',eN 12 128 v (.sl S.next 0 12 0 1) none ⟨S.next+1,S.heap.put S.next (.row 0 12 [p.cells u])⟩=.ok (v',S')∧Nest m S' v' (l++[p])∧WF S'∧S.next+1≤S'.next∧∀ y,y<S.next→AM.blkOf v≠some y→S'.heap.get y=S.heap.get y:=by
 obtain ⟨low,es,o,hel,hes⟩:=h
 obtain ⟨v',S',q1,q2,q3,q4,q5,q6⟩:=aW3 (b:=128) o w (c:=p.cells u) ⟨rfl,by simp only [Posted.cells,aRk,aWt,bFa,bFb,bFc,hu.one,Bool.and_self]⟩ (by omega) (by unfold eE;omega)
 have hv':∀ y,AM.blkOf v'=some y→AM.blkOf v=some y∨S.next≤y:=fun y hy=>by
  rcases q5 with e | e
  ·rw [←e];exact .inl hy
  ·rw [e] at hy;cases hy;exact .inr (Nat.le_succ _)
 refine ⟨v',S',q1,⟨fun y hy=>?_,_,q2,by simp [hel],fun j q hj=>?_⟩,q3,q4,q6⟩
 ·rcases hv' y hy with e | e
  ·exact low y e
  ·omega
 ·have keep:∀ {u:V} {x:List (List V)},Own E0 S 4 u x→(∀ y,AM.blkOf u=some y→m≤y∧AM.blkOf v≠some y)→Own E0 S' 4 u x∧∀ y,AM.blkOf u=some y→m≤y∧AM.blkOf v'≠some y:=fun {u x} ou hk=>by
   refine ⟨ou.same (by omega) fun y hy=>q6 y (fE ou hy).2 (hk y hy).2,fun y hy=>⟨(hk y hy).1,fun e=>?_⟩⟩
   rcases hv' y e with e | e
   ·exact (hk y hy).2 e
   ·have:=(fE ou hy).2;omega
  by_cases c:j<l.length
  ·rw [List.getElem?_append_left c] at hj
   obtain ⟨u1,h1,h2,h3⟩:=hes j q hj
   obtain ⟨k1,k2⟩:=keep h2 h3
   exact ⟨u1,by rw [List.getElem?_append_left (by omega)];exact h1,k1,k2⟩
  ·rw [List.getElem?_append_right (by omega)] at hj
   have hj0:j - l.length=0:=by
    have:=(List.getElem?_eq_some_iff.1 hj).1
    simp at this;omega
   rw [hj0] at hj
   cases hj
   obtain ⟨k1,k2⟩:=keep hu hb
   exact ⟨u,by rw [List.getElem?_append_right (by omega),hel,hj0];rfl,k1,k2⟩
end Go.Proofs.YtoaibmbldmckaaaGreat
end
section
namespace Go.AM
theorem bCk (z:List V) (fr:Option Nat) (S:St):aW 4 z 0 [] fr S=(match aR fr S (.row 0 4 []) with
  | .error e=>.error e
  | .ok (a,S')=>.ok (.sl a 0 4 0 0,S')):=by unfold aW;rw [if_pos (by decide)];rfl
theorem aFl {α:Type} {enc:α→List V} {n b:Nat} (hl:∀ x,(enc x).length=n∧aI (enc x)=true) (l:List α) {S:St} {a:Nat} (hg:aB S a 0=.ok (n,[])) (h1:l.length*b≤35184372088832) (h2:l.length<eE) (fr:Option Nat):
  eN n b (.sl a 0 n 0 0) (.imm (l.map enc)) fr S=.ok (.sl a 1 n 0 l.length,⟨S.next,S.heap.put a (.row 1 n (l.map enc))⟩):=by
 have hc:∀ cs,cs∈l.map enc→cs.length=n∧aI cs=true:=fun cs hc=>by obtain ⟨x,_,rfl⟩:=List.mem_map.1 hc;exact hl x
 obtain ⟨a1,a2⟩:=eJ hc
 simp only [eN,aM,a1,a2,and_self,if_true,hg,List.length_map,Nat.zero_add,List.length_nil,Nat.le_refl,h1,h2,List.drop_nil,List.take_nil,List.nil_append]
end Go.AM
namespace Go.Proofs.YtoaibmbldmckaaaGreat
open Go.AM Tryz
set_option linter.unusedVariables false
set_option linter.unusedSimpArgs false
set_option maxRecDepth 100000
structure BndC (s:State):Prop where
 bt:s.table.length≤1048576
 bs:s.ser.length≤1048576
 bp:s.posted.length≤100000
 bb:s.book.length≤1048576
 be:s.sess.length≤1048576
 bq:∀ p∈s.posted,p.total.parts.length≤1048576
theorem g26 (s:State) (b:BndC s) (S:St) (K:KW):C 26 [.agg [.imm (s.table.map Rate.enc),.imm (s.ser.map Ser.enc),.imm (s.posted.map Posted.enc),.imm (s.book.map Bal.enc),.imm (s.sess.map Sess.enc),.int .i64 s.next]] S K=
  K (.agg [.imm (s.table.map Rate.enc),.imm (s.ser.map Ser.enc),.imm (s.posted.map Posted.enc),.imm (s.book.map Bal.enc),.imm (s.sess.map Sess.enc),.int .i64 s.next]) S:=by
 refine (v26 rfl ?_).eq S K
 have hbt:=b.bt
 have hbs:=b.bs
 have hbp:=b.bp
 have hbb:=b.bb
 have hbe:=b.be
 obtain ⟨A0,hA0⟩:∃ A0:St,A0=⟨2+1,(((Tr.nil.put 0 (.row 0 6 [s.enc])).put 1 (.row 0 6 [zst])).put 2 (.row 0 6 [zst])).put 2 (.row 0 6 [[.nils,.nils,.nils,.nils,.nils,.int .i64 s.next]])⟩:=⟨_,rfl⟩
 have w0:WF A0:=by rw [hA0];exact lA (n:=3) (lA (n:=2) (lA (n:=1) (lA xD (by decide) (by decide)) (by decide) (by decide)) (by decide) (by decide)) (by decide) (by decide)
 have n0:A0.next=3:=by rw [hA0]
 have r0:aB A0 0 0=.ok (6,[s.enc]):=by rw [hA0];rfl
 have r1:aB A0 1 0=.ok (6,[zst]):=by rw [hA0];rfl
 have r2:aB A0 2 0=.ok (6,[[.nils,.nils,.nils,.nils,.nils,.int .i64 s.next]]):=by rw [hA0];rfl
 have cp:∀ {α:Type} {enc:α→List V} {n bb:Nat} (hl:∀ x,(enc x).length=n∧aI (enc x)=true) (l:List α) {A:St} (w:WF A) (_:3≤A.next) (_:l.length*bb≤35184372088832) (_:l.length<eE),∃ v A',eN n bb .nils (.imm (l.map enc)) none A=.ok (v,A')∧WF A'∧Own E0 A' n v (l.map enc)∧(∀ y,AM.blkOf v=some y→A.next≤y)∧Ext A A':=by
  intro α enc n bb hl l A w h3 h1 h2
  obtain ⟨v,A',q1,x,own⟩:=aVw (b:=bb) hl l w h1 h2
  exact ⟨v,A',q1,x.wf w,own.weaken (Nat.zero_le _),fun y hy=>(fE own hy).1,x⟩
 have fw:∀ {A:St} (cs:List V),WF A→3≤A.next→WF ⟨A.next,A.heap.put 2 (.row 0 6 [cs])⟩:=fun cs w h=>lA (n:=_) w (by omega) (Nat.le_refl _)
 have keepO:∀ {A:St} {n:Nat} {v:V} {es:List (List V)} (cs:List V),Own E0 A n v es→(∀ y,AM.blkOf v=some y→3≤y)→Own E0 ⟨A.next,A.heap.put 2 (.row 0 6 [cs])⟩ n v es:=fun cs o g=>o.same (Nat.le_refl _) fun y hy=>Tr.get_put_neB _ _ _ _ trivial (by have:=g y hy;omega)
 obtain ⟨v1,A1,q1,w1,o1,b1,x1⟩:=cp (bb:=48) bC4 s.table w0 (by omega) (by omega) (by unfold eE;omega)
 have m1:=x1.next
 have w1':=fw [v1,.nils,.nils,.nils,.nils,.int .i64 s.next] w1 (by omega)
 obtain ⟨v2,A2,q2,w2,o2,b2,x2⟩:=cp (bb:=40) bFw s.ser w1' (by show 3≤A1.next;omega) (by omega) (by unfold eE;omega)
 have m2:A1.next≤A2.next:=x2.next
 have w2':=fw [v1,v2,.nils,.nils,.nils,.int .i64 s.next] w2 (by omega)
 obtain ⟨v3,A3,q3,w3,o3,b3,x3⟩:=cp (bb:=24) aAl s.book w2' (by show 3≤A2.next;omega) (by omega) (by unfold eE;omega)
 have m3:A2.next≤A3.next:=x3.next
 have w3':=fw [v1,v2,.nils,v3,.nils,.int .i64 s.next] w3 (by omega)
 obtain ⟨v4,A4,q4,w4,o4,b4,x4⟩:=cp (bb:=40) bC3 s.sess w3' (by show 3≤A3.next;omega) (by omega) (by unfold eE;omega)
 have m4:A3.next≤A4.next:=x4.next
 have b2:∀ y,AM.blkOf v2=some y→A1.next≤y:=b2
 have b3:∀ y,AM.blkOf v3=some y→A2.next≤y:=b3
 have b4:∀ y,AM.blkOf v4=some y→A3.next≤y:=b4
 have g1:∀ y,AM.blkOf v1=some y→3≤y:=fun y hy=>by have:=b1 y hy;omega
 have g2:∀ y,AM.blkOf v2=some y→3≤y:=fun y hy=>by have:=b2 y hy;omega
 have g3:∀ y,AM.blkOf v3=some y→3≤y:=fun y hy=>by have:=b3 y hy;omega
 have g4:∀ y,AM.blkOf v4=some y→3≤y:=fun y hy=>by have:=b4 y hy;omega
 have u1:=keepO [v1,v2,.nils,v3,v4,.int .i64 s.next] ((keepO [v1,v2,.nils,v3,.nils,.int .i64 s.next] ((keepO [v1,v2,.nils,.nils,.nils,.int .i64 s.next] ((keepO [v1,.nils,.nils,.nils,.nils,.int .i64 s.next] o1 g1).ext x2) g1).ext x3) g1).ext x4) g1
 have u2:=keepO [v1,v2,.nils,v3,v4,.int .i64 s.next] ((keepO [v1,v2,.nils,v3,.nils,.int .i64 s.next] ((keepO [v1,v2,.nils,.nils,.nils,.int .i64 s.next] o2 g2).ext x3) g2).ext x4) g2
 have u3:=keepO [v1,v2,.nils,v3,v4,.int .i64 s.next] ((keepO [v1,v2,.nils,v3,.nils,.int .i64 s.next] o3 g3).ext x4) g3
 have u4:=keepO [v1,v2,.nils,v3,v4,.int .i64 s.next] o4 g4
 have e1:=o1.one
 have e2:=o2.one
 have e3:=o3.one
 have e4:=o4.one
 have f1:=o1.cells
 have f2:=o2.cells
 have f3:=o3.cells
 have f4:=o4.cells
 have k0:∀ {A A':St} {y:Nat} {n:Nat} {el:List (List V)} (cs:List V),y<2→Ext A A'→aB A y 0=.ok (n,el)→aB ⟨A'.next,A'.heap.put 2 (.row 0 6 [cs])⟩ y 0=.ok (n,el):=fun cs hy x h=>by
  refine bG (x.row h) ?_
  show (_:Tr Blk).get _=_
  exact Tr.get_put_neB _ _ _ _ trivial (by omega)
 have a1:=x1.row r0
 have a2:=x2.row (k0 [v1,.nils,.nils,.nils,.nils,.int .i64 s.next] (by decide) x1 r0)
 have a3:=x3.row (k0 [v1,v2,.nils,.nils,.nils,.int .i64 s.next] (by decide) x2 (k0 [v1,.nils,.nils,.nils,.nils,.int .i64 s.next] (by decide) x1 r0))
 have a4:=k0 [v1,v2,.nils,v3,v4,.int .i64 s.next] (by decide) x4 (k0 [v1,v2,.nils,v3,.nils,.int .i64 s.next] (by decide) x3 (k0 [v1,v2,.nils,.nils,.nils,.int .i64 s.next] (by decide) x2 (k0 [v1,.nils,.nils,.nils,.nils,.int .i64 s.next] (by decide) x1 r0)))
 have c4:=k0 [v1,v2,.nils,v3,v4,.int .i64 s.next] (by decide) x4 (k0 [v1,v2,.nils,v3,.nils,.int .i64 s.next] (by decide) x3 (k0 [v1,v2,.nils,.nils,.nils,.int .i64 s.next] (by decide) x2 (k0 [v1,.nils,.nils,.nils,.nils,.int .i64 s.next] (by decide) x1 r1)))
 have t1:=x1.row r2
 have t2:=x2.row (aF A1.next A1.heap 2 0 6 [[v1,.nils,.nils,.nils,.nils,.int .i64 s.next]])
 have t3:=x3.row (aF A2.next A2.heap 2 0 6 [[v1,v2,.nils,.nils,.nils,.int .i64 s.next]])
 have t4:=x4.row (aF A3.next A3.heap 2 0 6 [[v1,v2,.nils,v3,.nils,.int .i64 s.next]])
 simp only [State.enc] at r0 a1 a2 a3 a4 hA0
 simp only [zst] at hA0 c4 r1
 have ne0:((0:Nat)=2)=False:=by simp
 delta Tryz.f26;simp only [↓cw,↓reduceIte,Nat.reduceLT,kk,tP,←hA0,r0,r2,q1,a1,t1,e1,f1,q2,a2,t2,e2,f2,q3,a3,t3,e3,f3,q4,t4,e4,f4]
 obtain ⟨m,hm⟩:∃ m,m=A4.next:=⟨_,rfl⟩
 have oN:∀ {A A':St} {n:Nat} {v:V} {es:List (List V)},Own E0 A n v es→A.next≤A'.next→(∀ y,AM.blkOf v=some y→y<m)→(∀ y,3≤y→y<m→A'.heap.get y=A.heap.get y)→(∀ y,AM.blkOf v=some y→3≤y)→Own E0 A' n v es:=fun o hn hb hk hg=>o.same hn fun y hy=>hk y (hg y hy) (hb y hy)
 have l1:∀ y,AM.blkOf v1=some y→y<m:=fun y hy=>by have:=(fE u1 hy).2;show y<m;rw [hm];exact this
 have l2:∀ y,AM.blkOf v2=some y→y<m:=fun y hy=>by have:=(fE u2 hy).2;show y<m;rw [hm];exact this
 have l3:∀ y,AM.blkOf v3=some y→y<m:=fun y hy=>by have:=(fE u3 hy).2;show y<m;rw [hm];exact this
 have l4:∀ y,AM.blkOf v4=some y→y<m:=fun y hy=>by have:=(fE u4 hy).2;show y<m;rw [hm];exact this
 refine aG s.posted (step:=fun (_:Unit) (_:Posted)=>(.inr ():Unit⊕Unit)) (fin:=id) (fun i _ vs A=>vs=[.int .i64 (i:Int)]∧WF A∧m≤A.next∧aB A 0 0=.ok (6,[s.enc])∧aB A 1 0=.ok (6,[zst]) ∧
  Own E0 A 5 v1 (s.table.map Rate.enc)∧Own E0 A 4 v2 (s.ser.map Ser.enc)∧Own E0 A 2 v3 (s.book.map Bal.enc)∧Own E0 A 5 v4 (s.sess.map Sess.enc)∧∃ pv,aB A 2 0=.ok (6,[[v1,v2,pv,v3,v4,.int .i64 s.next]])∧Nest m A pv (s.posted.take i)) (fun _=>True) ?_ ?_ (s:=())
  ⟨rfl,fw _ w4 (by omega),by rw [hm];exact Nat.le_refl _,a4,c4,u1,u2,u3,u4,.nils,aF _ _ _ _ _ _,Nest.nil _ _⟩ trivial
 ·rintro i p _ vs A hi ⟨rfl,w,hA,i0,i1,z1,z2,z3,z4,pv,i2,ne⟩ aC H
  have hil:=(List.getElem?_eq_some_iff.1 hi).1
  have hpl:=b.bq p (List.mem_of_getElem? hi)
  obtain ⟨B,hB⟩:∃ B:St,B=⟨A.next+1,(A.heap.put A.next (.row 0 12 [sY])).put A.next (.row 0 12 [p.enc])⟩:=⟨_,rfl⟩
  have wB:WF B:=by rw [hB];exact lA (n:=A.next+1) (lA (n:=A.next) w (by omega) (Nat.le_succ _)) (by omega) (Nat.le_refl _)
  have nB:B.next=A.next+1:=by rw [hB]
  have kB:∀ y,y<A.next→B.heap.get y=A.heap.get y:=fun y hy=>by
   rw [hB]
   show ((A.heap.put A.next _).put A.next _).get y=_
   rw [Tr.get_put_neB _ _ _ _ trivial (by omega),Tr.get_put_neB _ _ _ _ trivial (by omega)]
  have rB:aB B A.next 0=.ok (12,[p.enc]):=by rw [hB];exact aF _ _ _ _ _ _
  obtain ⟨D,hD⟩:∃ D:St,D=⟨B.next+1,B.heap.put B.next (.row 0 4 [])⟩:=⟨_,rfl⟩
  have wD:WF D:=by rw [hD];exact lA (n:=B.next) wB (by omega) (by omega)
  have nD:D.next=A.next+2:=by rw [hD];show B.next+1=_;omega
  have kD:∀ y,y≤A.next→D.heap.get y=B.heap.get y:=fun y hy=>by rw [hD];exact Tr.get_put_neB _ _ _ _ trivial (by omega)
  have gD:aB D B.next 0=.ok (4,[]):=by rw [hD];exact aF _ _ _ _ _ _
  obtain ⟨u,hu⟩:∃ u,u=V.sl B.next 1 4 0 p.total.parts.length:=⟨_,rfl⟩
  have q5:=aFl (b:=40) aJf p.total.parts gD (by omega) (by unfold eE;omega) none
  obtain ⟨F,hF⟩:∃ F:St,F=⟨D.next,(D.heap.put B.next (.row 1 4 (p.total.parts.map Part.enc))).put A.next (.row 0 12 [p.cells u])⟩:=⟨_,rfl⟩
  have wF:WF F:=by rw [hF];exact lA (n:=D.next) (lA (n:=D.next) wD (by omega) (Nat.le_refl _)) (by omega) (Nat.le_refl _)
  have nF:F.next=A.next+2:=by rw [hF];exact nD
  have kF:∀ y,y<A.next→F.heap.get y=A.heap.get y:=fun y hy=>by
   rw [hF]
   show ((D.heap.put B.next _).put A.next _).get y=_
   rw [Tr.get_put_neB _ _ _ _ trivial (by omega),Tr.get_put_neB _ _ _ _ trivial (by omega),kD y (by omega),kB y hy]
  have gF:F.heap.get B.next=some (.row 1 4 (p.total.parts.map Part.enc)):=by
   rw [hF]
   show ((D.heap.put B.next _).put A.next _).get B.next=_
   rw [Tr.get_put_neB _ _ _ _ trivial (by omega)]
   exact Tr.get_put_sameB _ _ _ trivial
  have hou:Own E0 F 4 u (p.total.parts.map Part.enc):=⟨.inr ⟨B.next,1,[],by rw [hu,List.length_map],Nat.zero_le _,by omega,by rw [List.append_nil];exact gF⟩,fun c hc=>by obtain ⟨x,_,rfl⟩:=List.mem_map.1 hc;exact aJf x⟩
  have hbu:∀ y,AM.blkOf u=some y→y=B.next:=fun y hy=>by rw [hu] at hy;cases hy;rfl
  have j0:=bG i0 (kF 0 (by omega))
  have j1:=bG i1 (kF 1 (by omega))
  have j2:=bG i2 (kF 2 (by omega))
  have rF:aB F A.next 0=.ok (12,[p.cells u]):=by rw [hF];exact aF _ _ _ _ _ _
  have neF:=ne.same (S':=F) (by omega) fun y _ hy=>kF y hy
  obtain ⟨pv',G,q6,ne',wG,nG,kG⟩:=neF.push wF p hou (fun y hy=>⟨by have:=hbu y hy;omega,fun e=>by have:=hbu y hy;have:=(ne.lt e).2;omega⟩) (by omega) (by rw [List.length_take];omega)
  have hpv:∀ y,AM.blkOf pv=some y→m≤y∧y<A.next:=fun y hy=>ne.lt hy
  have kG':∀ y,y<m→G.heap.get y=A.heap.get y:=fun y hy=>by rw [kG y (by omega) fun e=>by have:=hpv y e;omega,kF y (by omega)]
  have h0:=bG i0 (kG' 0 (by omega))
  have h1:=bG i1 (kG' 1 (by omega))
  have h2:=bG i2 (kG' 2 (by omega))
  have hone:pv'.one=true∧pv'.cells=[pv']:=ne'.one
  have rD0:=bG (bG i0 (kB 0 (by omega))) (kD 0 (by omega))
  have rB0:=bG i0 (kB 0 (by omega))
  have rD2:aB D A.next 0=.ok (12,[p.enc]):=bG rB (kD _ (Nat.le_refl _))
  have hF1:(⟨D.next,D.heap.put B.next (.row 1 4 (p.total.parts.map Part.enc))⟩:St).heap.get A.next=D.heap.get A.next:=Tr.get_put_neB _ _ _ _ trivial (by omega)
  have rE2:=bG rD2 hF1
  simp only [State.enc] at i0 rD0 rB0
  simp only [Posted.enc] at hB rB rD2 rE2
  simp only [sY] at hB
  simp only [Posted.cells,hu] at rF hF
  simp only [Posted.cells,hu] at q6
  simp only [↓cw,↓reduceIte,Nat.reduceLT,kk,aY hi,i0,fM hi,Posted.enc,←hB,bCk,←hD,rD0,q5,rE2,←hF,j2,rF,bC1,q6,h2,hone.1,hone.2,fV (show i<1000000000 by omega),Nat.zero_add]
  have hk2:∀ (y:Nat) (b:Blk),3≤y→y<m→(⟨G.next,G.heap.put 2 b⟩:St).heap.get y=A.heap.get y:=fun y b h3 hy=>by
   show (G.heap.put 2 b).get y=_
   rw [Tr.get_put_neB _ _ _ _ trivial (by omega)];exact kG' y hy
  refine H _ _ ⟨rfl,lA (n:=G.next) wG (by omega) (Nat.le_refl _),by show m≤G.next;omega,bB (n:=G.next) (by decide) h0,bB (n:=G.next) (by decide) h1,oN z1 (by show A.next≤G.next;omega) l1 (fun y h3 hy=>hk2 y _ h3 hy) g1,oN z2 (by show A.next≤G.next;omega) l2 (fun y h3 hy=>hk2 y _ h3 hy) g2,oN z3 (by show A.next≤G.next;omega) l3 (fun y h3 hy=>hk2 y _ h3 hy) g3,oN z4 (by show A.next≤G.next;omega) l4 (fun y h3 hy=>hk2 y _ h3 hy) g4,pv',aF _ _ _ _ _ _,?_⟩
  have ht:s.posted.take (i+1)=s.posted.take i++[p]:=by rw [List.take_add_one,hi];rfl
  rw [ht]
  exact ne'.same (Nat.le_refl _) fun y hy _=>Tr.get_put_neB _ _ _ _ trivial (by omega)
 ·rintro _ vs A ⟨rfl,w,hA,i0,i1,z1,z2,z3,z4,pv,i2,ne⟩ aC H
  rw [List.take_length] at ne
  simp only [zst] at i1
  simp only [State.enc] at i0
  have hone:pv.one=true∧pv.cells=[pv]:=ne.one
  simp only [↓cw,↓reduceIte,Nat.reduceLT,kk,Int.lt_irrefl,if_false,i0,i2,i1,e1,e2,e3,e4,f1,f2,f3,f4,hone.1,hone.2]
  have hk1:∀ (y:Nat) (b:Blk),3≤y→y<m→(⟨A.next,A.heap.put 1 b⟩:St).heap.get y=A.heap.get y:=fun y b h3 hy=>Tr.get_put_neB _ _ _ _ trivial (by omega)
  have y1:=(oN z1 (A':=⟨A.next,A.heap.put 1 (.row 0 6 [[v1,v2,pv,v3,v4,.int .i64 s.next]])⟩) (Nat.le_refl _) l1 (fun y h3 hy=>hk1 y _ h3 hy) g1).out fun _=>rfl
  have y2:=(oN z2 (A':=⟨A.next,A.heap.put 1 (.row 0 6 [[v1,v2,pv,v3,v4,.int .i64 s.next]])⟩) (Nat.le_refl _) l2 (fun y h3 hy=>hk1 y _ h3 hy) g2).out fun _=>rfl
  have y3:=(oN z3 (A':=⟨A.next,A.heap.put 1 (.row 0 6 [[v1,v2,pv,v3,v4,.int .i64 s.next]])⟩) (Nat.le_refl _) l3 (fun y h3 hy=>hk1 y _ h3 hy) g3).out fun _=>rfl
  have y4:=(oN z4 (A':=⟨A.next,A.heap.put 1 (.row 0 6 [[v1,v2,pv,v3,v4,.int .i64 s.next]])⟩) (Nat.le_refl _) l4 (fun y h3 hy=>hk1 y _ h3 hy) g4).out fun _=>rfl
  have y5:=(ne.same (S':=⟨A.next,A.heap.put 1 (.row 0 6 [[v1,v2,pv,v3,v4,.int .i64 s.next]])⟩) (Nat.le_refl _) fun y hy _=>Tr.get_put_neB _ _ _ _ trivial (by omega)).out
  simp only [oo,y1,y2,y3,y4,y5]
end Go.Proofs.YtoaibmbldmckaaaGreat
end
section
namespace Go.Pack
def nb (u:Nat):List UInt8:=if h:u<128 then [UInt8.ofNat u] else UInt8.ofNat (u % 128+128)::nb (u / 128)
termination_by u
decreasing_by omega
theorem nb_low {u:Nat} (h:u<128):nb u=[UInt8.ofNat u]:=by rw [nb,dif_pos h]
theorem nb_high {u:Nat} (h:¬ u<128):nb u=UInt8.ofNat (u % 128+128)::nb (u / 128):=by rw [nb,dif_neg h]
def rdL:Nat→Nat→List UInt8→Except Int (Nat×List UInt8)
 | _,_,[]=>.error 3
 | i,acc,c::t=>if i=9∧1<c.toNat then .error 4 else if 128≤c.toNat then rdL (i+1) (acc+c.toNat % 128*2 ^ (7*i)) t else if c.toNat=0∧0<i then .error 4 else .ok (acc+c.toNat % 128*2 ^ (7*i),t)
theorem byte_lt {u:Nat} (h:u<256):(UInt8.ofNat u).toNat=u:=by
 rw [UInt8.toNat_ofNat'];exact Nat.mod_eq_of_lt h
theorem zS {i:Nat} (h:i≤9):i=0∨i=1∨i=2∨i=3∨i=4∨i=5∨i=6∨i=7∨i=8∨i=9:=by omega
theorem bCl {u i:Nat} (h:u<2 ^ (64 - 7*i)) (hi:i≤9) (h2:¬ u<128):i≤8∧u / 128<2 ^ (64 - 7*(i+1)):=by
 rcases zS hi with rfl | rfl | rfl | rfl | rfl | rfl | rfl | rfl | rfl | rfl<;>simp only [Nat.reduceMul,Nat.reduceSub,Nat.reducePow,Nat.reduceAdd] at h ⊢<;>omega
theorem aPn {u i acc:Nat} (hi:i≤9):acc+u % 128*2 ^ (7*i)+u / 128*2 ^ (7*(i+1))=acc+u*2 ^ (7*i):=by
 have e:7*(i+1)=7*i+7:=by omega
 rw [e,Nat.pow_add,Nat.add_assoc,←Nat.mul_assoc,Nat.mul_right_comm (u / 128),←Nat.add_mul]
 have h:u % 128+u / 128*2 ^ 7=u:=by show u % 128+u / 128*128=u;omega
 rw [h]
theorem aW4:∀ (n u i acc:Nat) (t:List UInt8),u≤n→u<2 ^ (64 - 7*i)→i≤9→(0<i→0<u)→rdL i acc (nb u++t)=.ok (acc+u*2 ^ (7*i),t)
 | n,u,i,acc,t,hn,hu,hi,hp=>by
  by_cases h:u<128
  ·rw [nb_low h]
   show rdL i acc (UInt8.ofNat u::t)=_
   unfold rdL
   rw [byte_lt (by omega)]
   have h9:¬ (i=9∧1<u):=by
    rintro ⟨rfl,h1⟩
    have:u<2:=hu
    omega
   rw [if_neg h9,if_neg (by omega),if_neg (by rintro ⟨h1,h2⟩;have:=hp h2;omega),Nat.mod_eq_of_lt h]
  ·obtain ⟨h8,hd⟩:=bCl hu hi h
   rw [nb_high h]
   show rdL i acc (UInt8.ofNat (u % 128+128)::(nb (u / 128)++t))=_
   unfold rdL
   rw [byte_lt (by omega),if_neg (by omega),if_pos (by omega)]
   cases n with
   | zero=>omega
   | succ n=>
    rw [aW4 n (u / 128) (i+1) _ t (by omega) hd (by omega) (fun _=>by omega)]
    have e:(u % 128+128) % 128=u % 128:=by omega
    rw [e,aPn hi]
theorem aW5 (c:UInt8):UInt8.ofNat c.toNat=c:=UInt8.ofNat_toNat
theorem aJp:∀ (b:List UInt8) (i acc v:Nat) (t:List UInt8),i≤9→rdL i acc b=.ok (v,t)→∃ u,v=acc+u*2 ^ (7*i)∧b=nb u++t∧(0<i→0<u)∧u<2 ^ (64 - 7*i)
 | [],i,acc,v,t,hi,h=>by cases h
 | c::b,i,acc,v,t,hi,h=>by
  have hc:c.toNat<256:=c.toNat_lt
  unfold rdL at h
  split at h
  ·cases h
  ·rename_i h9
   split at h
   ·rename_i h128
    have h8:i≤8:=by omega
    obtain ⟨u,e1,e2,e3,e4⟩:=aJp b (i+1) _ v t (by omega) h
    have hp:=e3 (by omega)
    refine ⟨c.toNat - 128+u*128,?_,?_,fun _=>by omega,?_⟩
    ·have hs:=aPn (u:=c.toNat - 128+u*128) (acc:=acc) hi
     have k1:(c.toNat - 128+u*128) % 128=c.toNat % 128:=by omega
     have k2:(c.toNat - 128+u*128) / 128=u:=by omega
     rw [k1,k2] at hs
     rw [e1,hs]
    ·rw [nb_high (by omega)]
     have k1:(c.toNat - 128+u*128) % 128+128=c.toNat:=by omega
     have k2:(c.toNat - 128+u*128) / 128=u:=by omega
     rw [k1,k2,aW5,e2];rfl
    ·rcases zS (show i≤9 from hi) with rfl | rfl | rfl | rfl | rfl | rfl | rfl | rfl | rfl | rfl<;>simp only [Nat.reduceMul,Nat.reduceSub,Nat.reducePow,Nat.reduceAdd] at e4 ⊢<;>omega
   ·rename_i h128
    split at h
    ·cases h
    ·rename_i h0
     cases h
     refine ⟨c.toNat,by rw [Nat.mod_eq_of_lt (by omega)],?_,fun hp=>by omega,?_⟩
     ·rw [nb_low (by omega),aW5];rfl
     ·rcases zS hi with rfl | rfl | rfl | rfl | rfl | rfl | rfl | rfl | rfl | rfl<;>simp only [Nat.reduceMul,Nat.reduceSub,Nat.reducePow,Nat.reduceAdd]<;>omega
def zig (n:Int):Nat:=if 0≤n then (2*n).toNat else (-2*n - 1).toNat
def zag (u:Nat):Int:=if u % 2=1 then -((u / 2:Nat):Int) - 1 else ((u / 2:Nat):Int)
theorem aRw (n:Int):zag (zig n)=n:=by unfold zag zig;split<;>split<;>omega
theorem aRx (u:Nat):zig (zag u)=u:=by unfold zag zig;split<;>split<;>omega
theorem zig_lt {n:Int} (h:-9223372036854775808≤n∧n≤9223372036854775807):zig n<2 ^ 64:=by unfold zig;split<;>omega
theorem aLm {u:Nat} (h:u<2 ^ 64):-9223372036854775808≤zag u∧zag u≤9223372036854775807:=by unfold zag;split<;>omega
def numP (n:Int):List UInt8:=nb (zig n)
def aHe (b:List UInt8):Except Int (Int×List UInt8):=match rdL 0 0 b with
 | .ok (u,t)=>.ok (zag u,t)
 | .error e=>.error e
theorem aBy {n:Int} (h:-9223372036854775808≤n∧n≤9223372036854775807) (t:List UInt8):aHe (numP n++t)=.ok (n,t):=by
 unfold aHe numP
 rw [aW4 (zig n) (zig n) 0 0 t (Nat.le_refl _) (zig_lt h) (by omega) (fun q=>absurd q (by omega))]
 simp only [Nat.zero_add,Nat.mul_zero,Nat.pow_zero,Nat.mul_one,aRw]
theorem aFm {b:List UInt8} {n:Int} {t:List UInt8} (h:aHe b=.ok (n,t)):b=numP n++t∧-9223372036854775808≤n∧n≤9223372036854775807:=by
 unfold aHe at h
 cases e:rdL 0 0 b with
 | error x=>rw [e] at h;cases h
 | ok r=>
  obtain ⟨u,t'⟩:=r
  rw [e] at h
  cases h
  obtain ⟨u',e1,e2,_,e4⟩:=aJp b 0 0 u t (by omega) e
  have:u=u':=by rw [e1];simp
  subst this
  unfold numP
  rw [aRx]
  exact ⟨e2,aLm e4⟩
structure Cod (α:Type) where
 put:α→List UInt8
 get:List UInt8→Except Int (α×List UInt8)
 ok:α→Prop
 pos:∀ a,1≤(put a).length
 there:∀ a t,ok a→get (put a++t)=.ok (a,t)
 back:∀ b a t,get b=.ok (a,t)→b=put a++t∧ok a
theorem nb_pos:∀ u,1≤(nb u).length:=fun u=>by
 by_cases h:u<128
 ·rw [nb_low h];exact Nat.le_refl _
 ·rw [nb_high h,List.length_cons];omega
def aW7 (n:Int):Prop:=-9223372036854775808≤n∧n≤9223372036854775807
def num:Cod Int:=⟨numP,aHe,aW7,fun a=>nb_pos _,fun a t h=>aBy h t,fun b a t h=>aFm h⟩
def Cod.only {α:Type} (c:Cod α) (p:α→Bool) (e:Int):Cod α where
 put:=c.put
 get:=fun b=>match c.get b with
  | .ok (a,t)=>if p a=true then .ok (a,t) else .error e
  | .error x=>.error x
 ok:=fun a=>c.ok a∧p a=true
 pos:=c.pos
 there:=fun a t h=>by simp only [c.there a t h.1,h.2,if_true]
 back:=fun b a t h=>by
  cases e:c.get b with
  | error x=>rw [e] at h;cases h
  | ok r=>
   obtain ⟨a',t'⟩:=r
   rw [e] at h
   simp only at h
   split at h
   ·rename_i hp
    cases h
    exact ⟨(c.back b _ _ e).1,(c.back b _ _ e).2,hp⟩
   ·cases h
def Cod.both {α β:Type} (c:Cod α) (d:Cod β):Cod (α×β) where
 put:=fun x=>c.put x.1++d.put x.2
 get:=fun b=>match c.get b with
  | .ok (a,t)=>(match d.get t with
   | .ok (x,t')=>.ok ((a,x),t')
   | .error x=>.error x)
  | .error x=>.error x
 ok:=fun x=>c.ok x.1∧d.ok x.2
 pos:=fun x=>by rw [List.length_append];have:=c.pos x.1;omega
 there:=fun x t h=>by
  rw [List.append_assoc]
  simp only [c.there x.1 _ h.1,d.there x.2 t h.2]
 back:=fun b x t h=>by
  cases e:c.get b with
  | error y=>rw [e] at h;cases h
  | ok r=>
   obtain ⟨a,t1⟩:=r
   rw [e] at h
   simp only at h
   cases e2:d.get t1 with
   | error y=>rw [e2] at h;cases h
   | ok r2=>
    obtain ⟨x2,t2⟩:=r2
    rw [e2] at h
    cases h
    obtain ⟨b1,o1⟩:=c.back b _ _ e
    obtain ⟨b2,o2⟩:=d.back t1 _ _ e2
    exact ⟨by rw [b1,b2,List.append_assoc],o1,o2⟩
def Cod.map {α β:Type} (c:Cod α) (f:α→β) (g:β→α) (hf:∀ a,g (f a)=a) (hg:∀ b,f (g b)=b):Cod β where
 put:=fun b=>c.put (g b)
 get:=fun l=>match c.get l with
  | .ok (a,t)=>.ok (f a,t)
  | .error x=>.error x
 ok:=fun b=>c.ok (g b)
 pos:=fun b=>c.pos _
 there:=fun b t h=>by simp only [c.there (g b) t h,hg]
 back:=fun l b t h=>by
  cases e:c.get l with
  | error y=>rw [e] at h;cases h
  | ok r=>
   obtain ⟨a,t1⟩:=r
   rw [e] at h
   cases h
   rw [hf]
   exact c.back l _ _ e
def aFn (most:Nat) (n:Int):Bool:=decide (0≤n)&&decide (n≤most)
def upto (most:Nat):Cod Int:=num.only (aFn most) 2
theorem aBz {most n:Nat} (h:n≤most):aFn most (n:Int)=true:=by
 unfold aFn
 rw [decide_eq_true (by omega),decide_eq_true (by omega)];rfl
def aPo (most:Nat) (b:List UInt8):Except Int (List UInt8×List UInt8):=match (upto most).get b with
 | .ok (n,t)=>if n≤(t.length:Int) then .ok (t.take n.toNat,t.drop n.toNat) else .error 3
 | .error x=>.error x
def text (most:Nat) (hm:most≤1000000):Cod (List UInt8) where
 put:=fun s=>numP s.length++s
 get:=aPo most
 ok:=fun s=>s.length≤most
 pos:=fun s=>by rw [List.length_append];have:=nb_pos (zig s.length);show 1≤(numP s.length).length+_;unfold numP;omega
 there:=fun s t h=>by
  have e:(upto most).get (numP s.length++(s++t))=.ok ((s.length:Int),s++t):=(upto most).there (s.length:Int) (s++t) ⟨⟨by omega,by omega⟩,aBz h⟩
  unfold aPo
  rw [List.append_assoc,e]
  simp only [List.length_append]
  rw [if_pos (by omega)]
  have k:((s.length:Int)).toNat=s.length:=by omega
  rw [k,List.take_left',List.drop_left']<;>rfl
 back:=fun b s t h=>by
  unfold aPo at h
  cases e:(upto most).get b with
  | error y=>rw [e] at h;cases h
  | ok r=>
   obtain ⟨n,t1⟩:=r
   rw [e] at h
   simp only at h
   split at h
   ·rename_i hn
    cases h
    obtain ⟨b1,⟨i1,i2⟩,hp⟩:=(upto most).back b _ _ e
    unfold aFn at hp
    simp only [Bool.and_eq_true,decide_eq_true_eq] at hp
    have hl:(t1.take n.toNat).length=n.toNat:=by rw [List.length_take];omega
    refine ⟨?_,by rw [hl];omega⟩
    rw [b1,hl,List.append_assoc,List.take_append_drop]
    have k:((n.toNat:Nat):Int)=n:=by omega
    rw [k];rfl
   ·cases h
def zU {α:Type} (c:Cod α):Nat→List UInt8→Except Int (List α×List UInt8)
 | 0,b=>.ok ([],b)
 | n+1,b=>match c.get b with
  | .ok (a,t)=>(match zU c n t with
   | .ok (l,t')=>.ok (a::l,t')
   | .error x=>.error x)
  | .error x=>.error x
theorem zV {α:Type} (c:Cod α):∀ (l:List α) (t:List UInt8),(∀ a∈l,c.ok a)→zU c l.length (l.flatMap c.put++t)=.ok (l,t)
 | [],t,_=>rfl
 | a::l,t,h=>by
  rw [List.flatMap_cons,List.append_assoc,List.length_cons]
  unfold zU
  rw [c.there a _ (h a (List.mem_cons_self ..))]
  simp only [zV c l t fun x hx=>h x (List.mem_cons_of_mem _ hx)]
theorem aC0 {α:Type} (c:Cod α):∀ (n:Nat) (b:List UInt8) (l:List α) (t:List UInt8),zU c n b=.ok (l,t)→b=l.flatMap c.put++t∧l.length=n∧∀ a∈l,c.ok a
 | 0,b,l,t,h=>by cases h;exact ⟨rfl,rfl,fun a ha=>(by cases ha)⟩
 | n+1,b,l,t,h=>by
  unfold zU at h
  cases e:c.get b with
  | error y=>rw [e] at h;cases h
  | ok r=>
   obtain ⟨a,t1⟩:=r
   rw [e] at h
   simp only at h
   cases e2:zU c n t1 with
   | error y=>rw [e2] at h;cases h
   | ok r2=>
    obtain ⟨l2,t2⟩:=r2
    rw [e2] at h
    cases h
    obtain ⟨b1,o1⟩:=c.back b _ _ e
    obtain ⟨b2,o2,o3⟩:=aC0 c n t1 _ _ e2
    refine ⟨by rw [b1,b2,List.flatMap_cons,List.append_assoc],by rw [List.length_cons,o2],fun x hx=>?_⟩
    rcases List.mem_cons.1 hx with rfl | hx
    ·exact o1
    ·exact o3 x hx
theorem aFo {α:Type} (c:Cod α):∀ l:List α,l.length≤(l.flatMap c.put).length
 | []=>Nat.le_refl _
 | a::l=>by
  have:=aFo c l
  have:=c.pos a
  rw [List.flatMap_cons,List.length_append,List.length_cons];omega
end Go.Pack
end
section
namespace Go.Pack
set_option linter.unusedVariables false
set_option linter.unusedSimpArgs false
set_option maxRecDepth 100000
def aPp {α:Type} (c:Cod α) (most:Nat) (b:List UInt8):Except Int (List α×List UInt8):=match (upto most).get b with
 | .ok (n,t)=>if n≤(t.length:Int) then zU c n.toNat t else .error 3
 | .error x=>.error x
def Cod.list {α:Type} (c:Cod α) (most:Nat) (hm:most≤1000000):Cod (List α) where
 put:=fun l=>numP l.length++l.flatMap c.put
 get:=aPp c most
 ok:=fun l=>l.length≤most∧∀ a∈l,c.ok a
 pos:=fun l=>by rw [List.length_append];have:=nb_pos (zig l.length);show 1≤(numP l.length).length+_;unfold numP;omega
 there:=fun l t h=>by
  have e:(upto most).get (numP l.length++(l.flatMap c.put++t))=.ok ((l.length:Int),l.flatMap c.put++t):=(upto most).there (l.length:Int) _ ⟨⟨by have:=h.1;omega,by have:=h.1;omega⟩,aBz h.1⟩
  unfold aPp
  rw [List.append_assoc,e]
  simp only [List.length_append]
  have:=aFo c l
  rw [if_pos (by omega)]
  have k:((l.length:Int)).toNat=l.length:=by omega
  rw [k]
  exact zV c l t h.2
 back:=fun b l t h=>by
  unfold aPp at h
  cases e:(upto most).get b with
  | error y=>rw [e] at h;cases h
  | ok r=>
   obtain ⟨n,t1⟩:=r
   rw [e] at h
   simp only at h
   split at h
   ·obtain ⟨b1,⟨i1,i2⟩,hp⟩:=(upto most).back b _ _ e
    unfold aFn at hp
    simp only [Bool.and_eq_true,decide_eq_true_eq] at hp
    obtain ⟨b2,o2,o3⟩:=aC0 c n.toNat t1 _ _ h
    refine ⟨?_,by rw [o2];omega,o3⟩
    have k:((l.length:Nat):Int)=n:=by rw [o2];omega
    rw [b1,b2,k,List.append_assoc];rfl
   ·cases h
def aPq (b:List UInt8):Except Int (Bool×List UInt8):=match aHe b with
 | .ok (n,t)=>if n=0 then .ok (false,t) else if n=1 then .ok (true,t) else .error 4
 | .error x=>.error x
def flag:Cod Bool where
 put:=fun f=>numP (if f then 1 else 0)
 get:=aPq
 ok:=fun _=>True
 pos:=fun f=>nb_pos _
 there:=fun f t _=>by
  unfold aPq
  rw [aBy (by split<;>decide)]
  cases f<;>rfl
 back:=fun b f t h=>by
  unfold aPq at h
  cases e:aHe b with
  | error y=>rw [e] at h;cases h
  | ok r=>
   obtain ⟨n,t1⟩:=r
   rw [e] at h
   simp only at h
   obtain ⟨b1,_⟩:=aFm e
   split at h
   ·rename_i h0
    cases h
    exact ⟨by rw [b1,h0];rfl,trivial⟩
   ·split at h
    ·rename_i h1
     cases h
     exact ⟨by rw [b1,h1];rfl,trivial⟩
    ·cases h
end Go.Pack
namespace Go.Proofs.YtoaibmbldmckaaaGreat
open Go.AM Go.Pack Tryz
set_option linter.unusedVariables false
set_option linter.unusedSimpArgs false
set_option maxRecDepth 100000
def txt:Cod (List UInt8):=Go.Pack.text 64 (by decide)
def gR:Cod Date:=(num.both (num.both num)).map (fun x=>⟨x.1,x.2.1,x.2.2⟩) (fun d=>(d.y,d.m,d.d)) (fun _=>rfl) (fun _=>rfl)
def zW:Cod Rate:=(txt.both (gR.both num)).map (fun x=>⟨x.1,x.2.1,x.2.2⟩) (fun r=>(r.cat,r.day,r.bp)) (fun _=>rfl) (fun _=>rfl)
structure SerI where
 name:List UInt8
 limit:Int
 shut:Bool
def aHf:Cod SerI:=(txt.both (num.both flag)).map (fun x=>⟨x.1,x.2.1,x.2.2⟩) (fun r=>(r.name,r.limit,r.shut)) (fun _=>rfl) (fun _=>rfl)
structure PartI where
 cat:List UInt8
 bp:Int
 net:Int
def aC1:Cod PartI:=(txt.both (num.both num)).map (fun x=>⟨x.1,x.2.1,x.2.2⟩) (fun r=>(r.cat,r.bp,r.net)) (fun _=>rfl) (fun _=>rfl)
structure PostI where
 ser:List UInt8
 day:Date
 ofSer:List UInt8
 ofNum:Int
 parts:List PartI
def aFp:Cod PostI:=(txt.both (gR.both (txt.both (num.both (aC1.list 12 (by decide)))))).map (fun x=>⟨x.1,x.2.1,x.2.2.1,x.2.2.2.1,x.2.2.2.2⟩) (fun r=>(r.ser,r.day,r.ofSer,r.ofNum,r.parts)) (fun _=>rfl) (fun _=>rfl)
structure SessI where
 id:Int
 last:Int
 why:Int
 number:Int
 gross:Int
def zX:Cod SessI:=(num.both (num.both (num.both (num.both num)))).map (fun x=>⟨x.1,x.2.1,x.2.2.1,x.2.2.2.1,x.2.2.2.2⟩) (fun r=>(r.id,r.last,r.why,r.number,r.gross)) (fun _=>rfl) (fun _=>rfl)
structure ImgI where
 table:List Rate
 ser:List SerI
 posted:List PostI
 sess:List SessI
 next:Int
def aRy:Cod ImgI:=((zW.list 24 (by decide)).both ((aHf.list 8 (by decide)).both ((aFp.list 40 (by decide)).both ((zX.list 8 (by decide)).both num)))).map (fun x=>⟨x.1,x.2.1,x.2.2.1,x.2.2.2.1,x.2.2.2.2⟩) (fun r=>(r.table,r.ser,r.posted,r.sess,r.next)) (fun _=>rfl) (fun _=>rfl)
end Go.Proofs.YtoaibmbldmckaaaGreat
end
section
namespace Go.Pack
theorem aPr:∀ (k u:Nat),u<128 ^ (k+1)→(nb u).length≤k+1
 | 0,u,h=>by rw [nb_low (by simpa using h)];exact Nat.le_refl _
 | k+1,u,h=>by
  by_cases c:u<128
  ·rw [nb_low c];show 1≤_;omega
  ·rw [nb_high c,List.length_cons]
   have:u / 128<128 ^ (k+1):=by
    rw [Nat.div_lt_iff_lt_mul (by decide)]
    rw [Nat.pow_succ] at h
    exact h
   have:=aPr k (u / 128) this
   omega
theorem numP_len {n:Int} (h:aW7 n):(numP n).length≤10:=by
 have h1:=zig_lt h
 exact aPr 9 (zig n) (Nat.lt_trans h1 (by decide))
def Cod.Len {α:Type} (c:Cod α) (p:α→Prop) (n:Nat):Prop:=∀ a,p a→(c.put a).length≤n
theorem Len.flag:flag.Len (fun _=>True) 10:=fun f _=>by
 show (numP (if f then 1 else 0)).length≤10
 exact numP_len (by split<;>exact ⟨by decide,by decide⟩)
end Go.Pack
end
section
namespace Go.Proofs.YtoaibmbldmckaaaGreat
open Go.AM Go.Pack Tryz
def vM (p:Part):PartI:=⟨p.cat,p.bp,p.net⟩
def oS (p:Posted):PostI:=⟨p.ref.ser,p.day,p.of.ser,p.of.num,p.total.parts.map vM⟩
def aDm (s:Ser):SerI:=⟨s.name,s.limit,s.shut⟩
def tK (s:Sess):SessI:=⟨s.id,s.last,s.reply.why,s.reply.number,s.reply.gross⟩
def aHg (s:State):ImgI:=⟨s.table,s.ser.map aDm,s.posted.map oS,s.sess.map tK,s.next⟩
def eC (s:State):List UInt8:=if fL s=false then [] else aRy.put (aHg s)
def IR (r:Rep):Prop:=I64 r.why∧I64 r.number∧I64 r.gross
def aRz (s:State):Prop:=∀ x∈s.sess,IR x.reply
theorem I64.small {n:Int} (h:0≤n∧n≤1099511627777):I64 n:=⟨by omega,by omega⟩
theorem aLn {s:State} (hr:fL s=true) (hi:aFk s) {q:Posted} (hq:q∈s.posted):I64 q.ref.num∧I64 q.total.gross:=by
 obtain ⟨_,_,_,h4,h5,_⟩:=(mY s).1 hr
 obtain ⟨h40,hO,_⟩:=(fT _).1 h4
 obtain ⟨i,hi'⟩:=List.getElem?_of_mem hq
 have h1:=(h5.num i q hi').2
 have h2:=aDl (s.posted.take i) q.ref.ser
 have h3:=kH (s.posted.take i) q.ref.ser
 have hl:(s.posted.take i).length≤s.posted.length:=by rw [List.length_take];omega
 refine ⟨I64.small (by omega),?_⟩
 obtain ⟨_,b2,_,_,b5⟩:=(fS _).1 (hO i q hi').2.1
 exact ((uN (fun p hp=>(hi q hq p hp).1) (fun p hp=>(hi q hq p hp).2) (by omega)).1 b5).2.2.1
theorem aS0 (n:Int) (h1:-9000000000≤n) (h2:n≤9000000000000):I64 n:=⟨by omega,by omega⟩
theorem aPs {s:State} (hr:fL s=true) (hi:aFk s) (hq:aRz s):aRy.ok (aHg s):=by
 obtain ⟨h1,h2,h3,h4,h5,_⟩:=(mY s).1 hr
 obtain ⟨t1,t2,_⟩:=(zM _).1 h1
 obtain ⟨s1,s2,_⟩:=(kE _).1 h2
 obtain ⟨e1,e2,_,e3,e4,e5⟩:=h3
 obtain ⟨h40,hO,_⟩:=(fT _).1 h4
 have day:∀ d:Date,d.right=true→gR.ok d:=fun d hd=>by
  obtain ⟨a,b,c,d1,e,f⟩:=(aLk d).1 hd
  have:=(zP d.y d.m).2
  exact ⟨aS0 d.y (by omega) (by omega),aS0 d.m (by omega) (by omega),aS0 d.d (by omega) (by omega)⟩
 have txt:∀ n:List UInt8,dX n=true→txt.ok n:=fun n hn=>by have:=uG hn;show n.length≤64;omega
 refine ⟨⟨t1,fun r hr'=>?_⟩,⟨?_,?_⟩,⟨?_,?_⟩,⟨?_,?_⟩,⟨by show _≤s.next;omega,by show s.next≤_;omega⟩⟩
 ·obtain ⟨a,b,c,d⟩:=aDh (t2 r hr')
  exact ⟨txt _ a,day _ b,aS0 r.bp (by omega) (by omega)⟩
 ·show (s.ser.map aDm).length≤8
  rw [List.length_map];exact s1
 ·intro x hx
  obtain ⟨y,hy,rfl⟩:=List.mem_map.1 hx
  obtain ⟨a,b⟩:=s2 y hy
  unfold mS at b
  simp only [Bool.or_eq_false_iff,decide_eq_false_iff_not] at b
  exact ⟨txt _ a,⟨by show _≤y.limit;omega,by show y.limit≤_;omega⟩,trivial⟩
 ·show (s.posted.map oS).length≤40
  rw [List.length_map];exact h40
 ·intro x hx
  obtain ⟨y,hy,rfl⟩:=List.mem_map.1 hx
  obtain ⟨i,hi'⟩:=List.getElem?_of_mem hy
  have nm:∀ q∈s.posted,dX q.ref.ser=true:=fun q hq'=>by
   obtain ⟨j,hj⟩:=List.getElem?_of_mem hq'
   obtain ⟨⟨z,hz,ez⟩,_⟩:=h5.num j q hj
   rw [←ez];exact (s2 z hz).1
  obtain ⟨o1,o2,o3⟩:=hO i y hi'
  obtain ⟨p1,p2,p3,_,_⟩:=(fS _).1 o2
  have hof:Go.Proofs.YtoaibmbldmckaaaGreat.txt.ok y.of.ser∧num.ok y.of.num:=by
   rcases o3 with e | ⟨a,_⟩
   ·rw [e];exact ⟨Nat.zero_le _,⟨by show (_:Int)≤0;decide,by show (0:Int)≤_;decide⟩⟩
   ·rcases fQ (fun p:Posted=>decide (p.ref=y.of)) (s.posted.take i) with e | ⟨j,q,e,hj,hp⟩
    ·have:cE (s.posted.take i) y.of=-1:=e
     omega
    ·have hm:q∈s.posted:=List.mem_of_mem_take (List.mem_of_getElem? hj)
     have e':=of_decide_eq_true hp
     rw [←e']
     exact ⟨txt _ (nm q hm),(aLn hr hi hm).1⟩
  refine ⟨txt _ (nm y hy),day _ o1,hof.1,hof.2,?_,?_⟩
  ·show (y.total.parts.map vM).length≤12
   rw [List.length_map];exact p2
  ·intro z hz
   obtain ⟨w,hw,rfl⟩:=List.mem_map.1 hz
   have g:=p3 w hw
   exact ⟨txt _ g.name,⟨by show _≤w.bp;have:=g.lo;omega,by show w.bp≤_;have:=g.hi;omega⟩,(hi y hy w hw).1⟩
 ·show (s.sess.map tK).length≤8
  rw [List.length_map];exact e1
 ·intro x hx
  obtain ⟨y,hy,rfl⟩:=List.mem_map.1 hx
  obtain ⟨a,b,c,_⟩:=e2 y hy
  have d:=e5 y hy
  obtain ⟨q1,q2,q3⟩:=hq y hy
  exact ⟨⟨by show _≤y.id;omega,by show y.id≤_;omega⟩,⟨by show _≤y.last;omega,by show y.last≤_;omega⟩,q1,q2,q3⟩
theorem aC2 {n:Nat} (h:n≤63):(numP (n:Int)).length=1:=by
 unfold numP
 have:zig (n:Int)<128:=by unfold zig;split<;>omega
 rw [nb_low this];rfl
theorem aFq {s:List UInt8} (h:s.length≤24):(txt.put s).length≤25:=by
 show (numP (s.length:Int)++s).length≤25
 rw [List.length_append,aC2 (by omega)];omega
theorem eO {n:Int} (h:num.ok n):(num.put n).length≤10:=numP_len h
theorem aJq {d:Date} (h:gR.ok d):(gR.put d).length≤30:=by
 obtain ⟨a,b,c⟩:=h
 show (num.put d.y++(num.put d.m++num.put d.d)).length≤30
 rw [List.length_append,List.length_append]
 have h1:(num.put d.y).length≤10:=eO a
 have h2:(num.put d.m).length≤10:=eO b
 have h3:(num.put d.d).length≤10:=eO c
 omega
theorem aFr {α:Type} (c:Cod α) {n:Nat}:∀ l:List α,(∀ a∈l,(c.put a).length≤n)→(l.flatMap c.put).length≤l.length*n
 | [],_=>Nat.zero_le _
 | a::l,h=>by
  have h1:=aFr c l fun x hx=>h x (List.mem_cons_of_mem _ hx)
  have h2:=h a (List.mem_cons_self ..)
  rw [List.flatMap_cons,List.length_append,List.length_cons,Nat.succ_mul]
  omega
theorem oT {α:Type} (c:Cod α) {m:Nat} (hm:m≤1000000) {n k:Nat} {l:List α} (h:∀ a∈l,(c.put a).length≤n) (hl:l.length≤k) (hk:k≤63):((c.list m hm).put l).length≤1+k*n:=by
 show (numP (l.length:Int)++l.flatMap c.put).length≤_
 rw [List.length_append,aC2 (by omega)]
 have:=aFr c l h
 have:=Nat.mul_le_mul_right n hl
 omega
theorem aS1 {s:State} (hr:fL s=true) (hi:aFk s) (hq:aRz s):(eC s).length≤32768∧4<(eC s).length:=by
 obtain ⟨h1,h2,h3,h4,h5,_⟩:=(mY s).1 hr
 obtain ⟨t1,t2,_⟩:=(zM _).1 h1
 obtain ⟨s1,s2,_⟩:=(kE _).1 h2
 obtain ⟨e1,_⟩:=h3
 obtain ⟨h40,hO,_⟩:=(fT _).1 h4
 obtain ⟨⟨_,ok1⟩,⟨_,ok2⟩,⟨_,ok3⟩,⟨_,ok4⟩,ok5⟩:=aPs hr hi hq
 have nm:∀ q∈s.posted,dX q.ref.ser=true:=fun q hq'=>by
  obtain ⟨j,hj⟩:=List.getElem?_of_mem hq'
  obtain ⟨⟨z,hz,ez⟩,_⟩:=h5.num j q hj
  rw [←ez];exact (s2 z hz).1
 have nl:∀ {n:List UInt8},dX n=true→(txt.put n).length≤25:=fun h=>aFq (uG h)
 have a1:((zW.list 24 (by decide)).put s.table).length≤1+24*65:=oT zW _ (fun r hr'=>by
  obtain ⟨_,b,c⟩:=ok1 r hr'
  show (txt.put r.cat++(gR.put r.day++num.put r.bp)).length≤65
  rw [List.length_append,List.length_append]
  have h1:=nl (aDh (t2 r hr')).1
  have h2:(gR.put r.day).length≤30:=aJq b
  have h3:(num.put r.bp).length≤10:=eO c
  omega) t1 (by decide)
 have a2:((aHf.list 8 (by decide)).put (s.ser.map aDm)).length≤1+8*45:=oT aHf _ (fun x hx=>by
  obtain ⟨y,hy,rfl⟩:=List.mem_map.1 hx
  obtain ⟨_,b,_⟩:=ok2 _ hx
  show (txt.put y.name++(num.put y.limit++flag.put y.shut)).length≤45
  rw [List.length_append,List.length_append]
  have h1:=nl (s2 y hy).1
  have h2:(num.put y.limit).length≤10:=eO b
  have h3:(flag.put y.shut).length≤10:=Len.flag _ trivial
  omega) (by rw [List.length_map];exact s1) (by decide)
 have a3:((aFp.list 40 (by decide)).put (s.posted.map oS)).length≤1+40*631:=oT aFp _ (fun x hx=>by
  obtain ⟨y,hy,rfl⟩:=List.mem_map.1 hx
  obtain ⟨i,hi'⟩:=List.getElem?_of_mem hy
  obtain ⟨_,b,_,d,⟨_,e⟩⟩:=ok3 _ hx
  obtain ⟨o1,o2,o3⟩:=hO i y hi'
  obtain ⟨p1,p2,p3,_,_⟩:=(fS _).1 o2
  have hof:(txt.put y.of.ser).length≤25:=by
   rcases o3 with e | ⟨a,_⟩
   ·rw [e];exact aFq (Nat.zero_le _)
   ·rcases fQ (fun p:Posted=>decide (p.ref=y.of)) (s.posted.take i) with e | ⟨j,q,e,hj,hp⟩
    ·have:cE (s.posted.take i) y.of=-1:=e
     omega
    ·have hm:q∈s.posted:=List.mem_of_mem_take (List.mem_of_getElem? hj)
     rw [←of_decide_eq_true hp]
     exact nl (nm q hm)
  have hps:((aC1.list 12 (by decide)).put (y.total.parts.map vM)).length≤1+12*45:=oT aC1 _ (fun z hz=>by
   obtain ⟨w,hw,rfl⟩:=List.mem_map.1 hz
   obtain ⟨_,f,g⟩:=e _ hz
   show (txt.put w.cat++(num.put w.bp++num.put w.net)).length≤45
   rw [List.length_append,List.length_append]
   have h1:=nl (p3 w hw).name
   have h2:(num.put w.bp).length≤10:=eO f
   have h3:(num.put w.net).length≤10:=eO g
   omega) (by rw [List.length_map];exact p2) (by decide)
  show (txt.put y.ref.ser++(gR.put y.day++(txt.put y.of.ser++(num.put y.of.num++(aC1.list 12 (by decide)).put (y.total.parts.map vM))))).length≤631
  rw [List.length_append,List.length_append,List.length_append,List.length_append]
  have h1:=nl (nm y hy)
  have h2:(gR.put y.day).length≤30:=aJq b
  have h3:(num.put y.of.num).length≤10:=eO d
  omega) (by rw [List.length_map];exact h40) (by decide)
 have a4:((zX.list 8 (by decide)).put (s.sess.map tK)).length≤1+8*50:=oT zX _ (fun x hx=>by
  obtain ⟨y,hy,rfl⟩:=List.mem_map.1 hx
  obtain ⟨a,b,c,d,e⟩:=ok4 _ hx
  show (num.put y.id++(num.put y.last++(num.put y.reply.why++(num.put y.reply.number++num.put y.reply.gross)))).length≤50
  rw [List.length_append,List.length_append,List.length_append,List.length_append]
  have h1:(num.put y.id).length≤10:=eO a
  have h2:(num.put y.last).length≤10:=eO b
  have h3:(num.put y.reply.why).length≤10:=eO c
  have h4:(num.put y.reply.number).length≤10:=eO d
  have h5:(num.put y.reply.gross).length≤10:=eO e
  omega) (by rw [List.length_map];exact e1) (by decide)
 have a5:(num.put s.next).length≤10:=eO ok5
 have e:eC s=(zW.list 24 (by decide)).put s.table++((aHf.list 8 (by decide)).put (s.ser.map aDm)++((aFp.list 40 (by decide)).put (s.posted.map oS)++((zX.list 8 (by decide)).put (s.sess.map tK)++num.put s.next))):=by
  unfold eC
  rw [hr,if_neg (by decide)];rfl
 have b1:=(zW.list 24 (by decide)).pos s.table
 have b2:=(aHf.list 8 (by decide)).pos (s.ser.map aDm)
 have b3:=(aFp.list 40 (by decide)).pos (s.posted.map oS)
 have b4:=(zX.list 8 (by decide)).pos (s.sess.map tK)
 have b5:=num.pos s.next
 rw [e]
 simp only [List.length_append]
 omega
end Go.Proofs.YtoaibmbldmckaaaGreat
end
section
namespace Go.Proofs.YtoaibmbldmckaaaGreat
open Go.AM Tryz
def aC3 (q p:Posted):Bool:=if (dT q.total).2≠0 then false else if q.of≠Ref.zero then false else if p.day.days<q.day.days then false else
 decide ((dT q.total).1.net=p.total.net)&&(decide ((dT q.total).1.tax=p.total.tax)&&decide ((dT q.total).1.parts=p.total.parts))
def lD (p:Posted):List Posted→Bool
 | []=>false
 | q::l=>if q.ref=p.of then aC3 q p else lD p l
def gJ (l:List Posted) (r:Ref):Nat:=(l.filter fun q=>decide (q.of=r)).length
def lU (l:List Posted) (i:Nat) (p:Posted):Bool:=
 if 1<gJ (l.drop (i+1)) p.ref then false else if p.back≠decide (gJ (l.drop (i+1)) p.ref=1) then false else if p.of=Ref.zero then true else if p.back=true then false else lD p (l.take i)
theorem oU (q:Posted) (l:List Posted) (r:Ref):gJ (q::l) r=(if q.of=r then 1 else 0)+gJ l r:=by
 unfold gJ
 rw [List.filter_cons]
 by_cases c:q.of=r
 ·rw [if_pos (by simpa using c),if_pos c,List.length_cons];omega
 ·rw [if_neg (by simpa using c),if_neg c];omega
theorem vN {t:Total} (h:bR t=true):t.gross=(cR [t.net,t.tax]).1:=by
 obtain ⟨_,_,_,_,hs⟩:=(fS t).1 h
 unfold fB at hs
 repeat' split at hs
 all_goals first | cases hs;done | skip
 exact (of_decide_eq_true hs).symm
theorem aPt {q p:Posted} (h1:bR q.total=true) (h2:bR p.total=true) (hi:∀ x∈q.total.parts,I64 x.net∧I64 x.tax) (d1:q.day.right=true) (d2:p.day.right=true):aC3 q p=mW p q:=by
 unfold aC3 mW
 have hb:p.day.before q.day=decide (p.day.days<q.day.days):=by unfold Date.before;rw [d1,d2];rfl
 rw [hb]
 by_cases c2:q.of=Ref.zero
 ·by_cases c1:(dT q.total).2=0
  ·rw [if_neg (by simp [c1]),if_neg (by simp [c2]),if_pos c2]
   by_cases c3:p.day.days<q.day.days
   ·rw [if_pos c3,if_neg (by simp [c3])]
   ·rw [if_neg c3,if_pos (by simp [c3]),if_pos c1]
    obtain ⟨b1,_,_⟩:=aHc hi h1 c1
    have e1:=vN b1
    have e2:=vN h2
    rw [Bool.eq_iff_iff]
    simp only [Bool.and_eq_true,decide_eq_true_eq]
    constructor
    ·rintro ⟨a,b,c⟩
     generalize (dT q.total).1=t at *
     generalize p.total=r at *
     obtain ⟨tn,tx,tg,tp⟩:=t
     obtain ⟨rn,rx,rg,rp⟩:=r
     simp only at a b c e1 e2
     subst a b c
     rw [e1,e2]
    ·intro e;rw [e];exact ⟨rfl,rfl,rfl⟩
  ·rw [if_pos c1,if_pos c2,if_neg c1]
   split<;>rfl
 ·rw [if_neg c2]
  split<;>rfl
theorem aC4 {α:Type} (p:α→Bool):∀ (l:List α) (n:Nat),aE (cM p) (fun _=>-1) l (n+1)=if aE (cM p) (fun _=>-1) l n<0 then -1 else aE (cM p) (fun _=>-1) l n+1
 | [],n=>by simp [aE]
 | a::l,n=>by
  cases c:p a with
  | true=>
   simp only [aE,cM,c,if_true]
   rw [if_neg (by omega)];omega
  | false=>
   simp only [aE,cM,c,Bool.false_eq_true,if_false]
   exact aC4 p l (n+1)
theorem aPu {α:Type} (p:α→Bool) (a:α) (l:List α):ixM p (a::l)=if p a=true then 0 else if ixM p l<0 then -1 else ixM p l+1:=by
 unfold ixM
 cases c:p a with
 | true=>simp only [aE,cM,c,if_true];rfl
 | false=>simp only [aE,cM,c,Bool.false_eq_true,if_false];exact aC4 p l 0
theorem aC5 (p:Posted):∀ l:List Posted,lD p l=true↔0≤cE l p.of∧aC3 (l.getD (cE l p.of).toNat aPm) p=true
 | []=>by
  simp only [lD]
  exact ⟨fun h=>(by cases h),fun h=>by have h1:(0:Int)≤-1:=h.1;omega⟩
 | q::l=>by
  have e:cE (q::l) p.of=if q.ref=p.of then 0 else if cE l p.of<0 then -1 else cE l p.of+1:=by
   have:=aPu (fun x:Posted=>decide (x.ref=p.of)) q l
   simp only [decide_eq_true_eq] at this
   exact this
  simp only [lD]
  rw [e]
  by_cases c:q.ref=p.of
  ·rw [if_pos c,if_pos c]
   simp
  ·rw [if_neg c,if_neg c,aC5 p l]
   by_cases c2:cE l p.of<0
   ·rw [if_pos c2]
    exact ⟨fun h=>absurd h.1 (by omega),fun h=>by have:=h.1;omega⟩
   ·rw [if_neg c2]
    have:(cE l p.of+1).toNat=(cE l p.of).toNat+1:=by omega
    rw [this,List.getD_cons_succ]
    exact ⟨fun h=>⟨by omega,h.2⟩,fun h=>⟨by omega,h.2⟩⟩
theorem rR {l:List Posted} {r:Ref} (h:0≤cE l r):∃ (k:Nat) (q:Posted),cE l r=(k:Int)∧l[k]?=some q∧q.ref=r:=by
 rcases fQ (fun p:Posted=>decide (p.ref=r)) l with e | ⟨i,q,e,hi,hp⟩
 ·have:cE l r=-1:=e
  omega
 ·exact ⟨i,q,e,hi,of_decide_eq_true hp⟩
theorem aJr {ser:List Ser} {l:List Posted} (hn:Nums ser l) {p:Posted} (hp:p∈l):p.ref≠Ref.zero:=fun e=>by
 have:=aRv hn hp
 rw [e] at this
 have:(1:Int)≤0:=this
 omega
theorem zY (a b:List Posted) (r:Ref):gJ (a++b) r=gJ a r+gJ b r:=by unfold gJ;rw [List.filter_append,List.length_append]
theorem mZ {ser:List Ser} {l:List Posted} (hn:Nums ser l) (h40:l.length≤40) (hO:∀ i q,l[i]?=some q→vW (l.take i) q):∀ n,n≤l.length→∀ i p,i<n→l[i]?=some p→(iU (l.take n)).getD i 0=(gJ ((l.take n).drop (i+1)) p.ref:Int)
 | 0,_,i,p,h,_=>absurd h (Nat.not_lt_zero _)
 | n+1,hl,i,p,hi,hp=>by
  have hx:l[n]?=some l[n]:=List.getElem?_eq_getElem (by omega)
  obtain ⟨x,hxe⟩:∃ x,x=l[n]:=⟨_,rfl⟩
  rw [←hxe] at hx
  have ht:l.take (n+1)=l.take n++[x]:=by rw [List.take_add_one,hx];rfl
  have hOn:∀ j q,(l.take n)[j]?=some q→vW ((l.take n).take j) q:=fun j q hq=>by
   have hj:=(List.getElem?_eq_some_iff.1 hq).1
   rw [List.length_take] at hj
   rw [List.getElem?_take,if_pos (by omega)] at hq
   rw [List.take_take,Nat.min_eq_left (by omega)]
   exact hO j q hq
  obtain ⟨r1,r2,r3⟩:=aDj hOn
  have hlen:(l.take n).length=n:=by rw [List.length_take];omega
  have hpos:=aJr hn (List.mem_of_getElem? hp)
  have hdrop:i<n→(l.take n++[x]).drop (i+1)=(l.take n).drop (i+1)++[x]:=fun h=>by rw [List.drop_append_of_le_length (by omega)]
  rw [ht,aAp]
  unfold fI
  by_cases c:x.of=Ref.zero
  ·rw [if_pos c]
   rcases Nat.lt_succ_iff_lt_or_eq.1 hi with h | rfl
   ·rw [mZ hn h40 hO n (by omega) i p h hp,hdrop h,zY,oU,if_neg (by rw [c];exact fun e=>hpos e.symm)]
    rfl
   ·rw [r2 i (by omega),List.drop_of_length_le (by rw [List.length_append,hlen];exact Nat.le_refl _)];rfl
  ·rw [if_neg c]
   obtain ⟨_,_,o⟩:=hO n x hx
   rcases o with o | ⟨o,_⟩
   ·exact absurd o c
   ·obtain ⟨k,q,e,hk,hq⟩:=rR o
    have hkn:=(List.getElem?_eq_some_iff.1 hk).1
    rw [hlen] at hkn
    have hk':l[k]?=some q:=by rw [List.getElem?_take,if_pos hkn] at hk;exact hk
    rw [e,Int.toNat_natCast]
    unfold bump
    simp only [List.getD_eq_getElem?_getD,List.getElem?_set]
    rcases Nat.lt_succ_iff_lt_or_eq.1 hi with h | rfl
    ·have ih:=mZ hn h40 hO n (by omega) i p h hp
     simp only [List.getD_eq_getElem?_getD] at ih
     rw [hdrop h,zY,oU]
     by_cases e2:k=i
     ·subst e2
      rw [hp] at hk'
      cases hk'
      rw [if_pos rfl,if_pos (by omega),if_pos hq.symm,Option.getD_some,ih]
      show _+1=((_+(1+0):Nat):Int)
      omega
     ·have hne:¬ x.of=p.ref:=fun e3=>e2 (zR hn hk' hp (hq.trans e3))
      rw [if_neg e2,if_neg hne,ih]
      rfl
    ·rw [if_neg (by omega),←List.getD_eq_getElem?_getD,r2 i (by omega),List.drop_of_length_le (by rw [List.length_append,hlen];exact Nat.le_refl _)]
     rfl
theorem aFs {ser:List Ser} {l:List Posted} (hn:Nums ser l) (h40:l.length≤40) (hd:∀ p∈l,p.day.right=true∧bR p.total=true) (hi:∀ p∈l,∀ q∈p.total.parts,I64 q.net∧I64 q.tax):
  (∀ i p,l[i]?=some p→lU l i p=true)↔(∀ i p,l[i]?=some p→vW (l.take i) p)∧∀ i p,l[i]?=some p→(iU l).getD i 0≤1∧p.back=decide ((iU l).getD i 0=1):=by
 have take_ok:∀ i p,l[i]?=some p→p.of≠Ref.zero→(lD p (l.take i)=true↔0≤cE (l.take i) p.of∧mW p ((l.take i).getD (cE (l.take i) p.of).toNat aPm)=true):=by
  intro i p hp hof
  rw [aC5]
  by_cases c:0≤cE (l.take i) p.of
  ·obtain ⟨k,q,e,hk,hq⟩:=rR c
   have hqm:q∈l:=List.mem_of_mem_take (List.mem_of_getElem? hk)
   have:(l.take i).getD (cE (l.take i) p.of).toNat aPm=q:=by rw [e,Int.toNat_natCast,List.getD_eq_getElem?_getD,hk];rfl
   have hpm:=List.mem_of_getElem? hp
   rw [this,aPt (hd q hqm).2 (hd p hpm).2 (hi q hqm) (hd q hqm).1 (hd p hpm).1]
  ·exact ⟨fun h=>absurd h.1 c,fun h=>absurd h.1 c⟩
 have all:∀ i p,l[i]?=some p→(∀ i q,l[i]?=some q→vW (l.take i) q)→(iU l).getD i 0=(gJ (l.drop (i+1)) p.ref:Int):=by
  intro i p hp hO
  have hlt:=(List.getElem?_eq_some_iff.1 hp).1
  have:=mZ hn h40 hO l.length (Nat.le_refl _) i p hlt hp
  rwa [List.take_length] at this
 constructor
 ·intro h
  have hO:∀ i p,l[i]?=some p→vW (l.take i) p:=by
   intro i p hp
   have hpm:=List.mem_of_getElem? hp
   refine ⟨(hd p hpm).1,(hd p hpm).2,?_⟩
   by_cases c:p.of=Ref.zero
   ·exact .inl c
   ·have hc:=h i p hp
    unfold lU at hc
    repeat' split at hc
    all_goals first | (cases hc;done) | skip
    all_goals first | exact absurd (by assumption) c | exact .inr ((take_ok i p hp c).1 hc)
  refine ⟨hO,fun i p hp=>?_⟩
  have hc:=h i p hp
  have e:=all i p hp hO
  unfold lU at hc
  split at hc
  ·cases hc
  ·rename_i h1
   split at hc
   ·cases hc
   ·rename_i h2
    have h2:=Decidable.not_not.1 h2
    rw [e]
    refine ⟨by omega,?_⟩
    rw [h2,Bool.eq_iff_iff]
    simp only [decide_eq_true_eq]
    omega
 ·rintro ⟨hO,hc⟩ i p hp
  have e:=all i p hp hO
  obtain ⟨c1,c2⟩:=hc i p hp
  rw [e] at c1 c2
  unfold lU
  have c2':p.back=decide (gJ (l.drop (i+1)) p.ref=1):=by
   rw [c2,Bool.eq_iff_iff]
   simp only [decide_eq_true_eq]
   omega
  rw [if_neg (by omega),if_neg (by rw [←c2'];simp)]
  split
  ·rfl
  ·rename_i hof
   have hback:¬ p.back=true:=by
    intro hb
    rw [hb] at c2'
    have h1:=of_decide_eq_true c2'.symm
    obtain ⟨x,hx⟩:∃ x,x∈(l.drop (i+1)).filter fun q=>decide (q.of=p.ref):=by
     unfold gJ at h1
     cases hf:(l.drop (i+1)).filter fun q=>decide (q.of=p.ref) with
     | nil=>rw [hf] at h1;cases h1
     | cons a b=>exact ⟨a,List.mem_cons_self ..⟩
    obtain ⟨hx1,hx2⟩:=List.mem_filter.1 hx
    have hx2:=of_decide_eq_true hx2
    obtain ⟨j,hj⟩:=List.getElem?_of_mem hx1
    rw [List.getElem?_drop] at hj
    obtain ⟨_,_,o⟩:=hO _ x hj
    rcases o with o | ⟨o1,o2⟩
    ·rw [hx2] at o
     exact aJr hn (List.mem_of_getElem? hp) o
    ·obtain ⟨k,q,e,hk,hq⟩:=rR o1
     have hk':l[k]?=some q:=by
      have:=(List.getElem?_eq_some_iff.1 hk).1
      rw [List.length_take] at this
      rw [List.getElem?_take,if_pos (by omega)] at hk;exact hk
     have:k=i:=zR hn hk' hp (hq.trans hx2)
     subst this
     rw [hp] at hk'
     cases hk'
     rw [e,Int.toNat_natCast,List.getD_eq_getElem?_getD,hk] at o2
     unfold mW at o2
     split at o2
     ·rename_i hz;exact hof hz
     ·cases o2
   rw [if_neg hback]
   rcases (hO i p hp).2.2 with o | o
   ·exact absurd o hof
   ·exact (take_ok i p hp hof).2 o
structure RD where
 done:List Posted
 taken:List Int
 book:List Bal
def nK (s:State) (st:RD) (p:Posted):Bool⊕RD:=
 if eH s.ser p.ref.ser<0 then .inl false else if p.ref.num≠wr .i64 (st.taken.getD (eH s.ser p.ref.ser).toNat 0+1) then .inl false else
  if p.day.right=false then .inl false else if bR p.total=false then .inl false else if lU s.posted st.done.length p=false then .inl false else
   if (dG p.total).2≠0 then .inl false else if (cH st.book (dG p.total).1).2≠0 then .inl false else
    .inr ⟨st.done++[p],st.taken.set (eH s.ser p.ref.ser).toNat (wr .i64 (st.taken.getD (eH s.ser p.ref.ser).toNat 0+1)),(cH st.book (dG p.total).1).1⟩
def dU (is:List Int) (x:Ser):Bool⊕List Int:=if is.headD 0=wr .i64 (x.next - 1) then .inr is.tail else .inl false
def aFt (s:State) (st:RD):Bool:=aE dU (fun _=>true) s.ser st.taken&&decide (st.book=s.book)
def zZ (s:State):Bool:=
 if iT s.table=false then false else if rG s.ser=false then false else if kU s.sess=false then false else if 40<s.posted.length then false else
  if s.next<1 then false else if 1099511627776<s.next then false else if mX s.sess s.next=false then false else
   aE (nK s) (aFt s) s.posted ⟨[],List.replicate s.ser.length 0,[]⟩
def dD (ser:List Ser) (l:List Posted):List Int:=ser.map (fun x=>rQ l x.name)
theorem aFu {ser:List Ser} (hs:ser.Pairwise (fun a b=>iW a.name b.name=true)) {l:List Posted} {p:Posted} {i:Nat} {x:Ser} (h:ser[i]?=some x) (hn:x.name=p.ref.ser):(dD ser l).set i (rQ l p.ref.ser+1)=dD ser (l++[p]):=by
 apply List.ext_getElem?
 intro j
 unfold dD
 rw [List.getElem?_set]
 by_cases e:i=j
 ·subst e
  rw [if_pos rfl,if_pos (by rw [List.length_map];exact (List.getElem?_eq_some_iff.1 h).1),List.getElem?_map,h,Option.map_some,fN,pM,if_pos hn.symm,hn]
 ·rw [if_neg e,List.getElem?_map,List.getElem?_map]
  cases hj:ser[j]? with
  | none=>rfl
  | some y=>
   have hne:¬ p.ref.ser=y.name:=by
    rw [←hn]
    intro e'
    have h1:=tH hs h
    have h2:=tH hs hj
    rw [e'] at h1
    omega
   rw [Option.map_some,Option.map_some,fN,pM,if_neg hne,Int.add_zero]
theorem aPv:∀ (ser:List Ser) (is:List Int),aE dU (fun _=>true) ser is=true↔∀ i x,ser[i]?=some x→is.getD i 0=wr .i64 (x.next - 1)
 | [],is=>by simp [aE]
 | s::l,is=>by
  have hh:is.headD 0=is.getD 0 0:=by cases is<;>rfl
  have ht:∀ j,is.tail.getD j 0=is.getD (j+1) 0:=fun j=>by cases is<;>simp
  by_cases c:is.getD 0 0=wr .i64 (s.next - 1)
  ·have e:dU is s=.inr is.tail:=by unfold dU;rw [hh,if_pos c]
   simp only [aE,e]
   rw [aPv l is.tail]
   constructor
   ·intro h i x hx
    cases i with
    | zero=>cases hx;exact c
    | succ i=>have:=h i x hx;rwa [ht] at this
   ·intro h i x hx
    have:=h (i+1) x hx
    rwa [ht]
  ·have e:dU is s=.inl false:=by unfold dU;rw [hh,if_neg c]
   simp only [aE,e]
   constructor
   ·intro h;cases h
   ·intro h;exact absurd (h 0 s rfl) c
def aS2 (s:State) (done:List Posted) (i:Nat) (p:Posted):Prop:=(∃ x∈s.ser,x.name=p.ref.ser)∧p.ref.num=rQ done p.ref.ser+1∧p.day.right=true∧bR p.total=true∧lU s.posted i p=true
theorem rL {s:State} (hs:s.ser.Pairwise (fun a b=>iW a.name b.name=true)) (h40:s.posted.length≤40):∀ (l done:List Posted) (book:List Bal),s.posted=done++l→
  (aE (nK s) (aFt s) l ⟨done,dD s.ser done,book⟩=true↔(∀ i p,l[i]?=some p→aS2 s (done++l.take i) (done.length+i) p)∧(∀ x∈s.ser,rQ s.posted x.name=wr .i64 (x.next - 1))∧aE cD (fun b=>(b,0)) l book=(s.book,0))
 | [],done,book,e=>by
  rw [List.append_nil] at e
  subst e
  simp only [aE,aFt,Bool.and_eq_true,decide_eq_true_eq,aPv]
  constructor
  ·rintro ⟨h1,h2⟩
   refine ⟨fun i p h=>(by cases h),fun x hx=>?_,by rw [h2]⟩
   obtain ⟨i,hi⟩:=List.getElem?_of_mem hx
   have:=h1 i x hi
   unfold dD at this
   rw [List.getD_eq_getElem?_getD,List.getElem?_map,hi] at this
   exact this
  ·rintro ⟨_,h1,h2⟩
   refine ⟨fun i x hi=>?_,congrArg Prod.fst h2⟩
   unfold dD
   rw [List.getD_eq_getElem?_getD,List.getElem?_map,hi]
   exact h1 x (List.mem_of_getElem? hi)
 | p::l,done,book,e=>by
  have hlen:done.length<40:=by have:=congrArg List.length e;simp at this;omega
  have hc:=aDl done p.ref.ser
  have h0:=kH done p.ref.ser
  have e':s.posted=(done++[p])++l:=by rw [e,List.append_assoc];rfl
  by_cases k0:eH s.ser p.ref.ser<0
  ·have e1:nK s ⟨done,dD s.ser done,book⟩ p=.inl false:=by unfold nK;rw [if_pos k0]
   simp only [aE,e1]
   refine ⟨fun h=>(by cases h),fun h=>?_⟩
   obtain ⟨⟨x,hx,hn⟩,_⟩:=h.1 0 p rfl
   exact absurd hn (zQ k0 x hx)
  ·rcases fQ (fun x:Ser=>x.name == p.ref.ser) s.ser with e1 | ⟨i,x,e1,hi,hx⟩
   ·exact absurd (show eH s.ser p.ref.ser<0 by unfold eH;rw [e1];decide) k0
   ·have e1:eH s.ser p.ref.ser=(i:Int):=e1
    have hx:x.name=p.ref.ser:=by simpa using hx
    have hget:(dD s.ser done).getD i 0=rQ done p.ref.ser:=by
     unfold dD
     rw [List.getD_eq_getElem?_getD,List.getElem?_map,hi,Option.map_some,hx];rfl
    have hw:wr .i64 (rQ done p.ref.ser+1)=rQ done p.ref.ser+1:=lB ⟨by omega,by omega⟩
    have hstep:nK s ⟨done,dD s.ser done,book⟩ p=if p.ref.num≠rQ done p.ref.ser+1 then .inl false else
      if p.day.right=false then .inl false else if bR p.total=false then .inl false else if lU s.posted done.length p=false then .inl false else
      if (dG p.total).2≠0 then .inl false else if (cH book (dG p.total).1).2≠0 then .inl false else .inr ⟨done++[p],dD s.ser (done++[p]),(cH book (dG p.total).1).1⟩:=by
     unfold nK
     rw [if_neg k0]
     simp only [e1,Int.toNat_natCast,hget,hw,aFu hs hi hx]
    have bad:∀ b:Bool⊕RD,b=.inl false→nK s ⟨done,dD s.ser done,book⟩ p=b→¬ (aS2 s done done.length p∧(dG p.total).2=0∧(cH book (dG p.total).1).2=0)→(aE (nK s) (aFt s) (p::l) ⟨done,dD s.ser done,book⟩=true↔(∀ i q,(p::l)[i]?=some q→aS2 s (done++(p::l).take i) (done.length+i) q)∧(∀ x∈s.ser,rQ s.posted x.name=wr .i64 (x.next - 1))∧aE cD (fun b=>(b,0)) (p::l) book=(s.book,0)):=by
     intro b hb h1 h2
     subst hb
     simp only [aE,h1]
     refine ⟨fun h=>(by cases h),fun h=>?_⟩
     exfalso
     have g:=h.1 0 p rfl
     rw [List.take_zero,List.append_nil,Nat.add_zero] at g
     refine h2 ⟨g,?_⟩
     have hb:=h.2.2
     simp only [cD] at hb
     by_cases c:(dG p.total).2=0
     ·refine ⟨c,?_⟩
      by_cases c2:(cH book (dG p.total).1).2=0
      ·exact c2
      ·rw [if_neg (by simp [c]),if_pos c2] at hb
       exact absurd (congrArg Prod.snd hb) c2
     ·rw [if_pos c] at hb
      exact absurd (congrArg Prod.snd hb) c
    by_cases c1:p.ref.num=rQ done p.ref.ser+1
    rotate_left
    ·exact bad _ rfl (by rw [hstep,if_pos c1]) fun h=>c1 h.1.2.1
    by_cases c2:p.day.right=true
    rotate_left
    ·exact bad _ rfl (by rw [hstep,if_neg (by simp [c1]),if_pos (by simpa using c2)]) fun h=>c2 h.1.2.2.1
    by_cases c3:bR p.total=true
    rotate_left
    ·exact bad _ rfl (by rw [hstep,if_neg (by simp [c1]),if_neg (by simp [c2]),if_pos (by simpa using c3)]) fun h=>c3 h.1.2.2.2.1
    by_cases c4:lU s.posted done.length p=true
    rotate_left
    ·exact bad _ rfl (by rw [hstep,if_neg (by simp [c1]),if_neg (by simp [c2]),if_neg (by simp [c3]),if_pos (by simpa using c4)]) fun h=>c4 h.1.2.2.2.2
    by_cases c5:(dG p.total).2=0
    rotate_left
    ·exact bad _ rfl (by rw [hstep,if_neg (by simp [c1]),if_neg (by simp [c2]),if_neg (by simp [c3]),if_neg (by simp [c4]),if_pos c5]) fun h=>c5 h.2.1
    by_cases c6:(cH book (dG p.total).1).2=0
    rotate_left
    ·exact bad _ rfl (by rw [hstep,if_neg (by simp [c1]),if_neg (by simp [c2]),if_neg (by simp [c3]),if_neg (by simp [c4]),if_neg (by simp [c5]),if_pos c6]) fun h=>c6 h.2.2
    have hgood:nK s ⟨done,dD s.ser done,book⟩ p=.inr ⟨done++[p],dD s.ser (done++[p]),(cH book (dG p.total).1).1⟩:=by
     rw [hstep,if_neg (by simp [c1]),if_neg (by simp [c2]),if_neg (by simp [c3]),if_neg (by simp [c4]),if_neg (by simp [c5]),if_neg (by simp [c6])]
    have hbk:cD book p=.inr (cH book (dG p.total).1).1:=by unfold cD;rw [if_neg (by simp [c5]),if_neg (by simp [c6])]
    have one:aS2 s done done.length p:=⟨⟨x,List.mem_of_getElem? hi,hx⟩,c1,c2,c3,c4⟩
    simp only [aE,hgood,hbk]
    rw [rL hs h40 l (done++[p]) _ e']
    constructor
    ·rintro ⟨h1,h2⟩
     refine ⟨fun i q hq=>?_,h2⟩
     cases i with
     | zero=>cases hq;rw [List.take_zero,List.append_nil];exact one
     | succ i=>
      have:=h1 i q hq
      rw [List.append_assoc,List.length_append] at this
      rw [List.take_succ_cons]
      have e2:done.length+(i+1)=done.length+[p].length+i:=by simp;omega
      rw [e2];exact this
    ·rintro ⟨h1,h2⟩
     refine ⟨fun i q hq=>?_,h2⟩
     have:=h1 (i+1) q hq
     rw [List.take_succ_cons] at this
     rw [List.append_assoc,List.length_append]
     have e2:done.length+(i+1)=done.length+[p].length+i:=by simp;omega
     rw [←e2];exact this
theorem aLo {s:State} (hi:aFk s) (hn:∀ x∈s.ser,I64 x.next):zZ s=fL s:=by
 rw [Bool.eq_iff_iff,mY]
 unfold zZ
 by_cases c1:iT s.table=true
 rotate_left
 ·rw [if_pos (by simpa using c1)];exact ⟨fun h=>(by cases h),fun h=>absurd h.1 c1⟩
 rw [if_neg (by simp [c1])]
 by_cases c2:rG s.ser=true
 rotate_left
 ·rw [if_pos (by simpa using c2)];exact ⟨fun h=>(by cases h),fun h=>absurd h.2.1 c2⟩
 rw [if_neg (by simp [c2])]
 have hs:=((kE _).1 c2).2.2
 have hsl:=((kE _).1 c2).1
 have hsb:=((kE _).1 c2).2.1
 have hso:fR s=true↔aDk s.sess s.next:=qH s
 unfold fR at hso
 by_cases c3:kU s.sess=true
 rotate_left
 ·rw [if_pos (by simpa using c3)]
  rw [if_neg c3] at hso
  exact ⟨fun h=>(by cases h),fun h=>by have:=hso.2 h.2.2.1;cases this⟩
 rw [if_neg (by simp [c3])]
 rw [if_pos c3] at hso
 by_cases c4:s.posted.length≤40
 rotate_left
 ·rw [if_pos (by omega)]
  exact ⟨fun h=>(by cases h),fun h=>absurd ((fT _).1 h.2.2.2.1).1 c4⟩
 rw [if_neg (by omega)]
 by_cases c5:1≤s.next
 rotate_left
 ·rw [if_pos (by omega)];rw [if_neg c5] at hso
  exact ⟨fun h=>(by cases h),fun h=>by have:=hso.2 h.2.2.1;cases this⟩
 rw [if_neg (by omega)]
 rw [if_pos c5] at hso
 by_cases c6:s.next≤1099511627776
 rotate_left
 ·rw [if_pos (by omega)];rw [if_neg c6] at hso
  exact ⟨fun h=>(by cases h),fun h=>by have:=hso.2 h.2.2.1;cases this⟩
 rw [if_neg (by omega)]
 rw [if_pos c6] at hso
 by_cases c7:mX s.sess s.next=true
 rotate_left
 ·rw [if_pos (by simpa using c7)]
  exact ⟨fun h=>(by cases h),fun h=>absurd (hso.2 h.2.2.1) c7⟩
 rw [if_neg (by simp [c7])]
 have ht:List.replicate s.ser.length (0:Int)=dD s.ser []:=by
  unfold dD
  apply List.ext_getElem?
  intro j
  rw [List.getElem?_replicate,List.getElem?_map]
  split
  ·rename_i h;rw [List.getElem?_eq_getElem h];rfl
  ·rename_i h;rw [List.getElem?_eq_none (by omega)];rfl
 rw [ht,rL hs c4 s.posted [] [] rfl]
 have hnx:(∀ x∈s.ser,rQ s.posted x.name=wr .i64 (x.next - 1))↔∀ x∈s.ser,x.next=rQ s.posted x.name+1:=by
  constructor
  ·intro h x hx
   have:=h x hx
   obtain ⟨_,b⟩:=hsb x hx
   unfold mS at b
   simp only [Bool.or_eq_false_iff,decide_eq_false_iff_not] at b
   have:=hn x hx
   rw [lB ⟨by have:=this.1;omega,by have:=this.2;omega⟩] at *
   omega
  ·intro h x hx
   have e:=h x hx
   have h1:=aDl s.posted x.name
   have h2:=kH s.posted x.name
   rw [lB ⟨by omega,by omega⟩];omega
 rw [hnx]
 simp only [List.nil_append,List.length_nil,Nat.zero_add]
 constructor
 ·rintro ⟨h1,h2,h3⟩
  have hnum:Nums s.ser s.posted:=⟨fun i p hp=>⟨(h1 i p hp).1,(h1 i p hp).2.1⟩,h2⟩
  have hd:∀ p∈s.posted,p.day.right=true∧bR p.total=true:=fun p hp=>by
   obtain ⟨i,hi'⟩:=List.getElem?_of_mem hp
   exact ⟨(h1 i p hi').2.2.1,(h1 i p hi').2.2.2.1⟩
  have hc:=(aFs hnum c4 hd hi).1 fun i p hp=>(h1 i p hp).2.2.2.2
  exact ⟨c1,c2,hso.1 c7,(fT _).2 ⟨c4,hc⟩,hnum,h3⟩
 ·rintro ⟨_,_,_,h4,h5,h6⟩
  obtain ⟨_,hO,hb⟩:=(fT _).1 h4
  have hd:∀ p∈s.posted,p.day.right=true∧bR p.total=true:=fun p hp=>by
   obtain ⟨i,hi'⟩:=List.getElem?_of_mem hp
   exact ⟨(hO i p hi').1,(hO i p hi').2.1⟩
  have hc:=(aFs h5 c4 hd hi).2 ⟨hO,hb⟩
  refine ⟨fun i p hp=>⟨(h5.num i p hp).1,(h5.num i p hp).2,(hO i p hp).1,(hO i p hp).2.1,hc i p hp⟩,fun x hx=>?_,h6⟩
  exact h5.next x hx
def xG (a b:Rate):Bool:=if a.cat=b.cat then decide (a.day.days<b.day.days) else iW a.cat b.cat
theorem aHh {a b:Rate} (ha:a.day.right=true) (hb:b.day.right=true):xG a b=gG a b:=by
 unfold xG gG Date.before
 by_cases c:a.cat=b.cat
 ·rw [if_pos c,c,rM,if_neg (by simp),if_pos (by simp),ha,hb];rfl
 ·rw [if_neg c]
  cases iW a.cat b.cat<;>simp [c]
theorem bGe (a b:Rate) (S:St) (K:KW):C 194 [.agg [.str a.cat,.int .i64 a.day.y,.int .i64 a.day.m,.int .i64 a.day.d,.int .i64 a.bp],.agg [.str b.cat,.int .i64 b.day.y,.int .i64 b.day.m,.int .i64 b.day.d,.int .i64 b.bp]] S K=K (.bool (xG a b)) S:=by
 refine (bE7 rfl ?_).eq S K
 delta Tryz.f194;simp only [↓cw,↓reduceIte,Nat.reduceLT,kk,tP,gm,bBy,xG]
 by_cases c:a.cat=b.cat
 ·simp only [↓cw,↓reduceIte,Nat.reduceLT,c,BEq.rfl,kk,if_true,if_false,oo]
 ·have c':¬ (a.cat == b.cat)=true:=by simpa using c
  simp only [↓cw,↓reduceIte,Nat.reduceLT,c,c',kk,if_true,if_false,oo]
theorem bGf (l:List Rate) (S:St) (K:KW):C 114 [.imm (l.map Rate.enc)] S K=K (.bool (iT l)) S:=by
 refine (bDc rfl ?_).eq S K
 delta Tryz.f114;simp only [↓cw,↓reduceIte,Nat.reduceLT,kk,iT]
 by_cases h:24<l.length
 ·simp only [↓cw,↓reduceIte,Nat.reduceLT,h,show (24:Int)<(l.length:Int) by omega,kk,if_true,oo]
 have h':¬ (24:Int)<(l.length:Int):=by omega
 simp only [↓cw,↓reduceIte,Nat.reduceLT,h,h',kk,if_false]
 refine aG l (step:=dS) (fin:=fun _=>true) (fun i s vs S=>s=bL l i∧vs=[.bool false,.int .i64 (i:Int)]∧∀ p,s=some p→p.day.right=true) (fun r=>r=aE dS (fun _=>true) l none) ?_ ?_ ⟨rfl,rfl,fun p h=>(by cases h)⟩ rfl
 ·rintro i r s vs S hi ⟨rfl,rfl,hr⟩ aC H
  have hil:=(List.getElem?_eq_some_iff.1 hi).1
  have hn:bL l (i+1)=some r:=by simpa [bL] using hi
  simp only [hn] at H
  simp only [↓cw,↓reduceIte,Nat.reduceLT,kk,aY hi,lI hi,Rate.enc,bFq,fV (show i<1000000000 by omega),dS] at H ⊢
  by_cases c:zF r=0
  ·have hrr:=(aDh c).2.1
   simp only [↓cw,↓reduceIte,Nat.reduceLT,c,kk,ne_eq,not_true_eq_false,if_false] at H ⊢
   cases i with
   | zero=>
    simp only [↓cw,↓reduceIte,Nat.reduceLT,bL,if_true,Int.natCast_zero,Int.lt_irrefl,kk,if_false] at H ⊢
    exact H _ _ ⟨rfl,fun p h=>by cases h;exact hrr⟩
   | succ j=>
    have hj:l[j]?=some l[j]:=List.getElem?_eq_getElem (by omega)
    have hp:bL l (j+1)=some l[j]:=by simp [bL,hj]
    have hb:=aHh (hr _ hp) hrr
    simp only [↓cw,↓reduceIte,Nat.reduceLT,hp,gt0,kk,wrm (show j+1<1000000000 by omega),lI hj,Rate.enc,bGe,hb,if_true] at H ⊢
    cases ha:gG l[j] r<;>simp only [↓cw,↓reduceIte,Nat.reduceLT,ha,kk,Bool.not_false,Bool.not_true,if_true,if_false,Bool.false_eq_true,oo] at H ⊢
    ·rw [←H]
    ·exact H _ _ ⟨rfl,fun p h=>by cases h;exact hrr⟩
  ·simp only [↓cw,↓reduceIte,Nat.reduceLT,c,ne_eq,not_false_eq_true,if_true,kk,oo] at H ⊢
   rw [←H]
 ·rintro s vs S ⟨rfl,rfl,hr⟩ aC H
  have H:true=_:=H
  simp only [↓cw,↓reduceIte,Nat.reduceLT,kk,Int.lt_irrefl,if_false,oo,←H]
theorem bGg (l:List Ser) (S:St) (K:KW):C 115 [.imm (l.map Ser.enc)] S K=K (.bool (rG l)) S:=by
 refine (bDd rfl ?_).eq S K
 delta Tryz.f115;simp only [↓cw,↓reduceIte,Nat.reduceLT,kk,rG]
 by_cases h:8<l.length
 ·simp only [↓cw,↓reduceIte,Nat.reduceLT,h,show (8:Int)<(l.length:Int) by omega,kk,if_true,oo]
 have h':¬ (8:Int)<(l.length:Int):=by omega
 simp only [↓cw,↓reduceIte,Nat.reduceLT,h,h',kk,if_false]
 refine aG l (step:=gH) (fin:=fun _=>true) (fun i s vs S=>s=bL l i∧vs=[.bool false,.int .i64 (i:Int)]) (fun r=>V.bool r=.bool (aE gH (fun _=>true) l none)) ?_ ?_ ⟨rfl,rfl⟩ rfl
 ·rintro i r s vs S hi ⟨rfl,rfl⟩ aC H
  have hil:=(List.getElem?_eq_some_iff.1 hi).1
  have hn:bL l (i+1)=some r:=by simpa [bL] using hi
  simp only [hn,gH] at H
  simp only [↓cw,↓reduceIte,Nat.reduceLT,kk,aY hi,kX hi,Ser.enc,aWz,gm,fV (show i<1000000000 by omega),oo]
  cases hna:dX r.name
  ·simp [hna] at H ⊢;exact H
  ·simp only [↓cw,↓reduceIte,Nat.reduceLT,hna,kk,Bool.true_eq_false,if_false] at H ⊢
   cases i with
   | zero=>
    simp only [↓cw,↓reduceIte,Nat.reduceLT,bL,iI,kk,Bool.false_eq_true,if_false,if_true,mS,Bool.or_eq_true,decide_eq_true_eq] at H ⊢
    simp only [↓cw,↓reduceIte,Nat.reduceLT,Int.natCast_zero,Int.lt_irrefl,kk,if_false]
    grind
   | succ j=>
    have hj:l[j]?=some l[j]:=List.getElem?_eq_getElem (by omega)
    have hp:bL l (j+1)=some l[j]:=by simp [bL,hj]
    simp only [↓cw,↓reduceIte,Nat.reduceLT,hp,gt0,kk,wrm (show j+1<1000000000 by omega),kX hj,Ser.enc,iI,mS,Bool.or_eq_true,decide_eq_true_eq] at H ⊢
    grind
 ·rintro s vs S ⟨rfl,rfl⟩ aC H
  simp only [↓cw,↓reduceIte,Nat.reduceLT,kk,Int.lt_irrefl]
  exact H
theorem bGh (l:List Sess) (S:St) (K:KW):C 116 [.imm (l.map Sess.enc)] S K=K (.bool (kU l)) S:=by
 refine (bDe rfl ?_).eq S K
 delta Tryz.f116;simp only [↓cw,↓reduceIte,Nat.reduceLT,kk,kU]
 by_cases h:8<l.length
 ·simp only [↓cw,↓reduceIte,Nat.reduceLT,h,show (8:Int)<(l.length:Int) by omega,kk,if_true,oo]
 have h':¬ (8:Int)<(l.length:Int):=by omega
 simp only [↓cw,↓reduceIte,Nat.reduceLT,h,h',kk,if_false]
 refine aG l (step:=dC) (fin:=fun _=>true) (fun i s vs S=>vs=[.bool false,.int .i64 (i:Int)]∧0≤s∧(i=0→s=0)∧∀ p,0<i→l[i - 1]?=some p→s=p.id) (fun r=>V.bool r=.bool (aE dC (fun _=>true) l 0)) ?_ ?_ ⟨rfl,Int.le_refl _,fun _=>rfl,fun p h=>absurd h (Nat.lt_irrefl _)⟩ rfl
 ·rintro i s last vs S hi ⟨rfl,h0,h1,h2⟩ aC H
  have hil:=(List.getElem?_eq_some_iff.1 hi).1
  have hn:((s.reply=Rep.zero):Prop)=((s.reply.why=0∧s.reply.number=0)∧s.reply.gross=0):=by
   obtain ⟨_,_,⟨_,_,_⟩⟩:=s;simp [Rep.zero,and_assoc]
  have hnext:∀ (S':St),last<s.id→([V.bool false,V.int .i64 ((i+1:Nat):Int)]=[V.bool false,.int .i64 ((i+1:Nat):Int)]∧0≤s.id∧(i+1=0→s.id=0)∧∀ p,0<i+1→l[i+1 - 1]?=some p→s.id=p.id):=fun S' hl=>⟨rfl,by omega,fun e=>(by omega),fun p _ hp=>by rw [Nat.add_sub_cancel,hi] at hp;cases hp;rfl⟩
  have hst:dC last s=if s.id<1 then .inl false else if s.last<0 then .inl false else if 1099511627776<s.last then .inl false else if s.id≤last then .inl false else if s.last=0∧¬ ((s.reply.why=0∧s.reply.number=0)∧s.reply.gross=0) then .inl false else .inr s.id:=by
   unfold dC
   simp only [ne_eq,hn]
   grind
  rw [hst] at H
  simp only [↓cw,↓reduceIte,Nat.reduceLT,kk,aY hi,jY hi,Sess.enc,fV (show i<1000000000 by omega),gm,if_true,oo]
  by_cases a1:s.id<1
  ·simp only [a1,if_true] at H ⊢;exact H
  by_cases a2:s.last<0
  ·simp only [a1,a2,if_true,if_false] at H ⊢;exact H
  by_cases a3:1099511627776<s.last
  ·simp only [a1,a2,a3,if_true,if_false] at H ⊢;exact H
  simp only [a1,a2,a3,if_false] at H ⊢
  have fin:∀ (a4:¬ s.id≤last),(if s.last=0 then (if (!((decide (s.reply.why=0)&&decide (s.reply.number=0))&&decide (s.reply.gross=0)))=true then V.bool false=V.bool (aE dC (fun x=>true) l 0) else aC [V.bool false,V.int .i64 ((i+1:Nat):Int)] ⟨S.next+57,S.heap⟩) else aC [V.bool false,V.int .i64 ((i+1:Nat):Int)] ⟨S.next+57,S.heap⟩):=by
   intro a4
   have hn:=hnext S (by omega)
   simp only [a4,if_false] at H
   by_cases a5:s.last=0
   ·by_cases a6:(s.reply.why=0∧s.reply.number=0)∧s.reply.gross=0
    ·simp only [a5,a6,and_self,not_true_eq_false,and_false,if_true,if_false,decide_true,Bool.and_self,Bool.not_true,Bool.false_eq_true] at H ⊢
     exact H _ _ hn
    ·have a6':(!((decide (s.reply.why=0)&&decide (s.reply.number=0))&&decide (s.reply.gross=0)))=true:=by simp only [Bool.not_eq_true',Bool.and_eq_false_iff,decide_eq_false_iff_not];omega
     simp only [a5,a6,a6',and_self,not_false_eq_true,if_true] at H ⊢
     exact H
   ·simp only [a5,false_and,if_false] at H ⊢
    exact H _ _ hn
  by_cases i0:i=0
  ·simp only [show ¬ (0:Int)<(i:Int) by omega,if_false]
   have:=fin (by have:=h1 i0;omega)
   simpa using this
  ·have hj:l[i - 1]?=some l[i - 1]:=List.getElem?_eq_getElem (by omega)
   have e0:=h2 _ (by omega) hj
   have w:wr .i64 ((i:Int) - 1)=((i - 1:Nat):Int):=by rw [kM (by omega) (by omega)];omega
   simp only [↓cw,↓reduceIte,Nat.reduceLT,show (0:Int)<(i:Int) by omega,if_true,w,jY hj,Sess.enc,kk,←e0]
   by_cases a4:s.id≤last
   ·simp only [a4,if_true] at H ⊢;exact H
   ·simp only [a4,if_false]
    simpa using fin a4
 ·rintro s vs S ⟨rfl,_⟩ aC H
  simp only [↓cw,↓reduceIte,Nat.reduceLT,kk,Int.lt_irrefl]
  exact H
theorem bCm (l:List Ser) (name:List UInt8) (hb:l.length<1000000) (S:St) (K:KW):C 117 [.imm (l.map Ser.enc),.str name] S K=K (.int .i64 (eH l name)) S:=by
 refine (bDf rfl ?_).eq S K
 delta Tryz.f117;simp only [↓cw,↓reduceIte,Nat.reduceLT,kk]
 refine aG l (step:=cM fun s:Ser=>s.name == name) (fin:=fun _=>-1) (fun i k vs S=>k=i∧vs=[.int .i64 0,.int .i64 (i:Int)]) (fun r=>r=eH l name) ?_ ?_ ⟨rfl,rfl⟩ rfl
 ·rintro i s k vs S hi ⟨rfl,rfl⟩ aC H
  have hil:=(List.getElem?_eq_some_iff.1 hi).1
  simp only [cM] at H
  simp only [↓cw,↓reduceIte,Nat.reduceLT,kk,aY hi,if_true,kX hi,Ser.enc,fV (show k<1000000000 by omega)]
  cases c:s.name == name<;>simp only [↓cw,↓reduceIte,Nat.reduceLT,c,kk,if_true,if_false,Bool.false_eq_true,oo] at H ⊢
  ·exact H _ _ rfl
  ·rw [←H]
 ·rintro k vs S ⟨rfl,rfl⟩ aC H
  have H:(-1:Int)=_:=H
  simp only [↓cw,↓reduceIte,Nat.reduceLT,kk,Int.lt_irrefl,if_false,oo,←H]
theorem bs0 (n:Nat) (z:List V) (fr:Option Nat) (S:St):aW n z 0 [] fr S=(match aR fr S (.row 0 n []) with
  | .error e=>.error e
  | .ok (a,S')=>.ok (.sl a 0 n 0 0,S')):=by unfold aW;rw [if_pos (by omega)];rfl
theorem bCn {α:Type} {enc:α→List V} {n:Nat} (hl:∀ x,(enc x).length=n∧aI (enc x)=true) {l:List α} {S:St} {a ver:Nat} (hg:S.heap.get a=some (.row ver n (l.map enc))) (ha:a<S.next):Own E0 S n (.sl a ver n 0 l.length) (l.map enc):=
 ⟨.inr ⟨a,ver,[],by rw [List.length_map],Nat.zero_le _,ha,by rw [List.append_nil];exact hg⟩,fun c hc=>by obtain ⟨x,_,rfl⟩:=List.mem_map.1 hc;exact hl x⟩
theorem aX3 {α:Type} {enc:α→List V} {n b:Nat} (hl:∀ x,(enc x).length=n∧aI (enc x)=true) (l:List α) (x:α) {S:St} {a k ver:Nat} (hg:aB S a ver=.ok (n,l.map enc)) (hx:aB S k 0=.ok (n,[enc x])) (h1:(l.length+1)*b≤35184372088832) (h2:l.length+1<eE) (fr:Option Nat):
  eN n b (.sl a ver n 0 l.length) (.sl k 0 n 0 1) fr S=.ok (.sl a (ver+1) n 0 (l.length+1),⟨S.next,S.heap.put a (.row (ver+1) n ((l++[x]).map enc))⟩):=by
 have hu:aM S (.sl k 0 n 0 1)=.ok [enc x]:=by simp only [aM,hx];rfl
 have a1:gS n [enc x]=true∧[enc x].all aI=true:=eJ (fun c hc=>by rcases List.mem_singleton.1 hc with rfl;exact hl x)
 simp only [eN,hu,a1,and_self,if_true,hg,List.length_map,Nat.zero_add,Nat.le_refl,List.length_cons,List.length_nil,h1,h2,List.drop_zero,List.map_append,List.map_cons,List.map_nil]
 rw [List.take_of_length_le (by rw [List.length_map];exact Nat.le_refl _)]
theorem bGi (l:List Bal) (hb:l.length<1000000) (S:St) (K:KW):C 199 [.imm (l.map Bal.enc)] S K=K (.bool (qC l)) S:=by
 refine (bEc rfl ?_).eq S K
 delta Tryz.f199;simp only [↓cw,↓reduceIte,Nat.reduceLT]
 refine aG (l.drop 1) (step:=oL) (fin:=fun _=>true) (fun i s vs S=>s=l[i]?∧vs=[.bool false,.int .i64 ((i+1:Nat):Int)]) (fun r=>r=qC l) ?_ ?_ (s:=l[0]?) ⟨rfl,rfl⟩ rfl
 ·rintro i r s vs S hi ⟨rfl,rfl⟩ aC H
  rw [List.getElem?_drop,Nat.add_comm] at hi
  have hil:=(List.getElem?_eq_some_iff.1 hi).1
  have hj:l[i]?=some l[i]:=List.getElem?_eq_getElem (by omega)
  simp only [hj,oL,hi] at H
  simp only [↓cw,↓reduceIte,Nat.reduceLT,kk,aY hi,if_true,jZ hi,jZ hj,Bal.enc,wrm (show i+1<1000000000 by omega),fV (show i+1<1000000000 by omega),gm]
  cases c:iW l[i].acc r.acc<;>simp only [↓cw,↓reduceIte,Nat.reduceLT,c,kk,Bool.not_false,Bool.not_true,if_true,if_false,Bool.false_eq_true,oo] at H ⊢
  ·rw [←H]
  ·exact H _ _ rfl
 ·rintro s vs S ⟨rfl,rfl⟩ aC H
  have H:true=qC l:=H
  have hn:¬ (((l.drop 1).length+1:Nat):Int)<(l.length:Int):=by rw [List.length_drop];omega
  simp only [↓cw,↓reduceIte,Nat.reduceLT,kk,hn,if_false,oo,←H]
theorem aLp {l:List Ser} {name:List UInt8} (h:¬ eH l name<0):∃ (i:Nat) (s:Ser),eH l name=(i:Int)∧l[i]?=some s:=by
 rcases fQ (fun x:Ser=>x.name == name) l with e | ⟨i,a,e,hi,_⟩
 ·exact absurd (show eH l name<0 by unfold eH;rw [e];decide) h
 ·exact ⟨i,a,e,hi⟩
def dJ (w:Int×Int) (n:Int):Int×Int:=
 let lo:=wr .u64 (w.2+wr .u64 n)
 let hi:=if lo<w.2 then wr .i64 (w.1+1) else w.1
 (if n<0 then wr .i64 (hi - 1) else hi,lo)
theorem bCo (hi lo n:Int) (S:St) (K:KW):C 258 [.agg [.int .i64 hi,.int .u64 lo],.int .i64 n] S K=K (.agg [.int .i64 (dJ (hi,lo) n).1,.int .u64 (dJ (hi,lo) n).2]) S:=by
 refine (bEw rfl ?_).eq S K
 delta Tryz.f258;simp only [↓cw,↓reduceIte,Nat.reduceLT,kk,tP,gm,dJ]
 by_cases c1:wr .u64 (lo+wr .u64 n)<lo<;>by_cases c2:n<0<;>simp only [↓cw,↓reduceIte,Nat.reduceLT,c1,c2,kk,if_true,if_false,oo]
theorem aA0 {hi lo n:Int} (h0:0≤lo) (h1:lo<18446744073709551616) (hn:I64 n) (b1:-1237940039285380274899124224≤hi*18446744073709551616+lo) (b2:hi*18446744073709551616+lo≤1237940039285380274899124224):
  (dJ (hi,lo) n).1*18446744073709551616+(dJ (hi,lo) n).2=hi*18446744073709551616+lo+n∧0≤(dJ (hi,lo) n).2∧(dJ (hi,lo) n).2<18446744073709551616:=by
 obtain ⟨n1,n2⟩:=hn
 obtain ⟨A,hA⟩:∃ A,A=wr .u64 n:=⟨_,rfl⟩
 have e1:A=n % 18446744073709551616:=by rw [hA,xF]
 obtain ⟨B,hB⟩:∃ B,B=wr .u64 (lo+A):=⟨_,rfl⟩
 have e2:B=(lo+A) % 18446744073709551616:=by rw [hB,xF]
 have w1:wr .i64 (hi+1)=hi+1:=lB ⟨by omega,by omega⟩
 have w2:wr .i64 (hi - 1)=hi - 1:=lB ⟨by omega,by omega⟩
 have w3:wr .i64 (hi+1 - 1)=hi:=by rw [lB ⟨by omega,by omega⟩];omega
 unfold dJ
 simp only [←hA,←hB,w1]
 refine ⟨?_,?_,?_⟩<;>repeat' split
 all_goals omega
theorem aLq (l:List Int):∀ (hi lo:Int),(∀ n∈l,I64 n)→0≤lo→lo<18446744073709551616→-1237940039285380274899124224+9223372036854775808*(l.length:Int)≤hi*18446744073709551616+lo→hi*18446744073709551616+lo≤1237940039285380274899124224 - 9223372036854775808*(l.length:Int)→
  (l.foldl dJ (hi,lo)).1*18446744073709551616+(l.foldl dJ (hi,lo)).2=hi*18446744073709551616+lo+l.sum∧0≤(l.foldl dJ (hi,lo)).2∧(l.foldl dJ (hi,lo)).2<18446744073709551616:=by
 induction l with
 | nil=>
  intro hi lo _ h0 h1 _ _
  exact ⟨(Int.add_zero _).symm,h0,h1⟩
 | cons n l ih=>
  intro hi lo hl h0 h1 b1 b2
  have hn:=hl n (List.mem_cons_self ..)
  have hlen:(((n::l).length:Nat):Int)=(l.length:Int)+1:=by rw [List.length_cons];omega
  rw [hlen] at b1 b2
  obtain ⟨s1,s2,s3⟩:=aA0 (hi:=hi) h0 h1 hn (by omega) (by omega)
  obtain ⟨n1,n2⟩:=hn
  have hp:dJ (hi,lo) n=((dJ (hi,lo) n).1,(dJ (hi,lo) n).2):=rfl
  rw [List.foldl_cons,List.sum_cons,hp]
  generalize (dJ (hi,lo) n).1=p at *
  generalize (dJ (hi,lo) n).2=q at *
  obtain ⟨t1,t2⟩:=ih p q (fun x hx=>hl x (List.mem_cons_of_mem _ hx)) s2 s3 (by omega) (by omega)
  exact ⟨by rw [t1,s1,Int.add_assoc],t2⟩
def vX (l:List Int):Int×Bool:=(wr .i64 (l.foldl dJ (0,0)).2,decide ((l.foldl dJ (0,0))=dJ (0,0) (wr .i64 (l.foldl dJ (0,0)).2)))
theorem aX4 (n:Int):wr .i64 n=(n+9223372036854775808) % 18446744073709551616 - 9223372036854775808:=by
 unfold wr lo hi
 simp only
 split
 ·omega
 ·rw [IntKind.wrap_i64]
theorem aJs {l:List Int} (hl:∀ n∈l,I64 n) (hb:l.length≤1000000):vX l=cR l:=by
 obtain ⟨s1,s2,s3⟩:=aLq l 0 0 hl (Int.le_refl _) (by decide) (by omega) (by omega)
 obtain ⟨e1,e2⟩:=dY hl hb
 unfold vX
 generalize l.foldl dJ (0,0)=w at *
 obtain ⟨hi,lo⟩:=w
 simp only at s1 s2 s3 ⊢
 have hw:=aH8 lo
 obtain ⟨p1,p2,p3⟩:=aA0 (hi:=0) (lo:=0) (Int.le_refl _) (by decide) hw (by decide) (by decide)
 have hwl:wr .i64 lo=wr .i64 l.sum:=by
  have e:=aX4
  rw [e,e]
  omega
 refine Prod.ext (hwl.trans e1.symm) ?_
 rw [Bool.eq_iff_iff,decide_eq_true_eq,e2]
 constructor
 ·intro h
  have h':=h
  rw [←h'] at p1
  simp only at p1
  have:l.sum=wr .i64 lo:=by omega
  rw [this];exact hw
 ·intro h
  have hs:wr .i64 lo=l.sum:=by rw [hwl];exact lB h
  rw [hs] at p1 p2 p3 ⊢
  generalize dJ (0,0) l.sum=q at *
  obtain ⟨qh,ql⟩:=q
  simp only at p1 p2 p3
  have:hi=qh∧lo=ql:=by omega
  rw [this.1,this.2]
theorem aX5 {l:List Int} {i:Nat} {a:Int} (hi:l[i]?=some a) (k:IntKind):gC 1 (.imm (l.map bS)) (.int k (i:Int))=.ok (.iptr (bS a) 0):=ixI (enc:=bS) hi rfl k
theorem bGj (l:List Int) (hb:l.length<1000000) (S:St) (K:KW):C 223 [.imm (l.map bS)] S K=K (.tup [.int .i64 (vX l).1,.bool (vX l).2]) S:=by
 refine (bEm rfl ?_).eq S K
 delta Tryz.f223;simp only [↓cw,↓reduceIte,Nat.reduceLT,kk]
 refine aG l (step:=fun w n=>(.inr (dJ w n):(Int×Int)⊕(Int×Int))) (fin:=id) (fun i w vs S=>vs=[.int .i64 (i:Int)]∧aB S 0 0=.ok (2,[[.int .i64 w.1,.int .u64 w.2]])) (fun w=>w=l.foldl dJ (0,0)) ?_ ?_ (s:=(0,0)) ⟨rfl,aF _ _ _ _ _ _⟩ ?_
 ·rintro i n ⟨hi',lo'⟩ vs S hi ⟨rfl,hg⟩ aC H
  have hil:=(List.getElem?_eq_some_iff.1 hi).1
  simp only [↓cw,↓reduceIte,Nat.reduceLT,kk,aY hi,if_true,gm,hg,aX5 hi,bS,bCo,fV (show i<1000000000 by omega)]
  exact H _ _ ⟨rfl,aF _ _ _ _ _ _⟩
 ·rintro ⟨hi',lo'⟩ vs S ⟨rfl,hg⟩ aC H
  have H:(hi',lo')=l.foldl dJ (0,0):=H
  simp only [↓cw,↓reduceIte,Nat.reduceLT,kk,Int.lt_irrefl,if_false,gm,hg,bCo,oo,vX,←H]
  have:∀ p:Int×Int,(decide (hi'=p.1)&&decide (lo'=p.2))=decide ((hi',lo')=p):=fun p=>by
   obtain ⟨a,b⟩:=p
   rw [Bool.eq_iff_iff];simp
  rw [this]
 ·have:∀ (l:List Int) (w:Int×Int),aE (fun w n=>(.inr (dJ w n):(Int×Int)⊕(Int×Int))) id l w=l.foldl dJ w:=by
   intro l
   induction l with
   | nil=>intro w;rfl
   | cons n l ih=>intro w;simp only [aE,List.foldl_cons];exact ih _
  exact this _ _
theorem bCp {S:St} {v:V} {l:List Int} (o:Own E0 S 1 v (l.map bS)) (hb:l.length<1000000) (K:KW):C 223 [v] S K=K (.tup [.int .i64 (vX l).1,.bool (vX l).2]) S:=by
 have h:=o.out fun _=>rfl
 exact (Fn.back fun S K=>bGj l hb S K).frz aXx rfl (by simp only [frzVs,h]) (by simp only [ptrsVs,o.ptrs];rfl) (.inl rfl) K
def iJ (l:List Part):Int×Int×Bool:=((vX (l.map (·.net))).1,(vX (l.map (·.tax))).1,(vX (l.map (·.net))).2&&(vX (l.map (·.tax))).2)
theorem bGk (l:List Part) (hl:l.length<100000) (S:St) (K:KW):C 161 [.imm (l.map Part.enc)] S K=K (.tup [.int .i64 (iJ l).1,.int .i64 (iJ l).2.1,.bool (iJ l).2.2]) S:=by
 refine (bDu rfl ?_).eq S K
 delta Tryz.f161;simp only [↓cw,↓reduceIte,Nat.reduceLT,kk]
 refine aG l (step:=pG) (fin:=id) (fun i s vs S=>∃ u v,vs=[u,v,.int .i64 (i:Int)]∧Own E0 S 1 u (s.1.map bS)∧Own E0 S 1 v (s.2.map bS)∧s.1.length=i∧s.2.length=i∧WF S∧(∀ y,AM.blkOf u=some y→AM.blkOf v≠some y)) (fun r=>r=(l.map (·.net),l.map (·.tax))) ?_ ?_ (s:=([],[])) ⟨_,_,rfl,Own.nil _ _ _,Own.nil _ _ _,rfl,rfl,xD,fun y h=>(by cases h)⟩ (by rw [aWs];rfl)
 ·rintro i p ⟨ns,ts⟩ vs S hi ⟨u,v,rfl,ou,ov,lu,lv,w,huv⟩ aC H
  have hil:=(List.getElem?_eq_some_iff.1 hi).1
  have lu:ns.length=i:=lu
  have lv:ts.length=i:=lv
  simp only [pG] at H
  have bu:∀ y,AM.blkOf u=some y→y<S.next:=fun y hy=>(fE ou hy).2
  have bv:∀ y,AM.blkOf v=some y→y<S.next:=fun y hy=>(fE ov hy).2
  obtain ⟨u',S2,q1,w2,n2,ou2,bu2,keep2⟩:=aJg (b:=8) ou w (k1:=S.next+6) (k2:=S.next+7) (m:=S.next+18) (fresh w (by omega)) (fresh w (by omega)) (by omega) (by omega) (by omega) (by omega) (aLd p.net) (by simp;omega) (by simp [eE];omega)
  have k2:∀ y,y<S.next→AM.blkOf u≠some y→S2.heap.get y=S.heap.get y:=fun y hy h=>keep2 y (by omega) (by omega) h
  have ov2:Own E0 S2 1 v (ts.map bS):=ov.same (by omega) fun a ha=>k2 a (by have:=bv a ha;omega) fun h=>huv a h ha
  have fr8:∀ k,8≤k→S2.heap.get (S.next+k)=none:=fun k hk=>by
   rw [keep2 (S.next+k) (by omega) (by omega) fun h=>by have:=bu _ h;omega];exact fresh w (by omega)
  obtain ⟨v',S3,q2,w3,n3,ov3,bv3,keep3⟩:=aJg (b:=8) ov2 w2 (k1:=S.next+14) (k2:=S.next+15) (m:=S2.next) (fr8 14 (by omega)) (fr8 15 (by omega)) (by omega) (by omega) (by omega) (Nat.le_refl _) (aLd p.tax) (by simp;omega) (by simp [eE];omega)
  have hu2:∀ y,AM.blkOf u'=some y→y=S.next+7∨AM.blkOf u=some y:=fun y hy=>by
   rcases bu2 with h | h
   ·rw [h] at hy;cases hy;exact .inl rfl
   ·rw [h] at hy;exact .inr hy
  have hv3:∀ y,AM.blkOf v'=some y→y=S.next+15∨AM.blkOf v=some y:=fun y hy=>by
   rcases bv3 with h | h
   ·rw [h] at hy;cases hy;exact .inl rfl
   ·rw [h] at hy;exact .inr hy
  have hb8:∀ a,AM.blkOf u'=some a→a≠S.next+14∧a≠S.next+15:=fun a ha=>by
   rcases hu2 a ha with h | h
   ·omega
   ·have:=bu a h;omega
  have ou3:Own E0 S3 1 u' ((ns++[p.net]).map bS):=by
   rw [List.map_append]
   exact ou2.same (by omega) fun a ha=>keep3 a (hb8 a ha).1 (hb8 a ha).2 fun hv=>by
    rcases hu2 a ha with h | h
    ·have:=bv a hv;omega
    ·exact huv a h hv
  simp only [bS] at q1 q2
  simp only [↓cw,↓reduceIte,Nat.reduceLT,kk,aY hi,if_true,eW hi,Part.enc,fV (show i<1000000000 by omega),gm,uH,q1,q2]
  exact H _ _ ⟨u',v',rfl,ou3,by rw [List.map_append];exact ov3,by simp;omega,by simp;omega,w3,fun y hy hy'=>by
   rcases hu2 y hy with h | h<;>rcases hv3 y hy' with h' | h'
   ·omega
   ·have:=bv y h';omega
   ·have:=bu y h;omega
   ·exact huv y h h'⟩
 ·rintro ⟨ns,ts⟩ vs S ⟨u,v,rfl,ou,ov,lu,lv,w,huv⟩ aC H
  have H:(ns,ts)=(l.map (·.net),l.map (·.tax)):=H
  obtain ⟨rfl,rfl⟩:=Prod.mk.inj H
  have c1:=fun K=>bCp ou (by rw [List.length_map];omega) K
  have c2:=fun K=>bCp ov (by rw [List.length_map];omega) K
  simp only [↓cw,↓reduceIte,Nat.reduceLT,kk,Int.lt_irrefl,if_false,c1,c2,iJ]
  cases (vX (l.map (·.net))).2<;>simp only [↓cw,↓reduceIte,Nat.reduceLT,kk,if_true,if_false,Bool.false_eq_true,oo,Bool.true_and,Bool.false_and]
theorem aPw {t:Total} (hi:∀ p∈t.parts,I64 p.net∧I64 p.tax) (hl:t.parts.length≤1000000):
  (if (iJ t.parts).2.2=true then (if (iS (iJ t.parts).1 (iJ t.parts).2.1).2=0 then (if (iJ t.parts).1=t.net then (if (iJ t.parts).2.1=t.tax then decide ((iS (iJ t.parts).1 (iJ t.parts).2.1).1=t.gross) else false) else false) else false) else false)=fB t:=by
 have h1:∀ n∈t.parts.map (·.net),I64 n:=fun n h=>by obtain ⟨p,hp,rfl⟩:=List.mem_map.1 h;exact (hi p hp).1
 have h2:∀ n∈t.parts.map (·.tax),I64 n:=fun n h=>by obtain ⟨p,hp,rfl⟩:=List.mem_map.1 h;exact (hi p hp).2
 unfold iJ fB
 simp only
 rw [aJs h1 (by rw [List.length_map];exact hl),aJs h2 (by rw [List.length_map];exact hl)]
 by_cases c1:(cR (t.parts.map (·.net))).2=true
 ·by_cases c2:(cR (t.parts.map (·.tax))).2=true
  ·simp only [c1,c2,Bool.and_self,if_true]
   have i1:I64 (cR (t.parts.map (·.net))).1:=by rw [(dY h1 (by rw [List.length_map];exact hl)).1];exact aH8 _
   have i2:I64 (cR (t.parts.map (·.tax))).1:=by rw [(dY h2 (by rw [List.length_map];exact hl)).1];exact aH8 _
   by_cases c3:(cR (t.parts.map (·.net))).1=t.net
   ·by_cases c4:(cR (t.parts.map (·.tax))).1=t.tax
    ·rw [c3] at i1
     rw [c4] at i2
     simp only [c3,c4,if_true]
     rw [aLh i1 i2]
     have hx:=dY (l:=[t.net,t.tax]) (fun n hn=>by simp at hn;rcases hn with rfl | rfl<;>assumption) (by simp)
     have hs:[t.net,t.tax].sum=t.net+t.tax:=by simp
     rw [hs] at hx
     by_cases c5:I64 (t.net+t.tax)
     ·rw [if_pos c5,if_pos (hx.2.2 c5),hx.1,lB c5];rfl
     ·rw [if_neg c5,if_neg (fun h=>c5 (hx.2.1 h))];rfl
    ·simp only [c3,c4,if_true,if_false];split<;>split<;>rfl
   ·simp only [c3,if_false];split<;>split<;>rfl
  ·simp only [c1,c2,Bool.and_false,if_true,if_false,Bool.false_eq_true,Bool.true_and]
 ·simp only [c1,Bool.false_and,if_false,Bool.false_eq_true]
theorem aLr {n:Int} (h:I64 n):zK n=if n<0 then -n else n:=by
 obtain ⟨h1,h2⟩:=h
 unfold zK
 split
 ·rw [lB (n:=n+1) ⟨by omega,by omega⟩,lB (n:=0 - (n+1)) ⟨by omega,by omega⟩,cJ (n:=0 - (n+1)) (by omega) (by omega),cJ (by omega) (by omega)]
  omega
 ·exact cJ (by omega) (by omega)
theorem aS3 {n bp:Int} (h:I64 n):aPe n bp=cY n bp:=by
 by_cases c0:bp<0∨100000<bp
 ·unfold aPe cY
  rw [if_pos c0,if_pos c0]
 have h1:0≤bp:=by omega
 have h2:bp≤100000:=by omega
 rw [uM h h1 h2]
 unfold aPe
 rw [if_neg c0]
 simp only [aLr h]
 have hp:wr .u64 bp=bp:=cJ h1 (by omega)
 rw [hp]
 obtain ⟨n1,n2⟩:=h
 obtain ⟨u,hu⟩:∃ u,u=(if n<0 then -n else n):=⟨_,rfl⟩
 rw [←hu]
 have hu0:0≤u∧u≤9223372036854775808:=by subst hu;split<;>omega
 have hq:u.tdiv 10000=u / 10000:=Int.tdiv_eq_ediv_of_nonneg hu0.1
 have hr:u.tmod 10000=u % 10000:=Int.tmod_eq_emod_of_nonneg hu0.1
 have hmax:(9223372036854775807:Int).tdiv bp=9223372036854775807 / bp:=Int.tdiv_eq_ediv_of_nonneg (by decide)
 rw [hq,hr,hmax,cJ (n:=u / 10000) (by omega) (by omega)]
 have hdiv:0<bp→0≤9223372036854775807 / bp∧9223372036854775807 / bp<18446744073709551616:=by
  intro hb
  constructor
  ·exact Int.ediv_nonneg (by decide) (by omega)
  ·have:=Int.ediv_le_self bp (a:=9223372036854775807) (by decide);omega
 unfold rO
 by_cases c:0<bp∧9223372036854775807 / bp<u / 10000
 ·rw [if_pos c,if_pos ⟨c.1,by rw [cJ (hdiv c.1).1 (hdiv c.1).2];exact c.2⟩]
 ·rw [if_neg c,if_neg (fun q=>c ⟨q.1,by have:=q.2;rwa [cJ (hdiv q.1).1 (hdiv q.1).2] at this⟩)]
  have hm1:0≤u / 10000*bp:=Int.mul_nonneg (by omega) h1
  have hm2:u / 10000*bp≤9223372036854775807:=by
   by_cases hb:0<bp
   ·have hle:u / 10000≤9223372036854775807 / bp:=by
     by_cases q:u / 10000≤9223372036854775807 / bp
     ·exact q
     ·exact absurd ⟨hb,by omega⟩ c
    calc u / 10000*bp≤9223372036854775807 / bp*bp:=Int.mul_le_mul_of_nonneg_right hle h1
     _≤9223372036854775807:=Int.ediv_mul_le _ (by omega)
   ·have:bp=0:=by omega
    subst this;simp
  have hr1:0≤u % 10000*bp:=Int.mul_nonneg (by omega) h1
  have hr2:u % 10000*bp≤10000*100000:=Int.mul_le_mul (by omega) h2 h1 (by decide)
  rw [cJ hm1 (by omega),cJ hr1 (by omega),cJ (n:=u % 10000*bp+5000) (by omega) (by omega)]
  have ht:(u % 10000*bp+5000).tdiv 10000=(2*(u % 10000)*bp+10000) / 20000:=by
   rw [Int.tdiv_eq_ediv_of_nonneg (by omega),Int.mul_assoc];omega
  have hr3:2*(u % 10000)*bp=2*(u % 10000*bp):=Int.mul_assoc ..
  rw [ht,cJ (n:=(2*(u % 10000)*bp+10000) / 20000) (by omega) (by omega),cJ (n:=u / 10000*bp+(2*(u % 10000)*bp+10000) / 20000) (by omega) (by omega)]
  obtain ⟨t,htt⟩:∃ t,t=u / 10000*bp+(2*(u % 10000)*bp+10000) / 20000:=⟨_,rfl⟩
  have ht0:0≤t:=by omega
  rw [←htt]
  split
  ·rfl
  ·rename_i hle
   rw [kM (n:=t) (by omega) (by omega)]
   split
   ·rw [kM (by omega) (by omega)];simp
   ·rfl
theorem aS4 {u:Int} (h1:0≤u) (h2:u<18446744073709551616):aDa u=18446744073709551615 - u:=by
 unfold aDa
 simp only [IntKind.signed,Bool.false_eq_true,if_false]
 have hm:(IntKind.u64.max:Int)=18446744073709551615:=by decide
 rw [hm]
 have hb:IntKind.u64.bits=64:=rfl
 rw [hb]
 have:(BitVec.ofInt 64 18446744073709551615 ^^^ BitVec.ofInt 64 u) = ~~~(BitVec.ofInt 64 u):=by
  rw [show (BitVec.ofInt 64 18446744073709551615)=BitVec.allOnes 64 from by decide,BitVec.allOnes_xor]
 rw [this,BitVec.toNat_not]
 have hv:(BitVec.ofInt 64 u).toNat=u.toNat:=by
  rw [BitVec.toNat_ofInt]
  omega
 rw [hv,cJ (by omega) (by omega)]
 omega
theorem bGl (t:Total) (hint:∀ p∈t.parts,I64 p.net∧I64 p.tax) (S:St) (K:KW):C 119 [.agg [.int .i64 t.net,.int .i64 t.tax,.int .i64 t.gross,.imm (t.parts.map Part.enc)]] S K=K (.bool (bR t)) S:=by
 refine (bEz rfl ?_).eq S K
 simp only [aRa,kk,bR]
 by_cases c1:t.parts.length<1
 ·simp only [c1,show (t.parts.length:Int)=0 by omega,kk,oo,if_true]
 by_cases c2:12<t.parts.length
 ·simp only [c1,c2,show ¬ (t.parts.length:Int)=0 by omega,show (12:Int)<(t.parts.length:Int) by omega,kk,oo,if_true,if_false]
 simp only [c1,c2,show ¬ (t.parts.length:Int)=0 by omega,show ¬ (12:Int)<(t.parts.length:Int) by omega,kk,if_false]
 have hsum:=aPw hint (by omega)
 refine aG t.parts (step:=bU) (fin:=fun _=>fB t) (fun i s vs S=>vs=[.bool false,.int .i64 (i:Int)]∧s=bL t.parts i∧aB S 0 0=.ok (4,[[.int .i64 t.net,.int .i64 t.tax,.int .i64 t.gross,.imm (t.parts.map Part.enc)]])∧0<S.next) (fun r=>r=aE bU (fun _=>fB t) t.parts none) ?_ ?_ (s:=none) ⟨rfl,rfl,aF _ _ _ _ _ _,Nat.zero_lt_one⟩ rfl
 ·rintro i p s vs S hi ⟨rfl,rfl,r0,h0⟩ aC H
  have hil:=(List.getElem?_eq_some_iff.1 hi).1
  have hn:bL t.parts (i+1)=some p:=by simpa [bL] using hi
  obtain ⟨S',hS'⟩:∃ S':St,S'=⟨S.next+1+30,(S.heap.put S.next (.row 0 4 [[.str [],.int .i64 0,.int .i64 0,.int .i64 0]])).put S.next (.row 0 4 [[.str p.cat,.int .i64 p.bp,.int .i64 p.net,.int .i64 p.tax]])⟩:=⟨_,rfl⟩
  have r2:aB S' 0 0=.ok (4,[[.int .i64 t.net,.int .i64 t.tax,.int .i64 t.gross,.imm (t.parts.map Part.enc)]]):=by rw [hS'];exact bB (n:=S.next) (by omega) (bB (n:=S.next) (by omega) r0)
  have r3:aB S' S.next 0=.ok (4,[[.str p.cat,.int .i64 p.bp,.int .i64 p.net,.int .i64 p.tax]]):=by rw [hS'];exact aF _ _ _ _ _ _
  have h2:0<S'.next:=by rw [hS'];exact Nat.succ_pos _
  have w1:wr .i64 ((i:Int)+1)=((i+1:Nat):Int):=fV (by omega)
  have ht3:=aS3 (bp:=p.bp) (hint p (List.mem_of_getElem? hi)).1
  have hst:bU (bL t.parts i) p=if dX p.cat=false then .inl false else if p.bp<0 then .inl false else if 100000<p.bp then .inl false else if eK (bL t.parts i) p=true then .inl false else if (cY p.net p.bp).2=0 then (if (cY p.net p.bp).1=p.tax then .inr (some p) else .inl false) else .inl false:=by
   unfold bU pH pI
   simp only [Bool.or_eq_true,decide_eq_true_eq]
   grind
  rw [hst] at H
  have hj0:∀ X:St,X=S'→(if (cY p.net p.bp).2=0 then (if (cY p.net p.bp).1=p.tax then aC [.bool false,.int .i64 ((i+1:Nat):Int)] S' else aE bU (fun _=>fB t) t.parts none=false) else aE bU (fun _=>fB t) t.parts none=false)→wW C (fun v0 S0=>iR S0 v0=Except.ok (V.bool (aE bU (fun _=>fB t) t.parts none))) aC (.ptr 0 0 0 0) (.bool false) (.int .i64 (i:Int)) (.ptr S.next 0 0 0) X:=by
   rintro X rfl hyp
   simp only [wW,kk,r3,bFl,ht3,eG,w1]
   by_cases d1:(cY p.net p.bp).2=0
   ·by_cases d2:(cY p.net p.bp).1=p.tax
    ·simp only [d1,d2,if_true,not_true_eq_false,if_false] at hyp ⊢;exact hyp
    ·simp only [d1,d2,if_true,if_false,not_true_eq_false,not_false_eq_true,oo] at hyp ⊢
     rw [hyp]
   ·simp only [d1,if_false,not_false_eq_true,if_true,oo] at hyp ⊢
    rw [hyp]
  simp only [aD5,kk,r0,aY hi,if_true,eW hi,Part.enc,←hS',r3,aWz]
  cases hna:dX p.cat
  ·simp only [hna,kk,if_true,Bool.not_false,oo] at H ⊢
   rw [←H]
  simp only [hna,kk,Bool.true_eq_false,Bool.not_true,Bool.false_eq_true,if_false,r3] at H ⊢
  by_cases e1:p.bp<0
  ·simp only [e1,if_true,oo] at H ⊢
   rw [←H]
  by_cases e2:100000<p.bp
  ·simp only [e1,e2,if_true,if_false,oo] at H ⊢
   rw [←H]
  simp only [e1,e2,if_false] at H ⊢
  have hlast:eK (bL t.parts i) p=false→(if (cY p.net p.bp).2=0 then (if (cY p.net p.bp).1=p.tax then aC [.bool false,.int .i64 ((i+1:Nat):Int)] S' else aE bU (fun _=>fB t) t.parts none=false) else aE bU (fun _=>fB t) t.parts none=false):=by
   intro e3
   simp only [e3,Bool.false_eq_true,if_false] at H
   by_cases d1:(cY p.net p.bp).2=0
   ·by_cases d2:(cY p.net p.bp).1=p.tax
    ·simp only [d1,d2,if_true] at H ⊢
     exact H _ _ ⟨rfl,by rw [hn],r2,h2⟩
    ·simp only [d1,d2,if_true,if_false] at H ⊢;exact H.symm
   ·simp only [d1,if_false] at H ⊢;exact H.symm
  by_cases i0:i=0
  ·have e3:eK (bL t.parts i) p=false:=by rw [i0];rfl
   simp only [show ¬ (0:Int)<(i:Int) by omega,if_false]
   exact hj0 S' rfl (hlast e3)
  ·have hj:t.parts[i - 1]?=some t.parts[i - 1]:=List.getElem?_eq_getElem (by omega)
   have hp:bL t.parts i=some t.parts[i - 1]:=by unfold bL;rw [if_neg i0];exact hj
   have w2:wr .i64 ((i:Int) - 1)=((i - 1:Nat):Int):=by rw [kM (by omega) (by omega)];omega
   have e4:eK (bL t.parts i) p=!iW t.parts[i - 1].cat p.cat:=by rw [hp];rfl
   simp only [show (0:Int)<(i:Int) by omega,if_true,r2,w2,eW hj,Part.enc,kk,r3]
   cases d:iW t.parts[i - 1].cat p.cat
   ·rw [d] at e4
    simp only [e4,Bool.not_false,if_true,oo] at H ⊢
    rw [←H]
   ·rw [d] at e4
    simp only [Bool.not_true,Bool.false_eq_true,if_false]
    exact hj0 S' rfl (hlast e4)
 ·rintro s vs S ⟨rfl,rfl,r0,h0⟩ aC H
  have H:fB t=aE bU (fun _=>fB t) t.parts none:=H
  rw [←H,←hsum]
  simp only [aD5,kk,r0,Int.lt_irrefl,if_false,bGk t.parts (by omega),bBx,eG]
  cases d1:(iJ t.parts).2.2
  ·simp only [kk,Bool.false_eq_true,if_false,oo]
  simp only [kk,if_true]
  by_cases d2:(iS (iJ t.parts).1 (iJ t.parts).2.1).2=0
  ·simp only [d2,kk,if_true]
   by_cases d3:(iJ t.parts).1=t.net
   ·by_cases d4:(iJ t.parts).2.1=t.tax
    ·simp only [d3,d4,kk,if_true,oo]
    ·simp only [d3,d4,kk,if_true,if_false,oo]
   ·simp only [d3,kk,if_false,oo]
  ·simp only [d2,kk,if_false,oo]
end Go.Proofs.YtoaibmbldmckaaaGreat
end
section
namespace Go.AM
theorem aC6 {n a ver i len:Nat} (h:i<len):gC n (.sl a ver n 0 len) (.int .i64 (i:Int))=.ok (.ptr a ver i 0):=by
 simp only [gC,iH h,if_true,Nat.zero_add]
theorem aLs {X:St} {a ver n i:Nat} {es:List (List V)} {cs:List V} (hg:X.heap.get a=some (.row ver n es)) (hi:es[i]?=some cs) (k:Option Nat) (j:Nat):iZ k (.ptr a ver i j) X=kS k cs j:=by
 simp only [ldP,bQ hg,hi]
theorem aW8 {X:St} {a ver n i j:Nat} {es:List (List V)} {cs:List V} {v:V} (hg:X.heap.get a=some (.row ver n es)) (hi:es[i]?=some cs) (hv:v.cells=[v]) (ho:v.one=true) (hj:j+1≤cs.length):
  eM 1 (.ptr a ver i j) v X=.ok ⟨X.next,X.heap.put a (.row ver n (es.set i (splice cs j [v])))⟩:=by
 simp only [stP,bQ hg,hi,hv]
 rw [if_pos ⟨rfl,by simp [aI,ho],hj⟩]
theorem aX6 {X:St} {a ver n i:Nat} {es:List (List V)} (hg:X.heap.get a=some (.row ver n es)) (hi:i≤es.length):aM X (.sl a ver n 0 i)=.ok (es.take i):=by
 have hb:Nat.ble (0+i) es.length=true:=Nat.ble_eq_true_of_le (by omega)
 simp only [aM,bQ hg,hb,cond_true,List.drop_zero]
theorem aX7 {X:St} {a ver n i:Nat} {es:List (List V)} (hg:X.heap.get a=some (.row ver n es)) (hi:i≤es.length):aM X (.sl a ver n i (es.length - i))=.ok (es.drop i):=by
 have hb:Nat.ble (i+(es.length - i)) es.length=true:=Nat.ble_eq_true_of_le (by omega)
 simp only [aM,bQ hg,hb,cond_true]
 rw [List.take_of_length_le (by rw [List.length_drop];omega)]
end Go.AM
namespace Go.Proofs.YtoaibmbldmckaaaGreat
open Go.AM Tryz
set_option linter.unusedVariables false
set_option linter.unusedSimpArgs false
set_option maxRecDepth 100000
theorem uO {α:Type} {enc:α→List V} {n b:Nat} (hl:∀ x,(enc x).length=n∧aI (enc x)=true) (l:List α) {S:St} {a:Nat} {u:V} (hu:aM S u=.ok (l.map enc)) (hg:aB S a 0=.ok (n,[])) (h1:l.length*b≤35184372088832) (h2:l.length<eE) (fr:Option Nat):
  eN n b (.sl a 0 n 0 0) u fr S=.ok (.sl a 1 n 0 l.length,⟨S.next,S.heap.put a (.row 1 n (l.map enc))⟩):=by
 have hc:∀ cs,cs∈l.map enc→cs.length=n∧aI cs=true:=fun cs hc=>by obtain ⟨x,_,rfl⟩:=List.mem_map.1 hc;exact hl x
 obtain ⟨a1,a2⟩:=eJ hc
 simp only [eN,hu,a1,a2,and_self,if_true,hg,List.length_map,Nat.zero_add,List.length_nil,Nat.le_refl,h1,h2,List.drop_nil,List.take_nil,List.nil_append]
theorem aS5 {α:Type} {enc:α→List V} {n b:Nat} (hl:∀ x,(enc x).length=n∧aI (enc x)=true) (l r:List α) {S:St} {a:Nat} {ver:Nat} {u:V} (hu:aM S u=.ok (r.map enc)) (hg:aB S a ver=.ok (n,l.map enc)) (h1:(l.length+r.length)*b≤35184372088832) (h2:l.length+r.length<eE) (fr:Option Nat):
  eN n b (.sl a ver n 0 l.length) u fr S=.ok (.sl a (ver+1) n 0 (l.length+r.length),⟨S.next,S.heap.put a (.row (ver+1) n ((l++r).map enc))⟩):=by
 have hc:∀ cs,cs∈r.map enc→cs.length=n∧aI cs=true:=fun cs hc=>by obtain ⟨x,_,rfl⟩:=List.mem_map.1 hc;exact hl x
 obtain ⟨a1,a2⟩:=eJ hc
 simp only [eN,hu,a1,a2,and_self,if_true,hg,List.length_map,Nat.zero_add,Nat.le_refl,h1,h2,List.drop_zero,List.map_append]
 rw [List.take_of_length_le (by rw [List.length_map];exact Nat.le_refl _)]
theorem bCq {α:Type} {enc:α→List V} {n b:Nat} (hl:∀ x,(enc x).length=n∧aI (enc x)=true) (l:List α) (x:α) {i:Nat} (hi:i≤l.length) {S:St} {k1 k2 m s vs:Nat} (hne:k1≠k2) (hs1:s≠k1) (hs2:s≠k2) (hsrc:S.heap.get s=some (.row vs n (l.map enc))) (hk1:k1<S.next) (hm:S.next≤m) (hg:aB S k1 0=.ok (n,[])) (w:WF S) (hk2:k2<m) (h1:(l.length+1)*b≤35184372088832) (h2:l.length+1<eE) (f1 f2 f3:Option Nat):
  ∃ S1 S2 S3:St,eN n b (.sl k1 0 n 0 0) (.sl s vs n 0 i) f1 S=.ok (.sl k1 1 n 0 i,S1)∧S1.next=S.next∧eN n b (.sl k1 1 n 0 i) (.sl k2 0 n 0 1) f2 ⟨m,S1.heap.put k2 (.row 0 n [enc x])⟩=.ok (.sl k1 2 n 0 (i+1),S2) ∧
   eN n b (.sl k1 2 n 0 (i+1)) (.sl s vs n i (l.length - i)) f3 S2=.ok (.sl k1 3 n 0 (l.length+1),S3)∧S3.next=m∧WF S3∧S3.heap.get k1=some (.row 3 n ((nJ l i x).map enc))∧(∀ y,y≠k1→S1.heap.get y=S.heap.get y)∧∀ y,y≠k1→y≠k2→S3.heap.get y=S.heap.get y:=by
 have lt:(l.take i).length=i:=by rw [List.length_take];omega
 have ld:(l.drop i).length=l.length - i:=List.length_drop
 have lm:(l.map enc).length=l.length:=List.length_map _
 have hb:∀ j,j≤l.length+1→j*b≤35184372088832:=fun j hj=>Nat.le_trans (Nat.mul_le_mul_right b hj) h1
 have u1:aM S (.sl s vs n 0 i)=.ok ((l.take i).map enc):=by rw [aX6 hsrc (by omega),List.map_take]
 have q1:=uO (b:=b) hl (l.take i) u1 hg (hb _ (by omega)) (by omega) f1
 rw [lt] at q1
 have g2:aB ⟨m,(S.heap.put k1 (.row 1 n ((l.take i).map enc))).put k2 (.row 0 n [enc x])⟩ k1 1=.ok (n,(l.take i).map enc):=bG (S:=⟨S.next,S.heap.put k1 (.row 1 n ((l.take i).map enc))⟩) (aF _ _ _ _ _ _) (Tr.get_put_neB _ _ _ _ trivial hne)
 have g3:aB ⟨m,(S.heap.put k1 (.row 1 n ((l.take i).map enc))).put k2 (.row 0 n [enc x])⟩ k2 0=.ok (n,[enc x]):=aF _ _ _ _ _ _
 have q2:=aX3 (b:=b) hl (l.take i) x g2 g3 (hb _ (by omega)) (by omega) f2
 rw [lt] at q2
 obtain ⟨Z,hZ⟩:∃ Z:St,Z=⟨m,((S.heap.put k1 (.row 1 n ((l.take i).map enc))).put k2 (.row 0 n [enc x])).put k1 (.row 2 n ((l.take i++[x]).map enc))⟩:=⟨_,rfl⟩
 have g4:aB Z k1 2=.ok (n,(l.take i++[x]).map enc):=by rw [hZ];exact aF _ _ _ _ _ _
 have gs:Z.heap.get s=some (.row vs n (l.map enc)):=by
  rw [hZ]
  show (((S.heap.put k1 _).put k2 _).put k1 _).get s=_
  rw [Tr.get_put_neB _ _ _ _ trivial hs1,Tr.get_put_neB _ _ _ _ trivial hs2,Tr.get_put_neB _ _ _ _ trivial hs1];exact hsrc
 have u3:aM Z (.sl s vs n i (l.length - i))=.ok ((l.drop i).map enc):=by
  have:=aX7 gs (i:=i) (by omega)
  rw [lm] at this
  rw [this,List.map_drop]
 have l1:(l.take i++[x]).length=i+1:=by rw [List.length_append,lt];rfl
 have q3:=aS5 (b:=b) hl (l.take i++[x]) (l.drop i) u3 g4 (hb _ (by omega)) (by omega) f3
 rw [l1,ld] at q3
 have e:i+1+(l.length - i)=l.length+1:=by omega
 rw [e] at q3
 have ei:l.take i++[x]++l.drop i=nJ l i x:=by simp [nJ]
 rw [ei] at q3
 have zn:Z.next=m:=by rw [hZ]
 have wZ:WF Z:=by rw [hZ];exact lA (n:=m) (lA (n:=S.next) (lA (n:=S.next) w hk1 (Nat.le_refl _)) hk2 hm) (show k1<m by omega) (Nat.le_refl _)
 refine ⟨_,Z,_,q1,rfl,by rw [hZ];exact q2,q3,zn,lA (n:=Z.next) wZ (by omega) (Nat.le_refl _),Tr.get_put_sameB _ _ _ trivial,fun y hy=>Tr.get_put_neB _ _ _ _ trivial hy,fun y hy hy2=>?_⟩
 show (Z.heap.put k1 _).get y=_
 rw [Tr.get_put_neB _ _ _ _ trivial hy,hZ]
 show (((S.heap.put k1 _).put k2 _).put k1 _).get y=_
 rw [Tr.get_put_neB _ _ _ _ trivial hy,Tr.get_put_neB _ _ _ _ trivial hy2,Tr.get_put_neB _ _ _ _ trivial hy]
end Go.Proofs.YtoaibmbldmckaaaGreat
end
section
namespace Go.Proofs.YtoaibmbldmckaaaGreat
open Go.AM Tryz
def iL (c:UInt8):List V:=[.int .u8 (c.toNat:Int)]
theorem u81 (c:UInt8):(iL c).length=1∧aI (iL c)=true:=⟨rfl,rfl⟩
theorem bGm {c:Int} (h0:0≤c) (h1:c<1000000000) (S:St):cG prog 22 (.int .i64 0) (.int .i64 c) none S=.ok (.sl S.next 0 1 0 0,⟨S.next+1,S.heap.put S.next (.row 0 1 [])⟩):=by
 have e1:gN prog 22=some 5:=by kernel_rfl
 have e2:aJ prog 5=some (.int .u8 0):=by kernel_rfl
 have e3:sz prog 5=1:=by kernel_rfl
 have e4:prog.bytesOf 5=1:=by kernel_rfl
 have e5:qI prog 5 c.toNat=true:=by
  unfold qI eE
  rw [e4,Bool.and_eq_true]
  exact ⟨Nat.ble_eq_true_of_le (by omega),by rw [Nat.blt_eq];omega⟩
 simp only [cG,e1,e2,e3,e5,nb0]
 rw [show (Nat.beq (V.cells (.int .u8 0)).length 1&&decide ((0:Int)≤0)&&decide (0≤c)&&decide (c<2147483648)&&true)=true by
  rw [decide_eq_true h0,decide_eq_true (show c<2147483648 by omega)];rfl]
 rfl
theorem bCr {S:St} {v:V} {b:List UInt8} (w:WF S) (hv:Sl S 1 v (b.map iL)) (hb:b.length<100000000) (n:Int) (h0:0≤n) (h1:n<100000000) {K:KW} (H:∀ v' S',Ext S S'→Own S S' 1 v' (b.map iL)→K v' S'):C 211 [v,.int .i64 n] S K:=by
 refine bEg ?_
 have w1:wr .i64 ((b.length:Int)+n)=(b.length:Int)+n:=kM (by omega) (by omega)
 have x1:Ext S ⟨S.next+1,S.heap.put S.next (.row 0 1 [])⟩:=Ext.new w _
 have q:=uO (b:=1) u81 b (S:=⟨S.next+1,S.heap.put S.next (.row 0 1 [])⟩) (a:=S.next) (hv.ext x1).elems (aF _ _ _ _ _ _) (by omega) (by unfold eE;omega) none
 delta Tryz.f211;simp only [↓cw,↓reduceIte,Nat.reduceLT,kk,hv.lenI,w1,bGm (c:=(b.length:Int)+n) (by omega) (by omega),q]
 exact H _ _ (x1.set (Nat.le_refl _) (Nat.lt_succ_self _) w _) ⟨.inr ⟨S.next,1,[],by rw [List.length_map],Nat.le_refl _,Nat.lt_succ_self _,by rw [List.append_nil];exact Tr.get_put_sameB _ _ _ trivial⟩,fun c hc=>by obtain ⟨x,_,rfl⟩:=List.mem_map.1 hc;exact u81 x⟩
theorem aPx {n:Int} (h:0≤n) (h2:n≤9223372036854775807):wr .u64 (wr .u64 n*2 ^ (min (1:Int).toNat IntKind.u64.bits))=((Go.Pack.zig n:Nat):Int):=by
 have e:(min (1:Int).toNat IntKind.u64.bits)=1:=by decide
 rw [e]
 unfold Go.Pack.zig
 rw [if_pos h]
 have h1:wr .u64 n=n:=by simp [wr,lo,hi,IntKind.wrap,IntKind.min,IntKind.max,IntKind.bits,IntKind.signed];omega
 rw [h1]
 simp [wr,lo,hi,IntKind.wrap,IntKind.min,IntKind.max,IntKind.bits,IntKind.signed];omega
theorem aJt {n:Int} (h:n<0) (h2:-9223372036854775808≤n):aDa (wr .u64 (wr .u64 n*2 ^ (min (1:Int).toNat IntKind.u64.bits)))=((Go.Pack.zig n:Nat):Int):=by
 have e:(min (1:Int).toNat IntKind.u64.bits)=1:=by decide
 rw [e]
 unfold Go.Pack.zig
 rw [if_neg (by omega)]
 have h1:wr .u64 n=18446744073709551616+n:=by simp [wr,lo,hi,IntKind.wrap,IntKind.min,IntKind.max,IntKind.bits,IntKind.signed];omega
 have h3:wr .u64 ((18446744073709551616+n)*2 ^ 1)=18446744073709551616+2*n:=by simp [wr,lo,hi,IntKind.wrap,IntKind.min,IntKind.max,IntKind.bits,IntKind.signed];omega
 rw [h1,h3,aS4 (by omega) (by omega)]
 omega
theorem wr8 (u:Nat):wr .u8 (u:Int)=((u % 256:Nat):Int):=by
 simp only [wr,lo,hi,IntKind.wrap,IntKind.min,IntKind.max,IntKind.bits,IntKind.signed,Bool.false_and,Bool.false_eq_true,if_false]
 by_cases h:(u:Int)≤255
 ·rw [if_pos ⟨by omega,h⟩];omega
 ·rw [if_neg (fun q=>h q.2)];omega
theorem or8 (x:Nat) (h:x<256):BitVec.toNat (BitVec.ofInt 8 (x:Int) ||| BitVec.ofInt 8 128)=x % 128+128:=by
 have:=(by decide +kernel:∀ x:Fin 256,BitVec.toNat (BitVec.ofInt 8 (x.val:Int) ||| BitVec.ofInt 8 128)=x.val % 128+128) ⟨x,h⟩
 exact this
theorem aJu (u:Nat):wr .u8 ((BitVec.toNat (BitVec.ofInt IntKind.u8.bits (wr .u8 (u:Int)) ||| BitVec.ofInt IntKind.u8.bits 128):Nat):Int)=(((UInt8.ofNat (u % 128+128)).toNat:Nat):Int):=by
 rw [wr8 u]
 have e:=or8 (u % 256) (Nat.mod_lt _ (by decide))
 have:BitVec.toNat (BitVec.ofInt IntKind.u8.bits ((u % 256:Nat):Int) ||| BitVec.ofInt IntKind.u8.bits 128)=u % 256 % 128+128:=e
 rw [this,wr8,Go.Pack.byte_lt (by omega)]
 congr 1
 omega
theorem aFv {u:Nat} (h:u<128):wr .u8 (u:Int)=(((UInt8.ofNat u).toNat:Nat):Int):=by rw [wr8,Go.Pack.byte_lt (by omega)];congr 1;omega
theorem bCs (u:Nat):Int.fdiv (u:Int) (2 ^ (min (Int.toNat 7) IntKind.u64.bits))=((u / 128:Nat):Int):=by
 rw [show (min (Int.toNat 7) IntKind.u64.bits)=7 from by decide,Int.fdiv_eq_ediv_of_nonneg _ (by decide)]
 omega
theorem bCt (t:Nat) (k:IntKind) (a:Int):bJ prog .shl t (.int k a) (.int .u64 1)=.ok (.int k (wr k (a*2 ^ (min (1:Int).toNat k.bits)))):=rfl
theorem aW9 (t:Nat) (k:IntKind) (a:Int):bJ prog .shr t (.int k a) (.int .u64 7)=.ok (.int k (Int.fdiv a (2 ^ (min (Int.toNat 7) k.bits)))):=rfl
theorem bCu (t:Nat) (a b:Int):bJ prog .or t (.int .u8 a) (.int .u8 b)=.ok (.int .u8 (wr .u8 ((BitVec.toNat (BitVec.ofInt IntKind.u8.bits a ||| BitVec.ofInt IntKind.u8.bits b):Nat):Int))):=rfl
theorem aS6 {S:St} {v:V} {b:List UInt8} (w:WF S) (hv:Sl S 1 v (b.map iL)) (hb:b.length<10000000) (n:Int) (hn:I64 n) {K:KW} (H:∀ v' S',Ext S S'→Own S S' 1 v' ((b++Go.Pack.numP n).map iL)→K v' S'):C 138 [v,.int .i64 n] S K:=by
 refine bDp ?_
 delta Tryz.f138;simp only [↓cw,↓reduceIte,Nat.reduceLT,kk]
 refine bCr w hv (by omega) 10 (by decide) (by decide) fun v1 S1 x1 o1=>?_
 have hz:((Go.Pack.zig n:Nat):Int)=if n<0 then aDa (wr .u64 (wr .u64 n*2 ^ (min (1:Int).toNat IntKind.u64.bits))) else wr .u64 (wr .u64 n*2 ^ (min (1:Int).toNat IntKind.u64.bits)):=by
  split
  ·rw [aJt (by assumption) hn.1]
  ·rw [aPx (by omega) hn.2]
 by_cases hneg:n<0
 all_goals
  simp only [hneg,if_true,if_false] at hz
  simp only [↓cw,↓reduceIte,Nat.reduceLT,kk,bCt,hneg,if_true,if_false,unK,←hz]
  refine yY (fun i vs X=>∃ v' done,vs=[v',.int .u64 (i:Int)]∧Own S X 1 v' (done.map iL)∧Ext S X∧done++Go.Pack.nb i=b++Go.Pack.numP n∧i<2 ^ 64) ?_ ⟨v1,b,rfl,o1.same (Nat.le_refl _) fun _ _=>rfl,x1,rfl,Go.Pack.zig_lt hn⟩
  rintro u vs X ⟨v',done,rfl,o,x,e,hu⟩ aC ha
  have hX:=x.wf w
  have hl:done.length+(Go.Pack.nb u).length=b.length+(Go.Pack.numP n).length:=by rw [←List.length_append,e,List.length_append]
  have hnp:=Go.Pack.numP_len hn
  have hnu:=Go.Pack.nb_pos u
  by_cases h:u<128
  ·have hb1:Go.Pack.nb u=[UInt8.ofNat u]:=Go.Pack.nb_low h
   have x2:Ext X ⟨X.next+1,X.heap.put X.next (.row 0 1 [iL (UInt8.ofNat u)])⟩:=Ext.new hX _
   obtain ⟨v2,X2,q1,x3,n3,o2⟩:=(o.ext x2).push (b:=1) (x.trans x2) w (u:=.sl X.next 0 1 0 1) (cs:=[iL (UInt8.ofNat u)]) (by simp only [aM,aF];rfl) (fun c hc=>by rcases List.mem_singleton.1 hc with rfl;exact u81 _) (by simp) (by simp;omega) (by simp [eE];omega)
   simp only [iL] at q1
   simp only [↓cw,↓reduceIte,Nat.reduceLT,kk,show ¬ (128:Int)≤(u:Int) by omega,if_false,aFv h,uH,q1]
   exact H _ _ x3 (by rw [←e,hb1];simpa using o2)
  ·have hb1:Go.Pack.nb u=UInt8.ofNat (u % 128+128)::Go.Pack.nb (u / 128):=Go.Pack.nb_high h
   have x2:Ext X ⟨X.next+1,X.heap.put X.next (.row 0 1 [iL (UInt8.ofNat (u % 128+128))])⟩:=Ext.new hX _
   obtain ⟨v2,X2,q1,x3,n3,o2⟩:=(o.ext x2).push (b:=1) (x.trans x2) w (u:=.sl X.next 0 1 0 1) (cs:=[iL (UInt8.ofNat (u % 128+128))]) (by simp only [aM,aF];rfl) (fun c hc=>by rcases List.mem_singleton.1 hc with rfl;exact u81 _) (by simp) (by simp;omega) (by simp [eE];omega)
   simp only [iL] at q1
   simp only [↓cw,↓reduceIte,Nat.reduceLT,kk,show (128:Int)≤(u:Int) by omega,if_true,bCu,aJu,uH,q1,aW9,bCs]
   exact ha (u / 128) _ _ (by omega) ⟨v2,done++[UInt8.ofNat (u % 128+128)],rfl,by simpa using o2,x3,by rw [←e,hb1];simp,by omega⟩
theorem Own.pushX {S0 S:St} {n b:Nat} {v:V} {es:List (List V)} (h:Own S0 S n v es) (x:Ext S0 S) (w:WF S0) (he:es≠[]) {u:V} {cs:List (List V)} (hu:aM S u=.ok cs) (hc:∀ c,c∈cs→c.length=n∧aI c=true)
  (h1:(es.length+cs.length)*b≤35184372088832) (h2:es.length+cs.length<eE):∃ v' S',eN n b v u none S=.ok (v',S')∧Ext S0 S'∧S'.next≤S.next+1∧Own S0 S' n v' (es++cs):=by
 by_cases hne:cs=[]
 ·subst hne
  rcases h.is with ⟨rfl,rfl⟩ | ⟨a,ver,tl,rfl,q1,q2,q3⟩
  ·exact absurd rfl he
  ·have g:aB S a ver=.ok (n,es++tl):=bQ q3
   refine ⟨.sl a (ver+1) n 0 es.length,⟨S.next,S.heap.put a (.row (ver+1) n es)⟩,?_,x.set q1 q2 w _,Nat.le_succ _,⟨.inr ⟨a,ver+1,[],by rw [List.append_nil],q1,q2,by rw [List.append_nil,List.append_nil];exact Tr.get_put_sameB _ _ _ trivial⟩,by rw [List.append_nil];exact h.len⟩⟩
   simp only [List.length_nil,Nat.add_zero] at h1 h2
   simp only [eN,hu,gS,List.all_nil,and_self,if_true,g,Nat.zero_add,List.length_append,Nat.le_add_right,List.length_nil,Nat.add_zero,h1,h2,List.drop_zero,List.append_nil,List.take_left']
 ·exact h.push x w hu hc hne h1 h2
theorem aJv (n:Int):Go.Pack.numP n≠[]:=fun e=>by have:=Go.Pack.nb_pos (Go.Pack.zig n);unfold Go.Pack.numP at e;rw [e] at this;exact absurd this (by decide)
theorem aDn (s:List UInt8):txt.put s=Go.Pack.numP (s.length:Int)++s:=rfl
theorem bGo {S:St} {v:V} {b:List UInt8} (w:WF S) (hv:Sl S 1 v (b.map iL)) (hb:b.length<1000000) (s:List UInt8) (hs:s.length<1000000) {K:KW} (H:∀ v' S',Ext S S'→Own S S' 1 v' ((b++txt.put s).map iL)→K v' S'):C 171 [v,.str s] S K:=by
 refine bE4 ?_
 have w1:wr .i64 (10+(s.length:Int))=10+(s.length:Int):=kM (by omega) (by omega)
 delta Tryz.f171;simp only [↓cw,↓reduceIte,Nat.reduceLT,kk,w1]
 refine bCr w hv (by omega) _ (by omega) (by omega) fun v1 S1 x1 o1=>?_
 refine aS6 (x1.wf w) o1.sl (by omega) _ (by constructor<;>omega) fun v2 S2 x2 o2=>?_
 have o2':Own S S2 1 v2 ((b++Go.Pack.numP (s.length:Int)).map iL):=o2.weaken x1.next
 have hnp:=Go.Pack.numP_len (n:=(s.length:Int)) ⟨by omega,by omega⟩
 obtain ⟨v3,S3,q1,x3,n3,o3⟩:=Own.pushX (b:=1) o2' (x1.trans x2) w (by simp [aJv]) (u:=.str s) (cs:=s.map iL) rfl (fun c hc=>by obtain ⟨y,_,rfl⟩:=List.mem_map.1 hc;exact u81 y) (by simp;omega) (by simp [eE];omega)
 simp only [↓cw,↓reduceIte,Nat.reduceLT,kk,q1]
 exact H _ _ x3 (by rw [aDn,←List.append_assoc,List.map_append];exact o3)
theorem aA1 (f:Bool):Go.Pack.flag.put f=Go.Pack.numP (if f=true then 1 else 0):=by cases f<;>rfl
theorem bGp {S:St} {v:V} {b:List UInt8} (w:WF S) (hv:Sl S 1 v (b.map iL)) (hb:b.length<1000000) (f:Bool) {K:KW} (H:∀ v' S',Ext S S'→Own S S' 1 v' ((b++Go.Pack.flag.put f).map iL)→K v' S'):C 172 [v,.bool f] S K:=by
 refine bE5 ?_
 rw [aA1] at H
 delta Tryz.f172;cases f<;>simp only [↓cw,↓reduceIte,Nat.reduceLT,kk,Bool.false_eq_true,if_true,if_false]
 ·exact aS6 w hv (by omega) 0 (by constructor<;>omega) fun v' S' x o=>H v' S' x o
 ·exact aS6 w hv (by omega) 1 (by constructor<;>omega) fun v' S' x o=>H v' S' x o
def WB (a:Nat) (b:List UInt8) (S:St):Prop:=∃ v,S.heap.get a=some (.row 0 1 [[v]])∧Sl S 1 v (b.map iL)∧blkOf v≠some a∧a<S.next
theorem WB.set {S S':St} {a:Nat} {v':V} {b:List UInt8} (w:WF S) (ha:a<S.next) (x:Ext S S') (o:Own S S' 1 v' (b.map iL)):AM.But a S ⟨S'.next,S'.heap.put a (.row 0 1 [[v']])⟩∧WB a b ⟨S'.next,S'.heap.put a (.row 0 1 [[v']])⟩:=by
 have ha':a<S'.next:=Nat.lt_of_lt_of_le ha x.next
 have hb:∀ y,blkOf v'=some y→y≠a:=fun y hy e=>by
  rcases o.is with ⟨rfl,_⟩ | ⟨c,ver,tl,rfl,q1,q2,q3⟩
  ·cases hy
  ·cases hy;omega
 refine ⟨(AM.But.of x).trans (AM.But.put ha' _),v',Tr.get_put_sameB _ _ _ trivial,o.sl.keep fun y c hy hc=>?_,fun e=>hb a e rfl,ha'⟩
 show (S'.heap.put a _).get y=_
 rw [Tr.get_put_neB _ _ _ _ trivial (hb y hy)];exact hc
theorem g93 {S:St} {a:Nat} {b:List UInt8} (w:WF S) (hw:WB a b S) (hb:b.length<1000000) (s:List UInt8) (hs:s.length<1000000) {K:KW} (H:∀ S',AM.But a S S'→WB a (b++txt.put s) S'→K (.tup []) S'):C 93 [.ptr a 0 0 0,.str s] S K:=by
 obtain ⟨v,hg,hv,hk,ha⟩:=hw
 refine v93 ?_
 have r:=bQ hg
 delta Tryz.f93;simp only [↓cw,↓reduceIte,Nat.reduceLT,kk,r]
 refine bGo w hv hb s hs fun v' S' x o=>?_
 simp only [↓cw,↓reduceIte,Nat.reduceLT,kk,bQ (x.old _ _ hg),o.cells,o.one]
 obtain ⟨h1,h2⟩:=WB.set w ha x o
 exact H _ h1 h2
theorem g95 {S:St} {a:Nat} {b:List UInt8} (w:WF S) (hw:WB a b S) (hb:b.length<1000000) (f:Bool) {K:KW} (H:∀ S',AM.But a S S'→WB a (b++Go.Pack.flag.put f) S'→K (.tup []) S'):C 95 [.ptr a 0 0 0,.bool f] S K:=by
 obtain ⟨v,hg,hv,hk,ha⟩:=hw
 refine v95 ?_
 have r:=bQ hg
 delta Tryz.f95;simp only [↓cw,↓reduceIte,Nat.reduceLT,kk,r]
 refine bGp w hv hb f fun v' S' x o=>?_
 simp only [↓cw,↓reduceIte,Nat.reduceLT,kk,bQ (x.old _ _ hg),o.cells,o.one]
 obtain ⟨h1,h2⟩:=WB.set w ha x o
 exact H _ h1 h2
def bM (ns:List Int):List UInt8:=ns.flatMap Go.Pack.numP
def aJw (b:List UInt8) (n:Int):List UInt8⊕List UInt8:=.inr (b++Go.Pack.numP n)
theorem aWa:∀ (ns:List Int) (b:List UInt8),aE aJw id ns b=b++bM ns
 | [],b=>by simp [aE,bM]
 | n::ns,b=>by
  show aE aJw id ns (b++Go.Pack.numP n)=_
  rw [aWa ns];simp [bM]
theorem g92 {S:St} {a k:Nat} {b:List UInt8} (w:WF S) (hw:WB a b S) (ns:List Int) (hb:b.length+10*ns.length<1000000) (hI:∀ n∈ns,I64 n) (hk:aB S k 0=.ok (1,ns.map bS)) (hka:k≠a) {K:KW} (H:∀ S',AM.But a S S'→WB a (b++bM ns) S'→K (.tup []) S'):C 92 [.ptr a 0 0 0,.sl k 0 1 0 ns.length] S K:=by
 refine v92 ?_
 delta Tryz.f92;simp only [↓cw,↓reduceIte,Nat.reduceLT,kk]
 refine aG ns (step:=aJw) (fin:=id) (fun i d vs X=>vs=[.int .i64 (i:Int)]∧AM.But a S X∧WB a d X∧d.length≤b.length+10*i) (fun d=>d=b++bM ns) ?_ ?_ (s:=b) ⟨rfl,⟨fun _ _ _ h=>h,Nat.le_refl _,fun h=>h⟩,hw,Nat.le_refl _⟩ (aWa ns b)
 ·rintro i n d vs X hi ⟨rfl,bt,⟨v,hg,hv,hkv,ha⟩,hd⟩ aC Hq
  have hil:=(List.getElem?_eq_some_iff.1 hi).1
  have hn:=hI n (List.mem_of_getElem? hi)
  have hkX:X.heap.get k=some (.row 0 1 (ns.map bS)):=bt.old k _ hka (wU hk)
  have ld:=aLs hkX (by rw [List.getElem?_map,hi];rfl:(ns.map bS)[i]?=some (bS n)) none 0
  have r:=bQ hg
  simp only [kk,bS] at ld
  simp only [aJw] at Hq
  simp only [↓cw,↓reduceIte,Nat.reduceLT,kk,aY hi,if_true,aC6 hil,Nat.add_zero,ld,r]
  have wX:=bt.wf w
  refine aS6 wX hv (by omega) n hn fun v' S' x o=>?_
  simp only [↓cw,↓reduceIte,Nat.reduceLT,kk,bQ (x.old _ _ hg),o.cells,o.one,fV (show i<1000000000 by omega)]
  obtain ⟨h1,h2⟩:=WB.set wX ha x o
  have hl:=Go.Pack.numP_len hn
  exact Hq _ _ ⟨rfl,bt.trans h1,h2,by rw [List.length_append];omega⟩
 ·rintro d vs X ⟨rfl,bt,hw',hd⟩ aC Hq
  have Hq:d=b++bM ns:=Hq
  simp only [↓cw,↓reduceIte,Nat.reduceLT,kk,Int.lt_irrefl,if_false]
  exact H _ bt (by rw [←Hq];exact hw')
theorem WB.ext {S S':St} {a:Nat} {b:List UInt8} (h:WB a b S) (x:Ext S S'):WB a b S':=by
 obtain ⟨v,hg,hv,hk,ha⟩:=h
 exact ⟨v,x.old _ _ hg,hv.ext x,hk,Nat.lt_of_lt_of_le ha x.next⟩
theorem WB.lt {S:St} {a:Nat} {b:List UInt8} (h:WB a b S):a<S.next:=by
 obtain ⟨v,hg,hv,hk,ha⟩:=h
 exact ha
theorem eD (s:List UInt8) (h:s.length<1000000):(txt.put s).length≤10+s.length:=by
 rw [aDn,List.length_append]
 have:=Go.Pack.numP_len (n:=(s.length:Int)) ⟨by omega,by omega⟩
 omega
theorem iK:∀ ns:List Int,(∀ n∈ns,I64 n)→(bM ns).length≤10*ns.length
 | [],_=>Nat.le_refl _
 | n::ns,h=>by
  have:=iK ns fun m hm=>h m (List.mem_cons_of_mem _ hm)
  have:=Go.Pack.numP_len (h n (List.mem_cons_self ..))
  simp only [bM,List.flatMap_cons,List.length_append,List.length_cons] at *
  omega
theorem kI {S:St} {a:Nat} {b:List UInt8} (w:WF S) (hw:WB a b S) (ns:List Int) (hb:b.length+10*ns.length<1000000) (hI:∀ n∈ns,I64 n) {K:KW} (H:∀ S',AM.But a S S'→WB a (b++bM ns) S'→K (.tup []) S'):C 92 [.ptr a 0 0 0,.sl S.next 0 1 0 ns.length] ⟨S.next+1,S.heap.put S.next (.row 0 1 (ns.map bS))⟩ K:=by
 have x:Ext S ⟨S.next+1,S.heap.put S.next (.row 0 1 (ns.map bS))⟩:=Ext.new w _
 have:=hw.lt
 exact g92 (k:=S.next) (x.wf w) (hw.ext x) ns hb hI (aF _ _ _ _ _ _) (by omega) fun S' h1 h2=>H S' ((AM.But.of x).trans h1) h2
theorem nO {a:Int} {l:List Int} (h:I64 a) (t:∀ n∈l,I64 n):∀ n∈a::l,I64 n:=List.forall_mem_cons.2 ⟨h,t⟩
theorem al0:∀ n∈([]:List Int),I64 n:=fun _ h=>by cases h
def aC7 (d:Date):Prop:=I64 d.y∧I64 d.m∧I64 d.d
theorem aDo (d:Date):gR.put d=bM [d.y,d.m,d.d]:=by
 show Go.Pack.numP d.y++(Go.Pack.numP d.m++Go.Pack.numP d.d)=_
 simp [bM]
theorem bCw (a0 a1:Int) (fr:Option Nat) (S:St):aW 1 [.int .i64 0] 2 [(0,.int .i64 a0),(1,.int .i64 a1)] fr S=(match aR fr S (.row 0 1 [[.int .i64 a0],[.int .i64 a1]]) with
  | .error e=>.error e
  | .ok (a,S')=>.ok (.sl a 0 1 0 2,S')):=by unfold aW;rw [if_pos (by decide)];rfl
theorem bGq (a0 a1 a2:Int) (fr:Option Nat) (S:St):aW 1 [.int .i64 0] 3 [(0,.int .i64 a0),(1,.int .i64 a1),(2,.int .i64 a2)] fr S=(match aR fr S (.row 0 1 [[.int .i64 a0],[.int .i64 a1],[.int .i64 a2]]) with
  | .error e=>.error e
  | .ok (a,S')=>.ok (.sl a 0 1 0 3,S')):=by unfold aW;rw [if_pos (by decide)];rfl
theorem bGr (a0 a1 a2 a3 a4:Int) (fr:Option Nat) (S:St):aW 1 [.int .i64 0] 5 [(0,.int .i64 a0),(1,.int .i64 a1),(2,.int .i64 a2),(3,.int .i64 a3),(4,.int .i64 a4)] fr S=(match aR fr S (.row 0 1 [[.int .i64 a0],[.int .i64 a1],[.int .i64 a2],[.int .i64 a3],[.int .i64 a4]]) with
  | .error e=>.error e
  | .ok (a,S')=>.ok (.sl a 0 1 0 5,S')):=by unfold aW;rw [if_pos (by decide)];rfl
theorem g94 {S:St} {a:Nat} {b:List UInt8} (w:WF S) (hw:WB a b S) (hb:b.length<100000) (d:Date) (hd:aC7 d) {K:KW} (H:∀ S',AM.But a S S'→WB a (b++gR.put d) S'→K (.tup []) S'):C 94 [.ptr a 0 0 0,.agg [.int .i64 d.y,.int .i64 d.m,.int .i64 d.d]] S K:=by
 refine v94 ?_
 have x:Ext S ⟨S.next+1,S.heap.put S.next (.row 0 3 [d.enc])⟩:=Ext.new w _
 have h:=kI (x.wf w) (hw.ext x) [d.y,d.m,d.d] (by simp;omega) (nO hd.1 (nO hd.2.1 (nO hd.2.2 al0))) (K:=fun v S'=>K (.tup []) S') fun S' h1 h2=>H S' ((AM.But.of x).trans h1) (by rw [aDo];exact h2)
 simp only [Date.enc,List.map_cons,List.map_nil,bS,List.length_cons,List.length_nil] at h
 delta Tryz.f94;simp only [↓cw,↓reduceIte,Nat.reduceLT,kk,tP,bGq]
 exact h
def oV (p:Part):List UInt8:=txt.put p.cat++bM [p.bp,p.net]
structure PostI' (p:Posted):Prop where
 ser:p.ref.ser.length≤64
 day:aC7 p.day
 ofs:p.of.ser.length≤64
 num:I64 p.of.num
 len:p.total.parts.length≤12
 parts:∀ q∈p.total.parts,q.cat.length≤64∧I64 q.bp∧I64 q.net
def gK (p:Posted):List UInt8:=txt.put p.ref.ser++(gR.put p.day++(txt.put p.of.ser++(bM [p.of.num,(p.total.parts.length:Int)]++p.total.parts.flatMap oV)))
theorem aPy (p:Posted):aFp.put (oS p)=gK p:=by
 show txt.put p.ref.ser++(gR.put p.day++(txt.put p.of.ser++(Go.Pack.numP p.of.num++(Go.Pack.numP (((p.total.parts.map vM).length:Nat):Int)++(p.total.parts.map vM).flatMap aC1.put))))=_
 have e:(p.total.parts.map vM).flatMap aC1.put=p.total.parts.flatMap oV:=by
  rw [List.flatMap_map]
  congr 1
  funext q
  show txt.put q.cat++(Go.Pack.numP q.bp++Go.Pack.numP q.net)=_
  simp [oV,bM]
 rw [e,List.length_map]
 simp [gK,bM]
theorem lJ {n:Nat} (h:n<1000000000):I64 (n:Int):=⟨by omega,by omega⟩
def aDp (b:List UInt8) (p:Part):List UInt8⊕List UInt8:=.inr (b++oV p)
theorem aPz:∀ (ps:List Part) (b:List UInt8),aE aDp id ps b=b++ps.flatMap oV
 | [],b=>by simp [aE]
 | p::ps,b=>by
  show aE aDp id ps (b++oV p)=_
  rw [aPz ps];simp
theorem aA2 {p:Part} (h:p.cat.length≤64∧I64 p.bp∧I64 p.net):(oV p).length≤94:=by
 have h1:=eD p.cat (by omega)
 have h2:=iK [p.bp,p.net] (nO h.2.1 (nO h.2.2 al0))
 simp only [oV,List.length_append,List.length_cons,List.length_nil] at *
 omega
theorem g96 {S:St} {a:Nat} {b:List UInt8} (w:WF S) (hw:WB a b S) (hb:b.length<80000) (p:Posted) (hp:PostI' p) {K:KW} (H:∀ S',AM.But a S S'→WB a (b++gK p) S'→K (.tup []) S'):C 96 [.ptr a 0 0 0,.agg p.enc] S K:=by
 refine v96 ?_
 have ha:=hw.lt
 obtain ⟨S1,hS1⟩:∃ S1:St,S1=⟨S.next+1,S.heap.put S.next (.row 0 12 [p.enc])⟩:=⟨_,rfl⟩
 have x1:Ext S S1:=by rw [hS1];exact Ext.new w _
 have r1:S1.heap.get S.next=some (.row 0 12 [p.enc]):=by rw [hS1];exact Tr.get_put_sameB _ _ _ trivial
 have hl1:=eD p.ref.ser (by have:=hp.ser;omega)
 have hl2:=eD p.of.ser (by have:=hp.ofs;omega)
 have hl3:=iK [p.day.y,p.day.m,p.day.d] (nO hp.day.1 (nO hp.day.2.1 (nO hp.day.2.2 al0)))
 have hs:=hp.ser;have hso:=hp.ofs;have hpl:=hp.len
 rw [←aDo] at hl3
 simp only [List.length_cons,List.length_nil] at hl3
 have rr:∀ {X:St},AM.But a S1 X→aB X S.next 0=.ok (12,[p.enc]):=fun {X} bt=>bQ (bt.old _ _ (by omega) r1)
 simp only [Posted.enc] at hS1 rr
 have r0:=rr (X:=S1) ⟨fun _ _ _ h=>h,Nat.le_refl _,fun h=>h⟩
 delta Tryz.f96;simp only [↓cw,↓reduceIte,Nat.reduceLT,kk,Posted.enc,←hS1,r0]
 have cwb:∀ {X:St},AM.But a S1 X→WF X:=fun {X} bt=>bt.wf (x1.wf w)
 refine g93 (x1.wf w) (hw.ext x1) (by omega) _ (by omega) fun S2 b2 h2=>?_
 simp only [↓cw,↓reduceIte,Nat.reduceLT,kk,rr b2]
 refine g94 (cwb b2) h2 (by rw [List.length_append];omega) p.day hp.day fun S3 b3' h3=>?_
 have b3:=b2.trans b3'
 simp only [↓cw,↓reduceIte,Nat.reduceLT,kk,rr b3]
 refine g93 (cwb b3) h3 (by simp only [List.length_append];omega) _ (by omega) fun S4 b4' h4=>?_
 have b4:=b3.trans b4'
 simp only [↓cw,↓reduceIte,Nat.reduceLT,kk,rr b4,bCw]
 have hl4:=iK [p.of.num,(p.total.parts.length:Int)] (nO hp.num (nO (lJ (by omega)) al0))
 simp only [List.length_cons,List.length_nil] at hl4
 refine kI (cwb b4) h4 [p.of.num,(p.total.parts.length:Int)] (by simp only [List.length_append,List.length_cons,List.length_nil];omega) (nO hp.num (nO (lJ (by omega)) al0)) fun S5 b5' h5=>?_
 have b5:=b4.trans b5'
 simp only [↓cw,↓reduceIte,Nat.reduceLT,kk,rr b5]
 refine aG p.total.parts (step:=aDp) (fin:=id) (fun i d vs X=>vs=[.int .i64 (i:Int)]∧AM.But a S1 X∧WB a d X∧d.length≤b.length+260+94*i) (fun d=>d=b++gK p) ?_ ?_ (s:=b++txt.put p.ref.ser++gR.put p.day++txt.put p.of.ser++bM [p.of.num,(p.total.parts.length:Int)]) ⟨rfl,b5,h5,by simp only [List.length_append];omega⟩ (by rw [aPz];simp [gK])
 ·rintro i q d vs X hi ⟨rfl,bt,hwd,hd⟩ aC Hq
  have hil:=(List.getElem?_eq_some_iff.1 hi).1
  have hq:=hp.parts q (List.mem_of_getElem? hi)
  have wX:=cwb bt
  have hla:=hwd.lt
  have hq1:=eD q.cat (by omega)
  have hq2:=aA2 hq
  obtain ⟨X1,hX1⟩:∃ X1:St,X1=⟨X.next+1,(X.heap.put X.next (.row 0 4 [[.str [],.int .i64 0,.int .i64 0,.int .i64 0]])).put X.next (.row 0 4 [q.enc])⟩:=⟨_,rfl⟩
  have xX:Ext X X1:=by rw [hX1];exact Ext.var wX 4 _ _
  have rq:X1.heap.get X.next=some (.row 0 4 [q.enc]):=by rw [hX1];exact Tr.get_put_sameB _ _ _ trivial
  have rr2:∀ {Y:St},AM.But a X1 Y→aB Y X.next 0=.ok (4,[q.enc]):=fun {Y} bt=>bQ (bt.old _ _ (by omega) rq)
  simp only [Part.enc] at hX1 rr2
  have r20:=rr2 (Y:=X1) ⟨fun _ _ _ h=>h,Nat.le_refl _,fun h=>h⟩
  simp only [aDp] at Hq
  simp only [↓cw,↓reduceIte,Nat.reduceLT,kk,aY hi,if_true,eW hi,Part.enc,←hX1,r20]
  refine g93 (xX.wf wX) (hwd.ext xX) (by omega) _ (by omega) fun Y1 c1 k1=>?_
  simp only [↓cw,↓reduceIte,Nat.reduceLT,kk,rr2 c1,bCw,fV (show i<1000000000 by omega)]
  refine kI (c1.wf (xX.wf wX)) k1 [q.bp,q.net] (by simp only [List.length_append,List.length_cons,List.length_nil];omega) (nO hq.2.1 (nO hq.2.2 al0)) fun Y2 c2 k2=>?_
  exact Hq _ _ ⟨rfl,(bt.trans (AM.But.of xX)).trans (c1.trans c2),by rw [List.append_assoc] at k2;exact k2,by rw [List.length_append];omega⟩
 ·rintro d vs X ⟨rfl,bt,hwd,hd⟩ aC Hq
  have Hq:d=b++gK p:=Hq
  simp only [↓cw,↓reduceIte,Nat.reduceLT,kk,Int.lt_irrefl,if_false]
  exact H _ ((AM.But.of x1).trans bt) (by rw [←Hq];exact hwd)
structure ImgOK (s:State):Prop where
 t1:s.table.length≤24
 t2:∀ r∈s.table,r.cat.length≤64∧aC7 r.day∧I64 r.bp
 s1:s.ser.length≤8
 s2:∀ x∈s.ser,x.name.length≤64∧I64 x.limit
 p1:s.posted.length≤40
 p2:∀ p∈s.posted,PostI' p
 e1:s.sess.length≤8
 e2:∀ x∈s.sess,I64 x.id∧I64 x.last∧I64 x.reply.why∧I64 x.reply.number∧I64 x.reply.gross
 n:I64 s.next
theorem ImgOK.of {s:State} (h:aRy.ok (aHg s)):ImgOK s:=by
 obtain ⟨⟨t1,t2⟩,⟨s1,s2⟩,⟨p1,p2⟩,⟨e1,e2⟩,n⟩:=h
 refine ⟨t1,fun r hr=>t2 r hr,?_,fun x hx=>?_,?_,fun p hp=>?_,?_,fun x hx=>?_,n⟩
 ·simpa [aHg] using s1
 ·obtain ⟨a,b,c⟩:=s2 (aDm x) (List.mem_map_of_mem hx);exact ⟨a,b⟩
 ·simpa [aHg] using p1
 ·obtain ⟨a,b,c,d,e1,e2⟩:=p2 (oS p) (List.mem_map_of_mem hp)
  refine ⟨a,b,c,d,by simpa [oS] using e1,fun q hq=>?_⟩
  obtain ⟨x,y,z⟩:=e2 (vM q) (List.mem_map_of_mem hq)
  exact ⟨x,y,z⟩
 ·simpa [aHg] using e1
 ·exact e2 (tK x) (List.mem_map_of_mem hx)
def kJ (r:Rate):List UInt8:=txt.put r.cat++(gR.put r.day++bM [r.bp])
def rS (x:Ser):List UInt8:=txt.put x.name++(bM [x.limit]++Go.Pack.flag.put x.shut)
def oW (x:Sess):List UInt8:=bM [x.id,x.last,x.reply.why,x.reply.number,x.reply.gross]
def oX (s:State):List UInt8:=bM [(s.table.length:Int)]++s.table.flatMap kJ++bM [(s.ser.length:Int)]++s.ser.flatMap rS++bM [(s.posted.length:Int)]++s.posted.flatMap gK++bM [(s.sess.length:Int)]++s.sess.flatMap oW++bM [s.next]
theorem aJx (s:State):aRy.put (aHg s)=oX s:=by
 show (Go.Pack.numP (s.table.length:Nat)++s.table.flatMap zW.put)++((Go.Pack.numP (((s.ser.map aDm).length:Nat):Int)++(s.ser.map aDm).flatMap aHf.put)++((Go.Pack.numP (((s.posted.map oS).length:Nat):Int)++(s.posted.map oS).flatMap aFp.put)++((Go.Pack.numP (((s.sess.map tK).length:Nat):Int)++(s.sess.map tK).flatMap zX.put)++Go.Pack.numP s.next)))=_
 have e1:zW.put=kJ:=by funext r;show txt.put r.cat++(gR.put r.day++Go.Pack.numP r.bp)=_;simp [kJ,bM]
 have e2:(s.ser.map aDm).flatMap aHf.put=s.ser.flatMap rS:=by
  rw [List.flatMap_map];congr 1;funext x
  show txt.put x.name++(Go.Pack.numP x.limit++Go.Pack.flag.put x.shut)=_
  simp [rS,bM]
 have e3:(s.posted.map oS).flatMap aFp.put=s.posted.flatMap gK:=by
  rw [List.flatMap_map];congr 1;funext p;exact aPy p
 have e4:(s.sess.map tK).flatMap zX.put=s.sess.flatMap oW:=by
  rw [List.flatMap_map];congr 1;funext x
  show Go.Pack.numP x.id++(Go.Pack.numP x.last++(Go.Pack.numP x.reply.why++(Go.Pack.numP x.reply.number++Go.Pack.numP x.reply.gross)))=_
  simp [oW,bM]
 rw [e1,e2,e3,e4]
 simp [oX,bM]
def grow {α:Type} (f:α→List UInt8) (b:List UInt8) (x:α):List UInt8⊕List UInt8:=.inr (b++f x)
theorem aQ0 {α:Type} (f:α→List UInt8):∀ (l:List α) (b:List UInt8),aE (grow f) id l b=b++l.flatMap f
 | [],b=>by simp [aE]
 | x::l,b=>by
  show aE (grow f) id l (b++f x)=_
  rw [aQ0 f l];simp
theorem aDq {α:Type} (f:α→List UInt8) (l:List α) {a B:Nat} {X0 Y:St} {b:List UInt8} {F:List V→St→(List V→St→Prop)→Prop} (hlen:∀ x∈l,(f x).length≤B) (h0:AM.But a X0 Y) (hw:WB a b Y)
  (hs:∀ i x d X,l[i]?=some x→AM.But a X0 X→WB a d X→d.length≤b.length+B*i→∀ aC:List V→St→Prop,(∀ X',AM.But a X0 X'→WB a (d++f x) X'→aC [.int .i64 ((i+1:Nat):Int)] X')→F [.int .i64 (i:Int)] X aC)
  (he:∀ X aC,AM.But a X0 X→WB a (b++l.flatMap f) X→F [.int .i64 (l.length:Int)] X aC):iF [.int .i64 0] Y F:=by
 refine aG l (step:=grow f) (fin:=id) (fun i d vs X=>vs=[.int .i64 (i:Int)]∧AM.But a X0 X∧WB a d X∧d.length≤b.length+B*i) (fun d=>d=b++l.flatMap f) ?_ ?_ (s:=b) ⟨rfl,h0,hw,Nat.le_refl _⟩ (aQ0 f l b)
 ·rintro i x d vs X hi ⟨rfl,bt,hwd,hd⟩ aC Hq
  refine hs i x d X hi bt hwd hd aC fun X' h1 h2=>Hq _ _ ⟨rfl,h1,h2,?_⟩
  have:=hlen x (List.mem_of_getElem? hi)
  rw [List.length_append,Nat.mul_add];omega
 ·rintro d vs X ⟨rfl,bt,hwd,hd⟩ aC Hq
  have Hq:d=b++l.flatMap f:=Hq
  exact he X aC bt (by rw [←Hq];exact hwd)
theorem gL {n:Int} (h:I64 n):(bM [n]).length≤10:=iK [n] (nO h al0)
theorem aQ1 (f:Bool):(Go.Pack.flag.put f).length≤10:=by rw [aA1];cases f<;>exact Go.Pack.numP_len ⟨by decide,by decide⟩
theorem oY {d:Date} (h:aC7 d):(gR.put d).length≤30:=by rw [aDo];exact iK _ (nO h.1 (nO h.2.1 (nO h.2.2 al0)))
theorem tL {r:Rate} (h:r.cat.length≤64∧aC7 r.day∧I64 r.bp):(kJ r).length≤114:=by
 have h1:=eD r.cat (by omega);have h2:=oY h.2.1;have h3:=gL h.2.2
 simp only [kJ,List.length_append];omega
theorem xH {x:Ser} (h:x.name.length≤64∧I64 x.limit):(rS x).length≤94:=by
 have h1:=eD x.name (by omega);have h2:=gL h.2;have h3:=aQ1 x.shut
 simp only [rS,List.length_append];omega
theorem iA {α:Type} (f:α→List UInt8) {n:Nat}:∀ l:List α,(∀ a∈l,(f a).length≤n)→(l.flatMap f).length≤n*l.length
 | [],_=>Nat.zero_le _
 | x::l,h=>by
  have h1:=h x (List.mem_cons_self ..)
  have h2:=iA f l fun a ha=>h a (List.mem_cons_of_mem _ ha)
  simp only [List.flatMap_cons,List.length_append,List.length_cons,Nat.mul_add];omega
theorem pN {p:Posted} (h:PostI' p):(gK p).length≤1326:=by
 have h1:=eD p.ref.ser (by have:=h.ser;omega);have h2:=oY h.day;have h3:=eD p.of.ser (by have:=h.ofs;omega)
 have h4:=iK [p.of.num,(p.total.parts.length:Int)] (nO h.num (nO (lJ (by have:=h.len;omega)) al0))
 have h5:=iA oV (n:=94) p.total.parts fun q hq=>aA2 (h.parts q hq)
 have:=h.ser;have:=h.ofs;have:=h.len
 simp only [gK,List.length_append,List.length_cons,List.length_nil] at *;omega
theorem tM {x:Sess} (h:I64 x.id∧I64 x.last∧I64 x.reply.why∧I64 x.reply.number∧I64 x.reply.gross):(oW x).length≤50:=iK _ (nO h.1 (nO h.2.1 (nO h.2.2.1 (nO h.2.2.2.1 (nO h.2.2.2.2 al0)))))
theorem AM.But.rfl' {a:Nat} {S:St}:AM.But a S S:=⟨fun _ _ _ h=>h,Nat.le_refl _,fun h=>h⟩
theorem _root_.Go.AM.Sl.out {α:Type} {enc:α→List V} {S:St} {n:Nat} {v:V} {l:List α} (h:Sl S n v (l.map enc)) (hc:∀ x,cloVs (enc x)=true):cP lX (nL (kK S 3) S) v=.ok (.imm (l.map enc)):=by
 have he:=h.elems
 rcases h.is with ⟨rfl,e⟩ | rfl | ⟨a',ver',off,elems,rfl,h2,h3⟩
 ·rw [e];rfl
 ·rfl
 ·simp only [cP,nL,he,(oJ (S:=S) (n:=2) (kY (enc:=enc) hc l)).1]
theorem g28 (s:State) (h:fL s=true→ImgOK s) (S:St) (K:KW):C 28 [.agg [.imm (s.table.map Rate.enc),.imm (s.ser.map Ser.enc),.imm (s.posted.map Posted.enc),.imm (s.book.map Bal.enc),.imm (s.sess.map Sess.enc),.int .i64 s.next]] S K=K (.imm ((eC s).map iL)) S:=by
 refine (v28 rfl ?_).eq S K
 delta Tryz.f28;simp only [↓cw,↓reduceIte,Nat.reduceLT,kk,tP,g24 s]
 cases c1:fL s
 ·have e:eC s=[]:=by unfold eC;rw [if_pos c1]
  simp only [↓cw,↓reduceIte,Nat.reduceLT,c1,kk,oo,if_true,Bool.not_false,e,List.map_nil]
 have ok:=h c1
 have e:eC s=oX s:=by unfold eC;rw [if_neg (by rw [c1];decide),aJx]
 obtain ⟨R,hR⟩:∃ R,R=oX s:=⟨_,rfl⟩
 rw [e,←hR]
 obtain ⟨S0,hS0⟩:∃ S0:St,S0=⟨1+1,(Tr.nil.put 0 (.row 0 6 [s.enc])).put 1 (.row 0 1 [[.nils]])⟩:=⟨_,rfl⟩
 have w0:WF S0:=by rw [hS0];exact lA (n:=1) (lA xD (by decide) (by decide)) (by decide) (by decide)
 have n0:S0.next=2:=by rw [hS0]
 have r0:aB S0 0 0=.ok (6,[s.enc]):=by rw [hS0];rfl
 have hw0:WB 1 [] S0:=⟨.nils,by rw [hS0];exact Tr.get_put_sameB _ _ _ trivial,Sl.nilv _ _,(by show (none:Option Nat)≠some 1;simp),by omega⟩
 have rr:∀ {X:St},AM.But 1 S0 X→aB X 0 0=.ok (6,[s.enc]):=fun {X} bt=>bQ (bt.old _ _ (by decide) (wU r0))
 have wf:∀ {X:St},AM.But 1 S0 X→WF X:=fun {X} bt=>bt.wf w0
 simp only [State.enc] at hS0 rr r0
 simp only [↓cw,↓reduceIte,Nat.reduceLT,c1,kk,tP,Bool.not_true,Bool.false_eq_true,if_false,uH,←hS0,r0]
 have o1:=ok.t1;have o2:=ok.s1;have o3:=ok.p1;have o4:=ok.e1
 have fl1:=iA kJ (n:=114) s.table fun r hr=>tL (ok.t2 r hr)
 have fl2:=iA rS (n:=94) s.ser fun r hr=>xH (ok.s2 r hr)
 have fl3:=iA gK (n:=1326) s.posted fun r hr=>pN (ok.p2 r hr)
 have fl4:=iA oW (n:=50) s.sess fun r hr=>tM (ok.e2 r hr)
 have l1:=gL (lJ (n:=s.table.length) (by omega))
 have l2:=gL (lJ (n:=s.ser.length) (by omega))
 have l3:=gL (lJ (n:=s.posted.length) (by omega))
 have l4:=gL (lJ (n:=s.sess.length) (by omega))
 refine kI w0 hw0 [(s.table.length:Int)] (by simp) (nO (lJ (by omega)) al0) fun S1 b1 h1=>?_
 simp only [↓cw,↓reduceIte,Nat.reduceLT,kk,rr b1]
 refine aDq kJ s.table (X0:=S0) (B:=114) (fun r hr=>tL (ok.t2 r hr)) b1 h1 (fun i x d X hi bt hwd hd aC H=>?_) fun X aC bt hwd=>?_
 ·have hil:=(List.getElem?_eq_some_iff.1 hi).1
  have hx:=ok.t2 x (List.mem_of_getElem? hi)
  have wX:=wf bt
  have q1:=eD x.cat (by omega);have q2:=oY hx.2.1
  have hd':d.length≤10000:=by simp only [List.nil_append] at hd;omega
  obtain ⟨X1,hX1⟩:∃ X1:St,X1=⟨X.next+1,(X.heap.put X.next (.row 0 5 [[.str [],.int .i64 0,.int .i64 0,.int .i64 0,.int .i64 0]])).put X.next (.row 0 5 [x.enc])⟩:=⟨_,rfl⟩
  have xX:Ext X X1:=by rw [hX1];exact Ext.var wX 5 _ _
  have rq:X1.heap.get X.next=some (.row 0 5 [x.enc]):=by rw [hX1];exact Tr.get_put_sameB _ _ _ trivial
  have hla:=hwd.lt
  have rr2:∀ {Y:St},AM.But 1 X1 Y→aB Y X.next 0=.ok (5,[x.enc]):=fun {Y} bt=>bQ (bt.old _ _ (by omega) rq)
  simp only [Rate.enc] at hX1 rr2
  have r20:=rr2 (Y:=X1) AM.But.rfl'
  simp only [↓cw,↓reduceIte,Nat.reduceLT,kk,aY hi,if_true,lI hi,Rate.enc,←hX1,r20]
  refine g93 (xX.wf wX) (hwd.ext xX) (by omega) _ (by omega) fun Y1 c1' k1=>?_
  simp only [↓cw,↓reduceIte,Nat.reduceLT,kk,rr2 c1']
  refine g94 (c1'.wf (xX.wf wX)) k1 (by rw [List.length_append];omega) x.day hx.2.1 fun Y2 c2' k2=>?_
  have c2:=c1'.trans c2'
  simp only [↓cw,↓reduceIte,Nat.reduceLT,kk,rr2 c2,uH,fV (show i<1000000000 by omega)]
  exact kI (c2.wf (xX.wf wX)) k2 [x.bp] (by simp only [List.length_append,List.length_cons,List.length_nil];omega) (nO hx.2.2 al0) fun Y3 c3' k3=>H _ ((bt.trans (AM.But.of xX)).trans (c2.trans c3')) (by simpa [kJ] using k3)
 simp only [↓cw,↓reduceIte,Nat.reduceLT,kk,Int.lt_irrefl,if_false,rr bt,uH]
 have z1:([]++bM [(s.table.length:Int)]++s.table.flatMap kJ).length≤2746:=by simp only [List.length_append,List.length_nil];omega
 generalize hB1:([]++bM [(s.table.length:Int)]++s.table.flatMap kJ:List UInt8)=B1 at hwd z1
 refine kI (wf bt) hwd [(s.ser.length:Int)] (by simp;omega) (nO (lJ (by omega)) al0) fun S2 b2' h2=>?_
 have b2:=bt.trans b2'
 clear hwd
 simp only [↓cw,↓reduceIte,Nat.reduceLT,kk,rr b2]
 refine aDq rS s.ser (X0:=S0) (B:=94) (fun r hr=>xH (ok.s2 r hr)) b2 h2 (fun i x d X hi bt hwd hd aC H=>?_) fun X aC bt hwd=>?_
 ·have hil:=(List.getElem?_eq_some_iff.1 hi).1
  have hx:=ok.s2 x (List.mem_of_getElem? hi)
  have wX:=wf bt
  have q1:=eD x.name (by omega)
  have hd':d.length≤10000:=by rw [List.length_append] at hd;omega
  obtain ⟨X1,hX1⟩:∃ X1:St,X1=⟨X.next+1,(X.heap.put X.next (.row 0 4 [[.str [],.int .i64 0,.int .i64 0,.bool false]])).put X.next (.row 0 4 [x.enc])⟩:=⟨_,rfl⟩
  have xX:Ext X X1:=by rw [hX1];exact Ext.var wX 4 _ _
  have rq:X1.heap.get X.next=some (.row 0 4 [x.enc]):=by rw [hX1];exact Tr.get_put_sameB _ _ _ trivial
  have hla:=hwd.lt
  have rr2:∀ {Y:St},AM.But 1 X1 Y→aB Y X.next 0=.ok (4,[x.enc]):=fun {Y} bt=>bQ (bt.old _ _ (by omega) rq)
  simp only [Ser.enc] at hX1 rr2
  have r20:=rr2 (Y:=X1) AM.But.rfl'
  simp only [↓cw,↓reduceIte,Nat.reduceLT,kk,aY hi,if_true,kX hi,Ser.enc,←hX1,r20]
  refine g93 (xX.wf wX) (hwd.ext xX) (by omega) _ (by omega) fun Y1 c1' k1=>?_
  simp only [↓cw,↓reduceIte,Nat.reduceLT,kk,rr2 c1',uH]
  refine kI (c1'.wf (xX.wf wX)) k1 [x.limit] (by simp only [List.length_append,List.length_cons,List.length_nil];omega) (nO hx.2 al0) fun Y2 c2' k2=>?_
  have c2:=c1'.trans c2'
  have q2:=gL hx.2
  simp only [↓cw,↓reduceIte,Nat.reduceLT,kk,rr2 c2,fV (show i<1000000000 by omega)]
  exact g95 (c2.wf (xX.wf wX)) k2 (by simp only [List.length_append];omega) x.shut fun Y3 c3' k3=>H _ ((bt.trans (AM.But.of xX)).trans (c2.trans c3')) (by simpa [rS] using k3)
 simp only [↓cw,↓reduceIte,Nat.reduceLT,kk,Int.lt_irrefl,if_false,rr bt,uH]
 have z2:(B1++bM [(s.ser.length:Int)]++s.ser.flatMap rS).length≤3508:=by simp only [List.length_append];omega
 generalize hB2:(B1++bM [(s.ser.length:Int)]++s.ser.flatMap rS:List UInt8)=B2 at hwd z2
 refine kI (wf bt) hwd [(s.posted.length:Int)] (by simp;omega) (nO (lJ (by omega)) al0) fun S3 b3' h3=>?_
 have b3:=bt.trans b3'
 clear hwd
 simp only [↓cw,↓reduceIte,Nat.reduceLT,kk,rr b3]
 refine aDq gK s.posted (X0:=S0) (B:=1326) (fun r hr=>pN (ok.p2 r hr)) b3 h3 (fun i x d X hi bt hwd hd aC H=>?_) fun X aC bt hwd=>?_
 ·have hil:=(List.getElem?_eq_some_iff.1 hi).1
  have hx:=ok.p2 x (List.mem_of_getElem? hi)
  have wX:=wf bt
  have hd':d.length≤70000:=by rw [List.length_append] at hd;omega
  obtain ⟨X1,hX1⟩:∃ X1:St,X1=⟨X.next+1,(X.heap.put X.next (.row 0 12 [sY])).put X.next (.row 0 12 [x.enc])⟩:=⟨_,rfl⟩
  have xX:Ext X X1:=by rw [hX1];exact Ext.var wX 12 _ _
  have rq:X1.heap.get X.next=some (.row 0 12 [x.enc]):=by rw [hX1];exact Tr.get_put_sameB _ _ _ trivial
  have hla:=hwd.lt
  have rr2:∀ {Y:St},AM.But 1 X1 Y→aB Y X.next 0=.ok (12,[x.enc]):=fun {Y} bt=>bQ (bt.old _ _ (by omega) rq)
  simp only [Posted.enc] at hX1 rr2
  have r20:=rr2 (Y:=X1) AM.But.rfl'
  simp only [sY] at hX1
  simp only [↓cw,↓reduceIte,Nat.reduceLT,kk,aY hi,if_true,fM hi,Posted.enc,←hX1,r20,fV (show i<1000000000 by omega)]
  exact g96 (xX.wf wX) (hwd.ext xX) (by omega) x hx fun Y3 c3' k3=>H _ ((bt.trans (AM.But.of xX)).trans c3') k3
 simp only [↓cw,↓reduceIte,Nat.reduceLT,kk,Int.lt_irrefl,if_false,rr bt,uH]
 have z3:(B2++bM [(s.posted.length:Int)]++s.posted.flatMap gK).length≤60000:=by simp only [List.length_append];omega
 generalize hB3:(B2++bM [(s.posted.length:Int)]++s.posted.flatMap gK:List UInt8)=B3 at hwd z3
 refine kI (wf bt) hwd [(s.sess.length:Int)] (by simp;omega) (nO (lJ (by omega)) al0) fun S4 b4' h4=>?_
 have b4:=bt.trans b4'
 clear hwd
 simp only [↓cw,↓reduceIte,Nat.reduceLT,kk,rr b4]
 refine aDq oW s.sess (X0:=S0) (B:=50) (fun r hr=>tM (ok.e2 r hr)) b4 h4 (fun i x d X hi bt hwd hd aC H=>?_) fun X aC bt hwd=>?_
 ·have hil:=(List.getElem?_eq_some_iff.1 hi).1
  have hx:=ok.e2 x (List.mem_of_getElem? hi)
  have wX:=wf bt
  have hd':d.length≤70000:=by rw [List.length_append] at hd;omega
  obtain ⟨X1,hX1⟩:∃ X1:St,X1=⟨X.next+1,(X.heap.put X.next (.row 0 5 [[.int .i64 0,.int .i64 0,.int .i64 0,.int .i64 0,.int .i64 0]])).put X.next (.row 0 5 [x.enc])⟩:=⟨_,rfl⟩
  have xX:Ext X X1:=by rw [hX1];exact Ext.var wX 5 _ _
  have rq:X1.heap.get X.next=some (.row 0 5 [x.enc]):=by rw [hX1];exact Tr.get_put_sameB _ _ _ trivial
  have hla:=hwd.lt
  have rr2:∀ {Y:St},AM.But 1 X1 Y→aB Y X.next 0=.ok (5,[x.enc]):=fun {Y} bt=>bQ (bt.old _ _ (by omega) rq)
  simp only [Sess.enc] at hX1 rr2
  have r20:=rr2 (Y:=X1) AM.But.rfl'
  simp only [↓cw,↓reduceIte,Nat.reduceLT,kk,aY hi,if_true,jY hi,Sess.enc,←hX1,r20,bGr,fV (show i<1000000000 by omega)]
  exact kI (xX.wf wX) (hwd.ext xX) [x.id,x.last,x.reply.why,x.reply.number,x.reply.gross] (by simp;omega) (nO hx.1 (nO hx.2.1 (nO hx.2.2.1 (nO hx.2.2.2.1 (nO hx.2.2.2.2 al0))))) fun Y3 c3' k3=>H _ ((bt.trans (AM.But.of xX)).trans c3') k3
 simp only [↓cw,↓reduceIte,Nat.reduceLT,kk,Int.lt_irrefl,if_false,rr bt,uH]
 refine kI (wf bt) hwd [s.next] (by simp only [List.length_append,List.length_cons,List.length_nil];omega) (nO ok.n al0) fun S5 b5' h5=>?_
 obtain ⟨v,hg,hv,hk,ha⟩:=h5
 have hfin:B3++bM [(s.sess.length:Int)]++s.sess.flatMap oW++bM [s.next]=R:=by rw [hR,←hB3,←hB2,←hB1];simp [oX]
 rw [hfin] at hv
 have r5:=bQ hg
 simp only [↓cw,↓reduceIte,Nat.reduceLT,kk,r5,oo]
 exact hv.out fun _=>rfl
theorem aX8 (t:Nat) (a:Int):bJ prog .shr t (.int .i64 a) (.int .u64 63)=.ok (.int .i64 (a.fdiv (2 ^ 63))):=rfl
theorem bGs (t:Nat) (a b:Int):bJ prog .xor t (.int .u64 a) (.int .u64 b)=.ok (.int .u64 (wr .u64 ((BitVec.toNat (BitVec.ofInt IntKind.u64.bits a ^^^ BitVec.ofInt IntKind.u64.bits b):Nat):Int))):=rfl
theorem bGt (t:Nat) (a b:Int):bJ prog .and t (.int .u64 a) (.int .u64 b)=.ok (.int .u64 (wr .u64 ((BitVec.toNat (BitVec.ofInt IntKind.u64.bits a &&& BitVec.ofInt IntKind.u64.bits b):Nat):Int))):=rfl
theorem aWb {u:Nat} (h:u<2 ^ 64):wr .u64 (u:Int)=(u:Int):=by
 unfold wr
 rw [if_pos ⟨by show (0:Int)≤_;omega,by show _≤(18446744073709551615:Int);omega⟩]
theorem aX9 {u:Nat} (h:u<2 ^ 64):wr .u64 ((BitVec.toNat (BitVec.ofInt IntKind.u64.bits (u:Int) &&& BitVec.ofInt IntKind.u64.bits 127):Nat):Int)=((u % 128:Nat):Int):=by
 have e:BitVec.toNat (BitVec.ofInt IntKind.u64.bits (u:Int) &&& BitVec.ofInt IntKind.u64.bits 127)=u % 128:=by
  rw [BitVec.toNat_and]
  have e1:(BitVec.ofInt IntKind.u64.bits (u:Int)).toNat=u:=by rw [BitVec.toNat_ofInt];show ((u:Int) % ((2 ^ 64:Nat):Int)).toNat=u;omega
  have e2:(BitVec.ofInt IntKind.u64.bits 127).toNat=2 ^ 7 - 1:=by decide
  rw [e1,e2,Nat.and_two_pow_sub_one_eq_mod]
 rw [e,aWb (by omega)]
theorem bGu {n:Int} (hn:I64 n):wr .u64 ((BitVec.toNat (BitVec.ofInt IntKind.u64.bits (wr .u64 (wr .u64 n*2 ^ (min (1:Int).toNat IntKind.u64.bits))) ^^^ BitVec.ofInt IntKind.u64.bits (wr .u64 (n.fdiv (2 ^ 63)))):Nat):Int)=((Go.Pack.zig n:Nat):Int):=by
 have hz:=Go.Pack.zig_lt hn
 have hn':=hn
 obtain ⟨h1,h2⟩:=hn'
 by_cases h:n<0
 ·have e:wr .u64 (n.fdiv (2 ^ 63))=18446744073709551615:=by
   rw [Int.fdiv_eq_ediv_of_nonneg _ (by decide),show n / 2 ^ 63=-1 by omega];decide
  rw [e,BitVec.xor_comm]
  exact aJt h hn.1
 ·have e:wr .u64 (n.fdiv (2 ^ 63))=0:=by
   rw [Int.fdiv_eq_ediv_of_nonneg _ (by decide),show n / 2 ^ 63=0 by omega];decide
  rw [e,aPx (by omega) hn.2]
  have e2:BitVec.toNat (BitVec.ofInt IntKind.u64.bits ((Go.Pack.zig n:Nat):Int) ^^^ BitVec.ofInt IntKind.u64.bits 0)=Go.Pack.zig n:=by
   have:BitVec.ofInt IntKind.u64.bits 0=0#_:=by decide
   rw [this,BitVec.xor_zero,BitVec.toNat_ofInt]
   show (((Go.Pack.zig n:Nat):Int) % ((2 ^ 64:Nat):Int)).toNat=_
   omega
  rw [e2,aWb hz]
theorem g97 {S:St} {v:V} {b:List UInt8} (w:WF S) (hv:Sl S 1 v (b.map iL)) (hb:b.length<10000000) (n:Int) (hn:I64 n) {K:KW} (H:∀ v' S',Ext S S'→Own S S' 1 v' ((b++Go.Pack.numP n).map iL)→K v' S'):C 97 [v,.int .i64 n] S K:=by
 refine v97 ?_
 have x0:Ext S ⟨S.next+1,S.heap.put S.next (.row 0 1 [])⟩:=Ext.new w _
 have q:=uO (b:=1) u81 b (S:=⟨S.next+1,S.heap.put S.next (.row 0 1 [])⟩) (a:=S.next) (hv.ext x0).elems (aF _ _ _ _ _ _) (by omega) (by unfold eE;omega) none
 have b0:∀ (z:List V) (fr:Option Nat) (S:St),aW 1 z 0 [] fr S=(match aR fr S (.row 0 1 []) with
  | .error e=>.error e
  | .ok (a,S')=>.ok (.sl a 0 1 0 0,S')):=fun z fr S=>by unfold aW;rw [if_pos (by decide)];rfl
 delta Tryz.f97;simp only [↓cw,↓reduceIte,Nat.reduceLT,kk,b0,q,bCt,aX8,bGs,bGu hn]
 refine yY (fun i vs X=>∃ v' done,vs=[v',.int .u64 (i:Int)]∧Own S X 1 v' (done.map iL)∧Ext S X∧done++Go.Pack.nb i=b++Go.Pack.numP n∧i<2 ^ 64) ?_ ⟨_,b,rfl,⟨.inr ⟨S.next,1,[],by rw [List.length_map],Nat.le_refl _,Nat.lt_succ_self _,by rw [List.append_nil];exact Tr.get_put_sameB _ _ _ trivial⟩,fun c hc=>by obtain ⟨x,_,rfl⟩:=List.mem_map.1 hc;exact u81 x⟩,x0.set (Nat.le_refl _) (Nat.lt_succ_self _) w _,rfl,Go.Pack.zig_lt hn⟩
 rintro u vs X ⟨v',done,rfl,o,x,e,hu⟩ aC ha
 have hX:=x.wf w
 have hl:done.length+(Go.Pack.nb u).length=b.length+(Go.Pack.numP n).length:=by rw [←List.length_append,e,List.length_append]
 have hnp:=Go.Pack.numP_len hn
 have hnu:=Go.Pack.nb_pos u
 by_cases h:u<128
 ·have hb1:Go.Pack.nb u=[UInt8.ofNat u]:=Go.Pack.nb_low h
  have x2:Ext X ⟨X.next+1,X.heap.put X.next (.row 0 1 [iL (UInt8.ofNat u)])⟩:=Ext.new hX _
  obtain ⟨v2,X2,q1,x3,n3,o2⟩:=(o.ext x2).push (b:=1) (x.trans x2) w (u:=.sl X.next 0 1 0 1) (cs:=[iL (UInt8.ofNat u)]) (by simp only [aM,aF];rfl) (fun c hc=>by rcases List.mem_singleton.1 hc with rfl;exact u81 _) (by simp) (by simp;omega) (by simp [eE];omega)
  simp only [iL] at q1
  simp only [↓cw,↓reduceIte,Nat.reduceLT,kk,show ¬ (128:Int)≤(u:Int) by omega,if_false,aFv h,uH,q1]
  exact H _ _ x3 (by rw [←e,hb1];simpa using o2)
 ·have hb1:Go.Pack.nb u=UInt8.ofNat (u % 128+128)::Go.Pack.nb (u / 128):=Go.Pack.nb_high h
  have x2:Ext X ⟨X.next+1,X.heap.put X.next (.row 0 1 [iL (UInt8.ofNat (u % 128+128))])⟩:=Ext.new hX _
  obtain ⟨v2,X2,q1,x3,n3,o2⟩:=(o.ext x2).push (b:=1) (x.trans x2) w (u:=.sl X.next 0 1 0 1) (cs:=[iL (UInt8.ofNat (u % 128+128))]) (by simp only [aM,aF];rfl) (fun c hc=>by rcases List.mem_singleton.1 hc with rfl;exact u81 _) (by simp) (by simp;omega) (by simp [eE];omega)
  simp only [iL] at q1
  have nbm:=aJu (u % 128)
  rw [Nat.mod_mod] at nbm
  simp only [↓cw,↓reduceIte,Nat.reduceLT,kk,show (128:Int)≤(u:Int) by omega,if_true,bGt,aX9 hu,bCu,nbm,uH,q1,aW9,bCs]
  exact ha (u / 128) _ _ (by omega) ⟨v2,done++[UInt8.ofNat (u % 128+128)],rfl,by simpa using o2,x3,by rw [←e,hb1];simp,by omega⟩
theorem g99 {S:St} {v:V} {b:List UInt8} (w:WF S) (hv:Sl S 1 v (b.map iL)) (hb:b.length<1000000) (s:List UInt8) (hs:s.length<1000000) {K:KW} (H:∀ v' S',Ext S S'→Own S S' 1 v' ((b++txt.put s).map iL)→K v' S'):C 99 [v,.str s] S K:=by
 refine v99 ?_
 delta Tryz.f99;simp only [↓cw,↓reduceIte,Nat.reduceLT,kk]
 refine g97 w hv (by omega) _ (by constructor<;>omega) fun v2 S2 x2 o2=>?_
 have hnp:=Go.Pack.numP_len (n:=(s.length:Int)) ⟨by omega,by omega⟩
 obtain ⟨v3,S3,q1,x3,n3,o3⟩:=Own.pushX (b:=1) o2 x2 w (by simp [aJv]) (u:=.str s) (cs:=s.map iL) rfl (fun c hc=>by obtain ⟨y,_,rfl⟩:=List.mem_map.1 hc;exact u81 y) (by simp;omega) (by simp [eE];omega)
 simp only [↓cw,↓reduceIte,Nat.reduceLT,kk,q1]
 exact H _ _ x3 (by rw [aDn,←List.append_assoc,List.map_append];exact o3)
theorem bGv {S:St} {v:V} {b:List UInt8} (w:WF S) (hv:Sl S 1 v (b.map iL)) (hb:b.length<1000000) (f:Bool) {K:KW} (H:∀ v' S',Ext S S'→Own S S' 1 v' ((b++Go.Pack.flag.put f).map iL)→K v' S'):C 100 [v,.bool f] S K:=by
 refine bDa ?_
 rw [aA1] at H
 delta Tryz.f100;cases f<;>simp only [↓cw,↓reduceIte,Nat.reduceLT,kk,Bool.false_eq_true,if_true,if_false]
 ·exact g97 w hv (by omega) 0 (by constructor<;>omega) fun v' S' x o=>H v' S' x o
 ·exact g97 w hv (by omega) 1 (by constructor<;>omega) fun v' S' x o=>H v' S' x o
theorem g98 {S:St} {v:V} {b:List UInt8} (w:WF S) (hv:Sl S 1 v (b.map iL)) (hb:b.length<1000000) (d:Date) (hd:aC7 d) {K:KW} (H:∀ v' S',Ext S S'→Own S S' 1 v' ((b++gR.put d).map iL)→K v' S'):C 98 [v,.agg [.int .i64 d.y,.int .i64 d.m,.int .i64 d.d]] S K:=by
 refine v98 ?_
 obtain ⟨S1,hS1⟩:∃ S1:St,S1=⟨S.next+1+11,S.heap.put S.next (.row 0 3 [d.enc])⟩:=⟨_,rfl⟩
 have x1:Ext S S1:=by rw [hS1];exact (Ext.new w _).bump 11
 have r1:aB S1 S.next 0=.ok (3,[d.enc]):=by rw [hS1];exact aF _ _ _ _ _ _
 simp only [Date.enc] at hS1 r1
 have p1:=Go.Pack.numP_len hd.1;have p2:=Go.Pack.numP_len hd.2.1
 delta Tryz.f98;simp only [↓cw,↓reduceIte,Nat.reduceLT,kk,←hS1,r1]
 refine g97 (x1.wf w) (hv.ext x1) (by omega) d.y hd.1 fun v2 S2 x2 o2=>?_
 have w2:=x2.wf (x1.wf w)
 simp only [↓cw,↓reduceIte,Nat.reduceLT,kk,x2.row r1]
 refine g97 w2 o2.sl (by rw [List.length_append];omega) d.m hd.2.1 fun v3 S3 x3 o3=>?_
 have w3:=x3.wf w2
 simp only [↓cw,↓reduceIte,Nat.reduceLT,kk,(x2.trans x3).row r1]
 refine g97 w3 o3.sl (by simp only [List.length_append];omega) d.d hd.2.2 fun v4 S4 x4 o4=>?_
 simp only [List.append_assoc] at o4
 exact H v4 S4 (((x1.trans x2).trans x3).trans x4) ((o4.weaken (((x1.trans x2).trans x3)).next:Own S S4 1 v4 _))
theorem bGw {S:St} {v:V} {b:List UInt8} (w:WF S) (hv:Sl S 1 v (b.map iL)) (hb:b.length<1000000) (r:Rep) (hr:I64 r.why∧I64 r.number∧I64 r.gross) {K:KW} (H:∀ v' S',Ext S S'→Own S S' 1 v' ((b++bM [r.why,r.number,r.gross]).map iL)→K v' S'):C 101 [v,.agg [.int .i64 r.why,.int .i64 r.number,.int .i64 r.gross]] S K:=by
 refine bDb ?_
 obtain ⟨S1,hS1⟩:∃ S1:St,S1=⟨S.next+1+11,S.heap.put S.next (.row 0 3 [[.int .i64 r.why,.int .i64 r.number,.int .i64 r.gross]])⟩:=⟨_,rfl⟩
 have x1:Ext S S1:=by rw [hS1];exact (Ext.new w _).bump 11
 have r1:aB S1 S.next 0=.ok (3,[[.int .i64 r.why,.int .i64 r.number,.int .i64 r.gross]]):=by rw [hS1];exact aF _ _ _ _ _ _
 have p1:=Go.Pack.numP_len hr.1;have p2:=Go.Pack.numP_len hr.2.1
 delta Tryz.f101;simp only [↓cw,↓reduceIte,Nat.reduceLT,kk,←hS1,r1]
 refine g97 (x1.wf w) (hv.ext x1) (by omega) r.why hr.1 fun v2 S2 x2 o2=>?_
 have w2:=x2.wf (x1.wf w)
 simp only [↓cw,↓reduceIte,Nat.reduceLT,kk,x2.row r1]
 refine g97 w2 o2.sl (by rw [List.length_append];omega) r.number hr.2.1 fun v3 S3 x3 o3=>?_
 have w3:=x3.wf w2
 simp only [↓cw,↓reduceIte,Nat.reduceLT,kk,(x2.trans x3).row r1]
 refine g97 w3 o3.sl (by simp only [List.length_append];omega) r.gross hr.2.2 fun v4 S4 x4 o4=>?_
 have e:b++Go.Pack.numP r.why++Go.Pack.numP r.number++Go.Pack.numP r.gross=b++bM [r.why,r.number,r.gross]:=by simp [bM]
 rw [e] at o4
 exact H v4 S4 (((x1.trans x2).trans x3).trans x4) (o4.weaken (((x1.trans x2).trans x3)).next)
theorem aA3 {α:Type} (f:α→List UInt8) (l:List α) {B:Nat} {X0 Y:St} {v:V} {b:List UInt8} {F:List V→St→(List V→St→Prop)→Prop} (hlen:∀ x∈l,(f x).length≤B) (h0:Ext X0 Y) (hv:Sl Y 1 v (b.map iL))
  (hs:∀ i x d v X,l[i]?=some x→Ext X0 X→Sl X 1 v (d.map iL)→d.length≤b.length+B*i→∀ aC:List V→St→Prop,(∀ v' X',Ext X0 X'→Sl X' 1 v' ((d++f x).map iL)→aC [v',.int .i64 ((i+1:Nat):Int)] X')→F [v,.int .i64 (i:Int)] X aC)
  (he:∀ v X aC,Ext X0 X→Sl X 1 v ((b++l.flatMap f).map iL)→F [v,.int .i64 (l.length:Int)] X aC):iF [v,.int .i64 0] Y F:=by
 refine aG l (step:=grow f) (fin:=id) (fun i d vs X=>∃ v,vs=[v,.int .i64 (i:Int)]∧Ext X0 X∧Sl X 1 v (d.map iL)∧d.length≤b.length+B*i) (fun d=>d=b++l.flatMap f) ?_ ?_ (s:=b) ⟨v,rfl,h0,hv,Nat.le_refl _⟩ (aQ0 f l b)
 ·rintro i x d vs X hi ⟨v,rfl,bt,hwd,hd⟩ aC Hq
  refine hs i x d v X hi bt hwd hd aC fun v' X' h1 h2=>Hq _ _ ⟨v',rfl,h1,h2,?_⟩
  have:=hlen x (List.mem_of_getElem? hi)
  rw [List.length_append,Nat.mul_add];omega
 ·rintro d vs X ⟨v,rfl,bt,hwd,hd⟩ aC Hq
  have Hq:d=b++l.flatMap f:=Hq
  exact he v X aC bt (by rw [←Hq];exact hwd)
theorem aA4 (n:Int):Go.Pack.numP n=bM [n]:=by simp [bM]
end Go.Proofs.YtoaibmbldmckaaaGreat
end
