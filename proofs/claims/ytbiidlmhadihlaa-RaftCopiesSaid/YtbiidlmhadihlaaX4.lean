import Derived.Test.YtbiidlmhadihlaaX3
set_option linter.unusedSimpArgs false
set_option linter.unusedVariables false
set_option linter.unusedSectionVars false
set_option maxRecDepth 100000
section
namespace Go.Raft
open Go.AM
section
structure Came where
 i:Int
 t:Int
 n:Int
 s:List UInt8
def bBi:Option Inst→Came
 | none=>⟨0,0,0,[]⟩
 | some w=>⟨w.index,w.at',w.size,w.data⟩
def cA (c:Core) (k:Came) (lv ov:V):List V:=bB c.h lv++[.int .i64 c.id,.int .i64 c.role,.int .i64 c.leads,.int .i64 c.sure,.int .i64 c.drawn,.int .i64 c.left,.int .i64 c.votes]++(c.peers.map fun p=>V.int .i64 p.next)++(c.peers.map fun p=>V.int .i64 p.mtch)++(c.peers.map fun p=>V.int .i64 p.off)++[.int .i64 k.i,.int .i64 k.t,.int .i64 k.n,.str k.s,ov]
def sP (a:Nat) (lv ov:V) (y:Nat):Prop:=y=a∨aP lv=some y∨aP ov=some y
variable [Guard]
structure WAt (S:St) (a:Nat) (c:Core) (k:Came) (lv ov:V) (rows:List (List V)):Prop where
 cell:S.heap.get a=some (.row 0 40 [cA c k lv ov])
 peers:c.peers.length=7
 log:Mn S 3 lv (c.h.log.map bR)
 out:Mn S 13 ov rows
 lets:All2 (LetAt S (aP lv)) c.out rows
 gd:Gd S rows
def WIn (S:St) (a:Nat) (c:Core) (O:Nat→Prop):Prop:=∃ lv ov rows,WAt S a c (bBi c.way) lv ov rows∧O=sP a lv ov
theorem lM (c:Core) (k:Came) (lv ov:V) (h:c.peers.length=7):(cA c k lv ov).length=40:=by
 obtain ⟨p0,p1,p2,p3,p4,p5,p6,e⟩:=lJ h
 simp only [cA,e];rfl
theorem iL (c:Core) (k:Came) (lv ov:V) (h:c.peers.length=7) {f:Nat} (hf:f<7) (x:Int):
  (cA c k lv ov)[14+f*1]?=some (.int .i64 (c.peers.getD f ⟨0,0,0⟩).next)∧(cA c k lv ov)[21+f*1]?=some (.int .i64 (c.peers.getD f ⟨0,0,0⟩).mtch)∧(cA c k lv ov)[28+f*1]?=some (.int .i64 (c.peers.getD f ⟨0,0,0⟩).off) ∧
  splice (cA c k lv ov) (14+f*1) [.int .i64 x]=cA { c with peers:=c.peers.set f { c.peers.getD f ⟨0,0,0⟩ with next:=x } } k lv ov ∧
  splice (cA c k lv ov) (21+f*1) [.int .i64 x]=cA { c with peers:=c.peers.set f { c.peers.getD f ⟨0,0,0⟩ with mtch:=x } } k lv ov ∧
  splice (cA c k lv ov) (28+f*1) [.int .i64 x]=cA { c with peers:=c.peers.set f { c.peers.getD f ⟨0,0,0⟩ with off:=x } } k lv ov:=by
 obtain ⟨p0,p1,p2,p3,p4,p5,p6,e⟩:=lJ h
 simp only [cA,e]
 match f,hf with
 | 0,_=>exact ⟨rfl,rfl,rfl,rfl,rfl,rfl⟩
 | 1,_=>exact ⟨rfl,rfl,rfl,rfl,rfl,rfl⟩
 | 2,_=>exact ⟨rfl,rfl,rfl,rfl,rfl,rfl⟩
 | 3,_=>exact ⟨rfl,rfl,rfl,rfl,rfl,rfl⟩
 | 4,_=>exact ⟨rfl,rfl,rfl,rfl,rfl,rfl⟩
 | 5,_=>exact ⟨rfl,rfl,rfl,rfl,rfl,rfl⟩
 | 6,_=>exact ⟨rfl,rfl,rfl,rfl,rfl,rfl⟩
theorem xE (c:Core) (k:Came) (lv ov:V) (h:c.peers.length=7) (x:Int) (s:List UInt8) (u:V):
  (cA c k lv ov)[35]?=some (.int .i64 k.i)∧(cA c k lv ov)[36]?=some (.int .i64 k.t)∧(cA c k lv ov)[37]?=some (.int .i64 k.n)∧(cA c k lv ov)[38]?=some (.str k.s)∧(cA c k lv ov)[39]?=some ov ∧
  splice (cA c k lv ov) 35 [.int .i64 x]=cA c { k with i:=x } lv ov∧splice (cA c k lv ov) 36 [.int .i64 x]=cA c { k with t:=x } lv ov∧splice (cA c k lv ov) 37 [.int .i64 x]=cA c { k with n:=x } lv ov∧splice (cA c k lv ov) 38 [.str s]=cA c { k with s:=s } lv ov∧splice (cA c k lv ov) 39 [u]=cA c k lv u:=by
 obtain ⟨p0,p1,p2,p3,p4,p5,p6,e⟩:=lJ h
 simp only [cA,e]
 exact ⟨rfl,rfl,rfl,rfl,rfl,rfl,rfl,rfl,rfl,rfl⟩
theorem aHt (c:Core) (k:Came) (lv ov:V):((cA c k lv ov).drop 0).take 7=bB c.h lv:=by
 simp only [cA,bB];rfl
section
variable {S:St} {a:Nat} {c:Core} {k:Came} {lv ov:V} {rows:List (List V)} (h:WAt S a c k lv ov rows)
include h
theorem WAt.fr {S':St} (w:WF S) (hn:S.next≤S'.next) (hk:∀ y b,S.heap.get y=some b→S'.heap.get y=some b):WAt S' a c k lv ov rows:=
 ⟨hk _ _ h.cell,h.peers,Mn.fr h.log hn fun y b _=>hk y b,Mn.fr h.out hn fun y b _=>hk y b,All2.imp (fun m cs q=>q.keep (fun y ver el _=>hk y _) (fun y _ h=>h) w) h.lets,h.gd.mono hn⟩
theorem WAt.ext {S':St} (w:WF S) (x:Ext S S'):WAt S' a c k lv ov rows:=h.fr w x.next x.old
theorem WAt.lt (w:WF S):a<S.next:=w _ _ h.cell
theorem WAt.put (w:WF S) (c':Core) (k':Came) (h1:c'.h.log=c.h.log) (h3:c'.out=c.out) (h4:c'.peers.length=7):
  WAt ⟨S.next,S.heap.put a (.row 0 40 [cA c' k' lv ov])⟩ a c' k' lv ov rows∧Mv (sP a lv ov) S (sP a lv ov) ⟨S.next,S.heap.put a (.row 0 40 [cA c' k' lv ov])⟩:=by
 have kk:∀ n,n≠40→KeepW n S (⟨S.next,S.heap.put a (.row 0 40 [cA c' k' lv ov])⟩:St):=fun n h2=>KeepW.put h.cell h2 _
 refine ⟨⟨Tr.get_put_sameB _ _ _ trivial,h4,by rw [h1];exact h.log.keepW (Nat.le_refl _) (kk 3 (by decide)),h.out.keepW (Nat.le_refl _) (kk 13 (by decide)),by rw [h3];exact All2.imp (fun m cs q=>q.keep (fun y ver el _ g=>kk 3 (by decide) _ _ _ g) (fun y _ h=>h) w) h.lets,h.gd⟩,⟨⟨fun y b hy hb=>?_,Nat.le_refl _,fun w=>(But.put (h.lt w) _).wf w⟩,fun y hy=>.inl hy⟩⟩
 show (S.heap.put a _).get y=some b
 rw [Tr.get_put_neB _ _ _ _ trivial (fun e=>hy (.inl e))];exact hb
theorem WAt.ld (j:Nat) {v:V} (hv:(cA c k lv ov)[j]?=some v):aL none (.ptr a 0 0 j) S=.ok v:=by
 rw [aY _ _ _ _ _ (aX h.cell)];exact aA3 _ _ hv
theorem WAt.st (w:WF S) (j:Nat) (x:V) (c':Core) (k':Came) (hx:x.cells=[x]) (ho:x.one=true) (hj:j<40) (hc:splice (cA c k lv ov) j [x]=cA c' k' lv ov)
  (h1:c'.h.log=c.h.log) (h3:c'.out=c.out) (h4:c'.peers.length=7):
  ∃ S',bH 1 (.ptr a 0 0 j) x S=.ok S'∧WAt S' a c' k' lv ov rows∧Mv (sP a lv ov) S (sP a lv ov) S'∧S'.next=S.next:=by
 have hl:=lM c k lv ov h.peers
 have e:=cX (x:=x) (j:=j) (m:=1) h.cell (by rw [hx];rfl) (by rw [hx];simp [aK,ho]) (by omega)
 rw [hx,hc] at e
 exact ⟨_,e,(h.put w c' k' h1 h3 h4).1,(h.put w c' k' h1 h3 h4).2,rfl⟩
theorem WAt.r_term:aL none (.ptr a 0 0 0) S=.ok (.int .i64 c.h.term):=h.ld 0 rfl
theorem WAt.r_vote:aL none (.ptr a 0 0 1) S=.ok (.int .i64 c.h.vote):=h.ld 1 rfl
theorem WAt.r_base:aL none (.ptr a 0 0 2) S=.ok (.int .i64 c.h.base):=h.ld 2 rfl
theorem WAt.r_baseTerm:aL none (.ptr a 0 0 3) S=.ok (.int .i64 c.h.baseTerm):=h.ld 3 rfl
theorem WAt.r_mem:aL none (.ptr a 0 0 4) S=.ok (.int .i64 c.h.members):=h.ld 4 rfl
theorem WAt.r_snap:aL none (.ptr a 0 0 5) S=.ok (.str c.h.snap):=h.ld 5 rfl
theorem WAt.r_log:aL none (.ptr a 0 0 6) S=.ok lv:=h.ld 6 rfl
theorem WAt.r_id:aL none (.ptr a 0 0 7) S=.ok (.int .i64 c.id):=h.ld 7 rfl
theorem WAt.r_role:aL none (.ptr a 0 0 8) S=.ok (.int .i64 c.role):=h.ld 8 rfl
theorem WAt.r_leads:aL none (.ptr a 0 0 9) S=.ok (.int .i64 c.leads):=h.ld 9 rfl
theorem WAt.r_sure:aL none (.ptr a 0 0 10) S=.ok (.int .i64 c.sure):=h.ld 10 rfl
theorem WAt.r_drawn:aL none (.ptr a 0 0 11) S=.ok (.int .i64 c.drawn):=h.ld 11 rfl
theorem WAt.r_left:aL none (.ptr a 0 0 12) S=.ok (.int .i64 c.left):=h.ld 12 rfl
theorem WAt.r_votes:aL none (.ptr a 0 0 13) S=.ok (.int .i64 c.votes):=h.ld 13 rfl
theorem WAt.r_next {f:Nat} (hf:f<7):aL none (.ptr a 0 0 (14+f*1)) S=.ok (.int .i64 (c.peers.getD f ⟨0,0,0⟩).next):=h.ld _ (iL c k lv ov h.peers hf 0).1
theorem WAt.r_mtch {f:Nat} (hf:f<7):aL none (.ptr a 0 0 (21+f*1)) S=.ok (.int .i64 (c.peers.getD f ⟨0,0,0⟩).mtch):=h.ld _ (iL c k lv ov h.peers hf 0).2.1
theorem WAt.r_off {f:Nat} (hf:f<7):aL none (.ptr a 0 0 (28+f*1)) S=.ok (.int .i64 (c.peers.getD f ⟨0,0,0⟩).off):=h.ld _ (iL c k lv ov h.peers hf 0).2.2.1
theorem WAt.r_out:aL none (.ptr a 0 0 39) S=.ok ov:=h.ld _ (xE c k lv ov h.peers 0 [] .nils).2.2.2.2.1
theorem WAt.r_hard:aL (some 7) (.ptr a 0 0 0) S=.ok (.agg (bB c.h lv)):=by
 have hl:=lM c k lv ov h.peers
 rw [aY _ _ _ _ _ (aX h.cell),gW]
 rw [if_pos (by omega),aHt]
abbrev sQ (S:St) (a j:Nat) (x:V) (c':Core) (k':Came) (lv ov:V) (rows:List (List V)):Prop:=∃ S',bH 1 (.ptr a 0 0 j) x S=.ok S'∧WAt S' a c' k' lv ov rows∧Mv (sP a lv ov) S (sP a lv ov) S'∧S'.next=S.next
theorem WAt.w_term (w:WF S) (x:Int):sQ S a 0 (.int .i64 x) { c with h:={ c.h with term:=x } } k lv ov rows:=h.st w 0 _ _ _ rfl rfl (by decide) rfl rfl rfl h.peers
theorem WAt.w_vote (w:WF S) (x:Int):sQ S a 1 (.int .i64 x) { c with h:={ c.h with vote:=x } } k lv ov rows:=h.st w 1 _ _ _ rfl rfl (by decide) rfl rfl rfl h.peers
theorem WAt.w_base (w:WF S) (x:Int):sQ S a 2 (.int .i64 x) { c with h:={ c.h with base:=x } } k lv ov rows:=h.st w 2 _ _ _ rfl rfl (by decide) rfl rfl rfl h.peers
theorem WAt.w_baseTerm (w:WF S) (x:Int):sQ S a 3 (.int .i64 x) { c with h:={ c.h with baseTerm:=x } } k lv ov rows:=h.st w 3 _ _ _ rfl rfl (by decide) rfl rfl rfl h.peers
theorem WAt.w_mem (w:WF S) (x:Int):sQ S a 4 (.int .i64 x) { c with h:={ c.h with members:=x } } k lv ov rows:=h.st w 4 _ _ _ rfl rfl (by decide) rfl rfl rfl h.peers
theorem WAt.w_snap (w:WF S) (x:List UInt8):sQ S a 5 (.str x) { c with h:={ c.h with snap:=x } } k lv ov rows:=h.st w 5 _ _ _ rfl rfl (by decide) rfl rfl rfl h.peers
theorem WAt.w_role (w:WF S) (x:Int):sQ S a 8 (.int .i64 x) { c with role:=x } k lv ov rows:=h.st w 8 _ _ _ rfl rfl (by decide) rfl rfl rfl h.peers
theorem WAt.w_leads (w:WF S) (x:Int):sQ S a 9 (.int .i64 x) { c with leads:=x } k lv ov rows:=h.st w 9 _ _ _ rfl rfl (by decide) rfl rfl rfl h.peers
theorem WAt.w_sure (w:WF S) (x:Int):sQ S a 10 (.int .i64 x) { c with sure:=x } k lv ov rows:=h.st w 10 _ _ _ rfl rfl (by decide) rfl rfl rfl h.peers
theorem WAt.w_drawn (w:WF S) (x:Int):sQ S a 11 (.int .i64 x) { c with drawn:=x } k lv ov rows:=h.st w 11 _ _ _ rfl rfl (by decide) rfl rfl rfl h.peers
theorem WAt.w_left (w:WF S) (x:Int):sQ S a 12 (.int .i64 x) { c with left:=x } k lv ov rows:=h.st w 12 _ _ _ rfl rfl (by decide) rfl rfl rfl h.peers
theorem WAt.w_votes (w:WF S) (x:Int):sQ S a 13 (.int .i64 x) { c with votes:=x } k lv ov rows:=h.st w 13 _ _ _ rfl rfl (by decide) rfl rfl rfl h.peers
theorem WAt.w_next (w:WF S) {f:Nat} (hf:f<7) (x:Int):sQ S a (14+f*1) (.int .i64 x) { c with peers:=c.peers.set f { c.peers.getD f ⟨0,0,0⟩ with next:=x } } k lv ov rows:=
 h.st w _ _ _ _ rfl rfl (by omega) (iL c k lv ov h.peers hf x).2.2.2.1 rfl rfl (by show (c.peers.set f _).length=7;rw [List.length_set];exact h.peers)
theorem WAt.w_mtch (w:WF S) {f:Nat} (hf:f<7) (x:Int):sQ S a (21+f*1) (.int .i64 x) { c with peers:=c.peers.set f { c.peers.getD f ⟨0,0,0⟩ with mtch:=x } } k lv ov rows:=
 h.st w _ _ _ _ rfl rfl (by omega) (iL c k lv ov h.peers hf x).2.2.2.2.1 rfl rfl (by show (c.peers.set f _).length=7;rw [List.length_set];exact h.peers)
theorem WAt.w_off (w:WF S) {f:Nat} (hf:f<7) (x:Int):sQ S a (28+f*1) (.int .i64 x) { c with peers:=c.peers.set f { c.peers.getD f ⟨0,0,0⟩ with off:=x } } k lv ov rows:=
 h.st w _ _ _ _ rfl rfl (by omega) (iL c k lv ov h.peers hf x).2.2.2.2.2 rfl rfl (by show (c.peers.set f _).length=7;rw [List.length_set];exact h.peers)
theorem WAt.w_out (w:WF S) {S1:St} (w1:WF S1) (hn:S.next≤S1.next) (hk:∀ y b,S.heap.get y=some b→aP ov≠some y→S1.heap.get y=some b) {ov':V} {rows':List (List V)} (hout:Mn S1 13 ov' rows') (hb:∀ y,aP ov'=some y→aP ov=some y∨S.next≤y)
  {out':List Letter} (hlets:All2 (LetAt S (aP lv)) out' rows') (hgd:Gd S1 rows'):
  ∃ S2,bH 1 (.ptr a 0 0 39) ov' S1=.ok S2∧WAt S2 a { c with out:=out' } k lv ov' rows'∧Mv (sP a lv ov) S (sP a lv ov') S2∧S2.next=S1.next:=by
 have hl:=lM c k lv ov h.peers
 have ga:S1.heap.get a=some (.row 0 40 [cA c k lv ov]):=hk _ _ h.cell (h.out.neRow h.cell (by decide))
 have hone:=hout.cells
 have e:=cX (x:=ov') (j:=39) (m:=1) ga (by rw [hone.1];rfl) (by rw [hone.1];simp [aK,hone.2]) (by omega)
 rw [hone.1,(xE c k lv ov h.peers 0 [] ov').2.2.2.2.2.2.2.2.2] at e
 have kk:∀ n,n≠13→n≠40→KeepW n S (⟨S1.next,S1.heap.put a (.row 0 40 [cA c k lv ov'])⟩:St):=fun n h1 h2=>
  KeepW.trans (fun y ver el g=>hk _ _ g (h.out.neRow g (Ne.symm h1))) (KeepW.put ga h2 _)
 refine ⟨_,e,⟨Tr.get_put_sameB _ _ _ trivial,h.peers,h.log.keepW hn (kk 3 (by decide) (by decide)),hout.keepW (Nat.le_refl _) (KeepW.put ga (by decide) _),All2.imp (fun m cs q=>q.keep (fun y ver el _ g=>kk 3 (by decide) (by decide) _ _ _ g) (fun y _ h=>h) w) hlets,hgd⟩,⟨⟨fun y b hy hb'=>?_,hn,fun _=>(But.put (w1 _ _ ga) _).wf w1⟩,fun y hy=>?_⟩,rfl⟩
 ·show (S1.heap.put a _).get y=some b
  rw [Tr.get_put_neB _ _ _ _ trivial (fun e=>hy (.inl e))]
  exact hk y b hb' (fun e=>hy (.inr (.inr e)))
 ·rcases hy with hy | hy | hy
  ·exact .inl (.inl hy)
  ·exact .inl (.inr (.inl hy))
  ·exact (hb y hy).imp (fun q=>.inr (.inr q)) id
theorem WAt.w_log (w:WF S) {S1:St} (w1:WF S1) (hn:S.next≤S1.next) (hk:∀ y b,S.heap.get y=some b→aP lv≠some y→S1.heap.get y=some b) {lv':V} {l':List Entry} (hlog:Mn S1 3 lv' (l'.map bR)) (hb:∀ y,aP lv'=some y→aP lv=some y∨S.next≤y):
  ∃ S2,bH 1 (.ptr a 0 0 6) lv' S1=.ok S2∧WAt S2 a { c with h:={ c.h with log:=l' } } k lv' ov rows∧Mv (sP a lv ov) S (sP a lv' ov) S2∧S2.next=S1.next:=by
 have hl:=lM c k lv ov h.peers
 have ga:S1.heap.get a=some (.row 0 40 [cA c k lv ov]):=hk _ _ h.cell (h.log.neRow h.cell (by decide))
 have hone:=hlog.cells
 have e:=cX (x:=lv') (j:=6) (m:=1) ga (by rw [hone.1];rfl) (by rw [hone.1];simp [aK,hone.2]) (by omega)
 have hsp:splice (cA c k lv ov) 6 [lv']=cA { c with h:={ c.h with log:=l' } } k lv' ov:=rfl
 rw [hone.1,hsp] at e
 have kk:∀ n,n≠3→n≠40→KeepW n S (⟨S1.next,S1.heap.put a (.row 0 40 [cA { c with h:={ c.h with log:=l' } } k lv' ov])⟩:St):=fun n h1 h2=>
  KeepW.trans (fun y ver el g=>hk _ _ g (h.log.neRow g (Ne.symm h1))) (KeepW.put ga h2 _)
 have hlets:All2 (LetAt (⟨S1.next,S1.heap.put a (.row 0 40 [cA { c with h:={ c.h with log:=l' } } k lv' ov])⟩:St) (aP lv')) c.out rows:=by
  refine All2.imp (fun m cs q=>q.keep (fun y ver el hy g=>?_) (fun y hy h1 h2=>?_) w) h.lets
  ·exact (KeepW.put ga (by decide) _:KeepW 3 S1 _) _ _ _ (hk _ _ g hy)
  ·rcases hb y h2 with h3 | h3
   ·exact h1 h3
   ·omega
 refine ⟨_,e,⟨Tr.get_put_sameB _ _ _ trivial,h.peers,hlog.keepW (Nat.le_refl _) (KeepW.put ga (by decide) _),h.out.keepW hn (kk 13 (by decide) (by decide)),hlets,h.gd.mono hn⟩,⟨⟨fun y b hy hb'=>?_,hn,fun _=>(But.put (w1 _ _ ga) _).wf w1⟩,fun y hy=>?_⟩,rfl⟩
 ·show (S1.heap.put a _).get y=some b
  rw [Tr.get_put_neB _ _ _ _ trivial (fun e=>hy (.inl e))]
  exact hk y b hb' (fun e=>hy (.inr (.inl e)))
 ·rcases hy with hy | hy | hy
  ·exact .inl (.inl hy)
  ·exact (hb y hy).imp (fun q=>.inr (.inl q)) id
  ·exact .inl (.inr (.inr hy))
end
theorem WIn.ext {S S':St} {a:Nat} {c:Core} {O:Nat→Prop} (h:WIn S a c O) (w:WF S) (x:Ext S S'):WIn S' a c O:=by
 obtain ⟨lv,ov,rows,h,rfl⟩:=h
 exact ⟨lv,ov,rows,h.ext w x,rfl⟩
theorem WIn.peers {S:St} {a:Nat} {c:Core} {O:Nat→Prop} (h:WIn S a c O):c.peers.length=7:=by
 obtain ⟨lv,ov,rows,h,rfl⟩:=h
 exact h.peers
end
end Go.Raft
end
section
namespace Go.Proofs.Ytbiidlmhadihlaa
open Go.AM Go.Raft Try
section
variable [Guard]
theorem g30 (m id:Int) (S:St) (h0:0≤m):xD 30 [.int .i64 m,.int .i64 id] S (.bool (bJ m id)):=by
 refine e30 ?_
 simp only [m30,eX,aG]
 refine Ok.pickP (fun c0=>?_) (fun c0=>Ok.ret ⟨by simp [bJ,c0],Ext.refl S⟩)
 simp only [bG,aG]
 refine Ok.pickP (fun c1=>?_) (fun c1=>Ok.ret ⟨by simp [bJ,c1],Ext.refl S⟩)
 have hsh:aD prog .shr 3 (.int .i64 m) (.int .i64 id)=.ok (.int .i64 (m / 2 ^ id.toNat)):=by
  simp only [aD,lR,show ¬ id<0 by omega,decide_false,cond_false]
  have:min id.toNat IntKind.i64.bits=id.toNat:=by show min id.toNat 64=_;omega
  rw [this,Int.fdiv_eq_ediv_of_nonneg _ (Int.pow_nonneg (by decide))]
 have han:aD prog .and 3 (.int .i64 (m / 2 ^ id.toNat)) (.int .i64 1)=.ok (.int .i64 (m / 2 ^ id.toNat % 2)):=by
  simp only [aD,bW,cond_true,eA,aLf]
 simp only [aG,hsh,han,aR,aU,bX]
 exact Ok.ret ⟨by simp [bJ,aVm,c0,c1],Ext.refl S⟩
abbrev WMeth (f:FuncId) (args:List V) (a:Nat) (c':Core) (S:St) (O:Nat→Prop) (v:V):Prop:=Does prog bC bD f args S fun u S'=>u=v∧∃ O',WIn S' a c' O'∧Mv O S O' S'
theorem WMeth.call {f:FuncId} {args:List V} {a:Nat} {c':Core} {S:St} {O:Nat→Prop} {v:V} (h:WMeth f args a c' S O v) (w:WF S) {G:Nat→KS→V→St→An} {R:V→St→Prop} (k:∀ S' O',WF S'→WIn S' a c' O'→Mv O S O' S'→Ok (fun k K=>G k K v S') R):
  Ok (fun k K=>aC prog bC bD k f args S (fun v S=>G k K v S)) R:=Does.call h fun u S' ⟨e,O',h1,h2⟩=>by subst e;exact k S' O' (h2.wf w) h1 h2
theorem WMeth.callL {X:Type} {out:Nat→KS→X→St→An} {Q:Turn X→Prop} {f:FuncId} {args:List V} {a:Nat} {c':Core} {S:St} {O:Nat→Prop} {v:V} (h:WMeth f args a c' S O v) (w:WF S) {G:Nat→KS→Ag→V→St→An} (k:∀ S' O',WF S'→WIn S' a c' O'→Mv O S O' S'→OkL out (fun k K aO=>G k K aO v S') Q):
  OkL out (fun k K aO=>aC prog bC bD k f args S (fun v S=>G k K aO v S)) Q:=OkL.call h fun u S' ⟨e,O',h1,h2⟩=>by subst e;exact k S' O' (h2.wf w) h1 h2
section
variable {S:St} {a:Nat} {c:Core} {O:Nat→Prop} {k:Came} {lv ov:V} {rows:List (List V)}
end
end
end Go.Proofs.Ytbiidlmhadihlaa
end
section
namespace Go.Raft
open Go.AM
section
variable [Guard]
theorem aC6 (S:St) (k n:Nat) (z:List V):bM n z 0 [] (some k) S=.ok (.sl k 0 n 0 0,⟨S.next,S.heap.put k (.row 0 n [])⟩):=by
 unfold bM
 rw [if_pos (by omega)]
 simp only [uT,List.replicate,eE]
theorem aPw {S:St} {n b a ver:Nat} {u:V} {es cs:List (List V)} (h:S.heap.get a=some (.row ver n es)) (hu:bZ S u=.ok cs) (hc:∀ c,c∈cs→c.length=n∧aK c=true) (h1:(es.length+cs.length)*b≤35184372088832) (h2:es.length+cs.length<fO) (fr:Option Nat):
  fZ n b (.sl a ver n 0 es.length) u fr S=.ok (.sl a (ver+1) n 0 (es++cs).length,⟨S.next,S.heap.put a (.row (ver+1) n (es++cs))⟩):=by
 obtain ⟨a1,a2⟩:=fK hc
 have hb:0+es.length≤es.length:=by omega
 simp only [fZ,hu,a1,a2,and_self,if_true,aX h,hb,h1,h2,List.drop_zero,List.take_length,List.length_append]
theorem WAt.w_logN {S B:St} {a:Nat} {c c0:Core} {k k0:Came} {lv ov:V} {rows:List (List V)} (h:WAt S a c k lv ov rows) (w:WF S) (h0:WAt B a c0 k0 lv ov rows) (wB:WF B) (hout:c0.out=c.out)
  {lv':V} {l':List Entry} (hlog:Mn S 3 lv' (l'.map bR)) (hb:∀ y,aP lv'=some y→B.next≤y):
  ∃ S2,bH 1 (.ptr a 0 0 6) lv' S=.ok S2∧WAt S2 a { c with h:={ c.h with log:=l' } } k lv' ov rows∧MvB B.next (sP a lv ov) S (sP a lv' ov) S2∧S2.next=S.next:=by
 have hl:=lM c k lv ov h.peers
 have ga:=h.cell
 have hone:=hlog.cells
 have e:=cX (x:=lv') (j:=6) (m:=1) ga (by rw [hone.1];rfl) (by rw [hone.1];simp [aK,hone.2]) (by omega)
 have hsp:splice (cA c k lv ov) 6 [lv']=cA { c with h:={ c.h with log:=l' } } k lv' ov:=rfl
 rw [hone.1,hsp] at e
 have kk:∀ n,n≠40→KeepW n S (⟨S.next,S.heap.put a (.row 0 40 [cA { c with h:={ c.h with log:=l' } } k lv' ov])⟩:St):=fun n h2=>KeepW.put ga h2 _
 have hl2:=yH wB h.lets (by rw [←hout];exact h0.lets)
 have hlets:All2 (LetAt (⟨S.next,S.heap.put a (.row 0 40 [cA { c with h:={ c.h with log:=l' } } k lv' ov])⟩:St) (aP lv')) c.out rows:=by
  refine All2.imp (fun m cs q=>?_) hl2
  obtain ⟨ev,e1,s1,s2⟩:=q
  refine ⟨ev,e1,s1.keep (fun y b hy hg=>?_),fun y hy h2=>?_⟩
  ·show (S.heap.put a _).get y=some b
   rw [Tr.get_put_neB _ _ _ _ trivial (fun e2=>?_)]
   ·exact hg
   ·subst e2
    rcases s1.is with ⟨e3,_⟩ | e3 | ⟨a',ver,off,elems,e3,g,_⟩
    ·rw [e3] at hy;cases hy
    ·rw [e3] at hy;cases hy
    ·rw [e3] at hy;cases hy
     have g':=eY g
     rw [h.cell] at g'
     injection g' with g'
     injection g' with _ g'
     exact absurd g' (by decide)
  ·have h3:=hb y h2
   have h4:=(s2 y hy).2
   omega
 refine ⟨_,e,⟨Tr.get_put_sameB _ _ _ trivial,h.peers,hlog.keepW (Nat.le_refl _) (kk 3 (by decide)),h.out.keepW (Nat.le_refl _) (kk 13 (by decide)),hlets,h.gd⟩,⟨fun y b _ hy hb'=>?_,Nat.le_refl _,fun _=>(But.put (h.lt w) _).wf w,fun y hy=>?_⟩,rfl⟩
 ·show (S.heap.put a _).get y=some b
  rw [Tr.get_put_neB _ _ _ _ trivial (fun e=>hy (.inl e))]
  exact hb'
 ·rcases hy with hy | hy | hy
  ·exact .inl (.inl hy)
  ·exact .inr (hb y hy)
  ·exact .inl (.inr (.inr hy))
end
end Go.Raft
end
section
namespace Go.Proofs.Ytbiidlmhadihlaa
open Go.AM Go.Raft Try
section
variable [Guard]
section
variable {S:St} {a:Nat} {c:Core} {O:Nat→Prop}
structure EntW (a:Nat) (c:Core) (O:Nat→Prop) (S:St) (b:Nat) (m:Letter) (ev:V) (h:Hard) (S':St) (O':Nat→Prop):Prop where
 wf:WF S'
 core:WIn S' a { c with h:=h } O'
 mv:Mv O S O' S'
 l:LetIn S' O' b m ev
theorem EntW.next {b:Nat} {m:Letter} {ev:V} {h h':Hard} {S' S'':St} {O' O'':Nat→Prop} (w:WF S) (e:EntW a c O S b m ev h S' O') (i:WIn S'' a { c with h:=h' } O'') (k:Mv O' S' O'' S''):EntW a c O S b m ev h' S'' O'':=
 ⟨k.wf e.wf,i,e.mv.trans w k,e.l.mv e.wf k⟩
end
end
section
variable [Guard]
structure Two (S0 S:St) (m n:Letter) (u:V) (b1 b2:Nat):Prop where
 x:Ext S0 S
 w0:WF S0
 w:WF S
 g1:S.heap.get b1=some (.row 0 13 [aN m u])
 g2:S.heap.get b2=some (.row 0 13 [aN n .nils])
 ne:b1≠b2
 ge:S0.next≤b2
section
variable {S0 S:St} {m n:Letter} {u:V} {b1 b2:Nat}
theorem Two.ext {S':St} (T:Two S0 S m n u b1 b2) (x:Ext S S'):Two S0 S' m n u b1 b2:=⟨T.x.trans x,T.w0,x.wf T.w,x.old _ _ T.g1,x.old _ _ T.g2,T.ne,T.ge⟩
theorem Two.st (T:Two S0 S m n u b1 b2) (j:Nat) (x:V) (n':Letter) (hx:x.cells=[x]) (ho:x.one=true) (hj:j<13) (hc:splice (aN n .nils) j [x]=aN n' .nils):
  ∃ S',bH 1 (.ptr b2 0 0 j) x S=.ok S'∧Two S0 S' m n' u b1 b2∧S'.next=S.next:=by
 have hl:(aN n .nils).length=13:=rfl
 have e:=cX (x:=x) (j:=j) (m:=1) T.g2 (by rw [hx];rfl) (by rw [hx];simp [aK,ho]) (by omega)
 rw [hx,hc] at e
 have hlt:=T.w _ _ T.g2
 have xs:=T.x.set T.ge hlt T.w0 (.row 0 13 [aN n' .nils])
 refine ⟨_,e,⟨xs,T.w0,xs.wf T.w0,?_,Tr.get_put_sameB _ _ _ trivial,T.ne,T.ge⟩,rfl⟩
 show (S.heap.put b2 _).get b1=_
 rw [Tr.get_put_neB _ _ _ _ trivial T.ne];exact T.g1
end
end
end Go.Proofs.Ytbiidlmhadihlaa
end
section
namespace Go.Raft
open Go.AM
def Sm (c d:Core):Prop:=(∀ m∈c.out,m.entries.length≤8)→∀ m∈d.out,m.entries.length≤8
theorem Sm.trans {c d e:Core} (h:Sm c d) (k:Sm d e):Sm c e:=fun q=>k (h q)
theorem Sm.same {c d:Core} (h:d.out=c.out):Sm c d:=fun q=>by rw [h];exact q
end Go.Raft
end
section
namespace Go.Raft
open Go.AM
theorem All2.get {α β:Type} {R:α→β→Prop}:∀ {l:List α} {r:List β},All2 R l r→∀ {i:Nat} {m:α},l[i]?=some m→∃ cs,r[i]?=some cs∧R m cs
 | _,_,.nil,i,m,h=>by cases h
 | _,_,.cons x y,0,m,h=>by cases h;exact ⟨_,rfl,x⟩
 | _,_,.cons x y,i+1,m,h=>All2.get y h
theorem aW1 {S:St} (w:WF S) {n k1 k2:Nat} (hk1:k1<n) (hk2:k2<n) (hne:k1≠k2) (q:Nat) (z c1 c2:List V) (hz:z.length=q) (h1:c1.length=q) (o1:aK c1=true) (h2:c2.length=q) (o2:aK c2=true):
  ∃ T1 T2 S3 S4,aZ (some (S.next+k1)) (⟨S.next+n,S.heap⟩:St) (.row 0 q [z])=.ok (S.next+k1,T1)∧aZ (some (S.next+k2)) T1 (.row 0 q [z])=.ok (S.next+k2,T2)∧bH q (.ptr (S.next+k1) 0 0 0) (.agg c1) T2=.ok S3∧Ext S S3∧bH q (.ptr (S.next+k2) 0 0 0) (.agg c2) S3=.ok S4∧Ext S S4∧S4.heap.get (S.next+k1)=some (.row 0 q [c1])∧S4.heap.get (S.next+k2)=some (.row 0 q [c2]):=by
 have hn1:S.next+k1<S.next+n:=Nat.add_lt_add_left hk1 _
 have hn2:S.next+k2<S.next+n:=Nat.add_lt_add_left hk2 _
 have hne':S.next+k1≠S.next+k2:=by omega
 have xb:Ext S (⟨S.next+n,S.heap⟩:St):=(Ext.refl S).bump n
 have x1:Ext S (⟨S.next+n,S.heap.put (S.next+k1) (.row 0 q [z])⟩:St):=xb.set (Nat.le_add_right _ _) hn1 w _
 have x2:Ext S (⟨S.next+n,(S.heap.put (S.next+k1) (.row 0 q [z])).put (S.next+k2) (.row 0 q [z])⟩:St):=x1.set (Nat.le_add_right _ _) hn2 w _
 have g1:(⟨S.next+n,(S.heap.put (S.next+k1) (.row 0 q [z])).put (S.next+k2) (.row 0 q [z])⟩:St).heap.get (S.next+k1)=some (.row 0 q [z]):=by
  show ((S.heap.put _ _).put _ _).get _=_
  rw [Tr.get_put_neB _ _ _ _ trivial hne'];exact Tr.get_put_sameB _ _ _ trivial
 have e1:=cX (x:=.agg c1) (j:=0) (m:=q) g1 (by rw [bK];exact h1) (by rw [bK];exact o1) (by omega)
 rw [bK,gK z c1 (by rw [h1,hz])] at e1
 have x3:Ext S (⟨S.next+n,((S.heap.put (S.next+k1) (.row 0 q [z])).put (S.next+k2) (.row 0 q [z])).put (S.next+k1) (.row 0 q [c1])⟩:St):=x2.set (Nat.le_add_right _ _) hn1 w _
 have g2:(⟨S.next+n,((S.heap.put (S.next+k1) (.row 0 q [z])).put (S.next+k2) (.row 0 q [z])).put (S.next+k1) (.row 0 q [c1])⟩:St).heap.get (S.next+k2)=some (.row 0 q [z]):=by
  show (((S.heap.put _ _).put _ _).put _ _).get _=_
  rw [Tr.get_put_neB _ _ _ _ trivial (Ne.symm hne')];exact Tr.get_put_sameB _ _ _ trivial
 have e2:=cX (x:=.agg c2) (j:=0) (m:=q) g2 (by rw [bK];exact h2) (by rw [bK];exact o2) (by omega)
 rw [bK,gK z c2 (by rw [h2,hz])] at e2
 refine ⟨_,_,_,_,eE ..,eE ..,e1,x3,e2,x3.set (Nat.le_add_right _ _) hn2 w _,?_,Tr.get_put_sameB _ _ _ trivial⟩
 show ((((S.heap.put _ _).put _ _).put _ _).put _ _).get _=_
 rw [Tr.get_put_neB _ _ _ _ trivial hne'];exact Tr.get_put_sameB _ _ _ trivial
end Go.Raft
namespace Go.Proofs.Ytbiidlmhadihlaa
open Go.AM Go.Raft Try
set_option linter.unusedVariables false
set_option linter.unusedSectionVars false
set_option linter.unusedSimpArgs false
set_option maxRecDepth 100000
variable [Guard]
end Go.Proofs.Ytbiidlmhadihlaa
end
section
namespace Go.Proofs.Ytbiidlmhadihlaa
open Go.AM Go.Raft Try
set_option linter.unusedVariables false
set_option linter.unusedSectionVars false
set_option linter.unusedSimpArgs false
set_option maxRecDepth 100000
variable [Guard]
section
variable {S S':St} {a:Nat} {c:Core} {k:Came} {lv wv dv ov:V} {rows:List (List V)} {P P':Nat→Prop}
theorem wD {L:Option Nat} (w:WF S) (m:Mv P S P' S'):∀ {out:List Letter} {rows:List (List V)},All2 (LetAt S L) out rows→(∀ r∈rows,∀ ev,r[12]?=some ev→∀ y,aP ev=some y→¬ P y)→All2 (LetAt S' L) out rows
 | _,_,.nil,_=>.nil
 | _,_,.cons ⟨ev,e,h1,h2⟩ t,hp=>.cons ⟨ev,e,m.sl h1 (fun y hy=>hp _ (List.mem_cons_self ..) ev (by rw [e];rfl) y hy),h2⟩ (wD w m t fun r hr=>hp r (List.mem_cons_of_mem _ hr))
theorem CoreAt.apart (h:CoreAt S a c lv wv dv ov rows) (w:WF S) (m:Mv P S P' S') (d:∀ y,own a lv wv dv ov y→¬ P y) (hp:∀ r∈rows,∀ ev,r[12]?=some ev→∀ y,aP ev=some y→¬ P y):CoreAt S' a c lv wv dv ov rows:=by
 have kk:∀ {y b},own a lv wv dv ov y→S.heap.get y=some b→S'.heap.get y=some b:=fun ho hb=>m.keep _ _ (d _ ho) hb
 refine ⟨kk (.inl rfl) h.cell,h.peers,Mn.fr h.log m.next fun y b hy hb=>kk (.inr (.inl hy)) hb,?_,Mn.fr h.out m.next fun y b hy hb=>kk (.inr (.inr (.inr (.inr hy)))) hb,wD w m h.lets hp,h.gd.mono m.next⟩
 have hw:=h.way
 unfold WayAt at hw ⊢
 split at hw
 ·exact hw
 ·obtain ⟨b,e,g,n⟩:=hw
  exact ⟨b,e,kk (.inr (.inr (.inl (by rw [e];rfl)))) g,Mn.fr n m.next fun y b hy hb=>kk (.inr (.inr (.inr (.inl hy)))) hb⟩
theorem WAt.apart (h:WAt S a c k lv ov rows) (w:WF S) (m:Mv P S P' S') (d:∀ y,sP a lv ov y→¬ P y) (hp:∀ r∈rows,∀ ev,r[12]?=some ev→∀ y,aP ev=some y→¬ P y):WAt S' a c k lv ov rows:=by
 have kk:∀ {y b},sP a lv ov y→S.heap.get y=some b→S'.heap.get y=some b:=fun ho hb=>m.keep _ _ (d _ ho) hb
 exact ⟨kk (.inl rfl) h.cell,h.peers,Mn.fr h.log m.next fun y b hy hb=>kk (.inr (.inl hy)) hb,Mn.fr h.out m.next fun y b hy hb=>kk (.inr (.inr hy)) hb,wD w m h.lets hp,h.gd.mono m.next⟩
theorem rows_nil (h:All2 (LetAt S (aP lv)) [] rows):rows=[]:=by cases h;rfl
theorem bBj (w:WF S) (h:CoreAt S a c lv wv dv ov rows):Does prog bC bD 27 [.ptr a 0 0 0] S (fun u S'=>u=ov∧CoreAt S' a { c with out:=[] } lv wv dv .nils []∧Mv (own a lv wv dv ov) S (own a lv wv dv .nils) S'∧Mn S' 13 ov rows∧All2 (LetAt S' (aP lv)) c.out rows):=by
 obtain ⟨S1,q1,h1,m1,n1⟩:=h.w_out w w (Nat.le_refl _) (fun y b hy _=>hy) (ov':=.nils) (rows':=[]) (Own.nil _ _ _) ⟨rfl,rfl⟩ (fun y hy=>by cases hy) (out':=[]) .nil (Gd.nil h.gd.1)
 refine e27 ?_
 simp only [m27,aT,aLa,aF,Nat.reduceAdd,aG,aPa,h.r_out,aPc,q1]
 have e:=q1
 rw [cX (x:=.nils) (j:=36) (m:=1) h.cell rfl rfl (by rw [dN _ _ _ _ h.peers];omega)] at e
 cases e
 have hk:∀ n,n≠37→KeepW n S (⟨S.next,S.heap.put a (.row 0 37 [splice (bP c lv wv ov) 36 (V.nils).cells])⟩:St):=fun n hn=>KeepW.put h.cell hn _
 exact Ok.ret ⟨rfl,h1,m1,h.out.keepW (Nat.le_refl _) (hk 13 (by decide)),All2.imp (fun m cs q=>q.keep (fun y ver el _ g=>hk 3 (by decide) _ _ _ g) (fun y _ h=>h) w) h.lets⟩
end
end Go.Proofs.Ytbiidlmhadihlaa
namespace Go.Raft
open Go.AM
theorem CoreAt.reguard {n n':Nat} {S:St} {a:Nat} {c:Core} {lv wv dv ov:V} (h:@CoreAt ⟨n⟩ S a c lv wv dv ov []) (hn:n'≤S.next):@CoreAt ⟨n'⟩ S a c lv wv dv ov []:=
 @CoreAt.mk ⟨n'⟩ S a c lv wv dv ov [] (@CoreAt.cell ⟨n⟩ _ _ _ _ _ _ _ _ h) (@CoreAt.peers ⟨n⟩ _ _ _ _ _ _ _ _ h) (@CoreAt.log ⟨n⟩ _ _ _ _ _ _ _ _ h) (@CoreAt.way ⟨n⟩ _ _ _ _ _ _ _ _ h) (@CoreAt.out ⟨n⟩ _ _ _ _ _ _ _ _ h) (@CoreAt.lets ⟨n⟩ _ _ _ _ _ _ _ _ h) ⟨hn,fun r hr=>by cases hr⟩
theorem WAt.reguard {n n':Nat} {S:St} {a:Nat} {c:Core} {k:Came} {lv ov:V} (h:@WAt ⟨n⟩ S a c k lv ov []) (hn:n'≤S.next):@WAt ⟨n'⟩ S a c k lv ov []:=
 @WAt.mk ⟨n'⟩ S a c k lv ov [] (@WAt.cell ⟨n⟩ _ _ _ _ _ _ _ h) (@WAt.peers ⟨n⟩ _ _ _ _ _ _ _ h) (@WAt.log ⟨n⟩ _ _ _ _ _ _ _ h) (@WAt.out ⟨n⟩ _ _ _ _ _ _ _ h) (@WAt.lets ⟨n⟩ _ _ _ _ _ _ _ h) ⟨hn,fun r hr=>by cases hr⟩
end Go.Raft
end
section
namespace Go.Proofs.Ytbiidlmhadihlaa
open Go.AM Go.Raft Try
section
theorem dQ (a b c d:Nat) (x:An):aQ (.ptr a b c d) x=x:=by rw [aT]
theorem bS {α:Type} (x:α) (f:α→An):dR (.ok x) f=f x:=by rw [aG]
theorem cO (x:An):bY true x=x:=by rw [aU]
theorem dD (x y:An):aE (.bool true) x y=x:=by rw [bT]
section
variable {n1 n2 a1 a2:Nat} {S:St} {c:Core} {lv wv dv ov lw ow:V} {rows rw':List (List V)}
end
end
end Go.Proofs.Ytbiidlmhadihlaa
end
section
namespace Go.Raft
abbrev eD:=List Entry
def cU (l:eD):Nat→Int
 | 0=>0
 | n+1=>match l[n]? with
  | some x=>x.term
  | none=>0
def ci:eD→Nat
 | []=>0
 | x::l=>if 0<ci l then ci l+1 else if x.members=0 then 0 else 1
def lN (m:Int):eD→Int
 | []=>m
 | x::l=>lN (if x.members=0 then m else x.members) l
theorem yJ (x:Entry) (l:eD):ci (x::l)=if 0<ci l then ci l+1 else if x.members=0 then 0 else 1:=rfl
theorem aB4 (m:Int) (x:Entry) (l:eD):lN m (x::l)=lN (if x.members=0 then m else x.members) l:=rfl
theorem uF:∀ l:eD,ci l≤l.length
 | []=>Nat.le_refl _
 | x::l=>by
  have:=uF l
  unfold ci
  simp only [List.length_cons]
  split
  ·omega
  ·split<;>omega
theorem aB5:∀ (l:eD) (m:Int),ci l=0→lN m l=m
 | [],m,_=>rfl
 | x::l,m,h=>by
  unfold ci at h
  split at h
  ·omega
  ·split at h
   ·rename_i h1 h2
    unfold lN
    rw [if_pos h2]
    exact aB5 l m (by omega)
   ·cases h
theorem aB6:∀ (l:eD) (m:Int) (j:Nat),ci l≤j→lN m (l.take j)=lN m l∧ci (l.take j)=ci l
 | [],m,j,_=>by simp
 | x::l,m,0,h=>by
  have h0:ci (x::l)=0:=by omega
  rw [aB5 _ _ h0,h0]
  exact ⟨rfl,rfl⟩
 | x::l,m,j+1,h=>by
  have h1:ci l≤j:=by
   unfold ci at h
   split at h
   ·omega
   ·omega
  have ih:=fun m=>aB6 l m j h1
  simp only [List.take_succ_cons,lN,ci]
  exact ⟨(ih _).1,by rw [(ih m).2]⟩
theorem aPx:∀ (l:eD) (m:Int),0<ci l→∃ x,l[ci l - 1]?=some x∧x.members≠0∧lN m l=x.members
 | [],m,h=>by cases h
 | x::l,m,h=>by
  by_cases h0:0<ci l
  ·obtain ⟨y,h1,h2,h3⟩:=aPx l (if x.members=0 then m else x.members) h0
   have e:ci (x::l)=ci l+1:=by rw [yJ,if_pos h0]
   refine ⟨y,?_,h2,h3⟩
   rw [e]
   have e2:ci l+1 - 1=(ci l - 1)+1:=by omega
   rw [e2,List.getElem?_cons_succ]
   exact h1
  ·have h9:=h
   unfold ci at h9
   rw [if_neg h0] at h9
   by_cases hx:x.members=0
   ·rw [if_pos hx] at h9;cases h9
   ·have e:ci (x::l)=1:=by rw [yJ,if_neg h0,if_neg hx]
    refine ⟨x,by rw [e];rfl,hx,?_⟩
    unfold lN
    rw [if_neg hx]
    exact aB5 l _ (by omega)
theorem aK4:∀ (l:eD) (b:Int) (r:Int×Int),ofL b l r=(lN r.1 l,if 0<ci l then b+ci l else r.2)
 | [],b,r=>by simp [ofL,lN,ci]
 | x::l,b,r=>by
  rw [ofL,aK4 l,aB4,yJ]
  by_cases h0:0<ci l<;>by_cases hx:x.members=0<;>simp [h0,hx]<;>omega
def lcp:eD→eD→Nat
 | x::a,y::b=>if x=y then lcp a b+1 else 0
 | _,_=>0
theorem aB7:∀ a b:eD,lcp a b≤a.length∧lcp a b≤b.length∧a.take (lcp a b)=b.take (lcp a b)∧∀ j,j≤a.length→j≤b.length→a.take j=b.take j→j≤lcp a b
 | [],b=>by simp [lcp]
 | x::a,[]=>by simp [lcp]
 | x::a,y::b=>by
  obtain ⟨h1,h2,h3,h4⟩:=aB7 a b
  unfold lcp
  by_cases e:x=y
  ·subst e
   rw [if_pos rfl]
   simp only [List.length_cons,List.take_succ_cons,h3]
   refine ⟨by omega,by omega,trivial,fun j j1 j2 j3=>?_⟩
   cases j with
   | zero=>omega
   | succ j=>
    simp only [List.take_succ_cons,List.cons.injEq,true_and] at j3
    have:=h4 j (by omega) (by omega) j3
    omega
  ·rw [if_neg e]
   refine ⟨Nat.zero_le _,Nat.zero_le _,rfl,fun j j1 j2 j3=>?_⟩
   cases j with
   | zero=>omega
   | succ j=>
    simp only [List.take_succ_cons,List.cons.injEq] at j3
    exact absurd j3.1 e
def Mono (l:eD):Prop:=l.Pairwise fun x y=>x.term≤y.term
theorem Mono.take {l:eD} (h:Mono l) (n:Nat):Mono (l.take n):=h.sublist (List.take_sublist n l)
theorem Mono.le {l:eD} (h:Mono l) {i j:Nat} {x y:Entry} (hi:l[i]?=some x) (hj:l[j]?=some y) (hij:i≤j):x.term≤y.term:=by
 obtain ⟨h1,e1⟩:=List.getElem?_eq_some_iff.1 hi
 obtain ⟨h2,e2⟩:=List.getElem?_eq_some_iff.1 hj
 rcases Nat.lt_or_eq_of_le hij with h3 | h3
 ·have:=List.pairwise_iff_getElem.1 h i j h1 h2 h3
  rw [e1,e2] at this;exact this
 ·subst h3
  rw [hi] at hj;cases hj;exact Int.le_refl _
theorem fB {a b:eD} {n i:Nat} (h:a.take n=b.take n) (hi:i<n):a[i]?=b[i]?:=by
 have:=congrArg (fun l=>l[i]?) h
 simpa [List.getElem?_take,hi] using this
theorem dZ {a b:eD} {n m:Nat} (h:a.take n=b.take n) (hm:m≤n):a.take m=b.take m:=by
 have:=congrArg (List.take m) h
 simpa [List.take_take,Nat.min_eq_left hm] using this
theorem uG {p l:eD} (h:p <+: l):l.take p.length=p:=(List.prefix_iff_eq_take.1 h).symm
theorem fC {a l:eD} {n:Nat} (hn:n≤a.length):a.take n <+: l↔n≤l.length∧l.take n=a.take n:=by
 have hl:(a.take n).length=n:=by rw [List.length_take];omega
 constructor
 ·intro h
  have h1:=h.length_le
  have h2:=uG h
  rw [hl] at h1 h2
  exact ⟨h1,h2⟩
 ·rintro ⟨h1,h2⟩
  rw [←h2]
  exact List.take_prefix n l
theorem aHu {l:eD} {n:Nat} {x:Entry} (h:l[n]?=some x):cU l (n+1)=x.term:=by
 show (match l[n]? with
  | some x=>x.term
  | none=>0)=x.term
 rw [h]
def Maj (m:Int) (P:Int→Prop):Prop:=∃ yes,iJ m yes=true∧∀ id,bJ yes id=true→P id
theorem Maj.imp {m:Int} {P Q:Int→Prop} (h:∀ id,P id→Q id) (k:Maj m P):Maj m Q:=by
 obtain ⟨y,h1,h2⟩:=k
 exact ⟨y,h1,fun id hid=>h id (h2 id hid)⟩
def Near (m n:Int):Prop:=m=n∨gO (aF8 m n)=1
theorem wE (f:Int→Bool):∀ i∈qR,bJ ((qR.map fun i=>if f i=true then (2:Int) ^ i.toNat else 0).sum) i=f i:=by
 simp only [qR,List.map_cons,List.map_nil,List.mem_cons,List.not_mem_nil,or_false]
 rintro i (rfl | rfl | rfl | rfl | rfl | rfl | rfl) <;>
  cases f 0<;>cases f 1<;>cases f 2<;>cases f 3<;>cases f 4<;>cases f 5<;>cases f 6<;>decide
theorem aB8 (f:Int→Bool):gO ((qR.map fun i=>if f i=true then (2:Int) ^ i.toNat else 0).sum)=((qR.filter f).length:Int):=by
 unfold gO gN
 rw [List.filter_congr (fun i hi=>wE f i hi)]
theorem aDa (m n:Int):gO (aC2 m n)=((qR.filter fun i=>bJ m i&&bJ n i).length:Int):=by
 have h:=aB8 (fun i=>bJ m i&&bJ n i)
 unfold aC2
 simpa only [Bool.and_eq_true] using h
theorem aDb (m n:Int):gO (aF8 m n)=((qR.filter fun i=>bJ m i != bJ n i).length:Int):=by
 have h:=aB8 (fun i=>bJ m i != bJ n i)
 have e:aF8 m n=((qR.map fun i=>if (bJ m i != bJ n i)=true then (2:Int) ^ i.toNat else 0).sum):=by
  unfold aF8
  congr 1
  apply List.map_congr_left
  intro i _
  cases bJ m i<;>cases bJ n i<;>rfl
 rw [e];exact h
theorem aLk (p q:Int→Bool) (hd:∀ i,p i=true→q i=true→False) (r:Int→Bool) (hp:∀ i,p i=true→r i=true) (hq:∀ i,q i=true→r i=true):∀ l:List Int,(l.filter p).length+(l.filter q).length≤(l.filter r).length
 | []=>Nat.le_refl _
 | i::l=>by
  have ih:=aLk p q hd r hp hq l
  have h1:=hd i
  have h2:=hp i
  have h3:=hq i
  simp only [List.filter_cons]
  cases e1:p i<;>cases e2:q i<;>cases e3:r i<;>simp_all<;>omega
theorem aB9 (p q:Int→Bool):∀ l:List Int,2*(l.filter fun i=>p i||q i).length=(l.filter p).length+(l.filter q).length+(l.filter fun i=>p i != q i).length
 | []=>rfl
 | i::l=>by
  have ih:=aB9 p q l
  simp only [List.filter_cons]
  cases e1:p i<;>cases e2:q i<;>simp_all<;>omega
theorem aHv {p q:Int→Bool} (h:∀ i,p i=q i) (l:List Int):(l.filter p).length=(l.filter q).length:=by
 have:p=q:=funext h
 rw [this]
theorem Maj.meet {m n:Int} {P Q:Int→Prop} (h:Maj m P) (k:Maj n Q) (hn:Near m n):∃ id,P id∧Q id:=by
 obtain ⟨y,h1,h2⟩:=h
 obtain ⟨z,k1,k2⟩:=k
 apply Classical.byContradiction
 intro hno
 simp only [iJ,Bool.and_eq_true,decide_eq_true_eq,aDa] at h1 k1
 have hd:=aLk (fun i=>bJ m i&&bJ y i) (fun i=>bJ n i&&bJ z i)
  (fun i a b=>by
   simp only [Bool.and_eq_true] at a b
   exact hno ⟨i,h2 i a.2,k2 i b.2⟩) (fun i=>bJ m i||bJ n i) (fun i a=>by simp only [Bool.and_eq_true] at a;simp [a.1]) (fun i a=>by simp only [Bool.and_eq_true] at a;simp [a.1]) qR
 have hu:=aB9 (bJ m) (bJ n) qR
 have e1:gO m=((qR.filter (bJ m)).length:Int):=rfl
 have e2:gO n=((qR.filter (bJ n)).length:Int):=rfl
 rcases hn with rfl | hx
 ·have hz:(qR.filter fun i=>bJ m i != bJ m i).length=0:=by
   rw [aHv (q:=fun _=>false) (fun i=>by cases bJ m i<;>rfl)];rfl
  omega
 ·rw [aDb] at hx
  omega
theorem aHw {m n:Int} (h:lQ m n=true):Near m n:=by
 simp only [lQ,Bool.and_eq_true,decide_eq_true_eq] at h
 exact .inr h.2.2
theorem Near.symm {m n:Int} (h:Near m n):Near n m:=by
 rcases h with rfl | h
 ·exact .inl rfl
 ·refine .inr ?_
  rw [aDb] at h ⊢
  rw [←h,aHv (p:=fun i=>bJ n i != bJ m i) (q:=fun i=>bJ m i != bJ n i)]
  intro i
  cases bJ m i<;>cases bJ n i<;>rfl
section
structure El where
 cand:Int
 e:Nat
 vs:Int
structure Gho where
 m0:Int
 LL:Int→eD
 el:Int→Option El
 ack:Int→Int→Nat
 vt:Int→Int→Option (Int×eD)
 full:Int→eD
def Gho.beg (G:Gho) (T:Int):eD:=match G.el T with
 | some x=>(G.LL T).take x.e
 | none=>[]
structure Cert (G:Gho) (T:Int) (n m:Nat):Prop where
 n1:1≤n
 nm:n≤m
 ml:m≤(G.LL T).length
 el:G.el T≠none
 tm:cU (G.LL T) n=T
 q:Maj (lN G.m0 ((G.LL T).take m)) fun v=>n≤G.ack v T
def Fits (G:Gho) (l:eD):Prop:=∀ n x,l[n]?=some x→G.el x.term≠none∧n<(G.LL x.term).length∧(G.LL x.term).take (n+1)=l.take (n+1)
def aFf (l E:eD):Prop:=cU l l.length<cU E E.length∨cU l l.length=cU E E.length∧l.length≤E.length
def Bad (G:Gho) (T:Int) (n:Nat) (W:Int):Prop:=G.el W≠none∧¬ (G.LL T).take n <+: G.beg W
structure Elec (G:Gho) (U:Int) (E:eD) (P:Int→Prop) (k:Int):Prop where
 mono:Mono E
 low:∀ x∈E,x.term<U
 fits:Fits G E
 q:Maj (lN G.m0 E) P
 v:∀ v,P v→∃ lg,G.vt v U=some (k,lg)∧aFf lg E∧Mono lg∧Fits G lg∧∀ T n,T<U→1≤n→n≤G.ack v T→(G.LL T).take n <+: lg∨∃ W,T<W∧W<U∧Bad G T n W
structure ElecW (G:Gho) (U:Int) (E:eD) (P:Int→Prop) (k:Int):Prop where
 mono:Mono E
 low:∀ x∈E,x.term<U
 fits:Fits G E
 q:Maj (lN G.m0 E) P
 v:∀ v,P v→∃ lg,G.vt v U=some (k,lg)∧aFf lg E∧Mono lg∧Fits G lg∧∀ T n m,T<U→Cert G T n m→n≤G.ack v T→(G.LL T).take n <+: lg∨∃ W,T<W∧W<U∧Bad G T n W
theorem Elec.weak {G:Gho} {U:Int} {E:eD} {P:Int→Prop} {k:Int} (h:Elec G U E P k):ElecW G U E P k:=
 ⟨h.mono,h.low,h.fits,h.q,fun v hv=>by
  obtain ⟨lg,a,b,c,d,e⟩:=h.v v hv
  exact ⟨lg,a,b,c,d,fun T n m hT ct hn=>e T n hT ct.n1 hn⟩⟩
structure GH (G:Gho):Prop where
 pos:∀ T,G.el T≠none→1≤T
 elen:∀ T x,G.el T=some x→x.e≤(G.LL T).length
 mono:∀ T,Mono (G.LL T)
 fits:∀ T,Fits G (G.LL T)
 own:∀ T x,G.el T=some x→∀ n y,(G.LL T)[n]?=some y→(x.e≤n→y.term=T)∧(n<x.e→y.term<T)
 nul:∀ T,G.el T=Option.none→G.LL T=[]
 conf:∀ T x,G.el T=some x→∀ n y,x.e≤n→(G.LL T)[n]?=some y→y.members≠0→
  ∃ s m,Cert G T s m∧m≤n∧ci ((G.LL T).take n)≤s∧lQ (lN G.m0 ((G.LL T).take n)) y.members=true
 acks:∀ v T,1≤G.ack v T→G.el T≠none∧G.ack v T≤(G.LL T).length
 elec:∀ T x,G.el T=some x→Elec G T (G.beg T) (fun v=>bJ x.vs v=true) x.cand
 self:∀ T x,G.el T=some x→∃ lg,G.vt x.cand T=some (x.cand,lg)
variable {G:Gho}
theorem pU {T:Int} {x:El} (h:G.el T=some x):G.beg T=(G.LL T).take x.e:=by unfold Gho.beg;rw [h]
theorem yK (T:Int):G.beg T <+: G.LL T:=by
 unfold Gho.beg
 split
 ·exact List.take_prefix _ _
 ·exact List.nil_prefix
theorem nX {T:Int} (h:G.el T≠none):∃ x,G.el T=some x:=by
 cases e:G.el T with
 | none=>exact absurd e h
 | some x=>exact ⟨x,rfl⟩
theorem fS {l:eD} {n:Nat} (h0:1≤n) (h1:n≤l.length):∃ x,l[n - 1]?=some x∧cU l n=x.term:=by
 have hl:n - 1<l.length:=by omega
 refine ⟨l[n - 1],List.getElem?_eq_getElem hl,?_⟩
 have h:=aHu (List.getElem?_eq_getElem hl)
 rwa [show n - 1+1=n by omega] at h
theorem cE {l:eD} {n m:Nat} (h:n≤m):cU (l.take m) n=cU l n:=by
 cases n with
 | zero=>rfl
 | succ n=>
  show (match (l.take m)[n]? with
   | some x=>x.term
   | none=>0)=(match l[n]? with
   | some x=>x.term
   | none=>0)
  rw [List.getElem?_take,if_pos (by omega)]
theorem Fits.pre {p l:eD} (h:Fits G l) (hp:p <+: l):Fits G p:=by
 intro n x hx
 obtain ⟨hn,_⟩:=List.getElem?_eq_some_iff.1 hx
 have e:l.take p.length=p:=uG hp
 have hl:l[n]?=some x:=by
  rw [←hx]
  conv=>rhs;rw [←e]
  rw [List.getElem?_take,if_pos hn]
 obtain ⟨h1,h2,h3⟩:=h n x hl
 refine ⟨h1,h2,?_⟩
 rw [h3]
 conv=>rhs;rw [←e]
 rw [List.take_take,Nat.min_eq_left (by omega)]
theorem Fits.at {l:eD} (h:Fits G l) {n:Nat} (h0:1≤n) (h1:n≤l.length) {T:Int} (ht:cU l n=T):G.el T≠none∧n≤(G.LL T).length∧(G.LL T).take n=l.take n:=by
 obtain ⟨x,hx,e⟩:=fS h0 h1
 rw [e] at ht
 subst ht
 obtain ⟨a1,a2,a3⟩:=h _ _ hx
 have e:n - 1+1=n:=by omega
 rw [e] at a3
 exact ⟨a1,by omega,a3⟩
theorem Fits.same {l k:eD} (h:Fits G l) (h':Fits G k) {n:Nat} (h1:n≤l.length) (h2:n≤k.length) (ht:cU l n=cU k n):l.take n=k.take n:=by
 rcases Nat.eq_zero_or_pos n with h0 | h0
 ·subst h0;rfl
 ·rw [←(h.at h0 h1 ht).2.2,←(h'.at h0 h2 rfl).2.2]
theorem aMw (H:GH G) {l:eD} (h:Fits G l) {r:Nat} (h0:1≤r) (h1:r≤l.length) {x:Entry} (hx:l[r - 1]?=some x) (hm:x.members≠0):
  ∃ s m,Cert G x.term s m∧s≤m∧m<r∧ci (l.take (r - 1))≤s∧lQ (lN G.m0 (l.take (r - 1))) x.members=true∧(G.LL x.term).take r=l.take r∧G.beg x.term <+: l.take r:=by
 obtain ⟨a1,a2,a3⟩:=h _ _ hx
 obtain ⟨y,hy⟩:=nX a1
 have e:r - 1+1=r:=by omega
 rw [e] at a3
 have hxL:(G.LL x.term)[r - 1]?=some x:=by rw [fB a3 (by omega)];exact hx
 have he:y.e≤r - 1:=by
  apply Classical.byContradiction
  intro hc
  have:=(H.own _ _ hy _ _ hxL).2 (by omega)
  omega
 obtain ⟨s,m,c,h2,h3,h4⟩:=H.conf _ _ hy _ _ he hxL hm
 have e2:(G.LL x.term).take (r - 1)=l.take (r - 1):=dZ a3 (by omega)
 rw [e2] at h3 h4
 refine ⟨s,m,c,c.nm,by omega,h3,h4,a3,?_⟩
 rw [pU hy,←a3]
 exact List.take_prefix_take_left (by omega)
def aSa (G:Gho) (U:Int):Prop:=∀ T n m,T<U→Cert G T n m→(G.LL T).take n <+: G.beg U
section
variable (H:GH G)
include H
theorem kS {l:eD} (h:Fits G l) (f:Nat) (hf:f≤l.length):ci l≤f∧lN G.m0 (l.take f)=lN G.m0 l ∨
  ∃ s m x,f<ci l∧l[ci l - 1]?=some x∧Cert G x.term s m∧s≤m∧m<ci l∧(G.LL x.term).take (ci l)=l.take (ci l)∧G.beg x.term <+: l.take (ci l)∧(s≤f→Near (lN G.m0 (l.take f)) (lN G.m0 l)):=by
 rcases Nat.lt_or_ge f (ci l) with hc | hc
 ·right
  have hl:=uF l
  obtain ⟨x,h1,h2,h3⟩:=aPx l G.m0 (by omega)
  obtain ⟨s,m,c,a1,a2,a3,a4,a5,a6⟩:=aMw H h (by omega) hl h1 h2
  refine ⟨s,m,x,hc,h1,c,a1,a2,a5,a6,fun hs=>?_⟩
  have e:=aB6 (l.take (ci l - 1)) G.m0 f (by omega)
  rw [List.take_take,Nat.min_eq_left (by omega)] at e
  rw [e.1,h3]
  exact aHw a4
 ·exact .inl ⟨hc,(aB6 l G.m0 f hc).1⟩
theorem aFg {U:Int} {E:eD} {P:Int→Prop} {k:Int} (hU:∀ W,W<U→G.el W≠none→aSa G W) (el:ElecW G U E P k):
  ∀ m T n,T<U→Cert G T n m→(G.LL T).take n <+: E:=by
 intro m
 induction m using Nat.strongRecOn with
 | _ m ih=>
  intro T n hT c
  apply Classical.byContradiction
  intro hno
  obtain ⟨f1,f2,f3,f4⟩:=aB7 E (G.LL T)
  generalize lcp E (G.LL T)=f at f1 f2 f3 f4
  have hn:n≤(G.LL T).length:=Nat.le_trans c.nm c.ml
  have hfn:f<n:=by
   apply Classical.byContradiction
   intro hc
   exact hno ((fC hn).2 ⟨by omega,dZ f3 (by omega)⟩)
  have fm:f≤((G.LL T).take m).length:=by rw [List.length_take];have:=c.nm;have:=c.ml;omega
  have hFL:Fits G ((G.LL T).take m):=(H.fits T).pre (List.take_prefix _ _)
  have lenM:((G.LL T).take m).length=m:=by rw [List.length_take];have:=c.ml;omega
  have Y:∀ s m' x,f<ci ((G.LL T).take m)→((G.LL T).take m)[ci ((G.LL T).take m) - 1]?=some x→Cert G x.term s m'→s≤m'→m'<ci ((G.LL T).take m)→(G.LL x.term).take (ci ((G.LL T).take m))=((G.LL T).take m).take (ci ((G.LL T).take m))→s≤f:=by
   intro s m' x h1 h2 c2 h3 h4 h5
   have hcl:=uF ((G.LL T).take m)
   rw [lenM] at hcl
   have hxT:x.term≤T:=by
    rw [List.getElem?_take] at h2
    split at h2
    ·obtain ⟨z,hz⟩:=nX c.el
     have:=H.own _ _ hz _ _ h2
     rcases Nat.lt_or_ge (ci ((G.LL T).take m) - 1) z.e with h | h
     ·have:=this.2 h;omega
     ·have:=this.1 h;omega
    ·cases h2
   have hp:=ih m' (by omega) x.term s (by omega) c2
   have hs:s≤(G.LL x.term).length:=Nat.le_trans c2.nm c2.ml
   obtain ⟨p1,p2⟩:=(fC hs).1 hp
   refine f4 s p1 (by have:=c.ml;omega) ?_
   rw [p2,dZ h5 (by omega),List.take_take,Nat.min_eq_left (by omega)]
  have X:∀ s m' x,f<ci E→E[ci E - 1]?=some x→Cert G x.term s m'→s≤m'→m'<ci E→(G.LL x.term).take (ci E)=E.take (ci E)→G.beg x.term <+: E.take (ci E)→s≤f:=by
   intro s m' x h1 h2 c2 h3 h4 h5 h6
   have hcl:=uF E
   have hx:x.term<U:=el.low x (List.mem_of_getElem? h2)
   apply Classical.byContradiction
   intro hsf
   rcases Int.lt_trichotomy T x.term with h | h | h
   ·exact hno (((hU _ hx c2.el T n m h c).trans h6).trans (List.take_prefix _ _))
   ·rw [←h] at h5
    have hlen:ci E≤(G.LL T).length:=by
     have hl:=congrArg List.length h5
     rw [List.length_take,List.length_take] at hl
     omega
    have:=f4 (ci E) hcl hlen h5.symm
    omega
   ·have hp:=(hU T hT c.el x.term s m' h c2).trans (yK T)
    have hs:s≤(G.LL x.term).length:=Nat.le_trans c2.nm c2.ml
    obtain ⟨p1,p2⟩:=(fC hs).1 hp
    have:=f4 s (by omega) p1 (by rw [p2,dZ h5 (by omega)])
    omega
  have near:Near (lN G.m0 ((G.LL T).take m)) (lN G.m0 E):=by
   have eqf:lN G.m0 (((G.LL T).take m).take f)=lN G.m0 (E.take f):=by
    rw [List.take_take,Nat.min_eq_left (by have:=c.nm;omega),f3]
   rcases kS H el.fits f f1 with ⟨_,a⟩ | ⟨s,m',x,a1,a2,a3,a4,a5,a6,a7,a8⟩
   ·rcases kS H hFL f fm with ⟨_,b⟩ | ⟨s2,m2,x2,b1,b2,b3,b4,b5,b6,b7,b8⟩
    ·left;rw [←a,←b,eqf]
    ·have:=b8 (Y s2 m2 x2 b1 b2 b3 b4 b5 b6)
     rw [eqf,a] at this
     exact this.symm
   ·have hs:=X s m' x a1 a2 a3 a4 a5 a6 a7
    rcases kS H hFL f fm with ⟨_,b⟩ | ⟨s2,m2,x2,b1,b2,b3,b4,b5,b6,b7,b8⟩
    ·have:=a8 hs
     rw [←eqf,b] at this
     exact this
    ·exfalso
     have hs2:=Y s2 m2 x2 b1 b2 b3 b4 b5 b6
     have hcl:=uF ((G.LL T).take m)
     rw [lenM] at hcl
     have hcE:=uF E
     have b2':(G.LL T)[ci ((G.LL T).take m) - 1]?=some x2:=by
      rw [List.getElem?_take,if_pos (by omega)] at b2;exact b2
     obtain ⟨y,hy,ey⟩:=fS (l:=G.LL x.term) a3.n1 (Nat.le_trans a3.nm a3.ml)
     rw [a3.tm] at ey
     obtain ⟨y2,hy2,ey2⟩:=fS (l:=G.LL x2.term) b3.n1 (Nat.le_trans b3.nm b3.ml)
     rw [b3.tm] at ey2
     have s1:=a3.n1
     have s21:=b3.n1
     have yE:E[s - 1]?=some y:=by rw [←fB a6 (by omega)];exact hy
     have y2L:(G.LL T)[s2 - 1]?=some y2:=by
      rw [List.take_take,Nat.min_eq_left (by omega)] at b6
      rw [←fB b6 (by omega)];exact hy2
     have yL:(G.LL T)[s - 1]?=some y:=by rw [←fB f3 (by omega)];exact yE
     have y2E:E[s2 - 1]?=some y2:=by rw [fB f3 (by omega)];exact y2L
     have q1:=(H.mono T).le yL b2' (by omega)
     have q2:=el.mono.le y2E a2 (by omega)
     have e:x.term=x2.term:=by omega
     rw [List.take_take,Nat.min_eq_left (by omega),←e] at b6
     have:=f4 (min (ci E) (ci ((G.LL T).take m))) (by omega) (by have:=c.ml;omega) (by
      rw [←dZ a6 (Nat.min_le_left _ _),dZ b6 (Nat.min_le_right _ _)])
     omega
  obtain ⟨v,hv,hP⟩:=c.q.meet el.q near
  obtain ⟨lg,h1,h2,h3,h4,h5⟩:=el.v v hP
  rcases h5 T n m hT c hv with hp | ⟨W,w1,w2,w3,w4⟩
  ·obtain ⟨p1,p2⟩:=(fC hn).1 hp
   have n1:=c.n1
   have tn:cU lg n=T:=by rw [←cE (l:=lg) (Nat.le_refl n),p2,cE (Nat.le_refl n)];exact c.tm
   obtain ⟨z,hz,ez⟩:=fS n1 p1
   obtain ⟨z2,hz2,ez2⟩:=fS (l:=lg) (n:=lg.length) (by omega) (Nat.le_refl _)
   have hle:=h3.le hz hz2 (by omega)
   have hge:T≤cU E E.length:=by
    rcases h2 with h2 | h2
    ·omega
    ·omega
   have hpos:=H.pos T c.el
   have hE:1≤E.length:=by
    rcases Nat.eq_zero_or_pos E.length with h0 | h0
    ·rw [h0] at hge
     have:cU E 0=0:=rfl
     omega
    ·exact h0
   obtain ⟨z3,hz3,ez3⟩:=fS hE (Nat.le_refl _)
   have hlow:=el.low z3 (List.mem_of_getElem? hz3)
   obtain ⟨a1,a2,a3⟩:=el.fits.at hE (Nat.le_refl _) rfl
   rw [List.take_length] at a3
   rcases Int.lt_or_eq_of_le hge with hlt | heq
   ·have:=hU (cU E E.length) (by omega) a1 T n m hlt c
    obtain ⟨w,hw⟩:=nX a1
    have hw3:(G.LL (cU E E.length))[E.length - 1]?=some z3:=by
     rw [←hz3,←a3,List.getElem?_take,if_pos (by rw [a3];omega),a3]
    have he:w.e≤E.length - 1:=by
     apply Classical.byContradiction
     intro hc
     have:=(H.own _ _ hw _ _ hw3).2 (by omega)
     omega
    have hb:G.beg (cU E E.length) <+: E:=by
     rw [pU hw]
     conv=>rhs;rw [←a3]
     exact List.take_prefix_take_left (by omega)
    exact hno (this.trans hb)
   ·rw [←heq] at a3
    have hlen:n≤E.length:=by
     rcases h2 with h2 | h2
     ·omega
     ·omega
    refine hno ((fC hn).2 ⟨hlen,?_⟩)
    conv=>lhs;rw [←a3]
    rw [List.take_take,Nat.min_eq_left hlen]
  ·exact w4 (hU W w2 w3 T n m w1 c)
theorem uH:∀ U,G.el U≠none→aSa G U:=by
 have h:∀ (N:Nat) (U:Int),U.toNat<N→G.el U≠none→aSa G U:=by
  intro N
  induction N with
  | zero=>intro U h;omega
  | succ N ih=>
   intro U hN hU
   obtain ⟨x,hx⟩:=nX hU
   have h1:=H.pos U hU
   have:=aFg H (U:=U) (fun W hW hel=>ih W (by have:=H.pos W hel;omega) hel) (H.elec U x hx).weak
   exact fun T n m hT c=>this m T n hT c
 exact fun U hU=>h (U.toNat+1) U (Nat.lt_succ_self _) hU
theorem meet {U:Int} {E E':eD} {P P':Int→Prop} {k k':Int} (el:ElecW G U E P k) (el':ElecW G U E' P' k'):∃ v,P v∧P' v:=by
 have hU:∀ W,W<U→G.el W≠none→aSa G W:=fun W _ h=>uH H W h
 have A:=aFg H hU el
 have A':=aFg H hU el'
 obtain ⟨f1,f2,f3,f4⟩:=aB7 E E'
 generalize lcp E E'=f at f1 f2 f3 f4
 have X:∀ {D D':eD},Fits G D→(∀ x∈D,x.term<U)→(∀ m T n,T<U→Cert G T n m→(G.LL T).take n <+: D')→(∀ j,j≤D.length→j≤D'.length→D.take j=D'.take j→j≤f)→∀ s m' x,f<ci D→D[ci D - 1]?=some x→Cert G x.term s m'→s≤m'→m'<ci D→(G.LL x.term).take (ci D)=D.take (ci D)→s≤f:=by
  intro D D' hF hl hA h4 s m' x h1 h2 c2 h3 h5 h6
  have hp:=hA m' x.term s (hl x (List.mem_of_getElem? h2)) c2
  have hs:s≤(G.LL x.term).length:=Nat.le_trans c2.nm c2.ml
  obtain ⟨p1,p2⟩:=(fC hs).1 hp
  have hcl:=uF D
  exact h4 s (by omega) p1 (by rw [p2,dZ h6 (by omega)])
 have near:Near (lN G.m0 E) (lN G.m0 E'):=by
  have eqf:lN G.m0 (E.take f)=lN G.m0 (E'.take f):=by rw [f3]
  rcases kS H el.fits f f1 with ⟨_,a⟩ | ⟨s,m',x,a1,a2,a3,a4,a5,a6,a7,a8⟩
  ·rcases kS H el'.fits f f2 with ⟨_,b⟩ | ⟨s2,m2,x2,b1,b2,b3,b4,b5,b6,b7,b8⟩
   ·left;rw [←a,←b,eqf]
   ·have:=b8 (X el'.fits el'.low A (fun j j1 j2 j3=>f4 j j2 j1 j3.symm) s2 m2 x2 b1 b2 b3 b4 b5 b6)
    rw [←eqf,a] at this
    exact this
  ·have hs:=X el.fits el.low A' f4 s m' x a1 a2 a3 a4 a5 a6
   rcases kS H el'.fits f f2 with ⟨_,b⟩ | ⟨s2,m2,x2,b1,b2,b3,b4,b5,b6,b7,b8⟩
   ·have:=a8 hs
    rw [eqf,b] at this
    exact this.symm
   ·exfalso
    have hs2:=X el'.fits el'.low A (fun j j1 j2 j3=>f4 j j2 j1 j3.symm) s2 m2 x2 b1 b2 b3 b4 b5 b6
    have hcE:=uF E
    have hcE':=uF E'
    obtain ⟨y,hy,ey⟩:=fS (l:=G.LL x.term) a3.n1 (Nat.le_trans a3.nm a3.ml)
    rw [a3.tm] at ey
    obtain ⟨y2,hy2,ey2⟩:=fS (l:=G.LL x2.term) b3.n1 (Nat.le_trans b3.nm b3.ml)
    rw [b3.tm] at ey2
    have s1:=a3.n1
    have s21:=b3.n1
    have yE:E[s - 1]?=some y:=by rw [←fB a6 (by omega)];exact hy
    have y2E':E'[s2 - 1]?=some y2:=by rw [←fB b6 (by omega)];exact hy2
    have yE':E'[s - 1]?=some y:=by rw [←fB f3 (by omega)];exact yE
    have y2E:E[s2 - 1]?=some y2:=by rw [fB f3 (by omega)];exact y2E'
    have q1:=el'.mono.le yE' b2 (by omega)
    have q2:=el.mono.le y2E a2 (by omega)
    have e:x.term=x2.term:=by omega
    rw [←e] at b6
    have:=f4 (min (ci E) (ci E')) (by omega) (by omega) (by
     rw [←dZ a6 (Nat.min_le_left _ _),dZ b6 (Nat.min_le_right _ _)])
    omega
 exact el.q.meet el'.q near
theorem aMx {T T':Int} {n m n' m' i:Nat} (c:Cert G T n m) (c':Cert G T' n' m') (h1:i≤n) (h2:i≤n'):(G.LL T).take i=(G.LL T').take i:=by
 have key:∀ {T T':Int} {n m n' m':Nat},T<T'→Cert G T n m→Cert G T' n' m'→i≤n→i≤n'→(G.LL T).take i=(G.LL T').take i:=by
  intro T T' n m n' m' h c c' h1 h2
  have hp:=(uH H T' c'.el T n m h c).trans (yK T')
  have hn:n≤(G.LL T).length:=Nat.le_trans c.nm c.ml
  obtain ⟨p1,p2⟩:=(fC hn).1 hp
  exact dZ p2.symm h1
 rcases Int.lt_trichotomy T T' with h | h | h
 ·exact key h c c' h1 h2
 ·rw [h]
 ·exact (key h c' c h2 h1).symm
end
end
section
structure Le (G G':Gho):Prop where
 m0:G'.m0=G.m0
 el:∀ T x,G.el T=some x→G'.el T=some x
 LL:∀ T,G.LL T <+: G'.LL T
 ack:∀ v T,G.ack v T≤G'.ack v T
 vt:∀ v T x,G.vt v T=some x→G'.vt v T=some x
theorem Le.refl (G:Gho):Le G G:=⟨rfl,fun _ _ h=>h,fun _=>List.prefix_refl _,fun _ _=>Nat.le_refl _,fun _ _ _ h=>h⟩
theorem Le.trans {A B C:Gho} (h:Le A B) (k:Le B C):Le A C:=
 ⟨k.m0.trans h.m0,fun T x e=>k.el T x (h.el T x e),fun T=>(h.LL T).trans (k.LL T),fun v T=>Nat.le_trans (h.ack v T) (k.ack v T),fun v T x e=>k.vt v T x (h.vt v T x e)⟩
section
variable {G G':Gho} (le:Le G G')
include le
theorem Le.eln {T:Int} (h:G.el T≠none):G'.el T≠none:=by
 obtain ⟨x,hx⟩:=nX h
 rw [le.el T x hx];exact fun h=>by cases h
theorem Le.len (T:Int):(G.LL T).length≤(G'.LL T).length:=(le.LL T).length_le
theorem Le.take {T:Int} {n:Nat} (h:n≤(G.LL T).length):(G'.LL T).take n=(G.LL T).take n:=by
 have h1:=uG (le.LL T)
 conv=>rhs;rw [←h1]
 rw [List.take_take,Nat.min_eq_left h]
theorem Le.term {T:Int} {n:Nat} (h:n≤(G.LL T).length):cU (G'.LL T) n=cU (G.LL T) n:=by
 rw [←cE (l:=G'.LL T) (Nat.le_refl n),le.take h,cE (Nat.le_refl n)]
theorem Cert.up {T:Int} {n m:Nat} (c:Cert G T n m):Cert G' T n m:=by
 have hn:=Nat.le_trans c.nm c.ml
 refine ⟨c.n1,c.nm,Nat.le_trans c.ml (le.len T),le.eln c.el,by rw [le.term hn];exact c.tm,?_⟩
 rw [le.take c.ml,le.m0]
 exact c.q.imp fun v hv=>Nat.le_trans hv (le.ack v T)
theorem Fits.up {l:eD} (h:Fits G l):Fits G' l:=by
 intro n x hx
 obtain ⟨h1,h2,h3⟩:=h n x hx
 exact ⟨le.eln h1,Nat.lt_of_lt_of_le h2 (le.len _),by rw [le.take h2];exact h3⟩
theorem Le.beg (H:GH G) {T:Int} (h:G.el T≠none):G'.beg T=G.beg T:=by
 obtain ⟨x,hx⟩:=nX h
 rw [pU hx,pU (le.el T x hx),le.take (H.elen T x hx)]
theorem Bad.up (H:GH G) {T W:Int} {n:Nat} (h:Bad G T n W) (hn:n≤(G.LL T).length):Bad G' T n W:=by
 refine ⟨le.eln h.1,?_⟩
 rw [le.take hn,le.beg H h.1]
 exact h.2
end
def Com (G:Gho) (T:Int) (s:Nat):Prop:=s=0∨∃ T0 n m,Cert G T0 n m∧T0≤T∧s≤n
def Sure (G:Gho) (T:Int) (l:eD) (s:Nat):Prop:=s≤l.length∧(s=0∨∃ T0 n m,Cert G T0 n m∧T0≤T∧s≤n∧l.take s=(G.LL T0).take s)
theorem Sure.com {G:Gho} {T:Int} {l:eD} {s:Nat} (h:Sure G T l s):Com G T s:=by
 rcases h.2 with h | ⟨T0,n,m,c,a,b,_⟩
 ·exact .inl h
 ·exact .inr ⟨T0,n,m,c,a,b⟩
structure LetOK (G:Gho) (m:Letter):Prop where
 f0:0≤m.from'
 f5:m.from'<5
 to:0≤m.to
 ask:m.kind=1→∃ lg,G.vt m.from' m.term=some (m.from',lg)∧m.index=lg.length∧m.at'=cU lg lg.length
 vote:m.kind=2→m.yes=true→∃ lg lc,G.vt m.from' m.term=some (m.to,lg)∧G.vt m.to m.term=some (m.to,lc)∧aFf lg lc
 app:m.kind=3→G.el m.term≠none∧0≤m.index∧m.index.toNat≤(G.LL m.term).length∧m.at'=cU (G.LL m.term) m.index.toNat∧m.entries <+: (G.LL m.term).drop m.index.toNat∧Com G m.term m.commit.toNat
 ack:m.kind=4→m.yes=true→m.index.toNat≤G.ack m.from' m.term
 inst:m.kind=5→G.el m.term≠none∧0≤m.index∧m.index.toNat≤(G.LL m.term).length∧m.at'=cU (G.LL m.term) m.index.toNat∧m.members=lN G.m0 ((G.LL m.term).take m.index.toNat)∧Com G m.term m.index.toNat
section
variable {G G':Gho} (le:Le G G')
include le
theorem Com.up {T:Int} {s:Nat} (h:Com G T s):Com G' T s:=by
 rcases h with h | ⟨T0,n,m,c,a,b⟩
 ·exact .inl h
 ·exact .inr ⟨T0,n,m,c.up le,a,b⟩
theorem Sure.up {T T':Int} {l:eD} {s:Nat} (h:Sure G T l s) (hT:T≤T'):Sure G' T' l s:=by
 rcases h with ⟨h0,h | ⟨T0,n,m,c,a,b,e⟩⟩
 ·exact ⟨h0,.inl h⟩
 ·exact ⟨h0,.inr ⟨T0,n,m,c.up le,by omega,b,by rw [e,le.take (Nat.le_trans b (Nat.le_trans c.nm c.ml))]⟩⟩
theorem LetOK.up {m:Letter} (h:LetOK G m):LetOK G' m:=by
 refine ⟨h.f0,h.f5,h.to,fun k=>?_,fun k y=>?_,fun k=>?_,fun k y=>Nat.le_trans (h.ack k y) (le.ack _ _),fun k=>?_⟩
 ·obtain ⟨lg,a,b,c⟩:=h.ask k
  exact ⟨lg,le.vt _ _ _ a,b,c⟩
 ·obtain ⟨lg,lc,a,b,c⟩:=h.vote k y
  exact ⟨lg,lc,le.vt _ _ _ a,le.vt _ _ _ b,c⟩
 ·obtain ⟨a,b,c,d,e,f⟩:=h.app k
  refine ⟨le.eln a,b,Nat.le_trans c (le.len _),by rw [le.term c];exact d,?_,f.up le⟩
  obtain ⟨t,ht⟩:=le.LL m.term
  rw [←ht,List.drop_append_of_le_length c]
  exact e.trans (List.prefix_append _ _)
 ·obtain ⟨a,b,c,d,e,f⟩:=h.inst k
  exact ⟨le.eln a,b,Nat.le_trans c (le.len _),by rw [le.term c];exact d,by rw [le.take c,le.m0];exact e,f.up le⟩
end
def aW2 (G:Gho) (v T':Int) (l:eD):Prop:=∀ T n,1≤n→n≤G.ack v T→T≤T'∧((G.LL T).take n <+: l∨∃ W,T<W∧W≤T'∧Bad G T n W)
structure Nod (G:Gho) (v:Int) (c:Core):Prop where
 idv:c.id=v
 bl:c.h.base.toNat≤(G.full v).length
 log:c.h.log=(G.full v).drop c.h.base.toNat
 bt:c.h.baseTerm=cU (G.full v) c.h.base.toNat
 mem:c.h.members=lN G.m0 ((G.full v).take c.h.base.toNat)
 mono:Mono (G.full v)
 low:∀ x∈G.full v,x.term≤c.h.term
 fits:Fits G (G.full v)
 sure:Sure G c.h.term (G.full v) c.sure.toNat
 acks:aW2 G v c.h.term (G.full v)
 vote:c.h.vote=-1→G.vt v c.h.term=none
 vote2:c.h.vote≠-1→∃ lg,G.vt v c.h.term=some (c.h.vote,lg)
 late:∀ U,c.h.term<U→G.vt v U=none
 lead:c.role=3→(∃ x,G.el c.h.term=some x∧x.cand=v)∧G.full v=G.LL c.h.term
 mtch:c.role=3→∀ f,0≤f→f<7→(c.peer f).mtch.toNat≤G.ack f c.h.term
 cand:c.role=2→G.vt v c.h.term=some (v,G.full v)∧(∀ x,G.el c.h.term=some x→x.cand≠v)∧∀ x∈G.full v,x.term<c.h.term
 vots:c.role=2→∀ f,bJ c.votes f=true→∃ lg,G.vt f c.h.term=some (v,lg)∧aFf lg (G.full v)
def Vts (G:Gho):Prop:=∀ v U k lg,G.vt v U=some (k,lg)→Mono lg∧Fits G lg∧(∃ lc,G.vt k U=some (k,lc)∧aFf lg lc) ∧
 ∀ T n,T<U→1≤n→n≤G.ack v T→(G.LL T).take n <+: lg∨∃ W,T<W∧W≤U∧Bad G T n W
structure GW (G:Gho) (cs:Int→Core) (B:Nat):Prop where
 H:GH G
 V:Vts G
 b:∀ T,(G.LL T).length≤B
 bf:∀ v,0≤v→v<5→(G.full v).length≤B
 N:∀ v,0≤v→v<5→Nod G v (cs v)
 o:∀ v,0≤v→v<5→∀ m∈(cs v).out,LetOK G m
def eI (cs:Int→Core) (v:Int) (c:Core):Int→Core:=fun u=>if u=v then c else cs u
theorem cK (cs:Int→Core) (v:Int) (c:Core):eI cs v c v=c:=if_pos rfl
theorem iE (cs:Int→Core) {v u:Int} (c:Core) (h:u≠v):eI cs v c u=cs u:=if_neg h
theorem hM (cs:Int→Core) (v:Int) (c d:Core):eI (eI cs v c) v d=eI cs v d:=by
 funext u
 unfold eI
 split<;>rfl
theorem lO (cs:Int→Core) (v:Int):eI cs v (cs v)=cs:=by
 funext u
 unfold eI
 split
 ·rename_i h;rw [h]
 ·rfl
structure Same (G G':Gho) (u:Int):Prop where
 full:G'.full u=G.full u
 ack:∀ T,G'.ack u T=G.ack u T
 vt:∀ T,G'.vt u T=G.vt u T
theorem Nod.other {G G':Gho} {u v:Int} {c:Core} (h:Nod G u c) (H:GH G) (le:Le G G') (sm:Same G G' u) (hne:u≠v)
  (hel:∀ T x,G'.el T=some x→G.el T=some x∨x.cand=v) (hLL:∀ T x,G'.el T=some x→x.cand≠v→G'.LL T=G.LL T):Nod G' u c:=by
 refine ⟨h.idv,by rw [sm.full];exact h.bl,by rw [sm.full];exact h.log,by rw [sm.full];exact h.bt,by rw [sm.full,le.m0];exact h.mem,by rw [sm.full];exact h.mono,by rw [sm.full];exact h.low,by rw [sm.full];exact h.fits.up le,
  by rw [sm.full];exact h.sure.up le (Int.le_refl _),?_,by rw [sm.vt];exact h.vote,by rw [sm.vt];exact h.vote2,fun U hU=>by rw [sm.vt];exact h.late U hU,fun r=>?_,fun r f f0 f7=>Nat.le_trans (h.mtch r f f0 f7) (le.ack _ _),fun r=>?_,fun r f hf=>?_⟩
 ·intro T n h1 h2
  rw [sm.ack] at h2
  obtain ⟨a,b⟩:=h.acks T n h1 h2
  have hl:=(H.acks u T (by omega)).2
  rw [sm.full,le.take (by omega)]
  refine ⟨a,b.imp id fun ⟨W,w1,w2,w3⟩=>⟨W,w1,w2,w3.up le H (by omega)⟩⟩
 ·obtain ⟨⟨x,a,b⟩,e⟩:=h.lead r
  exact ⟨⟨x,le.el _ _ a,b⟩,by rw [sm.full,hLL _ x (le.el _ _ a) (by rw [b];exact hne)];exact e⟩
 ·obtain ⟨a,b,d⟩:=h.cand r
  rw [sm.vt,sm.full]
  refine ⟨a,fun x hx=>?_,d⟩
  rcases hel _ x hx with h1 | h1
  ·exact b x h1
  ·rw [h1];exact fun e=>hne e.symm
 ·obtain ⟨lg,a,b⟩:=h.vots r f hf
  exact ⟨lg,le.vt _ _ _ a,by rw [sm.full];exact b⟩
theorem GW.step {G G':Gho} {cs:Int→Core} {B B':Nat} {v:Int} {d:Core} (W:GW G cs B) (le:Le G G') (hB:B≤B') (sm:∀ u,u≠v→Same G G' u)
  (hel:∀ T x,G'.el T=some x→G.el T=some x∨x.cand=v) (hLL:∀ T x,G'.el T=some x→x.cand≠v→G'.LL T=G.LL T)
  (H':GH G') (V':Vts G') (b':∀ T,(G'.LL T).length≤B') (bf':(G'.full v).length≤B') (N':Nod G' v d) (o':∀ m∈d.out,LetOK G' m):GW G' (eI cs v d) B':=by
 refine ⟨H',V',b',fun u u0 u5=>?_,fun u u0 u5=>?_,fun u u0 u5=>?_⟩
 ·by_cases e:u=v
  ·rw [e];exact bf'
  ·rw [(sm u e).full];exact Nat.le_trans (W.bf u u0 u5) hB
 ·by_cases e:u=v
  ·rw [e,cK];exact N'
  ·rw [iE _ _ e];exact (W.N u u0 u5).other W.H le (sm u e) e hel hLL
 ·by_cases e:u=v
  ·rw [e,cK];exact o'
  ·rw [iE _ _ e];exact fun m hm=>(W.o u u0 u5 m hm).up le
def Goes (v:Int) (c d:Core) (k:Nat):Prop:=∀ G cs B,GW G (eI cs v c) B→∃ G',Le G G'∧GW G' (eI cs v d) (B+k)
theorem GW.mono {G:Gho} {cs:Int→Core} {B B':Nat} (W:GW G cs B) (h:B≤B'):GW G cs B':=⟨W.H,W.V,fun T=>Nat.le_trans (W.b T) h,fun v a b=>Nat.le_trans (W.bf v a b) h,W.N,W.o⟩
theorem Goes.trans {v:Int} {c d e:Core} {k j:Nat} (h:Goes v c d k) (g:Goes v d e j):Goes v c e (k+j):=by
 intro G cs B W
 obtain ⟨G1,l1,W1⟩:=h G cs B W
 obtain ⟨G2,l2,W2⟩:=g G1 cs _ W1
 exact ⟨G2,l1.trans l2,by rw [Nat.add_assoc] at W2;exact W2⟩
theorem Goes.refl (v:Int) (c:Core) (k:Nat):Goes v c c k:=fun G cs B W=>⟨G,Le.refl G,W.mono (Nat.le_add_right _ _)⟩
theorem Goes.mono {v:Int} {c d:Core} {k j:Nat} (h:Goes v c d k) (hk:k≤j):Goes v c d j:=fun G cs B W=>by
 obtain ⟨G1,l1,W1⟩:=h G cs B W
 exact ⟨G1,l1,W1.mono (by omega)⟩
theorem Same.refl (G:Gho) (u:Int):Same G G u:=⟨rfl,fun _=>rfl,fun _=>rfl⟩
theorem gP {v:Int} {c d:Core} (hv0:0≤v) (hv5:v<5) (h:∀ G,GH G→Vts G→Nod G v c→(∀ m∈c.out,LetOK G m)→Nod G v d∧∀ m∈d.out,LetOK G m) (k:Nat):Goes v c d k:=by
 intro G cs B W
 have N:=W.N v hv0 hv5
 have o:=W.o v hv0 hv5
 rw [cK] at N o
 obtain ⟨N',o'⟩:=h G W.H W.V N o
 refine ⟨G,Le.refl G,?_⟩
 have:=W.step (v:=v) (d:=d) (B':=B+k) (Le.refl G) (Nat.le_add_right _ _) (fun u _=>Same.refl G u) (fun T x hx=>.inl hx) (fun T x _ _=>rfl) W.H W.V (fun T=>Nat.le_trans (W.b T) (Nat.le_add_right _ _)) (Nat.le_trans (W.bf v hv0 hv5) (Nat.le_add_right _ _)) N' o'
 rw [hM] at this
 exact this
end
section
section
variable {G:Gho} {v:Int} {c:Core} (N:Nod G v c) (I:Inv c)
include N I
theorem Nod.len:c.last=((G.full v).length:Int):=by
 have h1:=N.bl
 have h2:=I.h.b0
 unfold Core.last bI
 rw [N.log,List.length_drop]
 omega
theorem Nod.term {n:Int} (h1:c.h.base≤n) (h2:n≤c.last):c.term n=cU (G.full v) n.toNat:=by
 have hb:=I.h.b0
 unfold Core.term termH
 split
 ·rename_i e
  rw [e];exact N.bt
 ·rename_i e
  rw [N.log,List.getElem?_drop]
  have hn:n.toNat=(c.h.base.toNat+(n - c.h.base - 1).toNat)+1:=by omega
  rw [hn]
  rfl
theorem Nod.ofM:(ofM c.h).1=lN G.m0 (G.full v)∧(ci (G.full v):Int)≤(ofM c.h).2:=by
 have hb:=I.h.b0
 have hbl:=N.bl
 unfold Go.Raft.ofM
 rw [aK4,N.mem,N.log]
 have key:∀ (l:eD) (m:Int) (b:Nat),lN (lN m (l.take b)) (l.drop b)=lN m l∧ci l≤(if 0<ci (l.drop b) then b+ci (l.drop b) else b):=by
  intro l
  induction l with
  | nil=>intro m b;simp [lN,ci]
  | cons x l ih=>
   intro m b
   cases b with
   | zero=>
    refine ⟨rfl,?_⟩
    simp only [List.drop_zero,Nat.zero_add]
    split<;>omega
   | succ b=>
    obtain ⟨h1,h2⟩:=ih (if x.members=0 then m else x.members) b
    simp only [List.take_succ_cons,List.drop_succ_cons,aB4]
    refine ⟨h1,?_⟩
    rw [yJ]
    split at h2<;>split<;>(try split)<;>omega
 obtain ⟨k1,k2⟩:=key (G.full v) G.m0 c.h.base.toNat
 refine ⟨k1,?_⟩
 simp only
 split at k2<;>split<;>omega
end
structure Quiet (c d:Core):Prop where
 id:d.id=c.id
 term:d.h.term=c.h.term
 vote:d.h.vote=c.h.vote
 base:d.h.base=c.h.base
 bt:d.h.baseTerm=c.h.baseTerm
 mem:d.h.members=c.h.members
 log:d.h.log=c.h.log
 sure:d.sure=c.sure
 role:d.role=c.role∨d.role=1
 votes:d.votes=c.votes
 peers:∀ f,0≤f→f<7→(d.peer f).mtch.toNat≤(c.peer f).mtch.toNat
theorem Nod.quiet {G:Gho} {v:Int} {c d:Core} (N:Nod G v c) (q:Quiet c d):Nod G v d:=by
 have hr:∀ k,d.role=k→k≠1→c.role=k:=fun k h1 h2=>by
  rcases q.role with h | h
  ·rw [←h];exact h1
  ·rw [h1] at h;exact absurd h h2
 refine ⟨q.id.trans N.idv,by rw [q.base];exact N.bl,by rw [q.log,q.base];exact N.log,by rw [q.bt,q.base];exact N.bt,by rw [q.mem,q.base];exact N.mem,N.mono,by rw [q.term];exact N.low,N.fits,by rw [q.term,q.sure];exact N.sure,by rw [q.term];exact N.acks,
  by rw [q.vote,q.term];exact N.vote,by rw [q.vote,q.term];exact N.vote2,by rw [q.term];exact N.late,fun r=>by rw [q.term];exact N.lead (hr 3 r (by decide)),fun r f f0 f7=>by rw [q.term];exact Nat.le_trans (q.peers f f0 f7) (N.mtch (hr 3 r (by decide)) f f0 f7),
  fun r=>by rw [q.term];exact N.cand (hr 2 r (by decide)),fun r=>by rw [q.term,q.votes];exact N.vots (hr 2 r (by decide))⟩
theorem fT {v:Int} {c d:Core} (hv0:0≤v) (hv5:v<5) (q:Quiet c d) (ho:d.out=c.out) (k:Nat):Goes v c d k:=
 gP hv0 hv5 (fun G _ _ N o=>⟨N.quiet q,by rw [ho];exact o⟩) k
theorem Quiet.post (c:Core) (m:Letter):Quiet c (c.post m):=⟨rfl,rfl,rfl,rfl,rfl,rfl,rfl,rfl,.inl rfl,rfl,fun _ _ _=>Nat.le_refl _⟩
theorem mU {v:Int} {c:Core} {m:Letter} (hv0:0≤v) (hv5:v<5) (h:∀ G,GH G→Vts G→Nod G v c→LetOK G { m with from':=c.id,term:=c.h.term }) (k:Nat):Goes v c (c.post m) k:=
 gP hv0 hv5 (fun G H V N o=>⟨N.quiet (Quiet.post c m),fun x hx=>by
  unfold Core.post at hx
  rcases List.mem_append.1 hx with hx | hx
  ·exact o x hx
  ·rw [List.mem_singleton.1 hx];exact h G H V N⟩) k
theorem aMy {G:Gho} {m:Letter} (f0:0≤m.from') (f5:m.from'<5) (to:0≤m.to) (h1:m.kind≠1) (h2:m.kind≠2∨m.yes=false) (h3:m.kind≠3) (h4:m.kind≠4∨m.yes=false) (h5:m.kind≠5):LetOK G m:=
 ⟨f0,f5,to,fun k=>absurd k h1,fun k y=>absurd y (by rcases h2 with h | h;exact absurd k h;rw [h];decide),fun k=>absurd k h3,fun k y=>absurd y (by rcases h4 with h | h;exact absurd k h;rw [h];decide),fun k=>absurd k h5⟩
theorem Com.less {G:Gho} {T:Int} {s s':Nat} (h:Com G T s) (hs:s'≤s):Com G T s':=by
 rcases h with h | ⟨T0,n,m,c,a,b⟩
 ·exact .inl (by omega)
 ·exact .inr ⟨T0,n,m,c,a,by omega⟩
theorem Sure.less {G:Gho} {T:Int} {l:eD} {s s':Nat} (h:Sure G T l s) (hs:s'≤s):Sure G T l s':=by
 rcases h with ⟨h0,h | ⟨T0,n,m,c,a,b,e⟩⟩
 ·exact ⟨by omega,.inl (by omega)⟩
 ·exact ⟨by omega,.inr ⟨T0,n,m,c,a,by omega,dZ e hs⟩⟩
theorem qP {v f:Int} {c:Core} (hv0:0≤v) (hv5:v<5) (I:Inv c) (hr:c.role=3) (f0:0≤f) (f7:f<7) (k:Nat):Goes v c (c.send f) k:=by
 have P:=I.pr hr _ (lH I f0 f7)
 have hb:=I.h.b0
 have hs0:=I.s0
 have n1:=P.n1
 unfold Core.send
 simp only
 split
 ·refine mU hv0 hv5 (fun G H V N=>?_) k
  obtain ⟨⟨x,hx,_⟩,hL⟩:=N.lead hr
  refine ⟨by show 0≤c.id;rw [N.idv];exact hv0,by show c.id<5;rw [N.idv];exact hv5,f0,fun h=>(by cases h),fun h=>(by cases h),fun h=>(by cases h),fun h=>(by cases h),fun _=>?_⟩
  refine ⟨by show G.el c.h.term≠none;rw [hx];exact Option.some_ne_none x,hb,by rw [←hL];exact N.bl,by rw [←hL];exact N.bt,by rw [←hL];exact N.mem,N.sure.com.less (by show c.h.base.toNat≤c.sure.toNat;omega)⟩
 ·rename_i hn
  refine mU hv0 hv5 (fun G H V N=>?_) k
  obtain ⟨⟨x,hx,_⟩,hL⟩:=N.lead hr
  have hlen:=N.len I
  refine ⟨by show 0≤c.id;rw [N.idv];exact hv0,by show c.id<5;rw [N.idv];exact hv5,f0,fun h=>(by cases h),fun h=>(by cases h),fun _=>?_,fun h=>(by cases h),fun h=>(by cases h)⟩
  refine ⟨by show G.el c.h.term≠none;rw [hx];exact Option.some_ne_none x,by show 0≤(c.peer f).next - 1;omega,by rw [←hL];show ((c.peer f).next - 1).toNat≤_;omega,?_,?_,N.sure.com⟩
  ·rw [←hL];exact N.term I (by omega) (by omega)
  ·rw [←hL]
   show (c.h.log.drop ((c.peer f).next - c.h.base - 1).toNat).take 8 <+: (G.full v).drop ((c.peer f).next - 1).toNat
   rw [N.log,List.drop_drop]
   have e:c.h.base.toNat+((c.peer f).next - c.h.base - 1).toNat=((c.peer f).next - 1).toNat:=by omega
   rw [e]
   exact List.take_prefix _ _
theorem wF {v:Int} {g:Core→Int→Core} {R:Core→Prop} (hg:∀ c f,R c→0≤f→f<7→Goes v c (g c f) 0∧R (g c f)):∀ (l:List Int) (c:Core),(∀ f∈l,0≤f∧f<7)→R c→Goes v c (l.foldl g c) 0
 | [],c,_,_=>Goes.refl v c 0
 | f::l,c,hl,hr=>by
  rw [List.foldl_cons]
  obtain ⟨a,b⟩:=hg c f hr (hl f (List.mem_cons_self ..)).1 (hl f (List.mem_cons_self ..)).2
  exact a.trans (wF hg l _ (fun x hx=>hl x (List.mem_cons_of_mem _ hx)) b)
theorem aDc {c:Core} {f:Int} (h:f∈c.others):0≤f∧f<7:=by
 have h1:=(List.mem_filter.1 h).1
 have h2:=(List.mem_filter.1 h1).1
 simp only [qR,List.mem_cons,List.not_mem_nil,or_false] at h2
 omega
theorem xF {v:Int} {c:Core} (hv0:0≤v) (hv5:v<5) (I:Inv c) (k:Nat):Goes v c c.spread k:=by
 unfold Core.spread
 split
 ·rename_i hr
  exact (wF (R:=fun d=>Inv d∧d.role=3) (fun d f ⟨J,r⟩ f0 f7=>⟨qP hv0 hv5 J r f0 f7 0,J.sent (Sent.send d f),by rw [(Sent.send d f).role];exact r⟩) c.others c (fun f hf=>aDc hf) ⟨I,hr⟩).mono (Nat.zero_le _)
 ·exact Goes.refl v c k
theorem aBa (c:Core) (m:Int):∀ (k:Nat) (n s:Int),eZ c m k n s=s∨s<eZ c m k n s∧eZ c m k n s≤n∧c.term (eZ c m k n s)=c.h.term∧iJ m (nP c.peers 0 (eZ c m k n s))=true
 | 0,n,s=>.inl rfl
 | k+1,n,s=>by
  unfold eZ
  split
  ·exact .inl rfl
  ·rename_i h
   split
   ·rename_i h2
    have e:eZ c m k (n - 1) n=n:=by
     cases k with
     | zero=>rfl
     | succ k=>unfold eZ;rw [if_pos (by omega)]
    rw [e]
    exact .inr ⟨by omega,Int.le_refl _,h2⟩
   ·rcases aBa c m k (n - 1) s with h3 | ⟨a,b,d⟩
    ·exact .inl h3
    ·exact .inr ⟨a,by omega,d⟩
theorem aPz {α:Type} {l:List α} (h:l.length=7):∃ a b c d e f g,l=[a,b,c,d,e,f,g]:=by
 match l,h with
 | [a,b,c,d,e,f,g],_=>exact ⟨a,b,c,d,e,f,g,rfl⟩
theorem jN {m id:Int} (h:bJ m id=true):0≤id∧id<7:=by
 simp only [bJ,Bool.and_eq_true,decide_eq_true_eq] at h
 exact ⟨h.1,h.2.1⟩
theorem uI {id:Int} (h0:0≤id) (h1:id<7):id∈qR:=by
 simp only [qR,List.mem_cons,List.not_mem_nil,or_false]
 omega
theorem aSb {c:Core} (hp:c.peers.length=7) {n f:Int} (h:bJ (nP c.peers 0 n) f=true):0≤f∧f<7∧n≤(c.peer f).mtch:=by
 obtain ⟨f0,f7⟩:=jN h
 refine ⟨f0,f7,?_⟩
 have e:nP c.peers 0 n=(qR.map fun i=>if (fun i=>decide (n≤(c.peer i).mtch)) i=true then (2:Int) ^ i.toNat else 0).sum:=by
  obtain ⟨p0,p1,p2,p3,p4,p5,p6,e⟩:=aPz hp
  simp only [Core.peer,e,nP,qR,List.map_cons,List.map_nil,decide_eq_true_eq,List.sum_cons,List.sum_nil]
  rfl
 rw [e,wE _ f (uI f0 f7)] at h
 simpa using h
theorem aMz {v:Int} (hv0:0≤v) (hv5:v<5) (c:Core) (k:Nat):Goes v c c.rest k:=fT hv0 hv5 (c:=c) (d:=c.rest) ⟨rfl,rfl,rfl,rfl,rfl,rfl,rfl,rfl,.inr rfl,rfl,fun _ _ _=>Nat.le_refl _⟩ rfl k
theorem aDd {v:Int} {c:Core} (hv0:0≤v) (hv5:v<5) (I:Inv c) (hr:c.role=3) (k:Nat):Goes v c c.look k:=by
 have key:Goes v c { c with sure:=eZ c (ofM c.h).1 (c.last - c.sure).toNat c.last c.sure } k:=by
  refine gP hv0 hv5 (c:=c) (d:={ c with sure:=eZ c (ofM c.h).1 (c.last - c.sure).toNat c.last c.sure }) (fun G H V N o=>⟨?_,o⟩) k
  rcases aBa c (ofM c.h).1 (c.last - c.sure).toNat c.last c.sure with h | ⟨a,b,d,e⟩
  ·rw [h];exact N
  ·generalize hs:eZ c (ofM c.h).1 (c.last - c.sure).toNat c.last c.sure=s at a b d e
   have hb:=I.h.b0
   have hs0:=I.s0
   have hlen:=N.len I
   have hm:=N.mtch hr
   obtain ⟨⟨x,hx,_⟩,hL⟩:=N.lead hr
   rw [(N.ofM I).1] at e
   have ht:=N.term I (n:=s) (by omega) (by omega)
   rw [d] at ht
   have hs1:s.toNat≤(G.full v).length:=by omega
   have cert:Cert G c.h.term s.toNat (G.full v).length:=by
    refine ⟨by omega,hs1,by rw [hL];exact Nat.le_refl _,by rw [hx];exact Option.some_ne_none x,by rw [←hL];exact ht.symm,?_⟩
    rw [←hL,List.take_length]
    refine ⟨_,e,fun f hf=>?_⟩
    obtain ⟨f0,f7,h1⟩:=aSb I.pl hf
    have:=hm f f0 f7
    show s.toNat≤_
    omega
   exact ⟨N.idv,N.bl,N.log,N.bt,N.mem,N.mono,N.low,N.fits,⟨hs1,.inr ⟨_,_,_,cert,Int.le_refl _,Nat.le_refl _,by rw [hL]⟩⟩,N.acks,N.vote,N.vote2,N.late,N.lead,N.mtch,N.cand,N.vots⟩
 unfold Core.look
 simp only
 split
 ·exact key.trans (aMz hv0 hv5 _ 0)
 ·exact key
end
section
def Gho.raise (G:Gho) (v T:Int) (n:Nat):Gho:={ G with ack:=fun u U=>if u=v∧U=T then max (G.ack u U) n else G.ack u U }
def Gho.voted (G:Gho) (v T k:Int) (lg:eD):Gho:={ G with vt:=fun u U=>if u=v∧U=T then some (k,lg) else G.vt u U }
def Gho.elect (G:Gho) (T:Int) (x:El) (l:eD):Gho:={ G with el:=fun U=>if U=T then some x else G.el U,LL:=fun U=>if U=T then l else G.LL U }
def Gho.grow (G:Gho) (v T:Int) (x:Entry):Gho:={ G with LL:=fun U=>if U=T then G.LL U++[x] else G.LL U,full:=fun u=>if u=v then G.full u++[x] else G.full u }
def Gho.setFull (G:Gho) (v:Int) (l:eD):Gho:={ G with full:=fun u=>if u=v then l else G.full u }
theorem aBb (G:Gho) (v T:Int) (n:Nat):Le G (G.raise v T n):=
 ⟨rfl,fun _ _ h=>h,fun _=>List.prefix_refl _,fun u U=>by show _≤if u=v∧U=T then max (G.ack u U) n else G.ack u U;split;omega;exact Nat.le_refl _,fun _ _ _ h=>h⟩
theorem aBc {G:Gho} {v U k:Int} {lg:eD} (hn:G.vt v U=none):Le G (G.voted v U k lg):=⟨rfl,fun _ _ h=>h,fun _=>List.prefix_refl _,fun _ _=>Nat.le_refl _,fun u T x h=>by
 show (if u=v∧T=U then some (k,lg) else G.vt u T)=some x
 rw [if_neg]
 ·exact h
 ·rintro ⟨rfl,rfl⟩
  rw [hn] at h;cases h⟩
theorem aHx (G:Gho) (v T:Int) (n:Nat):n≤(G.raise v T n).ack v T:=by
 show n≤if v=v∧T=T then max (G.ack v T) n else G.ack v T
 rw [if_pos ⟨rfl,rfl⟩];omega
theorem xG {G:Gho} {v T:Int} {n:Nat} {u U:Int} {k:Nat} (h:k≤(G.raise v T n).ack u U):k≤G.ack u U∨u=v∧U=T∧k≤n:=by
 have h':k≤if u=v∧U=T then max (G.ack u U) n else G.ack u U:=h
 split at h'
 ·rename_i e
  rcases Nat.lt_or_ge (G.ack u U) k with h1 | h1
  ·exact .inr ⟨e.1,e.2,by omega⟩
  ·exact .inl h1
 ·exact .inl h'
theorem aFh {G G':Gho} (H:GH G) (le:Le G G') {U k:Int} {E:eD} {P:Int→Prop} (h:Elec G U E P k) (ha:∀ v T n,T<U→P v→1≤n→n≤G'.ack v T→n≤G.ack v T):Elec G' U E P k:=by
 refine ⟨h.mono,h.low,h.fits.up le,by rw [le.m0];exact h.q,fun v hv=>?_⟩
 obtain ⟨lg,a,b,c,d,e⟩:=h.v v hv
 refine ⟨lg,le.vt _ _ _ a,b,c,d.up le,fun T n hT h1 h2=>?_⟩
 have h3:=ha v T n hT hv h1 h2
 have hl:=(H.acks v T (by omega)).2
 rw [le.take (by omega)]
 exact (e T n hT h1 h3).imp id fun ⟨W,w1,w2,w3⟩=>⟨W,w1,w2,w3.up le H (by omega)⟩
theorem aBd {G G':Gho} (H:GH G) (le:Le G G') (V:Vts G) {v U k:Int} {lg:eD} (hv:G.vt v U=some (k,lg)) (ha:∀ T n,T<U→1≤n→n≤G'.ack v T→n≤G.ack v T):
  Mono lg∧Fits G' lg∧(∃ lc,G'.vt k U=some (k,lc)∧aFf lg lc)∧∀ T n,T<U→1≤n→n≤G'.ack v T→(G'.LL T).take n <+: lg∨∃ W,T<W∧W≤U∧Bad G' T n W:=by
 obtain ⟨a,b,⟨lc,c,d⟩,e⟩:=V v U k lg hv
 refine ⟨a,b.up le,⟨lc,le.vt _ _ _ c,d⟩,fun T n hT h1 h2=>?_⟩
 have h3:=ha T n hT h1 h2
 have hl:=(H.acks v T (by omega)).2
 rw [le.take (by omega)]
 exact (e T n hT h1 h3).imp id fun ⟨W,w1,w2,w3⟩=>⟨W,w1,w2,w3.up le H (by omega)⟩
theorem aQ0 {G G':Gho} (H:GH G) (le:Le G G') (hel:G'.el=G.el) (hLL:G'.LL=G.LL)
  (hacks:∀ v T,1≤G'.ack v T→G.el T≠none∧G'.ack v T≤(G.LL T).length) (ha:∀ v T n U x,G.el U=some x→bJ x.vs v=true→T<U→1≤n→n≤G'.ack v T→n≤G.ack v T):GH G':=by
 have hbeg:∀ T,G'.beg T=G.beg T:=fun T=>by unfold Gho.beg;rw [hel,hLL]
 refine ⟨fun T h=>H.pos T (by rw [←hel];exact h),fun T x h=>by rw [hLL];exact H.elen T x (by rw [←hel];exact h),fun T=>by rw [hLL];exact H.mono T,fun T=>by rw [hLL];exact (H.fits T).up le,
  fun T x h=>by rw [hLL];exact H.own T x (by rw [←hel];exact h),fun T h=>by rw [hLL];exact H.nul T (by rw [←hel];exact h),fun T x h n y hn hy hm=>?_,fun v T h=>by rw [hel,hLL];exact hacks v T h,fun T x h=>?_,fun T x h=>?_⟩
 ·rw [hLL] at hy ⊢
  rw [hel] at h
  obtain ⟨s,m,a,b,c,d⟩:=H.conf T x h n y hn hy hm
  exact ⟨s,m,a.up le,b,c,by rw [le.m0];exact d⟩
 ·rw [hel] at h
  rw [hbeg]
  exact aFh H le (H.elec T x h) fun v T' n hT hP h1 h2=>ha v T' n T x h hP hT h1 h2
 ·rw [hel] at h
  obtain ⟨lg,hl⟩:=H.self T x h
  exact ⟨lg,le.vt _ _ _ hl⟩
section
variable {G:Gho} {cs:Int→Core} {B:Nat} {v:Int} {c:Core} (hv0:0≤v) (hv5:v<5) (W:GW G (eI cs v c) B)
include hv0 hv5 W
theorem GW.at:Nod G v c∧∀ m∈c.out,LetOK G m:=by
 have N:=W.N v hv0 hv5
 have o:=W.o v hv0 hv5
 rw [cK] at N o
 exact ⟨N,o⟩
theorem GW.raise {n:Nat} (hT:G.el c.h.term≠none) (hn:n≤(G.LL c.h.term).length) (hp:(G.LL c.h.term).take n <+: G.full v):GW (G.raise v c.h.term n) (eI cs v c) B:=by
 obtain ⟨N,o⟩:=W.at hv0 hv5
 have le:=aBb G v c.h.term n
 have late:∀ {k:Nat} {u T U:Int} {x:Int×eD},T<U→G.vt u U=some x→k≤(G.raise v c.h.term n).ack u T→k≤G.ack u T:=by
  intro k u T U x hTU hv h
  rcases xG h with h | ⟨rfl,rfl,_⟩
  ·exact h
  ·rw [N.late U hTU] at hv;cases hv
 have H':GH (G.raise v c.h.term n):=aQ0 W.H le rfl rfl (fun u T h=>by
  have h':1≤if u=v∧T=c.h.term then max (G.ack u T) n else G.ack u T:=h
  show _∧(if u=v∧T=c.h.term then max (G.ack u T) n else G.ack u T)≤_
  split at h'
  ·rename_i e
   obtain ⟨rfl,rfl⟩:=e
   rw [if_pos ⟨rfl,rfl⟩]
   refine ⟨hT,?_⟩
   rcases Nat.eq_zero_or_pos (G.ack u c.h.term) with h0 | h0
   ·omega
   ·have:=(W.H.acks u c.h.term h0).2;omega
  ·rename_i e
   rw [if_neg e]
   exact W.H.acks u T h') (fun u T k U x hx hP hTU h1 h2=>by
  obtain ⟨lg,a,_⟩:=(W.H.elec U x hx).v u hP
  exact late hTU a h2)
 have V':Vts (G.raise v c.h.term n):=fun u U k lg hu=>aBd W.H le W.V hu fun T m hTU h1 h2=>late hTU hu h2
 have N':Nod (G.raise v c.h.term n) v c:=by
  refine ⟨N.idv,N.bl,N.log,N.bt,N.mem,N.mono,N.low,N.fits.up le,N.sure.up le (Int.le_refl _),fun T k h1 h2=>?_,N.vote,N.vote2,N.late,N.lead,fun r f f0 f7=>Nat.le_trans (N.mtch r f f0 f7) (le.ack _ _),N.cand,N.vots⟩
  rcases xG h2 with h | ⟨_,rfl,h⟩
  ·obtain ⟨a,b⟩:=N.acks T k h1 h
   exact ⟨a,b⟩
  ·refine ⟨Int.le_refl _,.inl ?_⟩
   exact (List.take_prefix_take_left h).trans hp
 have:=W.step (v:=v) (d:=c) le (Nat.le_refl _) (fun u hu=>⟨rfl,fun T=>if_neg (fun e=>hu e.1),fun _=>rfl⟩) (fun T x hx=>.inl hx) (fun T x _ _=>rfl) H' V' W.b (W.bf v hv0 hv5) N' (fun m hm=>(o m hm).up le)
 rw [hM] at this
 exact this
theorem GW.plain {d:Core} (N':Nod G v d) (o':∀ m∈d.out,LetOK G m):GW G (eI cs v d) B:=by
 have:=W.step (v:=v) (d:=d) (Le.refl G) (Nat.le_refl _) (fun u _=>Same.refl G u) (fun T x hx=>.inl hx) (fun T x _ _=>rfl) W.H W.V W.b (W.bf v hv0 hv5) N' o'
 rw [hM] at this
 exact this
theorem GW.vote {d:Core} {U k:Int} (hn:G.vt v U=none) (hU:c.h.term≤U) (hlc:(k=v∨∃ lc,G.vt k U=some (k,lc)∧aFf (G.full v) lc)) (hd:Nod (G.voted v U k (G.full v)) v d) (ho:d.out=c.out):GW (G.voted v U k (G.full v)) (eI cs v d) B∧Le G (G.voted v U k (G.full v)):=by
 obtain ⟨N,o⟩:=W.at hv0 hv5
 have le:Le G (G.voted v U k (G.full v)):=aBc hn
 have H':GH (G.voted v U k (G.full v)):=aQ0 W.H le rfl rfl (fun u T h=>W.H.acks u T h) (fun u T n U' x hx hP hTU h1 h2=>h2)
 have V':Vts (G.voted v U k (G.full v)):=by
  intro u T j lg hu
  have hu':(if u=v∧T=U then some (k,G.full v) else G.vt u T)=some (j,lg):=hu
  split at hu'
  ·rename_i e
   obtain ⟨rfl,rfl⟩:=e
   cases hu'
   refine ⟨N.mono,N.fits.up le,?_,fun T' n hT h1 h2=>?_⟩
   ·rcases hlc with rfl | ⟨lc,h1,h2⟩
    ·exact ⟨G.full k,if_pos ⟨rfl,rfl⟩,.inr ⟨rfl,Nat.le_refl _⟩⟩
    ·exact ⟨lc,le.vt _ _ _ h1,h2⟩
   ·obtain ⟨a,b⟩:=N.acks T' n h1 h2
    rcases b with b | ⟨w,w1,w2,w3⟩
    ·exact .inl b
    ·exact .inr ⟨w,w1,by omega,w3⟩
  ·exact aBd W.H le W.V hu' fun T' n _ _ h2=>h2
 have:=W.step (v:=v) (d:=d) le (Nat.le_refl _) (fun u hu=>⟨rfl,fun _=>rfl,fun T=>if_neg (fun e=>hu e.1)⟩) (fun T x hx=>.inl hx) (fun T x _ _=>rfl) H' V' W.b (W.bf v hv0 hv5) hd (fun m hm=>(o m (by rw [←ho];exact hm)).up le)
 rw [hM] at this
 exact ⟨this,le⟩
end
end
section
section
variable {G:Gho} {cs:Int→Core} {B:Nat} {v:Int} {c:Core} (hv0:0≤v) (hv5:v<5) (W:GW G (eI cs v c) B)
include hv0 hv5 W
theorem GW.won (I:Inv c) (hr:c.role=2) (hm:iJ c.members c.votes=true):ElecW G c.h.term (G.full v) (fun f=>bJ c.votes f=true) v:=by
 obtain ⟨N,_⟩:=W.at hv0 hv5
 obtain ⟨a,b,d⟩:=N.cand hr
 have hc:c.members=lN G.m0 (G.full v):=(N.ofM I).1
 refine ⟨N.mono,d,N.fits,⟨c.votes,by rw [←hc];exact hm,fun f hf=>hf⟩,fun f hf=>?_⟩
 obtain ⟨lg,h1,h2⟩:=N.vots hr f hf
 obtain ⟨k1,k2,_,k4⟩:=W.V f _ _ _ h1
 refine ⟨lg,h1,h2,k1,k2,fun T n m hT ct hn=>?_⟩
 rcases k4 T n hT ct.n1 hn with h | ⟨w,w1,w2,w3⟩
 ·exact .inl h
 ·exact absurd (uH W.H w w3.1 T n m w1 ct) w3.2
theorem GW.alone (I:Inv c) (hr:c.role=2) (hm:iJ c.members c.votes=true):G.el c.h.term=none:=by
 obtain ⟨N,_⟩:=W.at hv0 hv5
 cases e:G.el c.h.term with
 | none=>rfl
 | some x=>
  obtain ⟨f,h1,h2⟩:=meet W.H (W.won hv0 hv5 I hr hm) (W.H.elec _ x e).weak
  obtain ⟨lg,a1,_⟩:=N.vots hr f h1
  obtain ⟨lg2,a2,_⟩:=(W.H.elec _ x e).v f h2
  rw [a1] at a2
  cases a2
  exact absurd rfl ((N.cand hr).2.1 x e)
theorem GW.elect (I:Inv c) (hr:c.role=2) (hm:iJ c.members c.votes=true) {d:Core} (hid:d.id=c.id) (hh:d.h=c.h) (hs:d.sure=c.sure) (hd:d.role=3) (hp:∀ f,0≤f→f<7→(d.peer f).mtch=0) (ho:d.out=c.out):
  ∃ G',Le G G'∧GW G' (eI cs v d) B:=by
 obtain ⟨N,o⟩:=W.at hv0 hv5
 have H:=W.H
 have hn:=W.alone hv0 hv5 I hr hm
 have won:=W.won hv0 hv5 I hr hm
 obtain ⟨hc1,hc2,hc3⟩:=N.cand hr
 have hT:=I.tm (by rw [hr];decide)
 refine ⟨G.elect c.h.term ⟨v,(G.full v).length,c.votes⟩ (G.full v),?_⟩
 have ea:(G.elect c.h.term ⟨v,(G.full v).length,c.votes⟩ (G.full v)).el c.h.term=some ⟨v,(G.full v).length,c.votes⟩:=if_pos rfl
 have eb:∀ U,U≠c.h.term→(G.elect c.h.term ⟨v,(G.full v).length,c.votes⟩ (G.full v)).el U=G.el U:=fun U h=>if_neg h
 have la:(G.elect c.h.term ⟨v,(G.full v).length,c.votes⟩ (G.full v)).LL c.h.term=G.full v:=if_pos rfl
 have lb:∀ U,U≠c.h.term→(G.elect c.h.term ⟨v,(G.full v).length,c.votes⟩ (G.full v)).LL U=G.LL U:=fun U h=>if_neg h
 have le:Le G (G.elect c.h.term ⟨v,(G.full v).length,c.votes⟩ (G.full v)):=by
  refine ⟨rfl,fun T x hx=>?_,fun T=>?_,fun _ _=>Nat.le_refl _,fun _ _ _ h=>h⟩
  ·by_cases e:T=c.h.term
   ·rw [e,hn] at hx;cases hx
   ·rw [eb T e];exact hx
  ·by_cases e:T=c.h.term
   ·rw [e,H.nul _ hn];exact List.nil_prefix
   ·rw [lb T e];exact List.prefix_refl _
 have ack':(G.elect c.h.term ⟨v,(G.full v).length,c.votes⟩ (G.full v)).ack=G.ack:=rfl
 have vt':(G.elect c.h.term ⟨v,(G.full v).length,c.votes⟩ (G.full v)).vt=G.vt:=rfl
 have m0':(G.elect c.h.term ⟨v,(G.full v).length,c.votes⟩ (G.full v)).m0=G.m0:=rfl
 have full':(G.elect c.h.term ⟨v,(G.full v).length,c.votes⟩ (G.full v)).full=G.full:=rfl
 generalize G.elect c.h.term ⟨v,(G.full v).length,c.votes⟩ (G.full v)=G' at ea eb la lb le ack' vt' m0' full'
 refine ⟨le,?_⟩
 have H':GH G':=by
  refine ⟨fun T h=>?_,fun T x h=>?_,fun T=>?_,fun T=>?_,fun T x h n y hy=>?_,fun T h=>?_,fun T x h n y hx hy hm=>?_,fun u T h=>?_,fun T x h=>?_,fun T x h=>?_⟩
  ·by_cases e:T=c.h.term
   ·rw [e];exact hT
   ·rw [eb T e] at h;exact H.pos T h
  ·by_cases e:T=c.h.term
   ·rw [e,ea] at h;cases h;rw [e,la];exact Nat.le_refl _
   ·rw [eb T e] at h;rw [lb T e];exact H.elen T x h
  ·by_cases e:T=c.h.term
   ·rw [e,la];exact N.mono
   ·rw [lb T e];exact H.mono T
  ·by_cases e:T=c.h.term
   ·rw [e,la];exact N.fits.up le
   ·rw [lb T e];exact (H.fits T).up le
  ·by_cases e:T=c.h.term
   ·rw [e,ea] at h
    cases h
    rw [e,la] at hy
    rw [e]
    have hl:=(List.getElem?_eq_some_iff.1 hy).1
    exact ⟨fun h1=>absurd h1 (by show ¬ (G.full v).length≤n;omega),fun _=>hc3 y (List.mem_of_getElem? hy)⟩
   ·rw [eb T e] at h
    rw [lb T e] at hy
    exact H.own T x h n y hy
  ·by_cases e:T=c.h.term
   ·rw [e,ea] at h;cases h
   ·rw [eb T e] at h;rw [lb T e];exact H.nul T h
  ·by_cases e:T=c.h.term
   ·rw [e,ea] at h
    cases h
    rw [e,la] at hy
    have hl:=(List.getElem?_eq_some_iff.1 hy).1
    exact absurd hx (by show ¬ (G.full v).length≤n;omega)
   ·rw [eb T e] at h
    rw [lb T e] at hy ⊢
    obtain ⟨s,m,a,b,d,g⟩:=H.conf T x h n y hx hy hm
    exact ⟨s,m,a.up le,b,d,by rw [m0'];exact g⟩
  ·rw [ack'] at h ⊢
   obtain ⟨a,b⟩:=H.acks u T h
   exact ⟨le.eln a,Nat.le_trans b (le.len T)⟩
  ·by_cases e:T=c.h.term
   ·rw [e,ea] at h
    cases h
    rw [e]
    have hb:G'.beg c.h.term=G.full v:=by rw [pU ea,la,List.take_length]
    rw [hb]
    refine ⟨won.mono,won.low,won.fits.up le,by rw [m0'];exact won.q,fun f hf=>?_⟩
    obtain ⟨lg,h1,h2⟩:=N.vots hr f hf
    obtain ⟨k1,k2,_,k4⟩:=W.V f _ _ _ h1
    refine ⟨lg,by rw [vt'];exact h1,h2,k1,k2.up le,fun U n hU n1 hn2=>?_⟩
    rw [ack'] at hn2
    have hl:=(H.acks f U (by omega)).2
    rw [le.take (by omega)]
    rcases k4 U n hU n1 hn2 with h | ⟨w,w1,w2,w3⟩
    ·exact .inl h
    ·refine .inr ⟨w,w1,?_,w3.up le H (by omega)⟩
     rcases Int.lt_or_eq_of_le w2 with h | h
     ·exact h
     ·exact absurd (by rw [h];exact hn) w3.1
   ·rw [eb T e] at h
    have hne:G.el T≠none:=by rw [h];exact Option.some_ne_none x
    rw [le.beg H hne]
    exact aFh H le (H.elec T x h) fun u U n _ _ _ h2=>by rw [ack'] at h2;exact h2
  ·by_cases e:T=c.h.term
   ·rw [e,ea] at h
    cases h
    rw [e,vt']
    exact ⟨_,hc1⟩
   ·rw [eb T e] at h
    rw [vt'];exact H.self T x h
 have V':Vts G':=by
  intro u U j lg hu
  rw [vt'] at hu
  exact aBd H le W.V hu fun T n _ _ h2=>by rw [ack'] at h2;exact h2
 have N':Nod G' v d:=by
  refine ⟨hid.trans N.idv,by rw [full',hh];exact N.bl,by rw [full',hh];exact N.log,by rw [full',hh];exact N.bt,by rw [full',hh,m0'];exact N.mem,by rw [full'];exact N.mono,by rw [full',hh];exact N.low,by rw [full'];exact N.fits.up le,by rw [full',hh,hs];exact N.sure.up le (Int.le_refl _),?_,by rw [hh,vt'];exact N.vote,by rw [hh,vt'];exact N.vote2,by rw [hh,vt'];exact N.late,
   fun _=>⟨⟨_,by rw [hh];exact ea,rfl⟩,by rw [hh,la,full']⟩,fun _ f f0 f7=>by rw [hp f f0 f7];exact Nat.zero_le _,fun r=>absurd r (by rw [hd];decide),fun r=>absurd r (by rw [hd];decide)⟩
  intro T n h1 h2
  rw [ack'] at h2
  rw [hh,full']
  obtain ⟨a,b⟩:=N.acks T n h1 h2
  have hl:=(H.acks v T (by omega)).2
  rw [le.take (by omega)]
  exact ⟨a,b.imp id fun ⟨w,w1,w2,w3⟩=>⟨w,w1,w2,w3.up le H (by omega)⟩⟩
 have:=W.step (v:=v) (d:=d) le (Nat.le_refl _) (fun u hu=>⟨by rw [full'],fun T=>by rw [ack'],fun T=>by rw [vt']⟩) (fun T x hx=>by
   by_cases e:T=c.h.term
   ·rw [e,ea] at hx;cases hx;exact .inr rfl
   ·rw [eb T e] at hx;exact .inl hx) (fun T x hx hne=>by
   by_cases e:T=c.h.term
   ·rw [e,ea] at hx;cases hx;exact absurd rfl hne
   ·exact lb T e) H' V' (fun T=>by
   by_cases e:T=c.h.term
   ·rw [e,la];exact W.bf v hv0 hv5
   ·rw [lb T e];exact W.b T) (by rw [full'];exact W.bf v hv0 hv5) N' (fun m hm=>(o m (by rw [←ho];exact hm)).up le)
 rw [hM] at this
 exact this
theorem GW.grow (I:Inv c) (hr:c.role=3) {x:Entry} (hx:x.term=c.h.term)
  (hm:x.members≠0→∃ s m,Cert G c.h.term s m∧m≤(G.full v).length∧ci (G.full v)≤s∧lQ (lN G.m0 (G.full v)) x.members=true)
  {d:Core} (hd:d={ c with h:={ c.h with log:=c.h.log++[x] } }):
  ∃ G',Le G G'∧GW G' (eI cs v d) (B+1):=by
 obtain ⟨N,o⟩:=W.at hv0 hv5
 have H:=W.H
 obtain ⟨⟨y,hy,hyv⟩,hL⟩:=N.lead hr
 refine ⟨G.grow v c.h.term x,?_⟩
 have la:(G.grow v c.h.term x).LL c.h.term=G.full v++[x]:=by
  show (if c.h.term=c.h.term then G.LL c.h.term++[x] else G.LL c.h.term)=_
  rw [if_pos rfl,hL]
 have lb:∀ U,U≠c.h.term→(G.grow v c.h.term x).LL U=G.LL U:=fun U h=>if_neg h
 have fa:(G.grow v c.h.term x).full v=G.full v++[x]:=if_pos rfl
 have fb:∀ u,u≠v→(G.grow v c.h.term x).full u=G.full u:=fun u h=>if_neg h
 have el':(G.grow v c.h.term x).el=G.el:=rfl
 have ack':(G.grow v c.h.term x).ack=G.ack:=rfl
 have vt':(G.grow v c.h.term x).vt=G.vt:=rfl
 have m0':(G.grow v c.h.term x).m0=G.m0:=rfl
 have le:Le G (G.grow v c.h.term x):=by
  refine ⟨rfl,fun _ _ h=>h,fun T=>?_,fun _ _=>Nat.le_refl _,fun _ _ _ h=>h⟩
  by_cases e:T=c.h.term
  ·rw [e,la,←hL];exact List.prefix_append _ _
  ·rw [lb T e];exact List.prefix_refl _
 generalize G.grow v c.h.term x=G' at la lb fa fb el' ack' vt' m0' le
 refine ⟨le,?_⟩
 have hne:G.el c.h.term≠none:=by rw [hy];exact Option.some_ne_none y
 have mono':Mono (G.full v++[x]):=by
  refine List.pairwise_append.2 ⟨N.mono,List.pairwise_singleton _ _,fun a ha b hb=>?_⟩
  rw [List.mem_singleton.1 hb,hx]
  exact N.low a ha
 have fits':Fits G' (G.full v++[x]):=by
  intro n z hz
  rcases Nat.lt_or_ge n (G.full v).length with h | h
  ·rw [List.getElem?_append_left h] at hz
   obtain ⟨a,b,e⟩:=(N.fits.up le) n z hz
   refine ⟨a,b,?_⟩
   rw [e,List.take_append_of_le_length (by omega)]
  ·rw [List.getElem?_append_right h] at hz
   have hn:n - (G.full v).length=0:=by
    rcases Nat.eq_zero_or_pos (n - (G.full v).length) with h0 | h0
    ·exact h0
    ·rw [List.getElem?_eq_none (by simp;omega)] at hz;cases hz
   rw [hn] at hz
   cases hz
   rw [hx,la,el']
   exact ⟨hne,by simp;omega,rfl⟩
 have H':GH G':=by
  refine ⟨fun T h=>H.pos T (by rw [←el'];exact h),fun T z h=>?_,fun T=>?_,fun T=>?_,fun T z h n w hw=>?_,fun T h=>?_,fun T z h n w hz hw hwm=>?_,fun u T h=>?_,fun T z h=>?_,fun T z h=>?_⟩
  ·rw [el'] at h
   exact Nat.le_trans (H.elen T z h) (le.len T)
  ·by_cases e:T=c.h.term
   ·rw [e,la];exact mono'
   ·rw [lb T e];exact H.mono T
  ·by_cases e:T=c.h.term
   ·rw [e,la];exact fits'
   ·rw [lb T e];exact (H.fits T).up le
  ·rw [el'] at h
   by_cases e:T=c.h.term
   ·rw [e,la] at hw
    rw [e] at h
    rcases Nat.lt_or_ge n (G.full v).length with h1 | h1
    ·rw [List.getElem?_append_left h1,hL] at hw
     rw [e];exact H.own _ z h n w hw
    ·rw [List.getElem?_append_right h1] at hw
     have hw2:w=x:=by simpa using List.mem_of_getElem? hw
     have:=H.elen _ z h
     rw [hL] at h1
     rw [hw2,e]
     exact ⟨fun _=>hx,fun h2=>by omega⟩
   ·rw [lb T e] at hw
    exact H.own T z h n w hw
  ·rw [el'] at h
   have e:T≠c.h.term:=fun e=>by rw [e] at h;exact hne h
   rw [lb T e];exact H.nul T h
  ·rw [el'] at h
   by_cases e:T=c.h.term
   ·rw [e] at h
    rw [e,la] at hw ⊢
    rcases Nat.lt_or_ge n (G.full v).length with h1 | h1
    ·rw [List.getElem?_append_left h1,hL] at hw
     obtain ⟨s,m,a,b,d,g⟩:=H.conf _ z h n w hz hw hwm
     rw [List.take_append_of_le_length (by omega),hL]
     exact ⟨s,m,a.up le,b,d,by rw [m0'];exact g⟩
    ·rw [List.getElem?_append_right h1] at hw
     have hw2:w=x:=by simpa using List.mem_of_getElem? hw
     have hn:n=(G.full v).length:=by
      have:=(List.getElem?_eq_some_iff.1 hw).1
      simp at this;omega
     rw [hw2] at hwm ⊢
     obtain ⟨s,m,a,b,d,g⟩:=hm hwm
     rw [hn,List.take_left']
     ·exact ⟨s,m,a.up le,b,d,by rw [m0'];exact g⟩
     ·rfl
   ·rw [lb T e] at hw ⊢
    obtain ⟨s,m,a,b,d,g⟩:=H.conf T z h n w hz hw hwm
    exact ⟨s,m,a.up le,b,d,by rw [m0'];exact g⟩
  ·rw [ack'] at h ⊢
   obtain ⟨a,b⟩:=H.acks u T h
   exact ⟨le.eln a,Nat.le_trans b (le.len T)⟩
  ·rw [el'] at h
   have hz:G.el T≠none:=by rw [h];exact Option.some_ne_none z
   rw [le.beg H hz]
   exact aFh H le (H.elec T z h) fun u U n _ _ _ h2=>by rw [ack'] at h2;exact h2
  ·rw [el'] at h
   rw [vt'];exact H.self T z h
 have V':Vts G':=by
  intro u U j lg hu
  rw [vt'] at hu
  exact aBd H le W.V hu fun T n _ _ h2=>by rw [ack'] at h2;exact h2
 have N':Nod G' v d:=by
  subst hd
  have hbl:=N.bl
  refine ⟨N.idv,by rw [fa];show c.h.base.toNat≤_;rw [List.length_append];omega,?_,?_,?_,by rw [fa];exact mono',?_,by rw [fa];exact fits',?_,?_,by rw [vt'];exact N.vote,by rw [vt'];exact N.vote2,by rw [vt'];exact N.late,
   fun _=>⟨⟨y,by rw [el'];exact hy,hyv⟩,by rw [fa];exact la.symm⟩,fun r f f0 f7=>by rw [ack'];exact N.mtch r f f0 f7,fun r=>absurd r (by show c.role≠2;rw [hr];decide),fun r=>absurd r (by show c.role≠2;rw [hr];decide)⟩
  ·rw [fa]
   show c.h.log++[x]=(G.full v++[x]).drop c.h.base.toNat
   rw [List.drop_append_of_le_length hbl,←N.log]
  ·rw [fa]
   show c.h.baseTerm=cU (G.full v++[x]) c.h.base.toNat
   rw [N.bt,←cE (l:=G.full v++[x]) (Nat.le_refl _),List.take_append_of_le_length hbl,cE (Nat.le_refl _)]
  ·rw [fa,m0']
   show c.h.members=lN G.m0 ((G.full v++[x]).take c.h.base.toNat)
   rw [List.take_append_of_le_length hbl];exact N.mem
  ·rw [fa]
   intro z hz
   rcases List.mem_append.1 hz with hz | hz
   ·exact N.low z hz
   ·rw [List.mem_singleton.1 hz,hx];exact Int.le_refl _
  ·rw [fa]
   obtain ⟨s0,h⟩:=N.sure.up le (Int.le_refl _)
   refine ⟨by rw [List.length_append];show c.sure.toNat≤_;omega,h.imp id ?_⟩
   rintro ⟨T0,n,m,a,b,d,e⟩
   exact ⟨T0,n,m,a,b,d,by show (G.full v++[x]).take c.sure.toNat=_;rw [List.take_append_of_le_length s0];exact e⟩
  ·intro T n h1 h2
   rw [ack'] at h2
   rw [fa]
   obtain ⟨a,b⟩:=N.acks T n h1 h2
   have hl:=(H.acks v T (by omega)).2
   rw [le.take (by omega)]
   exact ⟨a,b.imp (fun h=>h.trans (List.prefix_append _ _)) fun ⟨w,w1,w2,w3⟩=>⟨w,w1,w2,w3.up le H (by omega)⟩⟩
 have:=W.step (v:=v) (d:=d) (B':=B+1) le (Nat.le_succ _) (fun u hu=>⟨fb u hu,fun T=>by rw [ack'],fun T=>by rw [vt']⟩) (fun T z hz=>.inl (by rw [el'] at hz;exact hz)) (fun T z hz hzv=>by
   by_cases e:T=c.h.term
   ·rw [e,el',hy] at hz;cases hz;exact absurd hyv hzv
   ·exact lb T e) H' V' (fun T=>by
   by_cases e:T=c.h.term
   ·rw [e,la,List.length_append];have:=W.bf v hv0 hv5;simp;omega
   ·rw [lb T e];exact Nat.le_succ_of_le (W.b T)) (by rw [fa,List.length_append];have:=W.bf v hv0 hv5;simp;omega) N' (fun m hm=>(o m (by rw [hd] at hm;exact hm)).up le)
 rw [hM] at this
 exact this
end
end
section
theorem pV {c:Core} (hp:c.peers.length=7) {f g:Int} (p:Peer) (f0:0≤f) (g0:0≤g) (g7:g<7):(c.setPeer f p).peer g=if g=f then p else c.peer g:=by
 unfold Core.setPeer Core.peer
 simp only
 by_cases e:g=f
 ·subst e
  rw [if_pos rfl,List.getD_eq_getElem?_getD,List.getElem?_set_self (by omega)];rfl
 ·rw [if_neg e,List.getD_eq_getElem?_getD,List.getElem?_set_ne (by omega),List.getD_eq_getElem?_getD]
theorem Nod.peers {G:Gho} {v:Int} {c:Core} (N:Nod G v c) (hp:c.peers.length=7) {f:Int} {p:Peer} (f0:0≤f) (h:c.role=3→p.mtch.toNat≤G.ack f c.h.term):Nod G v (c.setPeer f p):=
 ⟨N.idv,N.bl,N.log,N.bt,N.mem,N.mono,N.low,N.fits,N.sure,N.acks,N.vote,N.vote2,N.late,N.lead,fun r g g0 g7=>by
  rw [pV hp p f0 g0 g7]
  split
  ·rename_i e;rw [e];exact h r
  ·exact N.mtch r g g0 g7,N.cand,N.vots⟩
theorem Inv.lead1 {c:Core} (h:Inv c) (ht:1≤c.h.term):Inv { c with role:=3,leads:=c.id,left:=3,peers:=List.replicate 7 ⟨c.last+1,0,0⟩ }:=by
 have hb:=h.h.b0
 have hl0:0≤c.last:=by show 0≤c.h.base+_;omega
 exact ⟨h.i0,h.i1,h.h,.inr (.inr rfl),by have:=h.i0;show -1≤c.id;omega,by have:=h.i1;show c.id≤6;omega,h.s0,h.s1,h.d0,h.d1,by show (1:Int)≤3;decide,by show (3:Int)≤20;decide,h.v0,h.v1,rfl,fun _ p hp=>by
  rw [List.eq_of_mem_replicate hp]
  exact ⟨Int.le_refl _,hl0,by show 1≤c.last+1;omega,Int.le_refl _,Int.le_refl _,.inr rfl⟩,fun _=>ht,h.w⟩
theorem Inv.lead2 {c:Core} (h:Inv c) (ht:1≤c.h.term) (hc:c.last<1099511627776∧c.h.log.length<200):Inv { c with role:=3,leads:=c.id,left:=3,peers:=List.replicate 7 ⟨c.last+1,0,0⟩,h:={ c.h with log:=c.h.log++[⟨c.h.term,0,[]⟩] } }:=by
 have hb:=h.h.b0
 have hl0:0≤c.last:=by show 0≤c.h.base+_;omega
 have ho:=h.h.push (x:=⟨c.h.term,0,[]⟩) ⟨ht,Int.le_refl _,Int.le_refl _,by show (0:Int)≤127;decide,by show 0≤1100;decide,.inl rfl⟩ rfl hc.2 hc.1
 have hl:bI { c.h with log:=c.h.log++[⟨c.h.term,0,[]⟩] }=c.last+1:=by unfold Core.last bI;simp;omega
 exact ⟨h.i0,h.i1,ho,.inr (.inr rfl),by have:=h.i0;show -1≤c.id;omega,by have:=h.i1;show c.id≤6;omega,h.s0,by show c.sure≤bI _;rw [hl];have:=h.s1;omega,h.d0,h.d1,by show (1:Int)≤3;decide,by show (3:Int)≤20;decide,h.v0,h.v1,rfl,fun _ p hp=>by
  rw [List.eq_of_mem_replicate hp]
  refine ⟨Int.le_refl _,?_,by show 1≤c.last+1;omega,?_,Int.le_refl _,.inr rfl⟩
  ·show 0≤bI _;rw [hl];omega
  ·show c.last+1≤bI _+1;rw [hl];omega,fun _=>ht,h.w⟩
theorem aSc {i f:Int} (i0:0≤i) (i7:i<7) (h:bJ ((2:Int) ^ i.toNat) f=true):f=i:=by
 obtain ⟨f0,f7⟩:=jN h
 have h1:i=0∨i=1∨i=2∨i=3∨i=4∨i=5∨i=6:=by omega
 have h2:f=0∨f=1∨f=2∨f=3∨f=4∨f=5∨f=6:=by omega
 rcases h1 with rfl | rfl | rfl | rfl | rfl | rfl | rfl<;>rcases h2 with rfl | rfl | rfl | rfl | rfl | rfl | rfl<;>first | rfl | (exact absurd h (by decide))
theorem Inv.stand1 {c:Core} (h:Inv c) (ht:c.h.term<1099511627776):Inv { c with h:={ c.h with term:=c.h.term+1,vote:=c.id },role:=2,leads:=-1,votes:=(2:Int) ^ c.id.toNat }:=by
 have hid:c.id.toNat<7:=by have:=h.i0;have:=h.i1;omega
 obtain ⟨p0,p1⟩:=sK hid
 have ho:Hok { c.h with term:=c.h.term+1,vote:=c.id }:=⟨by have:=h.h.t0;show 0≤c.h.term+1;omega,by show c.h.term+1≤_;omega,by have:=h.i0;show -1≤c.id;omega,h.i1,h.h.m0,h.h.m1,h.h.b0,h.h.b1,h.h.bt0,by have:=h.h.bt1;show c.h.baseTerm≤c.h.term+1;omega,h.h.btz,h.h.ll,h.h.li,jI (by show c.h.term≤c.h.term+1;omega) h.h.fl,h.h.sz,h.h.sl⟩
 exact ⟨h.i0,h.i1,ho,.inr (.inl rfl),by show (-1:Int)≤-1;decide,by show (-1:Int)≤6;decide,h.s0,h.s1,h.d0,h.d1,h.f0,h.f1,by show (0:Int)≤2 ^ _;omega,by show (2:Int) ^ _≤127;omega,h.pl,fun hr=>(by cases hr),fun _=>by have:=h.h.t0;show 1≤c.h.term+1;omega,h.w⟩
section
variable {v:Int} {c:Core} (hv0:0≤v) (hv5:v<5)
include hv0 hv5
theorem uJ (I:Inv c) (hr:c.role=3) (k:Nat):Goes v c c.own k:=by
 have hp:=I.pr hr _ (lH I I.i0 I.i1)
 have hb:=I.h.b0
 have hl0:0≤c.last:=by show 0≤c.h.base+_;omega
 have J:Inv (c.setPeer c.id { c.peer c.id with mtch:=c.last }):=I.setPeer fun _=>⟨hl0,Int.le_refl _,hp.n0,hp.n1,hp.o0,hp.o1⟩
 have s1:Goes v c (c.setPeer c.id { c.peer c.id with mtch:=c.last }) k:=by
  intro G cs B W
  obtain ⟨N,o⟩:=W.at hv0 hv5
  obtain ⟨⟨x,hx,_⟩,hL⟩:=N.lead hr
  have hlen:=N.len I
  have W1:=W.raise hv0 hv5 (n:=(G.full v).length) (by rw [hx];exact Option.some_ne_none x) (by rw [←hL];exact Nat.le_refl _) (by rw [←hL,List.take_length];exact List.prefix_refl _)
  obtain ⟨N1,o1⟩:=W1.at hv0 hv5
  refine ⟨_,aBb G v c.h.term (G.full v).length,(W1.plain hv0 hv5 (N1.peers I.pl I.i0 fun _=>?_) o1).mono (Nat.le_add_right _ _)⟩
  show c.last.toNat≤_
  rw [N.idv]
  have:=aHx G v c.h.term (G.full v).length
  omega
 have s2:=aDd hv0 hv5 J hr 0
 have s3:=xF hv0 hv5 J.look.1 0
 exact ((s1.trans s2).trans s3).mono (by omega)
theorem aDe (I:Inv c) (hr:c.role=2) (hm:iJ c.members c.votes=true):Goes v c c.lead 1:=by
 have ht:=I.tm (by rw [hr];decide)
 have I1:=Inv.lead1 I ht
 have s1:Goes v c { c with role:=3,leads:=c.id,left:=3,peers:=List.replicate 7 ⟨c.last+1,0,0⟩ } 0:=by
  intro G cs B W
  exact W.elect hv0 hv5 I hr hm rfl rfl rfl rfl (fun f f0 f7=>by
   show ((List.replicate 7 (⟨c.last+1,0,0⟩:Peer)).getD f.toNat ⟨0,0,0⟩).mtch=0
   rw [List.getD_eq_getElem?_getD,List.getElem?_replicate,if_pos (by omega)];rfl) rfl
 unfold Core.lead
 simp only
 split
 ·rename_i hc
  have I2:=Inv.lead2 I ht hc
  have s2:Goes v { c with role:=3,leads:=c.id,left:=3,peers:=List.replicate 7 ⟨c.last+1,0,0⟩ } { c with role:=3,leads:=c.id,left:=3,peers:=List.replicate 7 ⟨c.last+1,0,0⟩,h:={ c.h with log:=c.h.log++[⟨c.h.term,0,[]⟩] } } 1:=by
   intro G cs B W
   exact W.grow hv0 hv5 I1 rfl (x:=⟨c.h.term,0,[]⟩) rfl (fun h=>absurd rfl h) rfl
  exact ((s1.trans s2).trans (uJ hv0 hv5 I2 rfl 0)).mono (by omega)
 ·exact (s1.trans (uJ hv0 hv5 I1 rfl 1)).mono (by omega)
theorem aN0 {c:Core} (I:Inv c) (hr:c.role=2) (l:List Int) (hl:∀ f∈l,0≤f∧f<7):Goes v c (l.foldl (fun d f=>d.post { Letter.zero with kind:=1,to:=f,index:=d.last,at':=d.term d.last }) c) 0:=by
 refine wF (R:=fun d=>Inv d∧d.role=2) (fun d f ⟨J,r⟩ f0 f7=>⟨mU hv0 hv5 (fun G H V N=>?_) 0,J.sent (Sent.post d _),r⟩) l c hl ⟨I,hr⟩
 have hid:=N.idv
 have hlen:=N.len J
 have hlb:d.h.base≤d.last:=by unfold Core.last bI;omega
 refine ⟨by show 0≤d.id;omega,by show d.id<5;omega,f0,fun _=>⟨G.full v,?_,hlen,?_⟩,fun h=>(by cases h),fun h=>(by cases h),fun h=>(by cases h),fun h=>(by cases h)⟩
 ·show G.vt d.id d.h.term=some (d.id,_)
  rw [hid];exact (N.cand r).1
 ·show d.term d.last=_
  rw [N.term J hlb (Int.le_refl _),hlen];rfl
theorem aK5 (I:Inv c) (ht:c.h.term<1099511627776):Goes v c c.stand 1:=by
 have I1:=Inv.stand1 I ht
 have s1:Goes v c { c with h:={ c.h with term:=c.h.term+1,vote:=c.id },role:=2,leads:=-1,votes:=(2:Int) ^ c.id.toNat } 0:=by
  intro G cs B W
  obtain ⟨N,o⟩:=W.at hv0 hv5
  have hid:=N.idv
  have hn:=N.late (c.h.term+1) (by omega)
  have va:(G.voted v (c.h.term+1) v (G.full v)).vt v (c.h.term+1)=some (v,G.full v):=if_pos ⟨rfl,rfl⟩
  have vb:∀ u U,(G.voted v (c.h.term+1) v (G.full v)).vt u U=if u=v∧U=c.h.term+1 then some (v,G.full v) else G.vt u U:=fun _ _=>rfl
  have:=W.vote hv0 hv5 (U:=c.h.term+1) (k:=v) (d:={ c with h:={ c.h with term:=c.h.term+1,vote:=c.id },role:=2,leads:=-1,votes:=(2:Int) ^ c.id.toNat }) hn (by omega) (.inl rfl)
   ⟨N.idv,N.bl,N.log,N.bt,N.mem,N.mono,fun x hx=>by have:=N.low x hx;show x.term≤c.h.term+1;omega,N.fits,N.sure.up (aBc hn) (by show c.h.term≤c.h.term+1;omega),fun T n h1 h2=>by
     obtain ⟨a,b⟩:=N.acks T n h1 h2
     exact ⟨by show T≤c.h.term+1;omega,b.imp id fun ⟨w,w1,w2,w3⟩=>⟨w,w1,by show w≤c.h.term+1;omega,w3⟩⟩,
    fun h=>by have h':c.id=-1:=h;omega,fun _=>⟨G.full v,by show _=some (c.id,_);rw [hid];exact va⟩,fun U hU=>by
     have hU':c.h.term+1<U:=hU
     rw [vb,if_neg (by omega)];exact N.late U (by omega),
    fun h=>(by cases h),fun h=>(by cases h),fun _=>⟨va,fun x hx e=>?_,fun x hx=>by have:=N.low x hx;show x.term<c.h.term+1;omega⟩,fun _ f hf=>?_⟩ rfl
  ·exact ⟨_,this.2,this.1⟩
  ·obtain ⟨lg,h⟩:=W.H.self _ x hx
   rw [e] at h
   rw [hn] at h;cases h
  ·have e:=aSc I.i0 I.i1 hf
   rw [e,hid]
   exact ⟨G.full v,va,.inr ⟨rfl,Nat.le_refl _⟩⟩
 unfold Core.stand
 simp only
 split
 ·rename_i hm
  exact (s1.trans (aDe hv0 hv5 I1 rfl hm)).mono (by omega)
 ·exact (s1.trans (aN0 hv0 hv5 I1 rfl _ fun f hf=>aDc hf)).mono (by omega)
theorem aN1 (I:Inv c) (cV:Int):Goes v c (c.tick cV) 1:=by
 obtain ⟨d0,d1⟩:=nS cV
 have q:∀ (a b:Int),Quiet c { c with drawn:=a,left:=b }:=fun a b=>⟨rfl,rfl,rfl,rfl,rfl,rfl,rfl,rfl,.inl rfl,rfl,fun _ _ _=>Nat.le_refl _⟩
 unfold Core.tick
 simp only
 split
 ·exact fT hv0 hv5 (c:=c) (d:={ c with left:=c.left - 1 }) (q c.drawn _) rfl 1
 ·split
  ·have J:Inv { c with left:=3 }:=⟨I.i0,I.i1,I.h,I.role,I.l0,I.l1,I.s0,I.s1,I.d0,I.d1,by show (1:Int)≤3;decide,by show (3:Int)≤20;decide,I.v0,I.v1,I.pl,fun hr p hp=>(I.pr hr p hp).of (by rfl),I.tm,I.w⟩
   exact ((fT hv0 hv5 (c:=c) (d:={ c with left:=3 }) (q c.drawn _) rfl 0).trans (xF hv0 hv5 J 1)).mono (by omega)
  ·have J:Inv { c with drawn:=dH cV,left:=dH cV }:=⟨I.i0,I.i1,I.h,I.role,I.l0,I.l1,I.s0,I.s1,d0,d1,by show 1≤dH cV;omega,d1,I.v0,I.v1,I.pl,fun hr p hp=>(I.pr hr p hp).of (by rfl),I.tm,I.w⟩
   have s:=fT hv0 hv5 (c:=c) (d:={ c with drawn:=dH cV,left:=dH cV }) (q _ _) rfl 0
   split
   ·rename_i h
    exact (s.trans (aK5 hv0 hv5 J h.1)).mono (by omega)
   ·exact s.mono (by omega)
end
end
section
def GoesL (m:Letter) (v:Int) (c d:Core) (k:Nat):Prop:=∀ G cs B,GW G (eI cs v c) B→LetOK G m→∃ G',Le G G'∧GW G' (eI cs v d) (B+k)
theorem Goes.l {m:Letter} {v:Int} {c d:Core} {k:Nat} (h:Goes v c d k):GoesL m v c d k:=fun G cs B W _=>h G cs B W
theorem GoesL.trans {m:Letter} {v:Int} {c d e:Core} {k j:Nat} (h:GoesL m v c d k) (g:GoesL m v d e j):GoesL m v c e (k+j):=by
 intro G cs B W o
 obtain ⟨G1,l1,W1⟩:=h G cs B W o
 obtain ⟨G2,l2,W2⟩:=g G1 cs _ W1 (o.up l1)
 exact ⟨G2,l1.trans l2,by rw [Nat.add_assoc] at W2;exact W2⟩
theorem GoesL.mono {m:Letter} {v:Int} {c d:Core} {k j:Nat} (h:GoesL m v c d k) (hk:k≤j):GoesL m v c d j:=fun G cs B W o=>by
 obtain ⟨G1,l1,W1⟩:=h G cs B W o
 exact ⟨G1,l1,W1.mono (by omega)⟩
theorem aQ1:∀ a:Nat,a<128→∀ b:Nat,b<7→∀ f:Nat,f<7→bJ (nQ (a:Int) (b:Int)) (f:Int)=true→f=b∨bJ (a:Int) (f:Int)=true:=by decide +kernel
theorem aSd {m k f:Int} (h0:0≤m) (h1:m≤127) (k0:0≤k) (k1:k<7) (h:bJ (nQ m k) f=true):f=k∨bJ m f=true:=by
 obtain ⟨f0,f7⟩:=jN h
 have hm:m=(m.toNat:Int):=by omega
 have hk:k=(k.toNat:Int):=by omega
 have hf:f=(f.toNat:Int):=by omega
 have:=aQ1 m.toNat (by omega) k.toNat (by omega) f.toNat (by omega) (by rw [←hm,←hk,←hf];exact h)
 rw [←hm,←hf] at this
 rcases this with h | h
 ·left;omega
 ·exact .inr h
section
variable {v:Int} {c:Core} {m:Letter} (hv0:0≤v) (hv5:v<5)
include hv0 hv5
theorem uK {x:Letter} (to:0≤x.to) (h1:x.kind≠1) (h2:x.kind≠2∨x.yes=false) (h3:x.kind≠3) (h4:x.kind≠4∨x.yes=false) (h5:x.kind≠5) (k:Nat):Goes v c (c.post x) k:=
 mU hv0 hv5 (fun G H V N=>aMy (by show 0≤c.id;rw [N.idv];exact hv0) (by show c.id<5;rw [N.idv];exact hv5) to h1 h2 h3 h4 h5) k
theorem aN2 (ok:Lok m) (k:Nat):Goes v c (c.late m) k:=by
 unfold Core.late
 split
 ·exact uK hv0 hv5 ok.f0 (by show (2:Int)≠1;decide) (.inr rfl) (by show (2:Int)≠3;decide) (.inr rfl) (by show (2:Int)≠5;decide) k
 ·split
  ·exact uK hv0 hv5 ok.f0 (by show (4:Int)≠1;decide) (.inr rfl) (by show (4:Int)≠3;decide) (.inr rfl) (by show (4:Int)≠5;decide) k
  ·exact Goes.refl v c k
theorem aK6 (I:Inv c) (ok:Lok m) (hk:m.kind=1) (ht:m.term=c.h.term) (k:Nat):GoesL m v c (c.asked m) k:=by
 have hlb:c.h.base≤c.last:=by unfold Core.last bI;omega
 unfold Core.asked
 simp only
 generalize hY:((decide (c.h.vote=-1)||decide (c.h.vote=m.from'))&&(decide (c.term c.last<m.at')||(decide (m.at'=c.term c.last)&&decide (c.last≤m.index))))=Y
 cases Y with
 | true=>
  have hy:=hY
  simp only [Bool.and_eq_true,Bool.or_eq_true,decide_eq_true_eq] at hy
  rw [if_pos rfl]
  obtain ⟨hy1,hy2⟩:=hy
  have s1:GoesL m v c { c with h:={ c.h with vote:=m.from' },left:=c.drawn } 0:=by
   intro G cs B W o
   obtain ⟨N,_⟩:=W.at hv0 hv5
   have hlen:=N.len I
   by_cases e:c.h.vote=-1
   ·have hn:=N.vote e
    obtain ⟨lg,a1,a2,a3⟩:=o.ask hk
    rw [ht] at a1
    have htl:=N.term I hlb (Int.le_refl _)
    have up:aFf (G.full v) lg:=by
     have e1:c.last.toNat=(G.full v).length:=by omega
     rw [e1] at htl
     unfold aFf
     rw [←a3,←htl]
     rcases hy2 with h | h
     ·exact .inl h
     ·exact .inr ⟨h.1.symm,by omega⟩
    have va:(G.voted v c.h.term m.from' (G.full v)).vt v c.h.term=some (m.from',G.full v):=if_pos ⟨rfl,rfl⟩
    have vb:∀ u U,(G.voted v c.h.term m.from' (G.full v)).vt u U=if u=v∧U=c.h.term then some (m.from',G.full v) else G.vt u U:=fun _ _=>rfl
    have:=W.vote hv0 hv5 (U:=c.h.term) (k:=m.from') (d:={ c with h:={ c.h with vote:=m.from' },left:=c.drawn }) hn (Int.le_refl _) (.inr ⟨lg,a1,up⟩)
     ⟨N.idv,N.bl,N.log,N.bt,N.mem,N.mono,N.low,N.fits,N.sure.up (aBc hn) (Int.le_refl _),N.acks,fun h=>by have h':m.from'=-1:=h;have:=ok.f0;omega,fun _=>⟨_,va⟩,fun U hU=>by
       rw [vb,if_neg (by rintro ⟨_,rfl⟩;exact Int.lt_irrefl _ hU)];exact N.late U hU,N.lead,N.mtch,fun r=>?_,fun r=>?_⟩ rfl
    ·exact ⟨_,this.2,this.1⟩
    ·have:=(N.cand r).1;rw [hn] at this;cases this
    ·have:=(N.cand r).1;rw [hn] at this;cases this
   ·have e2:c.h.vote=m.from':=by
     rcases hy1 with h | h
     ·exact absurd h e
     ·exact h
    exact fT hv0 hv5 (c:=c) (d:={ c with h:={ c.h with vote:=m.from' },left:=c.drawn }) ⟨rfl,rfl,e2.symm,rfl,rfl,rfl,rfl,rfl,.inl rfl,rfl,fun _ _ _=>Nat.le_refl _⟩ rfl 0 G cs B W
  have s2:Goes v { c with h:={ c.h with vote:=m.from' },left:=c.drawn } (Core.post { c with h:={ c.h with vote:=m.from' },left:=c.drawn } { Letter.zero with kind:=2,to:=m.from',yes:=true }) k:=by
   refine mU hv0 hv5 (fun G H V N=>?_) k
   have hid:c.id=v:=N.idv
   obtain ⟨lg,h1⟩:=N.vote2 (by show m.from'≠-1;have:=ok.f0;omega)
   obtain ⟨_,_,⟨lc,h2,h3⟩,_⟩:=V _ _ _ _ h1
   exact ⟨by show 0≤c.id;omega,by show c.id<5;omega,ok.f0,fun h=>(by cases h),fun _ _=>⟨lg,lc,by show G.vt c.id c.h.term=_;rw [hid];exact h1,h2,h3⟩,fun h=>(by cases h),fun h=>(by cases h),fun h=>(by cases h)⟩
  exact (s1.trans s2.l).mono (j:=k) (by omega)
 | false=>
  rw [if_neg (by decide)]
  exact (uK hv0 hv5 ok.f0 (by show (2:Int)≠1;decide) (.inr rfl) (by show (2:Int)≠3;decide) (.inr rfl) (by show (2:Int)≠5;decide) k).l
theorem aK7 (I:Inv c) (ok:Lok m) (hk:m.kind=2) (ht:m.term=c.h.term) (hto:m.to=c.id):GoesL m v c (c.voted m) 1:=by
 unfold Core.voted
 split
 ·exact (Goes.refl v c 1).l
 ·rename_i hc
  have hr:c.role=2:=by
   by_cases e:c.role=2
   ·exact e
   ·exact absurd (.inl e) hc
  have hy:m.yes=true:=by
   cases e:m.yes with
   | true=>rfl
   | false=>exact absurd (.inr e) hc
  obtain ⟨a0,a1⟩:=sL I.v0 I.v1 ok.f0 (by have:=ok.f1;omega)
  have J:Inv { c with votes:=nQ c.votes m.from' }:=⟨I.i0,I.i1,I.h,I.role,I.l0,I.l1,I.s0,I.s1,I.d0,I.d1,I.f0,I.f1,a0,a1,I.pl,fun hr p hp=>(I.pr hr p hp).of (by rfl),I.tm,I.w⟩
  have s1:GoesL m v c { c with votes:=nQ c.votes m.from' } 0:=by
   intro G cs B W o
   obtain ⟨N,oo⟩:=W.at hv0 hv5
   refine ⟨G,Le.refl G,W.plain hv0 hv5 ⟨N.idv,N.bl,N.log,N.bt,N.mem,N.mono,N.low,N.fits,N.sure,N.acks,N.vote,N.vote2,N.late,N.lead,N.mtch,N.cand,fun r f hf=>?_⟩ oo⟩
   rcases aSd I.v0 I.v1 ok.f0 (by have:=ok.f1;omega) hf with h | h
   ·obtain ⟨lg,lc,b1,b2,b3⟩:=o.vote hk hy
    rw [ht,hto,N.idv] at b1 b2
    rw [(N.cand hr).1] at b2
    cases b2
    rw [h]
    exact ⟨lg,b1,b3⟩
   ·exact N.vots r f h
  simp only
  split
  ·rename_i hm
   exact (s1.trans (aDe hv0 hv5 J hr hm).l).mono (by omega)
  ·exact s1.mono (by omega)
theorem aDf (I:Inv c) {f:Int} (p:Peer) (f0:0≤f) (f7:f<7) (h:p.mtch=(c.peer f).mtch):Goes v c (c.setPeer f p) 0:=
 gP hv0 hv5 (d:=c.setPeer f p) (fun G H V N o=>⟨N.peers I.pl f0 fun r=>by rw [h];exact N.mtch r _ f0 f7,o⟩) 0
theorem aK8 (I:Inv c) (ok:Lok m) (hk:m.kind=4) (ht:m.term=c.h.term) (k:Nat):GoesL m v c (c.acked m) k:=by
 unfold Core.acked
 split
 ·exact (Goes.refl v c k).l
 ·rename_i hc
  have hr:c.role=3:=by
   by_cases e:c.role=3
   ·exact e
   ·exact absurd (.inl e) hc
  have hl:m.index≤c.last:=by
   by_cases e:c.last<m.index
   ·exact absurd (.inr e) hc
   ·omega
  have f7:m.from'<7:=by have:=ok.f1;omega
  have hp:=I.pr hr _ (lH I ok.f0 f7)
  have i0:=ok.i0
  simp only
  split
  ·have J:Inv (c.setPeer m.from' { c.peer m.from' with next:=max (min ((c.peer m.from').next - 1) (m.index+1)) ((c.peer m.from').mtch+1) }):=I.setPeer fun _=>
    ⟨hp.a0,hp.a1,by have:=hp.a0;show 1≤max _ _;omega,by have:=hp.a1;have:=hp.n1;show max _ _≤c.last+1;omega,hp.o0,hp.o1⟩
   have s1:Goes v c (c.setPeer m.from' { c.peer m.from' with next:=max (min ((c.peer m.from').next - 1) (m.index+1)) ((c.peer m.from').mtch+1) }) 0:=
    aDf hv0 hv5 I _ ok.f0 f7 rfl
   exact ((s1.trans (qP hv0 hv5 J hr ok.f0 f7 k)).mono (by omega)).l
  ·rename_i hy
   split
   ·exact (Goes.refl v c k).l
   ·have J:Inv (c.setPeer m.from' ⟨m.index+1,m.index,0⟩):=I.setPeer fun _=>⟨i0,hl,by show 1≤m.index+1;omega,by show m.index+1≤c.last+1;omega,Int.le_refl _,.inr rfl⟩
    have s1:GoesL m v c (c.setPeer m.from' ⟨m.index+1,m.index,0⟩) 0:=by
     intro G cs B W o
     obtain ⟨N,oo⟩:=W.at hv0 hv5
     refine ⟨G,Le.refl G,W.plain hv0 hv5 (N.peers I.pl ok.f0 fun r=>?_) oo⟩
     have:=o.ack hk (by simpa using hy)
     rw [ht] at this
     exact this
    have s2:=aDd hv0 hv5 J hr 0
    split
    ·rename_i h
     exact ((s1.trans s2.l).trans (qP hv0 hv5 J.look.1 h.1 ok.f0 f7 k).l).mono (by omega)
    ·exact (s1.trans s2.l).mono (by omega)
theorem aN3 (I:Inv c) (ok:Lok m) (hk:m.kind=6) (k:Nat):Goes v c (c.more m) k:=by
 unfold Core.more
 simp only
 split
 ·exact Goes.refl v c k
 ·rename_i hc
  have hr:c.role=3:=by
   by_cases e:c.role=3
   ·exact e
   ·exact absurd (.inl e) hc
  have ho:m.off<c.h.snap.length:=by
   by_cases e:(c.h.snap.length:Int)≤m.off
   ·exact absurd (.inr (.inr (.inr (.inl e)))) hc
   ·omega
  have f7:m.from'<7:=by have:=ok.f1;omega
  have hp:=I.pr hr _ (lH I ok.f0 f7)
  have J:Inv (c.setPeer m.from' { c.peer m.from' with off:=m.off }):=I.setPeer fun _=>⟨hp.a0,hp.a1,hp.n0,hp.n1,(ok.k6 hk).2.1,.inl ho⟩
  have s1:Goes v c (c.setPeer m.from' { c.peer m.from' with off:=m.off }) 0:=aDf hv0 hv5 I _ ok.f0 f7 rfl
  exact (s1.trans (qP hv0 hv5 J hr ok.f0 f7 k)).mono (by omega)
end
end
section
theorem uL {G:Gho} (H:GH G) {T T0:Int} {n m s:Nat} (hT:G.el T≠none) (c:Cert G T0 n m) (h:T0≤T) (hs:s≤n):s≤(G.LL T).length∧(G.LL T).take s=(G.LL T0).take s:=by
 have hn:=Nat.le_trans c.nm c.ml
 rcases Int.lt_or_eq_of_le h with h | h
 ·obtain ⟨p1,p2⟩:=(fC hn).1 ((uH H T hT T0 n m h c).trans (yK T))
  exact ⟨by omega,dZ p2 hs⟩
 ·rw [←h];exact ⟨by omega,rfl⟩
theorem wG {G:Gho} (H:GH G) {T:Int} {l:eD} {s:Nat} (hT:G.el T≠none) (h:Sure G T l s):s≤(G.LL T).length∧(G.LL T).take s=l.take s:=by
 rcases h.2 with h | ⟨T0,n,m,c,a,b,e⟩
 ·rw [h];exact ⟨Nat.zero_le _,rfl⟩
 ·rw [e];exact uL H hT c a b
theorem aQ2 {G:Gho} (H:GH G) {T:Int} (hT:G.el T≠none):∀ y∈G.LL T,y.term≤T:=by
 intro y hy
 obtain ⟨x,hx⟩:=nX hT
 obtain ⟨i,hi⟩:=List.mem_iff_getElem?.1 hy
 have:=H.own T x hx i y hi
 rcases Nat.lt_or_ge i x.e with h | h
 ·have:=this.2 h;omega
 ·have:=this.1 h;omega
def aK9 (L:eD) (to:Nat) (l l':eD):Prop:=l'=l∨l'=L.take to∧∃ n0,n0≤to∧¬ L.take n0 <+: l
theorem aN4 {G:Gho} (H:GH G) {T:Int} {l l':eD} {s to:Nat} (hT:G.el T≠none) (S:Sure G T l s) (o:aK9 (G.LL T) to l l'):Sure G T l' s:=by
 rcases o with rfl | ⟨rfl,n0,h1,h2⟩
 ·exact S
 ·obtain ⟨a,b⟩:=wG H hT S
  have hs:s<n0:=by
   apply Classical.byContradiction
   intro hc
   refine h2 ?_
   have hp:(G.LL T).take n0 <+: (G.LL T).take s:=List.take_prefix_take_left (by omega)
   rw [b] at hp
   exact hp.trans (List.take_prefix _ _)
  refine ⟨by rw [List.length_take];omega,S.2.imp id fun ⟨T0,n,m,c,d,e,f⟩=>⟨T0,n,m,c,d,e,?_⟩⟩
  rw [List.take_take,Nat.min_eq_left (by omega),b];exact f
theorem aN5 {G:Gho} (H:GH G) {v T:Int} {l l':eD} {to:Nat} (hT:G.el T≠none) (A:aW2 G v T l) (o:aK9 (G.LL T) to l l'):aW2 G v T l':=by
 intro U n h1 h2
 obtain ⟨a,b⟩:=A U n h1 h2
 refine ⟨a,?_⟩
 rcases b with b | b
 ·rcases o with rfl | ⟨rfl,n0,k1,k2⟩
  ·exact .inl b
  ·by_cases hp:(G.LL U).take n <+: G.LL T
   ·left
    have hl:=(H.acks v U (by omega)).2
    have hn:n<n0:=by
     apply Classical.byContradiction
     intro hc
     refine k2 ?_
     have e:=uG hp
     have hlen:((G.LL U).take n).length=n:=by rw [List.length_take];omega
     rw [hlen] at e
     rw [←e] at b
     exact (List.take_prefix_take_left (by omega)).trans b
    obtain ⟨p1,p2⟩:=(fC (by omega)).1 hp
    rw [←p2]
    exact List.take_prefix_take_left (by omega)
   ·right
    have hne:U≠T:=fun e=>hp (by rw [e];exact List.take_prefix _ _)
    exact ⟨T,by omega,Int.le_refl _,hT,fun h=>hp (h.trans (yK T))⟩
 ·exact .inr b
theorem aN6 {G:Gho} (H:GH G) {T:Int} {l l':eD} {to:Nat} (hT:G.el T≠none) (o:aK9 (G.LL T) to l l') (m:Mono l) (f:Fits G l) (lo:∀ x∈l,x.term≤T) {B:Nat} (b1:l.length≤B) (b2:(G.LL T).length≤B):
  Mono l'∧Fits G l'∧(∀ x∈l',x.term≤T)∧l'.length≤B:=by
 rcases o with rfl | ⟨rfl,_⟩
 ·exact ⟨m,f,lo,b1⟩
 ·exact ⟨(H.mono T).take _,(H.fits T).pre (List.take_prefix _ _),fun x hx=>aQ2 H hT x (List.mem_of_mem_take hx),by rw [List.length_take];omega⟩
section
variable {G:Gho} {cs:Int→Core} {B:Nat} {v:Int} {c d:Core} (hv0:0≤v) (hv5:v<5) (W:GW G (eI cs v c) B)
include hv0 hv5 W
theorem GW.over {l':eD} {to:Nat} (hT:G.el c.h.term≠none) (o:aK9 (G.LL c.h.term) to (G.full v) l') (hid:d.id=c.id) (ht:d.h.term=c.h.term) (hvt:d.h.vote=c.h.vote) (hr:d.role=1) (ho:d.out=c.out)
  (bl:d.h.base.toNat≤l'.length) (log:d.h.log=l'.drop d.h.base.toNat) (bt:d.h.baseTerm=cU l' d.h.base.toNat) (mem:d.h.members=lN G.m0 (l'.take d.h.base.toNat)) (su:Sure G c.h.term l' d.sure.toNat):
  GW (G.setFull v l') (eI cs v d) B∧Le G (G.setFull v l'):=by
 obtain ⟨N,oo⟩:=W.at hv0 hv5
 obtain ⟨o1,o2,o3,o4⟩:=aN6 W.H hT o N.mono N.fits N.low (W.bf v hv0 hv5) (W.b _)
 have A:=aN5 W.H hT N.acks o
 have le:Le G (G.setFull v l'):=⟨rfl,fun _ _ h=>h,fun _=>List.prefix_refl _,fun _ _=>Nat.le_refl _,fun _ _ _ h=>h⟩
 have fa:(G.setFull v l').full v=l':=if_pos rfl
 have fb:∀ u,u≠v→(G.setFull v l').full u=G.full u:=fun u h=>if_neg h
 have H':GH (G.setFull v l'):=aQ0 W.H le rfl rfl (fun u T h=>W.H.acks u T h) (fun _ _ _ _ _ _ _ _ _ h=>h)
 have V':Vts (G.setFull v l'):=fun u U k lg hu=>aBd W.H le W.V hu fun _ _ _ _ h=>h
 have N':Nod (G.setFull v l') v d:=by
  refine ⟨hid.trans N.idv,by rw [fa];exact bl,by rw [fa];exact log,by rw [fa];exact bt,by rw [fa];exact mem,by rw [fa];exact o1,by rw [fa,ht];exact o3,by rw [fa];exact o2.up le,by rw [fa,ht];exact su.up le (Int.le_refl _),?_,by rw [ht,hvt];exact N.vote,by rw [ht,hvt];exact N.vote2,by rw [ht];exact N.late,
   fun r=>absurd r (by rw [hr];decide),fun r=>absurd r (by rw [hr];decide),fun r=>absurd r (by rw [hr];decide),fun r=>absurd r (by rw [hr];decide)⟩
  rw [fa,ht];exact A
 have:=W.step (v:=v) (d:=d) le (Nat.le_refl _) (fun u hu=>⟨fb u hu,fun _=>rfl,fun _=>rfl⟩) (fun T x hx=>.inl hx) (fun T x _ _=>rfl) H' V' W.b (by rw [fa];exact o4) N' (fun m hm=>(oo m (by rw [←ho];exact hm)).up le)
 rw [hM] at this
 exact ⟨this,le⟩
end
theorem GW.yes {G:Gho} {cs:Int→Core} {B:Nat} {v:Int} {c:Core} (hv0:0≤v) (hv5:v<5) (W:GW G (eI cs v c) B) {n f:Int} (f0:0≤f) (h1:G.el c.h.term≠none) (h2:n.toNat≤(G.LL c.h.term).length) (h3:(G.LL c.h.term).take n.toNat <+: G.full v):
  ∃ G',Le G G'∧GW G' (eI cs v (c.post { Letter.zero with kind:=4,to:=f,yes:=true,index:=n })) B:=by
 have W1:=W.raise hv0 hv5 h1 h2 h3
 obtain ⟨N1,o1⟩:=W1.at hv0 hv5
 have hid:c.id=v:=N1.idv
 refine ⟨_,aBb G v c.h.term n.toNat,W1.plain hv0 hv5 (N1.quiet (Quiet.post c _)) fun x hx=>?_⟩
 unfold Core.post at hx
 rcases List.mem_append.1 hx with hx | hx
 ·exact o1 x hx
 ·rw [List.mem_singleton.1 hx]
  refine ⟨by show 0≤c.id;omega,by show c.id<5;omega,f0,fun h=>(by cases h),fun h=>(by cases h),fun h=>(by cases h),fun _ _=>?_,fun h=>(by cases h)⟩
  show n.toNat≤(G.raise v c.h.term n.toNat).ack c.id c.h.term
  rw [hid]
  exact aHx G v c.h.term n.toNat
theorem aBe {h:Hard} {l:eD} {b:Nat} (h1:h.base=(b:Int)) (h2:h.log=l.drop b) (h3:h.baseTerm=cU l b) {n:Nat} (hb:b≤n):termH h (n:Int)=cU l n:=by
 unfold termH
 split
 ·rename_i e
  have:n=b:=by omega
  rw [this];exact h3
 ·rename_i e
  rw [h2,List.getElem?_drop]
  have hn:n=(b+((n:Int) - h.base - 1).toNat)+1:=by omega
  conv=>rhs;rw [hn]
  rfl
theorem sR {G:Gho} {L:eD} (hL:Fits G L) (b:Nat):∀ (es:eD) (i:Nat) (h:Hard) (l:eD),h.base=(b:Int)→b≤l.length→h.log=l.drop b→h.baseTerm=cU l b→Fits G l→es <+: L.drop i→L.take i <+: l→i≤L.length→(∀ n,n≤b→n≤L.length→L.take n <+: l)→
  ∃ l' to,dS es ((i:Int)+1) h (i:Int)=({ h with log:=l'.drop b },((to:Nat):Int))∧b≤l'.length∧l'.take b=l.take b∧i≤to∧to≤L.length∧L.take to <+: l'∧aK9 L to l l'
 | [],i,h,l,h1,h2,h3,h4,h5,h6,h7,h8,h9=>by
  refine ⟨l,i,?_,h2,rfl,Nat.le_refl _,h8,h7,.inl rfl⟩
  unfold dS
  rw [←h3]
 | x::es,i,h,l,h1,h2,h3,h4,h5,h6,h7,h8,h9=>by
  have hx:L[i]?=some x:=by
   have:=h6.getElem (i:=0) (by simp)
   obtain ⟨t,ht⟩:=h6
   have h0:(L.drop i)[0]?=some x:=by rw [←ht];rfl
   rw [List.getElem?_drop] at h0
   simpa using h0
  have hes:es <+: L.drop (i+1):=by
   obtain ⟨t,ht⟩:=h6
   refine ⟨t,?_⟩
   have:=congrArg List.tail ht
   simpa [List.tail_drop] using this
  have hi:i+1≤L.length:=(List.getElem?_eq_some_iff.1 hx).1
  have hLx:cU L (i+1)=x.term:=aHu hx
  have hll:bI h=(l.length:Int):=by
   unfold bI;rw [h1,h3,List.length_drop];omega
  have e1:((i:Int)+1)=((i+1:Nat):Int):=by omega
  have hp7:=(fC h8).1 h7
  unfold dS
  split
  ·rename_i hc
   obtain ⟨c1,c2⟩:=hc
   have hbi:b≤i:=by omega
   have hno:¬ L.take (i+1) <+: l:=by
    intro hp
    obtain ⟨p1,p2⟩:=(fC hi).1 hp
    rcases c2 with c2 | c2
    ·omega
    ·refine c2 ?_
     rw [e1,aBe h1 h3 h4 (by omega),←hLx,←cE (l:=l) (Nat.le_refl _),p2,cE (Nat.le_refl _)]
   split
   ·refine ⟨l,i,?_,h2,rfl,Nat.le_refl _,h8,h7,.inl rfl⟩
    rw [←h3]
   ·have hT:L.take (i+1)=L.take i++[x]:=by
     rw [List.take_add_one,hx];rfl
    have hlog:h.log.take (((i:Int)+1) - h.base - 1).toNat++[x]=(L.take (i+1)).drop b:=by
     have e2:(((i:Int)+1) - h.base - 1).toNat=i - b:=by omega
     rw [e2,hT,List.drop_append_of_le_length (by rw [List.length_take];omega),←hp7.2,List.drop_take,h3]
    have hlen:(L.take (i+1)).length=i+1:=by rw [List.length_take];omega
    have tb:cU (L.take (i+1)) b=cU l b:=by
     rw [cE (by omega),←cE (l:=L) hbi,←hp7.2,cE hbi]
    obtain ⟨l',to,k1,k2,k3,k4,k5,k6,k7⟩:=sR hL b es (i+1) { h with log:=h.log.take (((i:Int)+1) - h.base - 1).toNat++[x] } (L.take (i+1)) h1 (by omega) hlog (by rw [tb];exact h4) (hL.pre (List.take_prefix _ _)) hes (List.prefix_refl _) hi
     (fun n n1 n2=>List.take_prefix_take_left (by omega))
    refine ⟨l',to,?_,k2,?_,by omega,k5,k6,.inr ⟨?_,i+1,k4,hno⟩⟩
    ·rw [e1] at k1 ⊢
     exact k1
    ·rw [k3,List.take_take,Nat.min_eq_left (by omega)]
     have:=dZ hp7.2 hbi
     exact this.symm
    ·rcases k7 with k7 | ⟨k7,_⟩
     ·have h1:=k6.length_le
      rw [k7,hlen,List.length_take] at h1
      have:to=i+1:=by omega
      rw [this];exact k7
     ·exact k7
  ·rename_i hc
   have hp:L.take (i+1) <+: l:=by
    rcases Nat.lt_or_ge b (i+1) with hb | hb
    ·have c1:¬ (bI h<(i:Int)+1∨termH h ((i:Int)+1)≠x.term):=fun q=>hc ⟨by omega,q⟩
     have c2:i+1≤l.length:=by
      apply Classical.byContradiction
      intro q
      exact c1 (.inl (by omega))
     have c3:termH h ((i:Int)+1)=x.term:=by
      apply Classical.byContradiction
      intro q
      exact c1 (.inr q)
     rw [e1,aBe h1 h3 h4 (by omega)] at c3
     exact (fC hi).2 ⟨c2,h5.same hL c2 hi (by rw [c3,hLx])⟩
    ·exact h9 _ hb hi
   obtain ⟨l',to,k1,k2,k3,k4,k5,k6,k7⟩:=sR hL b es (i+1) h l h1 h2 h3 h4 h5 hes hp hi h9
   exact ⟨l',to,by rw [e1];exact k1,k2,k3,by omega,k5,k6,k7⟩
section
variable {v:Int} {c:Core} {m:Letter} (hv0:0≤v) (hv5:v<5)
include hv0 hv5
theorem aDg (f:Int):Goes v c (c.hear f) 0:=fT hv0 hv5 (c:=c) (d:=c.hear f) ⟨rfl,rfl,rfl,rfl,rfl,rfl,rfl,rfl,.inr rfl,rfl,fun _ _ _=>Nat.le_refl _⟩ rfl 0
theorem aC7 (I:Inv c) (ok:Lok m) (hk:m.kind=3) (ht:m.term=c.h.term):GoesL m v c (c.appended m) 0:=by
 unfold Core.appended
 split
 ·exact (Goes.refl v c 0).l
 split
 ·exact (Goes.refl v c 0).l
 have s0:=aDg (c:=c) hv0 hv5 m.from'
 have J:=(I.hear ok.f0 ok.f1).1
 have no:∀ n,Goes v (c.hear m.from') ((c.hear m.from').post { Letter.zero with kind:=4,to:=m.from',index:=n }) 0:=fun n=>
  uK hv0 hv5 ok.f0 (by show (4:Int)≠1;decide) (.inr rfl) (by show (4:Int)≠3;decide) (.inr rfl) (by show (4:Int)≠5;decide) 0
 simp only
 split
 ·exact (s0.trans (no _)).l
 rename_i hl
 split
 ·exact (s0.trans (no _)).l
 rename_i hm
 have hb0:=I.h.b0
 have hs0:=I.s0
 have i0:=ok.i0
 have ht':m.term=(c.hear m.from').h.term:=ht
 have key:∀ G cs B,GW G (eI cs v (c.hear m.from')) B→LetOK G m→∃ l' to,dS m.entries (m.index+1) (c.hear m.from').h m.index=({ c.h with log:=l'.drop c.h.base.toNat },((to:Nat):Int))∧c.h.base.toNat≤l'.length∧l'.take c.h.base.toNat=(G.full v).take c.h.base.toNat ∧
   to≤(G.LL c.h.term).length∧(G.LL c.h.term).take to <+: l'∧aK9 (G.LL c.h.term) to (G.full v) l':=by
  intro G cs B W o
  obtain ⟨N,_⟩:=W.at hv0 hv5
  obtain ⟨a1,a2,a3,a4,a5,a6⟩:=o.app hk
  rw [ht] at a1 a3 a4 a5 a6
  have hlen:=N.len J
  have hl':m.index≤((G.full v).length:Int):=by
   have hl2:¬ (c.hear m.from').last<m.index:=hl
   omega
  have st:c.sure.toNat≤(G.LL c.h.term).length∧(G.LL c.h.term).take c.sure.toNat=(G.full v).take c.sure.toNat:=wG W.H a1 N.sure
  have hsb:c.h.base.toNat≤c.sure.toNat:=by omega
  have pb:∀ n,n≤c.sure.toNat→(G.LL c.h.term).take n <+: G.full v:=by
   intro n hn
   have:(G.LL c.h.term).take c.sure.toNat <+: G.full v:=by
    rw [st.2];exact List.take_prefix _ _
   exact (List.take_prefix_take_left hn).trans this
  have pi:(G.LL c.h.term).take m.index.toNat <+: G.full v:=by
   rcases Int.lt_or_le m.index c.h.base with h | h
   ·exact pb _ (by omega)
   ·have e:(c.hear m.from').term m.index=m.at':=by
     apply Classical.byContradiction
     intro q
     exact hm ⟨h,q⟩
    rw [N.term J h (by omega),a4] at e
    refine (fC a3).2 ⟨by omega,?_⟩
    exact N.fits.same (W.H.fits _) (by omega) a3 e
  obtain ⟨l',to,k1,k2,k3,k4,k5,k6,k7⟩:=sR (W.H.fits c.h.term) c.h.base.toNat m.entries m.index.toNat c.h (G.full v) (by omega) N.bl N.log N.bt N.fits a5 pi a3 (fun n n1 _=>pb n (by omega))
  refine ⟨l',to,?_,k2,k3,k5,k6,k7⟩
  have e:((m.index.toNat:Nat):Int)=m.index:=by omega
  rw [e] at k1
  exact k1
 refine (s0.l.trans (j:=0) ?_)
 ·intro G cs B W o
  obtain ⟨N,_⟩:=W.at hv0 hv5
  obtain ⟨l',to,k1,k2,k3,k5,k6,k7⟩:=key G cs B W o
  obtain ⟨a1,_,_,_,_,a6⟩:=o.app hk
  rw [ht] at a1 a6
  have c0:=ok.c0
  rw [k1]
  simp only
  have S1:=aN4 W.H a1 N.sure k7
  have hS:Sure G c.h.term l' (max c.sure (min m.commit ((to:Nat):Int))).toNat:=by
   rcases Int.le_total (min m.commit ((to:Nat):Int)) c.sure with h | h
   ·rw [Int.max_eq_left h];exact S1
   ·rw [Int.max_eq_right h]
    obtain ⟨p1,p2⟩:=(fC k5).1 k6
    have hto:(min m.commit ((to:Nat):Int)).toNat≤to:=by omega
    refine ⟨by omega,?_⟩
    rcases a6 with a6 | ⟨T0,n,q,ct,b1,b2⟩
    ·left;omega
    ·right
     refine ⟨T0,n,q,ct,b1,by omega,?_⟩
     rw [dZ p2 hto]
     exact (uL W.H a1 ct b1 (by omega)).2
  obtain ⟨W2,le⟩:=W.over hv0 hv5 (d:={ c.hear m.from' with h:={ c.h with log:=l'.drop c.h.base.toNat },sure:=max c.sure (min m.commit ((to:Nat):Int)) }) a1 k7 rfl rfl rfl rfl rfl k2 rfl
   (by
    show c.h.baseTerm=_
    rw [←cE (l:=l') (Nat.le_refl _),k3,cE (Nat.le_refl _)];exact N.bt) (by
    show c.h.members=_
    rw [k3];exact N.mem) hS
  have fa:(G.setFull v l').full v=l':=if_pos rfl
  obtain ⟨G3,le3,W3⟩:=W2.yes hv0 hv5 (n:=((to:Nat):Int)) ok.f0 a1 k5 (by rw [fa];exact k6)
  exact ⟨G3,le.trans le3,W3⟩
end
end
section
theorem aDh:∀ (l:eD) (m:Int) (b:Nat),lN (lN m (l.take b)) (l.drop b)=lN m l
 | [],m,b=>by simp [lN]
 | x::l,m,0=>rfl
 | x::l,m,b+1=>by
  simp only [List.take_succ_cons,List.drop_succ_cons,aB4]
  exact aDh l _ b
section
variable {v:Int} {c:Core} {m:Letter} (hv0:0≤v) (hv5:v<5)
include hv0 hv5
theorem aKa (I:Inv c) (ok:Lok m) (hk:m.kind=5) (ht:m.term=c.h.term) (hs:c.sure<m.index) (hr:c.role=1) (snap:List UInt8):
  GoesL m v c ((c.taken m snap).post { Letter.zero with kind:=4,to:=m.from',yes:=true,index:=m.index }) 0:=by
 intro G cs B W o
 obtain ⟨N,_⟩:=W.at hv0 hv5
 obtain ⟨a1,a2,a3,a4,a5,a6⟩:=o.inst hk
 rw [ht] at a1 a3 a4 a5 a6
 have hb0:=I.h.b0
 have hs0:=I.s0
 have hlen:=N.len I
 have com:∀ l:eD,m.index.toNat≤l.length→l.take m.index.toNat=(G.LL c.h.term).take m.index.toNat→Sure G c.h.term l m.index.toNat:=by
  intro l h1 h2
  refine ⟨h1,?_⟩
  rcases a6 with a6 | ⟨T0,n,q,ct,b1,b2⟩
  ·exact .inl a6
  ·exact .inr ⟨T0,n,q,ct,b1,b2,by rw [h2];exact (uL W.H a1 ct b1 b2).2⟩
 have fin:∀ {l':eD} {rest:eD},rest=(if m.index≤c.last∧c.term m.index=m.at' then c.h.log.drop (m.index - c.h.base).toNat else [])→aK9 (G.LL c.h.term) m.index.toNat (G.full v) l'→m.index.toNat≤l'.length→rest=l'.drop m.index.toNat→l'.take m.index.toNat=(G.LL c.h.term).take m.index.toNat→
   ∃ G',Le G G'∧GW G' (eI cs v ((c.taken m snap).post { Letter.zero with kind:=4,to:=m.from',yes:=true,index:=m.index })) (B+0):=by
  intro l' rest hrest ov bl hd htk
  have e:c.taken m snap={ c with h:={ c.h with base:=m.index,baseTerm:=m.at',members:=m.members,snap:=snap,log:=rest },sure:=m.index,way:=none }:=by
   unfold Core.taken;simp only;rw [hrest]
  rw [e]
  obtain ⟨W2,le⟩:=W.over hv0 hv5 (d:={ c with h:={ c.h with base:=m.index,baseTerm:=m.at',members:=m.members,snap:=snap,log:=rest },sure:=m.index,way:=none }) a1 ov rfl rfl rfl hr rfl bl hd
   (by show m.at'=cU l' m.index.toNat;rw [a4,←cE (l:=l') (Nat.le_refl _),htk,cE (Nat.le_refl _)])
   (by show m.members=lN G.m0 (l'.take m.index.toNat);rw [htk];exact a5) (com l' bl htk)
  have fa:(G.setFull v l').full v=l':=if_pos rfl
  obtain ⟨G3,le3,W3⟩:=W2.yes hv0 hv5 (n:=m.index) ok.f0 a1 a3 (by rw [fa];exact (fC a3).2 ⟨bl,htk⟩)
  exact ⟨G3,le.trans le3,W3⟩
 by_cases hm:m.index≤c.last∧c.term m.index=m.at'
 ·obtain ⟨m1,m2⟩:=hm
  rw [N.term I (by omega) m1,a4] at m2
  have hl:m.index.toNat≤(G.full v).length:=by omega
  refine fin (l':=G.full v) (if_pos ⟨m1,by rw [N.term I (by omega) m1,a4];exact m2⟩).symm (.inl rfl) hl ?_ (N.fits.same (W.H.fits _) hl a3 m2)
  rw [N.log,List.drop_drop]
  congr 1
  omega
 ·refine fin (l':=(G.LL c.h.term).take m.index.toNat) (if_neg hm).symm (.inr ⟨rfl,m.index.toNat,Nat.le_refl _,fun hp=>?_⟩) (by rw [List.length_take];omega) ?_ (by rw [List.take_take,Nat.min_self])
  ·obtain ⟨p1,p2⟩:=(fC a3).1 hp
   refine hm ⟨by omega,?_⟩
   rw [N.term I (by omega) (by omega),a4,←cE (l:=G.full v) (Nat.le_refl _),p2,cE (Nat.le_refl _)]
  ·rw [List.drop_eq_nil_of_le (by rw [List.length_take];omega)]
theorem aBf (I:Inv c) (ok:Lok m) (hk:m.kind=5) (ht:m.term=c.h.term):GoesL m v c (c.installed m) 0:=by
 obtain ⟨k1,k2,k3,k4,k5,k6,k7,k8,k9,k10,k11⟩:=ok.k5 hk
 have no:∀ (d:Core) (n o:Int),Goes v d (d.post { Letter.zero with kind:=6,to:=m.from',index:=n,off:=o }) 0:=fun d n o=>
  uK hv0 hv5 ok.f0 (by show (6:Int)≠1;decide) (.inl (by show (6:Int)≠2;decide)) (by show (6:Int)≠3;decide) (.inl (by show (6:Int)≠4;decide)) (by show (6:Int)≠5;decide) 0
 unfold Core.installed
 split
 ·exact (Goes.refl v c 0).l
 have s0:=aDg (c:=c) hv0 hv5 m.from'
 have J:=(I.hear ok.f0 ok.f1).1
 simp only
 split
 ·rename_i hsu
  refine s0.l.trans (j:=0) fun G cs B W o=>?_
  obtain ⟨N,_⟩:=W.at hv0 hv5
  obtain ⟨a1,a2,a3,a4,a5,a6⟩:=o.inst hk
  rw [ht] at a1 a3
  have st:c.sure.toNat≤(G.LL c.h.term).length∧(G.LL c.h.term).take c.sure.toNat=(G.full v).take c.sure.toNat:=wG W.H a1 N.sure
  have hsu':m.index≤c.sure:=hsu
  have s1:c.sure.toNat≤(G.full v).length:=N.sure.1
  exact W.yes hv0 hv5 (n:=m.index) ok.f0 a1 a3 ((fC a3).2 ⟨by omega,(dZ st.2 (by omega)).symm⟩)
 ·rename_i hsu
  have hsu':c.sure<m.index:=by have:¬ m.index≤c.sure:=hsu;omega
  obtain ⟨c2,hc2,i2,q2,q3,q4,g2⟩:∃ c2,c2=(if m.off=0 then { c.hear m.from' with way:=some ⟨m.index,m.at',m.size,[]⟩ } else c.hear m.from')∧Inv c2∧c2.h=c.h∧c2.sure=c.sure∧c2.role=1∧Goes v c c2 0:=by
   refine ⟨_,rfl,?_⟩
   split
   ·exact ⟨J.way ⟨k5,k6,by show ((0:Nat):Int)≤m.size;omega⟩,rfl,rfl,rfl,s0.trans (fT hv0 hv5 (c:=c.hear m.from') (d:={ c.hear m.from' with way:=some ⟨m.index,m.at',m.size,[]⟩ }) ⟨rfl,rfl,rfl,rfl,rfl,rfl,rfl,rfl,.inl rfl,rfl,fun _ _ _=>Nat.le_refl _⟩ rfl 0)⟩
   ·exact ⟨J,rfl,rfl,rfl,s0⟩
  rw [←hc2]
  split
  ·exact (g2.trans (no _ _ _)).l
  ·rename_i w hw
   obtain ⟨w1,w2,w3⟩:=i2.w w hw
   split
   ·exact (g2.trans (no _ _ _)).l
   ·rename_i hne
    have qw:∀ w',Goes v c2 { c2 with way:=some w' } 0:=fun w'=>fT hv0 hv5 (c:=c2) (d:={ c2 with way:=some w' }) ⟨rfl,rfl,rfl,rfl,rfl,rfl,rfl,rfl,.inl rfl,rfl,fun _ _ _=>Nat.le_refl _⟩ rfl 0
    obtain ⟨wn,hwn,hw3⟩:∃ wn,wn=(if m.off=w.data.length then { w with data:=w.data++m.data } else w)∧(1≤wn.size∧wn.size≤65536∧(wn.data.length:Int)≤wn.size):=by
     refine ⟨_,rfl,?_⟩
     split
     ·rename_i ho
      refine ⟨w1,w2,?_⟩
      show ((w.data++m.data).length:Int)≤w.size
      rw [List.length_append]
      have hsz:w.size=m.size:=by
       apply Classical.byContradiction
       intro q
       exact hne (.inr (.inr q))
      omega
     ·exact ⟨w1,w2,w3⟩
    rw [←hwn]
    split
    ·exact ((g2.trans (qw wn)).trans (no _ _ _)).l
    ·have i3:Inv { c2 with way:=some wn }:=i2.way hw3
     exact (g2.trans (qw wn)).l.trans (aKa hv0 hv5 i3 ok hk (by rw [ht];show c.h.term=c2.h.term;rw [q2]) (by show c2.sure<_;rw [q3];exact hsu') q4 _)
theorem aN7 (I:Inv c):GoesL m v c (c.take m) 1:=by
 unfold Core.take
 split
 ·exact (Goes.refl v c 1).l
 ·rename_i hp
  have hr:eK m=true∧m.to=c.id:=by
   unfold Core.passed at hp
   refine ⟨?_,?_⟩
   ·cases hq:eK m with
    | true=>rfl
    | false=>rw [if_pos (.inl hq)] at hp;exact absurd rfl hp
   ·apply Classical.byContradiction
    intro hq
    rw [if_pos (.inr hq)] at hp;exact absurd rfl hp
  have ok:=vV hr.1
  obtain ⟨c1,hc1,i1,g1,q1,q2⟩:∃ c1,c1=(if c.h.term<m.term then { c with h:={ c.h with term:=m.term,vote:=-1 },role:=1,leads:=-1 } else c)∧Inv c1∧Goes v c c1 0∧(m.term≤c1.h.term)∧c1.id=c.id:=by
   refine ⟨_,rfl,?_⟩
   split
   ·rename_i hlt
    have ho:Hok { c.h with term:=m.term,vote:=-1 }:=⟨by have:=ok.tm0;show 0≤m.term;omega,ok.tm1,by show (-1:Int)≤-1;decide,by show (-1:Int)<7;decide,I.h.m0,I.h.m1,I.h.b0,I.h.b1,I.h.bt0,by have:=I.h.bt1;show c.h.baseTerm≤m.term;omega,I.h.btz,I.h.ll,I.h.li,jI (by show c.h.term≤m.term;omega) I.h.fl,I.h.sz,I.h.sl⟩
    refine ⟨⟨I.i0,I.i1,ho,.inl rfl,by show (-1:Int)≤-1;decide,by show (-1:Int)≤6;decide,I.s0,I.s1,I.d0,I.d1,I.f0,I.f1,I.v0,I.v1,I.pl,fun hr=>(by cases hr),fun hr=>absurd rfl hr,I.w⟩,?_,Int.le_refl _,rfl⟩
    refine gP hv0 hv5 (c:=c) (d:={ c with h:={ c.h with term:=m.term,vote:=-1 },role:=1,leads:=-1 }) (fun G H V N o=>⟨⟨N.idv,N.bl,N.log,N.bt,N.mem,N.mono,fun x hx=>by have:=N.low x hx;show x.term≤m.term;omega,N.fits,N.sure.up (Le.refl G) (by show c.h.term≤m.term;omega),fun T n h1 h2=>?_,fun _=>N.late _ hlt,fun h=>absurd rfl h,fun U hU=>N.late U (by have:m.term<U:=hU;omega),fun r=>(by cases r),fun r=>(by cases r),fun r=>(by cases r),fun r=>(by cases r)⟩,o⟩) 0
    obtain ⟨a,b⟩:=N.acks T n h1 h2
    exact ⟨by show T≤m.term;omega,b.imp id fun ⟨w,w1,w2,w3⟩=>⟨w,w1,by show w≤m.term;omega,w3⟩⟩
   ·rename_i hlt
    exact ⟨I,Goes.refl v c 0,by omega,rfl⟩
  simp only
  rw [←hc1]
  split
  ·exact (g1.trans (aN2 hv0 hv5 ok 1)).l
  ·rename_i hlt
   have hte:m.term=c1.h.term:=by omega
   split
   ·rename_i hk
    exact g1.l.trans (aK6 hv0 hv5 i1 ok hk hte 1)
   ·split
    ·rename_i hk
     exact g1.l.trans (aK7 hv0 hv5 i1 ok hk hte (by rw [q2];exact hr.2))
    ·split
     ·rename_i hk
      exact (g1.l.trans (aC7 hv0 hv5 i1 ok hk hte)).mono (by omega)
     ·split
      ·rename_i hk
       exact g1.l.trans (aK8 hv0 hv5 i1 ok hk hte 1)
      ·split
       ·rename_i hk
        exact (g1.l.trans (aBf hv0 hv5 i1 ok hk hte)).mono (by omega)
       ·split
        ·rename_i hk
         exact (g1.trans (aN3 hv0 hv5 i1 ok hk 1)).l
        ·exact (g1.mono (by omega)).l
theorem aFi (I:Inv c) (d:List UInt8):Goes v c (c.propose [d]).1 1:=by
 unfold Core.propose
 split
 ·exact Goes.refl v c 1
 ·rename_i hc
  split
  ·exact Goes.refl v c 1
  ·rename_i hd
   have hr:c.role=3:=by
    by_cases e:c.role=3
    ·exact e
    ·exact absurd (.inl e) hc
   have h120:¬ (120:Int) - c.h.log.length<([d].length:Nat):=fun e=>hc (.inr (.inr (.inl e)))
   have hix:¬ (1099511627776:Int) - c.last<([d].length:Nat):=fun e=>hc (.inr (.inr (.inr e)))
   simp only [List.length_singleton] at h120 hix
   have ht:=I.tm (by omega)
   have hdl:¬ 1100<d.length:=fun e=>hd (by simp [e])
   obtain ⟨J,_⟩:=I.pushes (r:=[⟨c.h.term,0,d⟩]) (fun x hx=>by
    rw [List.mem_singleton.1 hx]
    exact ⟨⟨ht,Int.le_refl _,Int.le_refl _,by show (0:Int)≤127;decide,by show d.length≤1100;omega,.inl rfl⟩,rfl⟩) (by simp;omega) (by simp;omega)
   have s1:Goes v c { c with h:={ c.h with log:=c.h.log++[⟨c.h.term,0,d⟩] } } 1:=fun G cs B W=>W.grow hv0 hv5 I hr (x:=⟨c.h.term,0,d⟩) rfl (fun h=>absurd rfl h) rfl
   exact (s1.trans (uJ hv0 hv5 J hr 0)).mono (by omega)
theorem aHy (I:Inv c) (members:Int):Goes v c (c.change members).1 1:=by
 unfold Core.change
 simp only
 split
 ·exact Goes.refl v c 1
 ·rename_i hc
  have hr:c.role=3:=by
   by_cases e:c.role=3
   ·exact e
   ·exact absurd (.inl e) hc
  have hm:lQ (ofM c.h).1 members=true:=by
   cases e:lQ (ofM c.h).1 members with
   | true=>rfl
   | false=>exact absurd (.inr (.inl e)) hc
  have hsu:¬ c.sure<(ofM c.h).2:=fun e=>hc (.inr (.inr (.inl e)))
  have hst:c.term c.sure=c.h.term:=by
   apply Classical.byContradiction
   intro e
   exact hc (.inr (.inr (.inr (.inl e))))
  have h120:¬ 120≤c.h.log.length:=fun e=>hc (.inr (.inr (.inr (.inr (.inl e)))))
  have hix:¬ 1099511627776≤c.last:=fun e=>hc (.inr (.inr (.inr (.inr (.inr e)))))
  have hm':=hm
  simp only [lQ,lE,Bool.and_eq_true,decide_eq_true_eq] at hm'
  have ht:=I.tm (by omega)
  have hb0:=I.h.b0
  have hs0:=I.s0
  have hs1:=I.s1
  obtain ⟨J,_⟩:=I.pushes (r:=[⟨c.h.term,members,[]⟩]) (fun x hx=>by
   rw [List.mem_singleton.1 hx]
   exact ⟨⟨ht,Int.le_refl _,by show 0≤members;omega,by show members≤127;omega,by show 0≤1100;decide,.inr rfl⟩,rfl⟩) (by simp;omega) (by simp;omega)
  have s1:Goes v c { c with h:={ c.h with log:=c.h.log++[⟨c.h.term,members,[]⟩] } } 1:=by
   intro G cs B W
   obtain ⟨N,_⟩:=W.at hv0 hv5
   obtain ⟨⟨y,hy,_⟩,hL⟩:=N.lead hr
   have hne:G.el c.h.term≠none:=by rw [hy];exact Option.some_ne_none y
   refine W.grow hv0 hv5 I hr (x:=⟨c.h.term,members,[]⟩) rfl (fun _=>?_) rfl
   obtain ⟨o1,o2⟩:=N.ofM I
   have htm:=N.term I hs0 hs1
   rw [hst] at htm
   rcases N.sure.2 with h | ⟨T0,n,q,ct,b1,b2,b3⟩
   ·rw [h] at htm
    have:cU (G.full v) 0=0:=rfl
    omega
   ·have hT:T0=c.h.term:=by
     have e1:cU (G.LL T0) c.sure.toNat=c.h.term:=by
      rw [←cE (l:=G.LL T0) (Nat.le_refl _),←b3,cE (Nat.le_refl _)];exact htm.symm
     have hs1':1≤c.sure.toNat:=by
      rcases Nat.eq_zero_or_pos c.sure.toNat with h | h
      ·rw [h] at e1
       have:cU (G.LL T0) 0=0:=rfl
       omega
      ·exact h
     obtain ⟨z,hz,ez⟩:=fS (l:=G.LL T0) (n:=c.sure.toNat) hs1' (by have:=ct.nm;have:=ct.ml;omega)
     have:=aQ2 W.H ct.el z (List.mem_of_getElem? hz)
     omega
    rw [hT] at ct
    refine ⟨n,q,ct,by rw [hL];exact ct.ml,by omega,by rw [←o1];exact hm⟩
  generalize hc1:({ c with h:={ c.h with log:=c.h.log++[⟨c.h.term,members,[]⟩] } }:Core)=c1 at J s1
  have hr1:c1.role=3:=by rw [←hc1];exact hr
  have hl0:1≤c1.last:=by
   rw [←hc1];show 1≤c.h.base+((c.h.log++[_]).length:Int)
   simp;omega
  have zz:∀ (i:Nat) (p:Peer),((List.range 7).zipWith (fun (k:Nat) p=>if (k:Int)≠c.id∧bJ members (k:Int)=true∧bJ (ofM c.h).1 (k:Int)=false then (⟨c1.last,0,0⟩:Peer) else p) c1.peers)[i]?=some p→p=⟨c1.last,0,0⟩∨c1.peers[i]?=some p:=by
   intro i p hi'
   rw [List.getElem?_zipWith] at hi'
   split at hi'
   ·rename_i a b e1 e2
    cases hi'
    split
    ·exact .inl rfl
    ·exact .inr e2
   ·cases hi'
  have hlz:((List.range 7).zipWith (fun (k:Nat) p=>if (k:Int)≠c.id∧bJ members (k:Int)=true∧bJ (ofM c.h).1 (k:Int)=false then (⟨c1.last,0,0⟩:Peer) else p) c1.peers).length=7:=by rw [List.length_zipWith,J.pl];rfl
  obtain ⟨ps,hps⟩:∃ ps,ps=((List.range 7).zipWith (fun (k:Nat) p=>if (k:Int)≠c.id∧bJ members (k:Int)=true∧bJ (ofM c.h).1 (k:Int)=false then (⟨c1.last,0,0⟩:Peer) else p) c1.peers):=⟨_,rfl⟩
  rw [←hps] at zz hlz
  have J2:Inv { c1 with peers:=ps }:=by
   refine ⟨J.i0,J.i1,J.h,J.role,J.l0,J.l1,J.s0,J.s1,J.d0,J.d1,J.f0,J.f1,J.v0,J.v1,hlz,fun hr' p hp=>?_,J.tm,J.w⟩
   obtain ⟨i,hi⟩:=List.mem_iff_getElem?.1 hp
   rcases zz i p hi with h | h
   ·rw [h];exact ⟨Int.le_refl _,by show 0≤c1.last;omega,by show 1≤c1.last;omega,by show c1.last≤c1.last+1;omega,Int.le_refl _,.inr rfl⟩
   ·exact (J.pr hr1 p (List.mem_of_getElem? h)).of (by rfl)
  have s2:Goes v c1 { c1 with peers:=ps } 0:=fT hv0 hv5 (c:=c1) (d:={ c1 with peers:=ps }) ⟨rfl,rfl,rfl,rfl,rfl,rfl,rfl,rfl,.inl rfl,rfl,fun f f0 f7=>by
   have hf:f.toNat<ps.length:=by rw [hlz];omega
   show (ps.getD f.toNat ⟨0,0,0⟩).mtch.toNat≤(c1.peers.getD f.toNat ⟨0,0,0⟩).mtch.toNat
   rw [List.getD_eq_getElem?_getD,List.getD_eq_getElem?_getD]
   have h1:=List.getElem?_eq_getElem hf
   rcases zz f.toNat _ h1 with h | h
   ·rw [h1,h];exact Nat.zero_le _
   ·rw [h1,h];exact Nat.le_refl _⟩ rfl 0
  subst hps
  subst hc1
  have s3:=uJ hv0 hv5 J2 hr1 0
  exact ((s1.trans s2).trans s3).mono (Nat.le_refl 1)
theorem aFj (I:Inv c) (index:Int) (snap:List UInt8) (k:Nat):Goes v c (c.compact index snap).1 k:=by
 unfold Core.compact
 split
 ·exact Goes.refl v c k
 ·rename_i hc
  have c1:c.h.base<index:=by
   by_cases e:index≤c.h.base
   ·exact absurd (.inl e) hc
   ·omega
  have c2:index≤c.sure:=by
   by_cases e:c.sure<index
   ·exact absurd (.inr (.inl e)) hc
   ·omega
  have hs1:=I.s1
  have hb0:=I.h.b0
  refine gP hv0 hv5 (c:=c) (d:={ c with h:={ c.h with base:=index,baseTerm:=c.term index,members:=(ofM { c.h with log:=c.h.log.take (index - c.h.base).toNat }).1,snap:=snap,log:=c.h.log.drop (index - c.h.base).toNat },peers:=c.peers.map fun p=>{ p with off:=0 } })
   (fun G H V N o=>⟨⟨N.idv,?_,?_,?_,?_,N.mono,N.low,N.fits,N.sure,N.acks,N.vote,N.vote2,N.late,N.lead,fun r f f0 f7=>?_,N.cand,N.vots⟩,o⟩) k
  ·have:=N.len I;show index.toNat≤_;omega
  ·show c.h.log.drop (index - c.h.base).toNat=(G.full v).drop index.toNat
   rw [N.log,List.drop_drop];congr 1;omega
  ·exact N.term I (by omega) (by omega)
  ·show (ofM { c.h with log:=c.h.log.take (index - c.h.base).toNat }).1=lN G.m0 ((G.full v).take index.toNat)
   unfold ofM
   rw [aK4]
   show lN c.h.members (c.h.log.take (index - c.h.base).toNat)=_
   rw [N.mem,N.log,←aDh ((G.full v).take index.toNat) G.m0 c.h.base.toNat,List.take_take,Nat.min_eq_left (by omega),List.drop_take]
   congr 2
   omega
  ·have:=N.mtch r f f0 f7
   have e:((c.peers.map fun p=>({ p with off:=0 }:Peer)).getD f.toNat ⟨0,0,0⟩).mtch=(c.peer f).mtch:=by
    unfold Core.peer
    rw [List.getD_eq_getElem?_getD,List.getElem?_map,List.getD_eq_getElem?_getD]
    cases c.peers[f.toNat]?<;>rfl
   show (((c.peers.map fun p=>({ p with off:=0 }:Peer)).getD f.toNat ⟨0,0,0⟩).mtch).toNat≤_
   rw [e];exact this
theorem aQ3 (I:Inv c) {cV:Int} {d:Core} (h:oH v c.h cV=some d) (k:Nat):Goes v c d k:=by
 have hs0:=I.s0
 unfold oH at h
 split at h
 ·cases h
 ·cases h
  refine gP hv0 hv5 (c:=c) (d:=⟨v,c.h,1,-1,c.h.base,dH cV,dH cV,0,List.replicate 7 ⟨0,0,0⟩,none,[]⟩) (fun G H V N o=>⟨⟨rfl,N.bl,N.log,N.bt,N.mem,N.mono,N.low,N.fits,N.sure.less (by show c.h.base.toNat≤c.sure.toNat;omega),N.acks,N.vote,N.vote2,N.late,fun r=>(by cases r),fun r=>(by cases r),fun r=>(by cases r),fun r=>(by cases r)⟩,fun m hm=>(by cases hm)⟩) k
theorem aQ4 (k:Nat):Goes v c { c with out:=[] } k:=
 gP hv0 hv5 (c:=c) (d:={ c with out:=[] }) (fun G H V N o=>⟨N.quiet ⟨rfl,rfl,rfl,rfl,rfl,rfl,rfl,rfl,.inl rfl,rfl,fun _ _ _=>Nat.le_refl _⟩,fun m hm=>(by cases hm)⟩) k
end
end
structure Act where
 kind:Int
 a:Int
 n:Int
structure Grp where
 cs:Int→Core
 l:List Letter
 said:Int
 sure:List Entry
 whn:List Int
 lead:List Int
def cC (n lo hi:Int):Int:=lo+n % (hi - lo+1)
def gC (n:Int):List UInt8:=[UInt8.ofNat (n % 256).toNat,UInt8.ofNat ((n / 256) % 256).toNat]
def xH (s:Int):List UInt8:=[UInt8.ofNat (48+s % 10).toNat]
def Grp.step (g:Grp) (a:Act):Option (Grp×Int):=
 let k:=cC a.a 0 4
 if a.kind=1 then some ({ g with cs:=eI g.cs k ((g.cs k).tick a.n) },k) else
 if a.kind=2∨a.kind=3∨a.kind=4 then
  if g.l=[] then none else
   let i:=(cC a.n 0 (g.l.length - 1)).toNat
   let m:=g.l.getD i Letter.zero
   let l':=if a.kind=3 then g.l else g.l.take i++g.l.drop (i+1)
   if a.kind≠4∧m.to<5 then some ({ g with l:=l',cs:=eI g.cs m.to ((g.cs m.to).take m) },m.to) else some ({ g with l:=l' },k)
 else if a.kind=5 then some ({ g with said:=g.said+1,cs:=eI g.cs k ((g.cs k).propose [gC (g.said+1)]).1 },k)
 else if a.kind=6 then some ({ g with cs:=eI g.cs k ((g.cs k).change (a.n % 32)).1 },k)
 else if a.kind=7 then some ({ g with cs:=eI g.cs k ((g.cs k).compact (g.cs k).sure (xH (g.cs k).sure)).1 },k)
 else if a.kind=8 then some ({ g with cs:=eI g.cs k ((oH k (g.cs k).h a.n).getD (g.cs k)) },k)
 else some (g,k)
def fU (l:List Letter):List Letter:=l.drop (l.length - 120)
def Grp.post (g:Grp) (k:Int):Grp:={ g with l:=fU (g.l++(g.cs k).out),cs:=eI g.cs k { g.cs k with out:=[] } }
def pW (s:List Entry×List Int) (n:Nat):List Entry×List Int:=(s.1++List.replicate (n+1 - s.1.length) ⟨0,0,[]⟩,s.2++List.replicate (n+1 - s.1.length) 0)
def kE (T:Int):List Entry→Nat→List Entry×List Int→List Entry×List Int
 | [],_,s=>s
 | x::l,n,s=>
  let s1:=pW s n
  kE T l (n+1) (if (s1.1.getD n ⟨0,0,[]⟩).term=0 then (s1.1.set n x,s1.2.set n T) else s1)
def okS (T:Int):List Entry→Nat→List Entry×List Int→Prop
 | [],_,_=>True
 | x::l,n,s=>
  let s1:=pW s n
  ((s1.1.getD n ⟨0,0,[]⟩).term≠0→s1.1.getD n ⟨0,0,[]⟩=x)∧okS T l (n+1) (if (s1.1.getD n ⟨0,0,[]⟩).term=0 then (s1.1.set n x,s1.2.set n T) else s1)
def Core.sures (c:Core):List Entry:=c.h.log.take (c.sure - c.h.base).toNat
def Grp.note (g:Grp) (k:Int):Grp:=
 let c:=g.cs k
 let s:=kE c.h.term c.sures c.h.base.toNat (g.sure,g.whn)
 { g with lead:=if c.role=3∧c.h.term<200 then g.lead.set c.h.term.toNat (k+1) else g.lead,sure:=s.1,whn:=s.2 }
def Grp.act (g:Grp) (a:Act):Grp:=match g.step a with
 | none=>g
 | some r=>(r.1.post r.2).note r.2
def wH (a b:Hard):Prop:=∀ (n n':Int) x y x' y',a.base<n→b.base<n→n≤n'→a.log[(n - a.base - 1).toNat]?=some x→b.log[(n - b.base - 1).toNat]?=some y→a.log[(n' - a.base - 1).toNat]?=some x'→b.log[(n' - b.base - 1).toNat]?=some y'→x'.term=y'.term→x=y
structure SafeOK (g:Grp) (k:Int):Prop where
 lead:(g.cs k).role=3→(g.cs k).h.term<200→g.lead.getD (g.cs k).h.term.toNat 0=0∨g.lead.getD (g.cs k).h.term.toNat 0=k+1
 sure:okS (g.cs k).h.term (g.cs k).sures (g.cs k).h.base.toNat (g.sure,g.whn)
 alike:∀ i,0≤i→i<5→i≠k→wH (g.cs k).h (g.cs i).h
def aFk (g:Grp) (k:Int):Prop:=(g.cs k).role=3→∀ n:Nat,(g.cs k).h.base.toNat≤n→n<g.sure.length→(g.sure.getD n ⟨0,0,[]⟩).term≠0→g.whn.getD n 0<(g.cs k).h.term→(n:Int)<(g.cs k).last∧(g.cs k).h.log[n - (g.cs k).h.base.toNat]?=some (g.sure.getD n ⟨0,0,[]⟩)
structure Fit (g:Grp) (B:Nat):Prop where
 inv:∀ v,0≤v→v<5→Inv (g.cs v)
 id:∀ v,0≤v→v<5→(g.cs v).id=v
 out:∀ v,0≤v→v<5→(g.cs v).out=[]
 to:∀ m∈g.l,0≤m.to
 ll:g.l.length≤120
 lead:g.lead.length=200
 sw:g.sure.length=g.whn.length
 sl:g.sure.length≤B
 last:∀ v,0≤v→v<5→(g.cs v).last≤B
def LeadOK (G:Gho) (lead:List Int):Prop:=∀ (T:Nat) k,lead[T]?=some k→k=0∨∃ x,G.el (T:Int)=some x∧k=x.cand+1
def SureOK (G:Gho) (s:List Entry×List Int):Prop:=∀ (j:Nat) y,s.1[j]?=some y→y.term≠0→∃ T0 n m w,Cert G T0 n m∧j<n∧(G.LL T0)[j]?=some y∧s.2[j]?=some w∧T0≤w
structure GI (G:Gho) (g:Grp) (B:Nat):Prop where
 W:GW G g.cs B
 l:∀ m∈g.l,LetOK G m
 inv:∀ v,0≤v→v<5→Inv (g.cs v)
 out:∀ v,0≤v→v<5→(g.cs v).out=[]
 ll:g.l.length≤120
 lead:LeadOK G g.lead
 sure:SureOK G (g.sure,g.whn)
 le:g.lead.length=200
 sw:g.sure.length=g.whn.length
 sl:g.sure.length≤B
theorem GI.fit {G:Gho} {g:Grp} {B:Nat} (h:GI G g B):Fit g B:=
 ⟨h.inv,fun v a b=>(h.W.N v a b).idv,h.out,fun m hm=>(h.l m hm).to,h.ll,h.le,h.sw,h.sl,fun v a b=>by
  have:=(h.W.N v a b).len (h.inv v a b)
  have:=h.W.bf v a b
  omega⟩
theorem gU (n lo hi:Int) (h:lo≤hi):lo≤cC n lo hi∧cC n lo hi≤hi:=by
 unfold cC
 have h1:=Int.emod_nonneg n (b:=hi - lo+1) (by omega)
 have h2:=Int.emod_lt_of_pos n (b:=hi - lo+1) (by omega)
 omega
theorem LeadOK.up {G G':Gho} (le:Le G G') {lead:List Int} (h:LeadOK G lead):LeadOK G' lead:=fun T k hk=>(h T k hk).imp id fun ⟨x,a,b⟩=>⟨x,le.el _ _ a,b⟩
theorem SureOK.up {G G':Gho} (le:Le G G') {s:List Entry×List Int} (h:SureOK G s):SureOK G' s:=fun j y hj hy=>by
 obtain ⟨T0,n,m,w,a,b,c,d,e⟩:=h j y hj hy
 refine ⟨T0,n,m,w,a.up le,b,?_,d,e⟩
 have:=le.take (T:=T0) (Nat.le_trans a.nm a.ml)
 rw [fB this b];exact c
theorem aLl {G:Gho} {g:Grp} {B:Nat} (h:GI G g B) (a:Act) {g':Grp} {k:Int} (hs:g.step a=some (g',k)):
  0≤k∧k<5∧∃ G',Le G G'∧GW G' g'.cs (B+1)∧(∀ m∈g'.l,LetOK G' m)∧(∀ v,0≤v→v<5→Inv (g'.cs v))∧(∀ v,0≤v→v<5→v≠k→(g'.cs v).out=[])∧g'.l.length≤120∧g'.lead=g.lead∧g'.sure=g.sure∧g'.whn=g.whn∧(g'.cs k).out.length≤7:=by
 obtain ⟨k0,k4⟩:=gU a.a 0 4 (by decide)
 have one:∀ {v:Int} {d:Core} {l':List Letter} {sd:Int},0≤v→v<5→(∃ G',Le G G'∧GW G' (eI g.cs v d) (B+1))→Inv d→d.out.length≤(g.cs v).out.length+7→(∀ m∈l',m∈g.l)→l'.length≤120→
   ({ g with l:=l',said:=sd,cs:=eI g.cs v d }:Grp)=g'→v=k→
   0≤k∧k<5∧∃ G',Le G G'∧GW G' g'.cs (B+1)∧(∀ m∈g'.l,LetOK G' m)∧(∀ v,0≤v→v<5→Inv (g'.cs v))∧(∀ v,0≤v→v<5→v≠k→(g'.cs v).out=[])∧g'.l.length≤120∧g'.lead=g.lead∧g'.sure=g.sure∧g'.whn=g.whn∧(g'.cs k).out.length≤7:=by
  intro v d l' sd v0 v5 hG hd hl hm hll e1 e2
  obtain ⟨G',le,W'⟩:=hG
  subst e1
  subst e2
  refine ⟨v0,v5,G',le,W',fun m hm'=>(h.l m (hm m hm')).up le,fun u u0 u5=>?_,fun u u0 u5 hu=>?_,hll,rfl,rfl,rfl,?_⟩
  ·show Inv (eI g.cs v d u)
   by_cases e:u=v
   ·rw [e,cK];exact hd
   ·rw [iE _ _ e];exact h.inv u u0 u5
  ·show (eI g.cs v d u).out=[]
   rw [iE _ _ hu];exact h.out u u0 u5
  ·show (eI g.cs v d v).out.length≤7
   rw [cK]
   rw [h.out v v0 v5] at hl
   exact hl
 have W0:∀ v,GW G (eI g.cs v (g.cs v)) B:=fun v=>by rw [lO];exact h.W
 have Ik:=h.inv _ k0 (by omega)
 have hk5:cC a.a 0 4<5:=by omega
 unfold Grp.step at hs
 simp only at hs
 split at hs
 ·cases hs
  exact one (sd:=g.said) k0 hk5 (aN1 k0 hk5 Ik a.n G g.cs B (W0 _)) (Ik.tick _).1 (aPr _ _) (fun m hm=>hm) h.ll rfl rfl
 split at hs
 ·split at hs
  ·cases hs
  ·rename_i hne
   have hl1:1≤g.l.length:=by
    rcases Nat.eq_zero_or_pos g.l.length with e | e
    ·exact absurd (List.length_eq_zero_iff.1 e) hne
    ·exact e
   obtain ⟨i0,i1⟩:=gU a.n 0 ((g.l.length:Int) - 1) (by omega)
   generalize hi:(cC a.n 0 ((g.l.length:Int) - 1)).toNat=i at hs
   have hil:i<g.l.length:=by omega
   have hm:g.l.getD i Letter.zero∈g.l:=by
    rw [List.getD_eq_getElem?_getD,List.getElem?_eq_getElem hil];exact List.getElem_mem hil
   generalize g.l.getD i Letter.zero=m at hs hm
   have hsub:∀ x∈(if a.kind=3 then g.l else g.l.take i++g.l.drop (i+1)),x∈g.l:=by
    intro x hx
    split at hx
    ·exact hx
    ·rcases List.mem_append.1 hx with hx | hx
     ·exact List.mem_of_mem_take hx
     ·exact List.mem_of_mem_drop hx
   have hlen:(if a.kind=3 then g.l else g.l.take i++g.l.drop (i+1)).length≤120:=by
    have:=h.ll
    split
    ·exact this
    ·rw [List.length_append,List.length_take,List.length_drop];omega
   split at hs
   ·rename_i hc
    cases hs
    have ok:=h.l m hm
    have It:=h.inv _ ok.to hc.2
    exact one (sd:=g.said) ok.to hc.2 (aN7 ok.to hc.2 It G g.cs B (W0 _) ok) (It.take _).1 (aPs _ _) hsub hlen rfl rfl
   ·cases hs
    exact one (sd:=g.said) (d:=g.cs (cC a.a 0 4)) k0 hk5 ⟨G,Le.refl G,(W0 _).mono (Nat.le_succ _)⟩ Ik (Nat.le_add_right _ _) hsub hlen (by rw [lO]) rfl
 split at hs
 ·cases hs
  exact one k0 hk5 (aFi k0 hk5 Ik _ G g.cs B (W0 _)) (Ik.propose _).1 (aHo _ _) (fun m hm=>hm) h.ll rfl rfl
 split at hs
 ·cases hs
  exact one (sd:=g.said) k0 hk5 (aHy k0 hk5 Ik _ G g.cs B (W0 _)) (Ik.change _).1 (aK3 _ _) (fun m hm=>hm) h.ll rfl rfl
 split at hs
 ·cases hs
  exact one (sd:=g.said) k0 hk5 (aFj k0 hk5 Ik _ _ 1 G g.cs B (W0 _)) (Ik.compact _ _).1 (aHp _ _ _) (fun m hm=>hm) h.ll rfl rfl
 split at hs
 ·cases hn:oH (cC a.a 0 4) (g.cs (cC a.a 0 4)).h a.n with
  | none=>
   rw [hn] at hs
   cases hs
   exact one (sd:=g.said) (d:=g.cs (cC a.a 0 4)) k0 hk5 ⟨G,Le.refl G,(W0 _).mono (Nat.le_succ _)⟩ Ik (Nat.le_add_right _ _) (fun m hm=>hm) h.ll rfl rfl
  | some d=>
   rw [hn] at hs
   cases hs
   have ho:d.out=[]:=by
    unfold oH at hn
    split at hn
    ·cases hn
    ·cases hn;rfl
   exact one (sd:=g.said) (d:=d) k0 hk5 (aQ3 k0 hk5 Ik hn 1 G g.cs B (W0 _)) (Inv.new hn).1 (by rw [ho];exact Nat.zero_le _) (fun m hm=>hm) h.ll rfl rfl
 ·cases hs
  exact one (sd:=g.said) (d:=g.cs (cC a.a 0 4)) k0 hk5 ⟨G,Le.refl G,(W0 _).mono (Nat.le_succ _)⟩ Ik (Nat.le_add_right _ _) (fun m hm=>hm) h.ll (by rw [lO]) rfl
theorem kT {α:Type} {l:List α} {i:Nat} {d x:α} (h:l[i]?=some x):l.getD i d=x:=by rw [List.getD_eq_getElem?_getD,h];rfl
theorem aSe {α:Type} {l:List α} {z:α} {n j:Nat} {y:α} (h:(l++List.replicate n z)[j]?=some y):l[j]?=some y∨l.length≤j∧y=z:=by
 rcases Nat.lt_or_ge j l.length with h1 | h1
 ·rw [List.getElem?_append_left h1] at h;exact .inl h
 ·rw [List.getElem?_append_right h1,List.getElem?_replicate] at h
  split at h
  ·cases h;exact .inr ⟨h1,rfl⟩
  ·cases h
theorem aFl {G:Gho} (H:GH G) {T:Int} {l:eD} {s:Nat} (S:Sure G T l s) (hlow:∀ x∈l,x.term≤T) (hpos:∀ x∈l,x.term≠0):∀ (r:List Entry) (n:Nat) (st:List Entry×List Int),r=(l.take s).drop n→st.1.length=st.2.length→SureOK G st→
  okS T r n st∧SureOK G (kE T r n st)∧(kE T r n st).1.length=(kE T r n st).2.length∧(kE T r n st).1.length≤max st.1.length s
 | [],n,st,_,h1,h2=>⟨trivial,h2,h1,by show st.1.length≤_;omega⟩
 | x::r,n,st,hr,h1,h2=>by
  have hx:(l.take s)[n]?=some x:=by
   have h0:((l.take s).drop n)[0]?=some x:=by rw [←hr];rfl
   rw [List.getElem?_drop] at h0;simpa using h0
  have hr2:r=(l.take s).drop (n+1):=by
   have:=congrArg List.tail hr
   simpa [List.tail_drop] using this
  have hns:n<s:=by
   have:=(List.getElem?_eq_some_iff.1 hx).1
   rw [List.length_take] at this;omega
  have hxl:l[n]?=some x:=by rw [List.getElem?_take,if_pos hns] at hx;exact hx
  have h0:=hpos x (List.mem_of_getElem? hxl)
  obtain ⟨T0,n0,m0,ct,b1,b2,b3⟩:∃ T0 n0 m0,Cert G T0 n0 m0∧T0≤T∧s≤n0∧l.take s=(G.LL T0).take s:=by
   rcases S.2 with h | h
   ·omega
   ·exact h
  have hxL:(G.LL T0)[n]?=some x:=by rw [←fB b3 hns];exact hxl
  unfold okS kE
  simp only
  have e1:(pW st n).1=st.1++List.replicate (n+1 - st.1.length) (⟨0,0,[]⟩:Entry):=rfl
  have e2:(pW st n).2=st.2++List.replicate (n+1 - st.1.length) (0:Int):=rfl
  generalize pW st n=s1 at e1 e2 ⊢
  have l1:s1.1.length=max st.1.length (n+1):=by rw [e1,List.length_append,List.length_replicate];omega
  have l2:s1.1.length=s1.2.length:=by rw [e1,e2,List.length_append,List.length_append,List.length_replicate,List.length_replicate,h1]
  have ok1:SureOK G s1:=by
   intro j y hj hy
   rw [e1] at hj
   rcases aSe hj with h | ⟨_,h⟩
   ·obtain ⟨T1,n1,m1,w,a,b,c,d,e⟩:=h2 j y h hy
    refine ⟨T1,n1,m1,w,a,b,c,?_,e⟩
    rw [e2,List.getElem?_append_left (List.getElem?_eq_some_iff.1 d).1];exact d
   ·exact absurd (by rw [h]) hy
  have hn:n<s1.1.length:=by omega
  have hat:=List.getElem?_eq_getElem hn
  have hd:=kT (d:=(⟨0,0,[]⟩:Entry)) hat
  generalize hy:s1.1[n]=y at hat hd
  have same:y.term≠0→y=x:=by
   intro hyt
   obtain ⟨T1,n1,m1,w,a,b,c,d,e⟩:=ok1 n y hat hyt
   have:=aMx H ct a (i:=n+1) (by omega) (by omega)
   rw [fB this (by omega),c] at hxL
   cases hxL;rfl
  rw [hd]
  refine ⟨⟨same,?_⟩,?_⟩
  all_goals
   by_cases ht:y.term=0
   ·rw [if_pos ht]
    have ok2:SureOK G (s1.1.set n x,s1.2.set n T):=by
     intro j z hj hz
     by_cases e:n=j
     ·subst e
      rw [List.getElem?_set_self hn] at hj
      cases hj
      exact ⟨T0,n0,m0,T,ct,by omega,hxL,by rw [List.getElem?_set_self (by omega)],b1⟩
     ·rw [List.getElem?_set_ne e] at hj
      obtain ⟨T1,n1,m1,w,a,b,c,d,e'⟩:=ok1 j z hj hz
      exact ⟨T1,n1,m1,w,a,b,c,by rw [List.getElem?_set_ne e];exact d,e'⟩
    obtain ⟨i1,i2,i3,i4⟩:=aFl H S hlow hpos r (n+1) (s1.1.set n x,s1.2.set n T) hr2 (by simp only [List.length_set];exact l2) ok2
    first
     | exact i1
     | exact ⟨i2,i3,by simp only [List.length_set] at i4;omega⟩
   ·rw [if_neg ht]
    obtain ⟨i1,i2,i3,i4⟩:=aFl H S hlow hpos r (n+1) s1 hr2 l2 ok1
    first
     | exact i1
     | exact ⟨i2,i3,by omega⟩
theorem aQ5 {G:Gho} {u v:Int} {c d:Core} (N:Nod G u c) (M:Nod G v d) (I:Inv c) (J:Inv d):wH c.h d.h:=by
 have gt:∀ {w:Int} {e:Core} {n:Int} {x:Entry},Nod G w e→Inv e→e.h.base<n→e.h.log[(n - e.h.base - 1).toNat]?=some x→(G.full w)[(n - 1).toNat]?=some x:=by
  intro w e n x K L h1 h2
  have:=L.h.b0
  rw [K.log,List.getElem?_drop] at h2
  rw [←h2];congr 1;omega
 intro n n' x y x' y' h1 h2 h3 a1 a2 a3 a4 ht
 have b1:=gt N I h1 a1
 have b2:=gt M J h2 a2
 have b3:=gt N I (by omega) a3
 have b4:=gt M J (by omega) a4
 obtain ⟨_,_,p1⟩:=N.fits _ _ b3
 obtain ⟨_,_,p2⟩:=M.fits _ _ b4
 rw [ht] at p1
 have p:=p1.symm.trans p2
 have:=I.h.b0
 have hb:=fB p (i:=(n - 1).toNat) (by omega)
 rw [b1,b2] at hb
 cases hb;rfl
theorem aKb {G:Gho} {g:Grp} {B:Nat} (h:GI G g B) (a:Act):(∀ r,g.step a=some r→SafeOK (r.1.post r.2) r.2∧Fit (r.1.post r.2) (B+1))∧∃ G',GI G' (g.act a) (B+1)∧∀ k,0≤k→k<5→aFk (g.act a) k:=by
 have holds:∀ {G:Gho} {g:Grp} {B:Nat},GI G g B→∀ k,0≤k→k<5→aFk g k:=by
  intro G g B h k k0 k5 hr n h1 h2 h3 h4
  have N:=h.W.N k k0 k5
  have I:=h.inv k k0 k5
  have hat:=List.getElem?_eq_getElem h2
  rw [kT hat] at h3 ⊢
  obtain ⟨T0,n0,m0,w,ct,b1,b2,b3,b4⟩:=h.sure n _ hat h3
  have b3':g.whn[n]?=some w:=b3
  rw [kT b3'] at h4
  obtain ⟨⟨x,hx,_⟩,hL⟩:=N.lead hr
  have hne:G.el (g.cs k).h.term≠none:=by rw [hx];exact Option.some_ne_none x
  obtain ⟨c1,c2⟩:=uL h.W.H hne ct (s:=n0) (by omega) (Nat.le_refl _)
  have hlen:=N.len I
  rw [←hL] at c1 c2
  refine ⟨by omega,?_⟩
  rw [N.log,List.getElem?_drop,show (g.cs k).h.base.toNat+(n - (g.cs k).h.base.toNat)=n by omega,fB c2 b1]
  exact b2
 cases hs:g.step a with
 | none=>
  refine ⟨fun r hr=>(by cases hr),G,?_⟩
  have e:g.act a=g:=by unfold Grp.act;rw [hs]
  rw [e]
  have h':GI G g (B+1):=⟨h.W.mono (Nat.le_succ _),h.l,h.inv,h.out,h.ll,h.lead,h.sure,h.le,h.sw,Nat.le_succ_of_le h.sl⟩
  exact ⟨h',holds h'⟩
 | some r=>
  obtain ⟨g',k⟩:=r
  obtain ⟨k0,k5,G',le,W',hl',inv',out',ll',e1,e2,e3,_⟩:=aLl h a hs
  have e:g.act a=(g'.post k).note k:=by unfold Grp.act;rw [hs]
  rw [e]
  have hu:g'.cs=eI g'.cs k (g'.cs k):=(lO _ _).symm
  obtain ⟨G2,le2,W2⟩:=aQ4 (c:=g'.cs k) k0 k5 0 G' g'.cs (B+1) (by rw [lO];exact W')
  have oL:∀ m∈(g'.cs k).out,LetOK G2 m:=fun m hm=>(W'.o k k0 k5 m hm).up le2
  have hcs:(g'.post k).cs=eI g'.cs k { g'.cs k with out:=[] }:=rfl
  have l2:∀ m∈(g'.post k).l,LetOK G2 m:=fun m hm=>by
   have hm':=List.mem_of_mem_drop hm
   rcases List.mem_append.1 hm' with h1 | h1
   ·exact (hl' m h1).up le2
   ·exact oL m h1
  have inv2:∀ v,0≤v→v<5→Inv ((g'.post k).cs v):=fun v v0 v5=>by
   rw [hcs]
   by_cases ev:v=k
   ·rw [ev,cK];exact (inv' k k0 k5).sent ⟨rfl,rfl,rfl,rfl,rfl,rfl,rfl,rfl,rfl,rfl⟩
   ·rw [iE _ _ ev];exact inv' v v0 v5
  have out2:∀ v,0≤v→v<5→((g'.post k).cs v).out=[]:=fun v v0 v5=>by
   rw [hcs]
   by_cases ev:v=k
   ·rw [ev,cK]
   ·rw [iE _ _ ev];exact out' v v0 v5 ev
  have W3:GW G2 (g'.post k).cs (B+1):=W2
  have ll2:(g'.post k).l.length≤120:=by show (fU _).length≤120;unfold fU;rw [List.length_drop];omega
  have s1:(g'.post k).sure=g.sure:=e2
  have s2:(g'.post k).whn=g.whn:=e3
  have s3:(g'.post k).lead=g.lead:=e1
  have leG:=le.trans le2
  have N:=W3.N k k0 k5
  have I:=inv2 k k0 k5
  generalize hgp:g'.post k=gp at *
  have hb0:=I.h.b0
  have hs0:=I.s0
  have hlen:=N.len I
  have hpos:∀ x∈G2.full k,x.term≠0:=fun x hx e0=>by
   obtain ⟨i,hi⟩:=List.mem_iff_getElem?.1 hx
   have:=W3.H.pos _ (N.fits i x hi).1
   omega
  have hsr:(gp.cs k).sures=((G2.full k).take (gp.cs k).sure.toNat).drop (gp.cs k).h.base.toNat:=by
   unfold Core.sures
   rw [N.log,List.drop_take]
   congr 1
   omega
  obtain ⟨i1,i2,i3,i4⟩:=aFl W3.H N.sure N.low hpos (gp.cs k).sures (gp.cs k).h.base.toNat (gp.sure,gp.whn) hsr (by rw [s1,s2];exact h.sw) (by rw [s1,s2];exact h.sure.up leG)
  have lead2:LeadOK G2 gp.lead:=by rw [s3];exact h.lead.up leG
  have hT0:=I.h.t0
  have lk:(gp.cs k).role=3→(gp.cs k).h.term<200→gp.lead.getD (gp.cs k).h.term.toNat 0=0∨gp.lead.getD (gp.cs k).h.term.toNat 0=k+1:=by
   intro hr ht
   have hlt:(gp.cs k).h.term.toNat<gp.lead.length:=by rw [s3,h.le];omega
   have hat:=List.getElem?_eq_getElem hlt
   rw [kT hat]
   refine (lead2 _ _ hat).imp id fun ⟨x,hx,hk⟩=>?_
   obtain ⟨⟨y,hy,hyk⟩,_⟩:=N.lead hr
   have e9:(((gp.cs k).h.term.toNat:Nat):Int)=(gp.cs k).h.term:=by omega
   rw [e9,hy] at hx
   cases hx
   rw [hk,hyk]
  have fit2:Fit gp (B+1):=(⟨W3,l2,inv2,out2,ll2,lead2,by rw [s1,s2];exact h.sure.up leG,by rw [s3];exact h.le,by rw [s1,s2];exact h.sw,by rw [s1];exact Nat.le_succ_of_le h.sl⟩:GI G2 gp (B+1)).fit
  refine ⟨fun r hr=>?_,G2,?_⟩
  ·cases hr
   simp only
   rw [hgp]
   exact ⟨⟨lk,i1,fun i i0 i5 hne=>aQ5 N (W3.N i i0 i5) I (inv2 i i0 i5)⟩,fit2⟩
  ·have h':GI G2 (gp.note k) (B+1):=by
    refine ⟨W3,l2,inv2,out2,ll2,?_,i2,?_,i3,?_⟩
    ·intro T j hj
     have hj':(if (gp.cs k).role=3∧(gp.cs k).h.term<200 then gp.lead.set (gp.cs k).h.term.toNat (k+1) else gp.lead)[T]?=some j:=hj
     split at hj'
     ·rename_i hc
      by_cases eT:(gp.cs k).h.term.toNat=T
      ·obtain ⟨⟨y,hy,hyk⟩,_⟩:=N.lead hc.1
       have e9:((T:Nat):Int)=(gp.cs k).h.term:=by omega
       rw [eT,List.getElem?_set_self (by
        rw [s3,h.le];omega)] at hj'
       cases hj'
       exact .inr ⟨y,by rw [e9];exact hy,by rw [hyk]⟩
      ·rw [List.getElem?_set_ne eT] at hj'
       exact lead2 T j hj'
     ·exact lead2 T j hj'
    ·show (if (gp.cs k).role=3∧(gp.cs k).h.term<200 then gp.lead.set (gp.cs k).h.term.toNat (k+1) else gp.lead).length=200
     split
     ·rw [List.length_set,s3];exact h.le
     ·rw [s3];exact h.le
    ·have hsl:=h.sl
     have hb:=W3.bf k k0 k5
     have hsn:=N.sure.1
     show (kE _ _ _ _).1.length≤B+1
     have:(gp.sure,gp.whn).1.length=g.sure.length:=by rw [s1]
     omega
   exact ⟨h',holds h'⟩
theorem uM (g:Grp) (a:Act):(g.act a).said=g.said∨(g.act a).said=g.said+1:=by
 have h:∀ r,g.step a=some r→r.1.said=g.said∨r.1.said=g.said+1:=by
  intro r hr
  unfold Grp.step at hr
  simp only at hr
  split at hr
  ·cases hr;exact .inl rfl
  split at hr
  ·split at hr
   ·cases hr
   ·split at hr<;>(cases hr;exact .inl rfl)
  split at hr
  ·cases hr;exact .inr rfl
  split at hr
  ·cases hr;exact .inl rfl
  split at hr
  ·cases hr;exact .inl rfl
  split at hr
  ·cases hr;exact .inl rfl
  ·cases hr;exact .inl rfl
 unfold Grp.act
 cases hs:g.step a with
 | none=>exact .inl rfl
 | some r=>exact h r hs
def wI (members:Int):Hard:=⟨0,-1,0,0,cC members 1 31,[],[]⟩
def aBg (members v:Int):Core:=⟨v,wI members,1,-1,0,dH (3*v),dH (3*v),0,List.replicate 7 ⟨0,0,0⟩,none,[]⟩
def mF (members:Int):Grp:=⟨aBg members,[],0,[],[],List.replicate 200 0⟩
theorem aN8 (members:Int):Hok (wI members):=by
 obtain ⟨h1,h2⟩:=gU members 1 31 (by decide)
 exact ⟨Int.le_refl _,by show (0:Int)≤1099511627776;decide,Int.le_refl _,by show (-1:Int)<7;decide,h1,by show cC members 1 31≤127;omega,Int.le_refl _,by show (0:Int)≤1099511627776;decide,Int.le_refl _,Int.le_refl _,⟨fun _=>rfl,fun _=>rfl⟩,Nat.zero_le _,by show (0:Int)≤1099511627776 - 0;decide,rfl,⟨fun _=>rfl,fun _=>rfl⟩,Nat.zero_le _⟩
theorem aDi (members:Int) {v:Int} (v0:0≤v) (v7:v<7):oH v (wI members) (3*v)=some (aBg members v):=by
 unfold oH
 rw [if_neg (by rintro (h | h | h);omega;omega;rw [(lG _).2 (aN8 members)] at h;cases h)]
 rfl
theorem aHz (members:Int):GI ⟨cC members 1 31,fun _=>[],fun _=>none,fun _ _=>0,fun _ _=>none,fun _=>[]⟩ (mF members) 0:=by
 have inv:∀ v,0≤v→v<5→Inv (aBg members v):=fun v v0 v5=>(Inv.new (aDi members v0 (by omega))).1
 refine ⟨⟨⟨fun T h=>absurd rfl h,fun T x h=>(by cases h),fun T=>List.Pairwise.nil,fun T n x h=>(by cases h),fun T x h=>(by cases h),fun T _=>rfl,fun T x h=>(by cases h),fun v T h=>absurd h (by show ¬ 1≤0;decide),fun T x h=>(by cases h),fun T x h=>(by cases h)⟩,
  fun v U k lg h=>(by cases h),fun T=>Nat.le_refl _,fun v _ _=>Nat.le_refl _,fun v v0 v5=>?_,fun v v0 v5 m hm=>(by cases hm)⟩,fun m hm=>(by cases hm),inv,fun v _ _=>rfl,Nat.zero_le _,fun T k hk=>?_,fun j y hj=>(by cases hj),rfl,rfl,Nat.le_refl _⟩
 ·exact ⟨rfl,Nat.le_refl _,rfl,rfl,rfl,List.Pairwise.nil,fun x hx=>(by cases hx),fun n x h=>(by cases h),⟨Nat.le_refl _,.inl rfl⟩,fun T n h1 h2=>absurd (Nat.le_trans h1 h2) (by show ¬ 1≤0;decide),fun _=>rfl,fun h=>absurd rfl h,fun _ _=>rfl,fun r=>(by cases r),fun r=>(by cases r),fun r=>(by cases r),fun r=>(by cases r)⟩
 ·left
  have hk':(List.replicate 200 (0:Int))[T]?=some k:=hk
  rw [List.getElem?_replicate] at hk'
  split at hk'
  ·cases hk';rfl
  ·cases hk'
end Go.Raft
end
section
namespace Go.Raft
open Go.AM
section
structure Lq (S:St) (n:Nat) (v:V) (es:List (List V)):Prop where
 len:∀ c∈es,c.length=n∧aK c=true
 is:(v=.nils∧es=[])∨∃ a ver off el,v=.sl a ver n off es.length∧a<S.next∧S.heap.get a=some (.row ver n el)∧off+es.length≤el.length∧(el.drop off).take es.length=es
theorem Lq.sl {S:St} {n:Nat} {v:V} {es:List (List V)} (h:Lq S n v es):Sl S n v es:=by
 refine ⟨?_,h.len⟩
 rcases h.is with h1 | ⟨a,ver,off,el,h1,h2,h3,h4,h5⟩
 ·exact .inl h1
 ·exact .inr (.inr ⟨a,ver,off,el,h1,aX h3,h4,h5⟩)
theorem Lq.keep {S S':St} {n:Nat} {v:V} {es:List (List V)} (h:Lq S n v es) (hn:S.next≤S'.next) (hk:∀ y b,aP v=some y→S.heap.get y=some b→S'.heap.get y=some b):Lq S' n v es:=by
 refine ⟨h.len,h.is.imp id ?_⟩
 rintro ⟨a,ver,off,el,h1,h2,h3,h4,h5⟩
 exact ⟨a,ver,off,el,h1,Nat.lt_of_lt_of_le h2 hn,hk a _ (by rw [h1];rfl) h3,h4,h5⟩
theorem Lq.lt {S:St} {n:Nat} {v:V} {es:List (List V)} (h:Lq S n v es) {y:Nat} (hy:aP v=some y):y<S.next∧∃ ver el,S.heap.get y=some (.row ver n el):=by
 rcases h.is with ⟨rfl,_⟩ | ⟨a,ver,off,el,rfl,h2,h3,_⟩
 ·cases hy
 ·cases hy;exact ⟨h2,ver,el,h3⟩
theorem Lq.push {S:St} {n b k:Nat} {v u:V} {es cs:List (List V)} (h:Lq S n v es) (w:WF S) (hu:Sl S n u cs) (hk:S.heap.get k=none∧k<S.next) (h1:(es.length+cs.length)*b≤35184372088832) (h2:es.length+cs.length<fO):
  ∃ v' S',fZ n b v u (some k) S=.ok (v',S')∧Lq S' n v' (es++cs)∧S'.next=S.next∧(∀ y,aP v'=some y→y=k∨aP v=some y)∧(∀ y c,y≠k→aP v≠some y→S.heap.get y=some c→S'.heap.get y=some c)∧WF S':=by
 obtain ⟨a1,a2⟩:=fK hu.len
 have hlen:∀ c,c∈es++cs→c.length=n∧aK c=true:=fun c hm=>(List.mem_append.1 hm).elim (h.len c) (hu.len c)
 rcases h.is with ⟨rfl,rfl⟩ | ⟨a,ver,off,el,rfl,q1,q2,q3,q4⟩
 ·cases cs with
  | nil=>
   refine ⟨.nils,S,?_,⟨hlen,.inl ⟨rfl,rfl⟩⟩,rfl,(fun y hy=>(by cases hy)),fun y c _ _ hc=>hc,w⟩
   simp only [fZ,hu.elems,a1,a2,and_self,if_true]
  | cons c cs=>
   simp only [List.length_nil,Nat.zero_add] at h1 h2
   refine ⟨.sl k 0 n 0 (c::cs).length,⟨S.next,S.heap.put k (.row 0 n (c::cs))⟩,?_,⟨hlen,.inr ⟨k,0,0,c::cs,rfl,hk.2,Tr.get_put_sameB _ _ _ trivial,by simp,by simp⟩⟩,rfl,(fun y hy=>by cases hy;exact .inl rfl),(fun y x hy _ hx=>by show (S.heap.put _ _).get y=_;rw [Tr.get_put_neB _ _ _ _ trivial hy];exact hx),(But.put hk.2 _).wf w⟩
   simp only [fZ,hu.elems,a1,a2,and_self,if_true,h1,h2,eE]
 ·refine ⟨.sl a (ver+1) n 0 (es++cs).length,⟨S.next,S.heap.put a (.row (ver+1) n (es++cs))⟩,?_,⟨hlen,.inr ⟨a,ver+1,0,es++cs,rfl,q1,Tr.get_put_sameB _ _ _ trivial,by simp,by rw [List.drop_zero,List.take_length]⟩⟩,rfl,(fun y hy=>by cases hy;exact .inr rfl),(fun y x _ hy hx=>by show (S.heap.put _ _).get y=_;rw [Tr.get_put_neB _ _ _ _ trivial (fun e=>hy (by rw [e];rfl))];exact hx),(But.put q1 _).wf w⟩
  simp only [fZ,hu.elems,a1,a2,and_self,if_true,aX q2,q3,h1,h2,q4,List.length_append]
theorem Lq.cut {P:Program} {t:TypeId} {n:Nat} (ht:esT P t=some n) {S:St} {v:V} {es:List (List V)} (h:Lq S n v es) {lo hi:Option V} {i j:Nat} (hb:fY es.length lo hi=.ok (i,j)) (hij:i≤j) (hj:j≤es.length):
  ∃ u,dX P t v lo hi=.ok u∧Lq S n u ((es.take j).drop i)∧aP u=aP v:=by
 haveI:Guard:=⟨0⟩
 have hlen:∀ cs,cs∈(es.take j).drop i→cs.length=n∧aK cs=true:=fun cs hc=>h.len cs (List.mem_of_mem_take (List.mem_of_mem_drop hc))
 have hlen2:((es.take j).drop i).length=j - i:=by simp;omega
 rcases h.is with ⟨rfl,rfl⟩ | ⟨a,ver,off,elems,rfl,h1,h2,h3,h4⟩
 ·exact ⟨.nils,by rw [sM ht];simp only [List.length_nil] at hb;rw [hb],⟨hlen,.inl ⟨rfl,by simp⟩⟩,rfl⟩
 ·refine ⟨.sl a ver n (off+i) (j - i),by rw [vI ht,hb],⟨hlen,.inr ⟨a,ver,off+i,elems,by rw [hlen2],h1,h2,by rw [hlen2];omega,?_⟩⟩,rfl⟩
  rw [hlen2,←h4,List.take_take,List.drop_take,List.drop_drop,Nat.min_eq_left hj]
def aN9 (n:Int):V:=.int .i64 n
def aKc (n:Int):List V:=[.int .i64 n]
def eS (g:Grp) (p:Int→Nat) (lv sv wv:V):List V:=[.ptr (p 0) 0 0 0,.ptr (p 1) 0 0 0,.ptr (p 2) 0 0 0,.ptr (p 3) 0 0 0,.ptr (p 4) 0 0 0,lv,.int .i64 g.said,sv,wv]++g.lead.map aN9
def aLm (S:St) (a:Nat) (O:Int→Nat→Prop) (sv:V) (m:Letter) (cs:List V):Prop:=∃ ev,cs=aN m ev∧Sl S 3 ev (m.entries.map bR)∧∀ y,aP ev=some y→y≠a∧(∀ v,0≤v→v<5→¬ O v y)∧aP sv≠some y
structure GRest (S:St) (a:Nat) (g:Grp) (p:Int→Nat) (O:Int→Nat→Prop) (lv sv wv:V) (rows:List (List V)):Prop where
 al:a<S.next
 na:∀ y,aP lv=some y∨aP sv=some y∨aP wv=some y→y≠a
 cores:∀ v,0≤v→v<5→∃ n,@CoreIn ⟨n⟩ S (p v) (g.cs v) (O v)
 sep:∀ u v,0≤u→u<5→0≤v→v<5→u≠v→∀ y,O u y→¬ O v y
 og:∀ v,0≤v→v<5→∀ y,O v y→y≠a∧aP lv≠some y∧aP sv≠some y∧aP wv≠some y
 l:Lq S 13 lv rows
 lets:All2 (aLm S a O sv) g.l rows
 sv:Mn S 3 sv (g.sure.map bR)
 wv:Mn S 1 wv (g.whn.map aKc)
structure GAt (S:St) (a:Nat) (g:Grp) (p:Int→Nat) (O:Int→Nat→Prop) (lv sv wv:V) (rows:List (List V)):Prop where
 cell:S.heap.get a=some (.row 0 209 [eS g p lv sv wv])
 rest:GRest S a g p O lv sv wv rows
theorem CoreIn.keep {n:Nat} {S S':St} {a:Nat} {c:Core} {O:Nat→Prop} (h:@CoreIn ⟨n⟩ S a c O) (ho:c.out=[]) (w:WF S) (hn:S.next≤S'.next) (hk:∀ y b,O y→S.heap.get y=some b→S'.heap.get y=some b):@CoreIn ⟨n⟩ S' a c O:=by
 letI:Guard:=⟨n⟩
 obtain ⟨lv,wv,dv,ov,rows,h,rfl⟩:=h
 have hr:rows=[]:=by have:=h.lets;rw [ho] at this;exact Go.Proofs.Ytbiidlmhadihlaa.rows_nil this
 subst hr
 have kk:∀ {y b},own a lv wv dv ov y→S.heap.get y=some b→S'.heap.get y=some b:=fun ho hb=>hk _ _ ho hb
 refine ⟨lv,wv,dv,ov,[],⟨kk (.inl rfl) h.cell,h.peers,Mn.fr h.log hn fun y b hy hb=>kk (.inr (.inl hy)) hb,?_,Mn.fr h.out hn fun y b hy hb=>kk (.inr (.inr (.inr (.inr hy)))) hb,by rw [ho];exact .nil,⟨Nat.le_trans h.gd.1 hn,fun r hr=>by cases hr⟩⟩,rfl⟩
 have hw:=h.way
 unfold WayAt at hw ⊢
 split at hw
 ·exact hw
 ·obtain ⟨b,e,g,n⟩:=hw
  exact ⟨b,e,kk (.inr (.inr (.inl (by rw [e];rfl)))) g,Mn.fr n hn fun y b hy hb=>kk (.inr (.inr (.inr (.inl hy)))) hb⟩
theorem lP {S S':St} {a:Nat} {O O':Int→Nat→Prop} {sv sv':V} (w:WF S) (hk:∀ y ver el,y≠a→(∀ v,0≤v→v<5→¬ O v y)→aP sv≠some y→S.heap.get y=some (.row ver 3 el)→S'.heap.get y=some (.row ver 3 el))
  (hO:∀ v y,0≤v→v<5→O' v y→O v y∨S.next≤y) (hs:∀ y,aP sv'=some y→aP sv=some y∨S.next≤y):∀ {l:List Letter} {rows:List (List V)},All2 (aLm S a O sv) l rows→All2 (aLm S' a O' sv') l rows
 | _,_,.nil=>.nil
 | _,_,.cons ⟨ev,e,h1,h2⟩ t=>by
  refine .cons ⟨ev,e,?_,fun y hy=>?_⟩ (lP w hk hO hs t)
  ·refine ⟨?_,h1.len⟩
   rcases h1.is with h | h | ⟨b,ver,off,el,h,g1,g2,g3⟩
   ·exact .inl h
   ·exact .inr (.inl h)
   ·obtain ⟨d0,d1,d2⟩:=h2 b (by rw [h];rfl)
    exact .inr (.inr ⟨b,ver,off,el,h,aX (hk b _ _ d0 d1 d2 (eY g1)),g2,g3⟩)
  ·obtain ⟨d0,d1,d2⟩:=h2 y hy
   have hlt:=aHb w h1 y hy
   refine ⟨d0,fun v v0 v5 q=>?_,fun q=>?_⟩
   ·rcases hO v y v0 v5 q with q | q
    ·exact d1 v v0 v5 q
    ·omega
   ·rcases hs y q with q | q
    ·exact d2 q
    ·omega
theorem GRest.keep {S S':St} {a:Nat} {g:Grp} {p:Int→Nat} {O:Int→Nat→Prop} {lv sv wv:V} {rows:List (List V)} (h:GRest S a g p O lv sv wv rows) (ho:∀ v,0≤v→v<5→(g.cs v).out=[]) (w:WF S) (hn:S.next≤S'.next)
  (hk:∀ y b,y≠a→S.heap.get y=some b→S'.heap.get y=some b):GRest S' a g p O lv sv wv rows:=by
 refine ⟨Nat.lt_of_lt_of_le h.al hn,h.na,fun v v0 v5=>?_,h.sep,h.og,?_,?_,?_,?_⟩
 ·obtain ⟨n,hc⟩:=h.cores v v0 v5
  exact ⟨n,hc.keep (ho v v0 v5) w hn fun y b hy hb=>hk y b (h.og v v0 v5 y hy).1 hb⟩
 ·exact h.l.keep hn fun y b hy hb=>hk y b (h.na y (.inl hy)) hb
 ·exact lP w (fun y ver el h0 _ _ hb=>hk y _ h0 hb) (fun v y _ _ hy=>.inl hy) (fun y hy=>.inl hy) h.lets
 ·exact Mn.fr h.sv hn fun y b hy hb=>hk y b (h.na y (.inr (.inl hy))) hb
 ·exact Mn.fr h.wv hn fun y b hy hb=>hk y b (h.na y (.inr (.inr hy))) hb
theorem GAt.ext {S S':St} {a:Nat} {g:Grp} {p:Int→Nat} {O:Int→Nat→Prop} {lv sv wv:V} {rows:List (List V)} (h:GAt S a g p O lv sv wv rows) (ho:∀ v,0≤v→v<5→(g.cs v).out=[]) (w:WF S) (x:Ext S S'):GAt S' a g p O lv sv wv rows:=
 ⟨x.old _ _ h.cell,h.rest.keep ho w x.next fun y b _ hb=>x.old y b hb⟩
theorem bBk {v:Int} (v0:0≤v) (v5:v<5):v=0∨v=1∨v=2∨v=3∨v=4:=by omega
section
variable {S:St} {a:Nat} {g:Grp} {p:Int→Nat} {O:Int→Nat→Prop} {lv sv wv:V} {rows:List (List V)} (h:S.heap.get a=some (.row 0 209 [eS g p lv sv wv]))
include h
theorem qQ {j:Nat} {v:V} (hv:(eS g p lv sv wv)[j]?=some v):aL none (.ptr a 0 0 j) S=.ok v:=by
 rw [aY _ _ _ _ _ (aX h)];exact aA3 _ _ hv
theorem uN {v:Int} (v0:0≤v) (v5:v<5):aL none (.ptr a 0 0 v.toNat) S=.ok (.ptr (p v) 0 0 0):=by
 apply qQ h
 rcases bBk v0 v5 with rfl | rfl | rfl | rfl | rfl<;>rfl
theorem aFm:aL none (.ptr a 0 0 5) S=.ok lv:=qQ h rfl
theorem aFn:aL none (.ptr a 0 0 6) S=.ok (.int .i64 g.said):=qQ h rfl
theorem aI0:aL none (.ptr a 0 0 7) S=.ok sv:=qQ h rfl
theorem aT4:aL none (.ptr a 0 0 8) S=.ok wv:=qQ h rfl
theorem aSf {T:Nat} (hT:T<g.lead.length):aL none (.ptr a 0 0 (9+T)) S=.ok (.int .i64 (g.lead.getD T 0)):=by
 apply qQ h
 unfold eS
 rw [List.getElem?_append_right (by show 9≤9+T;omega)]
 show (g.lead.map aN9)[9+T - 9]?=_
 rw [show 9+T - 9=T by omega,List.getElem?_map,List.getElem?_eq_getElem hT,List.getD_eq_getElem?_getD,List.getElem?_eq_getElem hT];rfl
theorem aW3 (hl:g.lead.length=200):(eS g p lv sv wv).length=209:=by unfold eS;simp [hl]
theorem mA (hl:g.lead.length=200) (j:Nat) (x:V) (hj:j<209) (hx:x.cells=[x]) (ho:x.one=true) {g':Grp} {p':Int→Nat} {lv' sv' wv':V} (hc:splice (eS g p lv sv wv) j [x]=eS g' p' lv' sv' wv'):
  bH 1 (.ptr a 0 0 j) x S=.ok ⟨S.next,S.heap.put a (.row 0 209 [eS g' p' lv' sv' wv'])⟩:=by
 have e:=cX (x:=x) (j:=j) (m:=1) h (by rw [hx];rfl) (by rw [hx];simp [aK,ho]) (by rw [aW3 h hl];omega)
 rw [hx,hc] at e
 exact e
end
theorem dP {S:St} {a:Nat} {b:Blk}:∀ y c,y≠a→S.heap.get y=some c→(⟨S.next,S.heap.put a b⟩:St).heap.get y=some c:=fun y c hy hc=>by
 show (S.heap.put a b).get y=_
 rw [Tr.get_put_neB _ _ _ _ trivial hy];exact hc
theorem jB {S:St} {a:Nat} {b:Blk}:(⟨S.next,S.heap.put a b⟩:St).heap.get a=some b:=Tr.get_put_sameB _ _ _ trivial
theorem aI1 (P:List V) (L:List Int) (T:Nat) (n:Int) (hT:T<L.length) (hP:P.length=9):splice (P++L.map aN9) (9+T) [aN9 n]=P++(L.set T n).map aN9:=by
 unfold splice
 have e:9+T=P.length+T:=by omega
 rw [e,List.take_length_add_append,List.append_assoc]
 congr 1
 rw [show P.length+T+[aN9 n].length=P.length+(T+1) by simp;omega,List.drop_length_add_append,List.map_set,List.set_eq_take_append_cons_drop,if_pos (by rw [List.length_map];exact hT)]
 rfl
end
end Go.Raft
end
section
namespace Go.Proofs.Ytbiidlmhadihlaa
open Go.AM Go.Raft Try
section
def uO (O:Int→Nat→Prop) (k:Int) (O1:Nat→Prop):Int→Nat→Prop:=fun u=>if u=k then O1 else O u
theorem iM (O:Int→Nat→Prop) (k:Int) (O1:Nat→Prop):uO O k O1 k=O1:=if_pos rfl
theorem kJ (O:Int→Nat→Prop) {k u:Int} (O1:Nat→Prop) (h:u≠k):uO O k O1 u=O u:=if_neg h
theorem aDj {n:Nat} {S:St} {a:Nat} {c:Core} {O:Nat→Prop} (w:WF S) (h:@CoreIn ⟨n⟩ S a c O):∀ y,O y→y<S.next:=by
 letI:Guard:=⟨n⟩
 exact core_lt w h
theorem uP {S S':St} {a:Nat} {g:Grp} {p p':Int→Nat} {O:Int→Nat→Prop} {lv sv wv:V} {rows:List (List V)} {k:Int} {O1:Nat→Prop} {d:Core} (h:GRest S a g p O lv sv wv rows) (k0:0≤k) (k5:k<5) (ho:∀ v,0≤v→v<5→v≠k→(g.cs v).out=[]) (w:WF S)
  (hp:∀ v,v≠k→p' v=p v) (hc:∃ n,@CoreIn ⟨n⟩ S' (p' k) d O1) (m:Mv (O k) S O1 S'):GRest S' a { g with cs:=eI g.cs k d } p' (uO O k O1) lv sv wv rows:=by
 have lt:∀ v,0≤v→v<5→∀ y,O v y→y<S.next:=fun v v0 v5 y hy=>by
  obtain ⟨n,hc⟩:=h.cores v v0 v5
  exact aDj w hc y hy
 refine ⟨Nat.lt_of_lt_of_le h.al m.next,h.na,fun v v0 v5=>?_,fun u v u0 u5 v0 v5 hne y hu hv=>?_,fun v v0 v5 y hy=>?_,?_,?_,?_,?_⟩
 ·by_cases e:v=k
  ·rw [e,iM]
   show ∃ n,@CoreIn ⟨n⟩ S' (p' k) (eI g.cs k d k) O1
   rw [cK];exact hc
  ·rw [kJ _ _ e]
   show ∃ n,@CoreIn ⟨n⟩ S' (p' v) (eI g.cs k d v) (O v)
   rw [iE _ _ e,hp v e]
   obtain ⟨n,hv⟩:=h.cores v v0 v5
   exact ⟨n,hv.keep (ho v v0 v5 e) w m.next fun y b hy hb=>m.keep y b (h.sep v k v0 v5 k0 k5 e y hy) hb⟩
 ·by_cases eu:u=k
  ·have ev:v≠k:=fun e=>hne (eu.trans e.symm)
   rw [eu,iM] at hu
   rw [kJ _ _ ev] at hv
   rcases m.own y hu with q | q
   ·exact h.sep k v k0 k5 v0 v5 (Ne.symm ev) y q hv
   ·have:=lt v v0 v5 y hv;omega
  ·rw [kJ _ _ eu] at hu
   by_cases ev:v=k
   ·rw [ev,iM] at hv
    rcases m.own y hv with q | q
    ·exact h.sep u k u0 u5 k0 k5 eu y hu q
    ·have:=lt u u0 u5 y hu;omega
   ·rw [kJ _ _ ev] at hv
    exact h.sep u v u0 u5 v0 v5 hne y hu hv
 ·by_cases e:v=k
  ·rw [e,iM] at hy
   rcases m.own y hy with q | q
   ·exact h.og k k0 k5 y q
   ·have h1:=h.al
    refine ⟨by omega,fun e1=>?_,fun e1=>?_,fun e1=>?_⟩
    ·have:=(h.l.lt e1).1;omega
    ·have:=(h.sv.blk e1).1;omega
    ·have:=(h.wv.blk e1).1;omega
  ·rw [kJ _ _ e] at hy
   exact h.og v v0 v5 y hy
 ·exact h.l.keep m.next fun y b hy hb=>m.keep y b (fun q=>(h.og k k0 k5 y q).2.1 hy) hb
 ·refine lP w (fun y ver el h0 h1 h2 hb=>m.keep y _ (h1 k k0 k5) hb) (fun v y v0 v5 hy=>?_) (fun y hy=>.inl hy) h.lets
  by_cases e:v=k
  ·rw [e,iM] at hy
   rcases m.own y hy with q | q
   ·rw [e];exact .inl q
   ·exact .inr q
  ·rw [kJ _ _ e] at hy;exact .inl hy
 ·exact Mn.fr h.sv m.next fun y b hy hb=>m.keep y b (fun q=>(h.og k k0 k5 y q).2.2.1 hy) hb
 ·exact Mn.fr h.wv m.next fun y b hy hb=>m.keep y b (fun q=>(h.og k k0 k5 y q).2.2.2 hy) hb
structure GMid (S:St) (a:Nat) (g:Grp) (k:Int) (p:Int→Nat) (O:Int→Nat→Prop) (lv sv wv:V) (rows:List (List V)):Prop where
 at':GAt S a g p O lv sv wv rows
 mid:∃ n,@CoreIn ⟨n⟩ S (p k) (g.cs k) (O k)∧n≤S.next∧a<n∧(∀ v,0≤v→v<5→v≠k→∀ y,O v y→y<n)∧∀ y,aP sv=some y→y<n
theorem uQ {n n':Nat} {S:St} {a:Nat} {c:Core} {O:Nat→Prop} (h:@CoreIn ⟨n⟩ S a c O) (ho:c.out=[]) (hn:n'≤S.next):@CoreIn ⟨n'⟩ S a c O:=by
 obtain ⟨lv,wv,dv,ov,rows,h,rfl⟩:=h
 have hr:rows=[]:=by
  have hl:=@CoreAt.lets ⟨n⟩ _ _ _ _ _ _ _ _ h
  rw [ho] at hl
  letI:Guard:=⟨n⟩
  exact rows_nil hl
 subst hr
 exact ⟨lv,wv,dv,ov,[],CoreAt.reguard h hn,rfl⟩
section
variable {S:St} {a:Nat} {g:Grp} {k:Int} {p:Int→Nat} {O:Int→Nat→Prop} {lv sv wv:V} {rows:List (List V)}
theorem aFo (h:GAt S a g p O lv sv wv rows) (w:WF S) (k0:0≤k) (k5:k<5) (ho:(g.cs k).out=[]):GMid S a g k p O lv sv wv rows:=by
 obtain ⟨n,hc⟩:=h.rest.cores k k0 k5
 refine ⟨h,S.next,uQ hc ho (Nat.le_refl _),Nat.le_refl _,h.rest.al,fun v v0 v5 _ y hy=>?_,fun y hy=>(h.rest.sv.blk hy).1⟩
 obtain ⟨m,hm⟩:=h.rest.cores v v0 v5
 exact aDj w hm y hy
theorem aBh (h:GAt S a g p O lv sv wv rows) (w:WF S) (ho:∀ v,0≤v→v<5→(g.cs v).out=[]) (k0:0≤k) (k5:k<5) {f:FuncId} {args:List V} {v:V} {d:Core}
  (H:∀ (G:Guard),@CoreIn G S (p k) (g.cs k) (O k)→@Meth G f args (p k) d S (O k) v) {G:Nat→KS→V→St→An} {R:V→St→Prop}
  (q:∀ S' O',WF S'→S.next≤S'.next→GMid S' a { g with cs:=eI g.cs k d } k p O' lv sv wv rows→Ok (fun κ K=>G κ K v S') R):
  Ok (fun κ K=>aC prog bC bD κ f args S (fun v S=>G κ K v S)) R:=by
 obtain ⟨n,hc⟩:=h.rest.cores k k0 k5
 have hc':=uQ hc (ho k k0 k5) (Nat.le_refl S.next)
 letI G1:Guard:=⟨S.next⟩
 refine Meth.call (H G1 hc') w fun S' O1 w' in' m=>q S' (uO O k O1) w' m.next ?_
 have hr:=uP h.rest k0 k5 (fun v v0 v5 _=>ho v v0 v5) w (fun _ _=>rfl) ⟨S.next,in'⟩ m
 refine ⟨⟨m.keep _ _ (fun q=>(h.rest.og k k0 k5 a q).1 rfl) h.cell,hr⟩,S.next,?_,m.next,h.rest.al,fun v v0 v5 hne y hy=>?_,fun y hy=>(h.rest.sv.blk hy).1⟩
 ·rw [iM]
  show CoreIn S' (p k) (eI g.cs k d k) O1
  rw [cK];exact in'
 ·rw [kJ _ _ hne] at hy
  obtain ⟨m',hm⟩:=h.rest.cores v v0 v5
  exact aDj w hm y hy
theorem GMid.ext {S':St} (h:GMid S a g k p O lv sv wv rows) (k0:0≤k) (k5:k<5) (ho:∀ v,0≤v→v<5→v≠k→(g.cs v).out=[]) (w:WF S) (x:Ext S S'):GMid S' a g k p O lv sv wv rows:=by
 obtain ⟨n,hc,h1,h2,h3,h4⟩:=h.mid
 letI:Guard:=⟨n⟩
 have hc':=hc.ext w x
 have hr:=uP h.at'.rest k0 k5 ho w (fun _ _=>rfl) ⟨n,hc'⟩ (Mv.of x)
 have e1:uO O k (O k)=O:=by funext u;unfold uO;split;rename_i e;rw [e];rfl
 have e2:({ g with cs:=eI g.cs k (g.cs k) }:Grp)=g:=by rw [lO]
 rw [e1,e2] at hr
 exact ⟨⟨x.old _ _ h.at'.cell,hr⟩,n,hc',Nat.le_trans h1 x.next,h2,h3,h4⟩
end
end
section
theorem mB (x i:V):aM prog 67 x i=aAw 5 1 x i:=lK (by kernel_rfl) x i
theorem aT5 (x i:V):aM prog 69 x i=aAw 200 1 x i:=lK (by kernel_rfl) x i
theorem aW4:esT prog 43=some 13:=by kernel_rfl
theorem Lq.lenI {S:St} {n:Nat} {v:V} {α:Type} {l:List α} {f:α→List V} (h:Go.Raft.Lq S n v (l.map f)):lenW v=.ok (.int .i64 l.length):=h.sl.lenI
theorem aFp {α β:Type} {R:α→β→Prop}:∀ {l:List α} {m:List β} {l':List α} {m':List β},All2 R l m→All2 R l' m'→All2 R (l++l') (m++m')
 | _,_,_,_,.nil,h=>h
 | _,_,_,_,.cons a t,h=>.cons a (aFp t h)
theorem wJ {α β:Type} {R:α→β→Prop}:∀ {l:List α} {m:List β} (n:Nat),All2 R l m→All2 R (l.drop n) (m.drop n)
 | _,_,0,h=>h
 | _,_,_+1,.nil=>.nil
 | _,_,n+1,.cons a t=>wJ n t
theorem aDk {α β:Type} {R:α→β→Prop}:∀ {l:List α} {m:List β} (n:Nat),All2 R l m→All2 R (l.take n) (m.take n)
 | _,_,0,h=>.nil
 | _,_,_+1,.nil=>.nil
 | _,_,n+1,.cons a t=>.cons a (aDk n t)
theorem aKd {S:St} {v:V} {rows:List (List V)} (h:Go.Raft.Lq S 13 v rows) {l:List Letter} {R:Letter→List V→Prop} (k:All2 R l rows):lenW v=.ok (.int .i64 l.length):=by
 have h':Sl S 13 v (rows.map id):=by rw [List.map_id];exact h.sl
 rw [k.len]
 exact h'.lenI
section
variable {S:St} {a:Nat} {g:Grp} {k:Int} {p:Int→Nat} {O:Int→Nat→Prop} {lv sv wv:V} {rows:List (List V)}
theorem g64 (h:GMid S a g k p O lv sv wv rows) (w:WF S) (k0:0≤k) (k5:k<5) (ho:∀ v,0≤v→v<5→v≠k→(g.cs v).out=[]) (hl:g.l.length≤1000) (hol:(g.cs k).out.length≤1000) (hle:g.lead.length=200):
  Does prog bC bD 64 [.ptr a 0 0 0,.int .i64 k] S fun u S'=>u=.tup []∧WF S'∧∃ O' lv' rows',GAt S' a (g.post k) p O' lv' sv wv rows':=by
 haveI:Guard:=⟨0⟩
 obtain ⟨kn,hkn,hk⟩:∃ kn:Nat,k=(kn:Int)∧kn<5:=⟨k.toNat,by omega,by omega⟩
 have hkt:k.toNat=kn:=by omega
 have xb:Ext S (⟨S.next+16,S.heap⟩:St):=(Ext.refl S).bump 16
 have wb:=xb.wf w
 have hb:=h.ext k0 k5 ho w xb
 have gc:=uN hb.at'.cell k0 k5
 rw [hkt] at gc
 have gl:=aFm hb.at'.cell
 obtain ⟨n,hc,n1,n2,n3,n4⟩:=hb.mid
 obtain ⟨lv1,wv1,dv1,ov,rws,hc,hO⟩:=hc
 have Olt:∀ v,0≤v→v<5→∀ y,O v y→y<S.next:=fun v v0 v5 y hy=>by
  obtain ⟨m,hm⟩:=h.at'.rest.cores v v0 v5
  exact aDj w hm y hy
 have hkv:V.int .i64 k=.int .i64 (kn:Int):=by rw [hkn]
 refine e64 ?_
 rw [hkv]
 simp only [m64,dQ,iW,aJe,aF,Nat.reduceAdd,Nat.zero_add,bS,aPa,gl,mB,cZ hk,Nat.mul_one,xQ,gc]
 refine Does.call (Does.dead mT (letI:Guard:=⟨n⟩;bBj wb hc)) fun u S6 ⟨⟨eu,hc6,m6,q6,t6⟩,d6⟩=>?_
 subst eu
 obtain ⟨f1,f2⟩:=kP w (n:=16) d6 (k:=S.next+12) (Nat.le_add_right _ _) (Nat.add_lt_add_left (by decide) _)
 have w6:=m6.wf wb
 have hr6:=uP hb.at'.rest k0 k5 ho wb (fun _ _=>rfl) ⟨n,lv1,wv1,dv1,.nils,[],hc6,rfl⟩ (by rw [hO];exact m6)
 have c6:S6.heap.get a=some (.row 0 209 [eS g p lv sv wv]):=m6.keep _ _ (fun q=>(hb.at'.rest.og k k0 k5 a (by rw [hO];exact q)).1 rfl) hb.at'.cell
 have gl6:=aFm c6
 have hlen6:rws.length=(g.cs k).out.length:=t6.len.symm
 have hrl:rows.length=g.l.length:=hr6.lets.len.symm
 obtain ⟨lv2,S8,e8,l8,nx8,b8,k8,w8⟩:=Go.Raft.Lq.push (b:=128) (k:=S.next+12) hr6.l w6 q6.sl ⟨f1,f2⟩ (by omega) (by unfold fO;omega)
 have hnk:∀ y b,S6.heap.get y=some b→y≠S.next+12:=fun y b hy e=>by rw [e,f1] at hy;cases hy
 have hal:=h.at'.rest.al
 have O6lt:∀ v,0≤v→v<5→∀ y,uO O k (own (p k) lv1 wv1 dv1 .nils) v y→y<S.next:=by
  intro v v0 v5 y hy
  by_cases e:v=k
  ·rw [e,iM] at hy
   refine Olt k k0 k5 y ?_
   rw [hO]
   rcases hy with hy | hy | hy | hy | hy
   ·exact .inl hy
   ·exact .inr (.inl hy)
   ·exact .inr (.inr (.inl hy))
   ·exact .inr (.inr (.inr (.inl hy)))
   ·cases hy
  ·rw [kJ _ _ e] at hy;exact Olt v v0 v5 y hy
 have kp:∀ y b,aP lv≠some y→S6.heap.get y=some b→S8.heap.get y=some b:=fun y b hy hb=>k8 y b (hnk y b hb) hy hb
 have c8:S8.heap.get a=some (.row 0 209 [eS g p lv sv wv]):=kp _ _ (fun e=>(hr6.na a (.inl e)) rfl) c6
 have lw13:∀ y ver el m,m≠13→S6.heap.get y=some (.row ver m el)→aP lv≠some y:=by
  intro y ver el m hm hy e
  obtain ⟨_,ver',el',h2⟩:=hr6.l.lt e
  rw [hy] at h2
  injection h2 with h2
  injection h2 with _ h2
  exact hm h2
 have r8:GRest S8 a (⟨eI g.cs k { g.cs k with out:=[] },g.l++(g.cs k).out,g.said,g.sure,g.whn,g.lead⟩:Grp) p (uO O k (own (p k) lv1 wv1 dv1 .nils)) lv2 sv wv (rows++rws):=by
  refine ⟨by rw [nx8];exact hr6.al,fun y hy=>?_,fun v v0 v5=>?_,hr6.sep,fun v v0 v5 y hy=>?_,l8,aFp ?_ ?_,?_,?_⟩
  ·rcases hy with hy | hy
   ·rcases b8 y hy with e | e
    ·omega
    ·exact hr6.na y (.inl e)
   ·exact hr6.na y (.inr hy)
  ·obtain ⟨m,hm⟩:=hr6.cores v v0 v5
   refine ⟨m,hm.keep ?_ w6 (Nat.le_of_eq nx8.symm) fun y b hy hb=>kp y b (hr6.og v v0 v5 y hy).2.1 hb⟩
   show (eI g.cs k { g.cs k with out:=[] } v).out=[]
   by_cases e:v=k
   ·rw [e,cK]
   ·rw [iE _ _ e];exact ho v v0 v5 e
  ·obtain ⟨a1,a2,a3,a4⟩:=hr6.og v v0 v5 y hy
   refine ⟨a1,fun e=>?_,a3,a4⟩
   rcases b8 y e with e | e
   ·have:=O6lt v v0 v5 y hy;omega
   ·exact a2 e
  ·exact lP w6 (fun y ver el _ _ _ hb=>kp y _ (lw13 y ver el 3 (by decide) hb) hb) (fun v y _ _ hy=>.inl hy) (fun y hy=>.inl hy) hr6.lets
  ·
   have gd:∀ r∈rws,∀ ev,r[12]?=some ev→∀ y,aP ev=some y→n≤y:=(@CoreAt.gd ⟨n⟩ _ _ _ _ _ _ _ _ hc).2
   have key:∀ {out:List Letter} {rs:List (List V)},All2 (LetAt S6 (aP lv1)) out rs→(∀ r∈rs,∀ ev,r[12]?=some ev→∀ y,aP ev=some y→n≤y)→All2 (aLm S8 a (uO O k (own (p k) lv1 wv1 dv1 .nils)) sv) out rs:=by
    intro out rs ha
    induction ha with
    | nil=>intro _;exact .nil
    | cons hx _ ih=>
     intro hg
     obtain ⟨ev,e,s1,s2⟩:=hx
     refine .cons ⟨ev,e,s1.keep fun y b hy hb=>?_,fun y hy=>?_⟩ (ih fun r hr=>hg r (List.mem_cons_of_mem _ hr))
     ·rcases s1.is with h | h | ⟨z,ver,off,el,h,g1,_⟩
      ·rw [h.1] at hy;cases hy
      ·rw [h] at hy;cases hy
      ·rw [h] at hy
       cases hy
       have g1':=eY g1
       rw [hb] at g1'
       cases g1'
       exact kp y _ (lw13 y ver el 3 (by decide) hb) hb
     ·have hge:=hg _ (List.mem_cons_self ..) ev (by rw [e];rfl) y hy
      have hcont:∃ ver el,S6.heap.get y=some (.row ver 3 el):=by
       rcases s1.is with h | h | ⟨z,ver,off,el,h,g1,_⟩
       ·rw [h.1] at hy;cases hy
       ·rw [h] at hy;cases hy
       ·rw [h] at hy;cases hy;exact ⟨ver,el,eY g1⟩
      obtain ⟨ver,el,hrow⟩:=hcont
      refine ⟨by omega,fun v v0 v5 q=>?_,fun q=>by have:=n4 y q;omega⟩
      by_cases ev':v=k
      ·rw [ev',iM] at q
       have ne:∀ {ver' m' el'},m'≠3→S6.heap.get y=some (.row ver' m' el')→False:=fun hm h2=>by
        rw [hrow] at h2
        injection h2 with h2
        injection h2 with _ h2
        exact hm h2.symm
       rcases q with q | q | q | q | q
       ·exact ne (m':=37) (by decide) (by rw [q];exact @CoreAt.cell ⟨n⟩ _ _ _ _ _ _ _ _ hc6)
       ·exact s2 y hy q
       ·have hw:=@CoreAt.way ⟨n⟩ _ _ _ _ _ _ _ _ hc6
        unfold WayAt at hw
        split at hw
        ·rw [hw.1] at q;cases q
        ·obtain ⟨b,e1,g1,_⟩:=hw
         rw [e1] at q
         cases q
         exact ne (m':=4) (by decide) g1
       ·have hw:=@CoreAt.way ⟨n⟩ _ _ _ _ _ _ _ _ hc6
        unfold WayAt at hw
        split at hw
        ·rw [hw.2] at q;cases q
        ·obtain ⟨b,e1,_,mn⟩:=hw
         obtain ⟨_,ver',tl,_,g1⟩:=mn.blk q
         exact ne (m':=1) (by decide) g1
       ·cases q
      ·rw [kJ _ _ ev'] at q
       have:=n3 v v0 v5 ev' y q
       omega
   exact key t6 gd
  ·exact Mn.fr hr6.sv (Nat.le_of_eq nx8.symm) fun y b hy hb=>by
    obtain ⟨_,ver,tl,_,g1⟩:=hr6.sv.blk hy
    exact kp y b (lw13 y _ _ 3 (by decide) g1) hb
  ·exact Mn.fr hr6.wv (Nat.le_of_eq nx8.symm) fun y b hy hb=>by
    obtain ⟨_,ver,tl,_,g1⟩:=hr6.wv.blk hy
    exact kp y b (lw13 y _ _ 1 (by decide) g1) hb
 have ho2:∀ v,0≤v→v<5→(eI g.cs k { g.cs k with out:=[] } v).out=[]:=fun v v0 v5=>by
  by_cases e:v=k
  ·rw [e,cK]
  ·rw [iE _ _ e];exact ho v v0 v5 e
 have cs2:lv2.cells=[lv2]:=dV l8.sl
 obtain ⟨S9,st1,c9,r9,wS9⟩:∃ S9,bH 1 (.ptr a 0 0 5) lv2 S8=.ok S9∧S9.heap.get a=some (.row 0 209 [eS ⟨eI g.cs k { g.cs k with out:=[] },g.l++(g.cs k).out,g.said,g.sure,g.whn,g.lead⟩ p lv2 sv wv])∧GRest S9 a (⟨eI g.cs k { g.cs k with out:=[] },g.l++(g.cs k).out,g.said,g.sure,g.whn,g.lead⟩:Grp) p (uO O k (own (p k) lv1 wv1 dv1 .nils)) lv2 sv wv (rows++rws)∧WF S9:=
  ⟨_,mA c8 hle 5 lv2 (by decide) cs2 l8.sl.one (g':=⟨eI g.cs k { g.cs k with out:=[] },g.l++(g.cs k).out,g.said,g.sure,g.whn,g.lead⟩) (p':=p) (lv':=lv2) (sv':=sv) (wv':=wv) rfl,jB,r8.keep ho2 w8 (Nat.le_refl _) (fun y b hy hb=>dP y b hy hb),(But.put (by rw [nx8];exact hr6.al) _).wf w8⟩
 simp only [gl6,bS,iI,cO,aP1,e8,aPc,st1]
 have hlen9:lenW lv2=.ok (.int .i64 (g.l++(g.cs k).out).length):=aKd r9.l r9.lets
 have gl9:=aFm c9
 simp only [gl9,bS,aLb,hlen9,dF]
 have hlt:(g.l++(g.cs k).out).length=g.l.length+(g.cs k).out.length:=List.length_append
 refine Ok.pickP (fun c=>?_) (fun c=>?_)
 ·have x10:Ext S9 (⟨S9.next+15,S9.heap⟩:St):=(Ext.refl S9).bump 15
  have w10:=x10.wf wS9
  have h10:GAt (⟨S9.next+15,S9.heap⟩:St) a (⟨eI g.cs k { g.cs k with out:=[] },g.l++(g.cs k).out,g.said,g.sure,g.whn,g.lead⟩:Grp) p (uO O k (own (p k) lv1 wv1 dv1 .nils)) lv2 sv wv (rows++rws):=GAt.ext ⟨c9,r9⟩ ho2 wS9 x10
  have gl10:=aFm h10.cell
  have hw:wr .i64 (((g.l++(g.cs k).out).length:Int) - 120)=(((g.l++(g.cs k).out).length - 120:Nat):Int):=by rw [cR (by omega) (by omega)];omega
  have hrl2:(rows++rws).length=(g.l++(g.cs k).out).length:=h10.rest.lets.len.symm
  have hbd:=kR (len:=(rows++rws).length) (l:=(((g.l++(g.cs k).out).length - 120:Nat):Int)) .i64 (by omega) (by omega)
  obtain ⟨lv3,e3,l3,b3⟩:=h10.rest.l.cut aW4 hbd (by omega) (Nat.le_refl _)
  rw [List.take_length] at l3
  have hto:((((g.l++(g.cs k).out).length - 120:Nat):Int)).toNat=(g.l++(g.cs k).out).length - 120:=by omega
  rw [hto] at l3
  have st2:=mA h10.cell hle 5 lv3 (by decide) (dV l3.sl) l3.sl.one (g':=g.post k) (p':=p) (lv':=lv3) (sv':=sv) (wv':=wv) rfl
  simp only [gl10,bS,aLb,hlen9,cL,hw,e3,aPc,st2]
  refine Ok.ret ⟨rfl,(But.put h10.rest.al _).wf w10,uO O k (own (p k) lv1 wv1 dv1 .nils),lv3,(rows++rws).drop ((g.l++(g.cs k).out).length - 120),jB,?_⟩
  have r11:=h10.rest.keep ho2 w10 (S':=⟨(⟨S9.next+15,S9.heap⟩:St).next,(⟨S9.next+15,S9.heap⟩:St).heap.put a (.row 0 209 [eS (g.post k) p lv3 sv wv])⟩) (Nat.le_refl _) (fun y b hy hb=>dP y b hy hb)
  refine ⟨r11.al,fun y hy=>r11.na y (by rw [←b3];exact hy),r11.cores,r11.sep,fun v v0 v5 y hy=>by rw [b3];exact r11.og v v0 v5 y hy,?_,wJ _ r11.lets,r11.sv,r11.wv⟩
  exact l3.keep (Nat.le_refl _) fun y b hy hb=>dP y b (r11.na y (.inl (by rw [←b3];exact hy))) hb
 ·refine Ok.ret ⟨rfl,wS9,uO O k (own (p k) lv1 wv1 dv1 .nils),lv2,rows++rws,?_⟩
  have e:g.post k=(⟨eI g.cs k { g.cs k with out:=[] },g.l++(g.cs k).out,g.said,g.sure,g.whn,g.lead⟩:Grp):=by
   unfold Grp.post fU
   have:(g.l++(g.cs k).out).length - 120=0:=by omega
   rw [this,List.drop_zero]
  rw [e]
  exact ⟨c9,r9⟩
end
end
section
variable [Guard]
def wK (a b:Hard) (n:Int):Prop:=∃ n' x' y',n≤n'∧a.log[(n' - a.base - 1).toNat]?=some x'∧b.log[(n' - b.base - 1).toNat]?=some y'∧x'.term=y'.term
section
variable {h1 h2:Hard} {u v:V} {S:St} {b1 b2:Nat} (c1:S.heap.get b1=some (.row 0 7 [bB h1 u])) (c2:S.heap.get b2=some (.row 0 7 [bB h2 v])) (hu:Sl S 3 u (h1.log.map bR)) (hv:Sl S 3 v (h2.log.map bR)) (k1:Hok h1) (k2:Hok h2) (al:wH h1 h2)
include c1 c2 hu hv k1 k2 al
theorem r94 {T:St} (w:WF T) (x:Ext S T) {same:Bool} {n:Int} (hn:max h1.base h2.base<n) (hm1:n≤bI h1) (hm2:n≤bI h2) (hs:same=true→wK h1 h2 n) {X:Type} {out:Nat→KS→X→St→An} {Q:Turn X→Prop}
  (hQ:∀ T' (same':Bool),WF T'→Ext S T'→(same'=true→wK h1 h2 (n - 1))→Q (.next [.bool false,.bool same',.int .i64 (n - 1)] T')):
  OkL out (fun k K aO=>aAe (aC prog bC bD k) k K (.ptr b1 0 0 0) (.ptr b2 0 0 0) [.bool false,.bool same,.int .i64 n] T aO) Q:=by
 have q1:=k1.b0
 have q2:=k2.b0
 have q3:=k1.li
 have q4:=k2.li
 have q5:=k1.ll
 have q6:=k2.ll
 have q7:=k1.b1
 have q8:=k2.b1
 unfold bI at hm1 hm2
 have xb:Ext T (⟨T.next+22,T.heap⟩:St):=(Ext.refl T).bump 22
 have xSb:=x.trans xb
 have d1:=x.old _ _ c1
 have d2:=x.old _ _ c2
 have e1:=xSb.old _ _ c1
 have e2:=xSb.old _ _ c2
 obtain ⟨xe,hx⟩:=nR (h:=h1) (n:=n) (by omega) (by unfold bI;omega)
 obtain ⟨ye,hy⟩:=nR (h:=h2) (n:=n) (by omega) (by unfold bI;omega)
 obtain ⟨j1,hj1⟩:∃ j:Nat,n - h1.base - 1=(j:Int):=⟨(n - h1.base - 1).toNat,by omega⟩
 obtain ⟨j2,hj2⟩:∃ j:Nat,n - h2.base - 1=(j:Int):=⟨(n - h2.base - 1).toNat,by omega⟩
 have hx':h1.log[j1]?=some xe:=by rw [hj1] at hx;exact hx
 have hy':h2.log[j2]?=some ye:=by rw [hj2] at hy;exact hy
 have w1:wr .i64 (n - h1.base)=n - h1.base:=cR (by omega) (by omega)
 have w2:wr .i64 (n - h1.base - 1)=(j1:Int):=by rw [cR (by omega) (by omega)];exact hj1
 have w3:wr .i64 (n - h2.base)=n - h2.base:=cR (by omega) (by omega)
 have w4:wr .i64 (n - h2.base - 1)=(j2:Int):=by rw [cR (by omega) (by omega)];exact hj2
 have w5:wr .i64 (n - 1)=n - 1:=cR (by omega) (by omega)
 obtain ⟨p1,hp1,at1,_,_⟩:=(hu.ext xSb).elem hx'
 obtain ⟨p2,hp2,at2,_,_⟩:=(hv.ext xSb).elem hy'
 have l1:aL (some 3) p1 (⟨T.next+22,T.heap⟩:St)=.ok (.agg (bR xe)):=by rw [at1.load0];exact cJ _ _ rfl
 have l2:aL (some 3) p2 (⟨T.next+22,T.heap⟩:St)=.ok (.agg (bR ye)):=by rw [at2.load0];exact cJ _ _ rfl
 obtain ⟨T1,T2,S3,S4,a1,a2,a3,x3,a4,x4,g1,g2⟩:=aW1 w (n:=22) (k1:=18) (k2:=19) (by decide) (by decide) (by decide) 3 [.int .i64 0,.int .i64 0,.str []] (bR xe) (bR ye) rfl rfl rfl rfl rfl
 have x3':=x.trans x3
 have f2:=x3'.old _ _ c2
 obtain ⟨p2',hp2',at2',_,_⟩:=(hv.ext x3').elem hy'
 rw [hp2] at hp2'
 cases hp2'
 have l3:aL (some 3) p2 S3=.ok (.agg (bR ye)):=by rw [at2'.load0];exact cJ _ _ rfl
 have y1:aL (some 3) (.ptr (T.next+18) 0 0 0) S4=.ok (.agg (bR xe)):=by rw [aY _ _ _ _ _ (aX g1)];exact cJ _ _ rfl
 have y2:aL (some 3) (.ptr (T.next+19) 0 0 0) S4=.ok (.agg (bR ye)):=by rw [aY _ _ _ _ _ (aX g2)];exact cJ _ _ rfl
 have y3:aL none (.ptr (T.next+18) 0 0 0) S4=.ok (.int .i64 xe.term):=by rw [aY _ _ _ _ _ (aX g1)];rfl
 have y4:aL none (.ptr (T.next+19) 0 0 0) S4=.ok (.int .i64 ye.term):=by rw [aY _ _ _ _ _ (aX g2)];rfl
 have hgt:max h1.base h2.base<n:=hn
 simp only [aAe,bE,fF,eR,aF,Nat.reduceAdd,bS,dY,jA d1,jA d2,uD,dF,hgt,decide_true,dD,iC,sO e1,jA e1,sO e2,jA e2,cL,w1,w2,w3,w4,aBw,hp1,hp2,aBy,l1,l2,a1,a2,aMl,a3,l3,iI,cO,jA f2,sO f2,a4]
 have w6:WF S4:=x4.wf w
 have xS4:=x.trans x4
 have eq_of:wK h1 h2 n→xe=ye:=fun ⟨n',x',y',b1,b2,b3,b4⟩=>al n n' xe ye x' y' (by omega) (by omega) b1 hx hy b2 b3 b4
 have next:∀ s':Bool,(s'=true→wK h1 h2 n)→Q (.next [.bool false,.bool s',.int .i64 (n - 1)] S4):=fun s' h=>hQ S4 s' w6 xS4 fun e=>by
  obtain ⟨n',x',y',b1,b2,b3,b4⟩:=h e
  exact ⟨n',x',y',by omega,b2,b3,b4⟩
 cases same with
 | true=>
  have e:=eq_of (hs rfl)
  subst e
  simp only [dD,aBy,y1,y2,bS,aB3,cO,wC,decide_true,Bool.not_true,aH,fE,nK,cL,w5]
  exact OkL.next (next true fun _=>hs rfl)
 | false=>
  simp only [aH,fE,Bool.not_false,dD,kB,aF,Nat.reduceAdd,bS,dY,y3,y4,aR,cO,bX]
  refine OkL.pickP (fun e=>?_) (fun e=>?_)
  ·have sa:wK h1 h2 n:=⟨n,xe,ye,Int.le_refl _,hx,hy,e⟩
   have e':=eq_of sa
   subst e'
   simp only [aBy,y1,y2,bS,aB3,cO,wC,decide_true,Bool.not_true,aH,nK,kB,aF,Nat.reduceAdd,dY,y3,y4,aR,bX,cL,w5]
   exact OkL.next (next true fun _=>sa)
  ·simp only [nK,aH,kB,aF,Nat.reduceAdd,bS,dY,y3,y4,aR,cO,bX,e,decide_false,cL,w5]
   exact OkL.next (next false fun h=>by cases h)
end
theorem g94 (h1 h2:Hard) (u v:V) (S:St) (w:WF S) (hu:Sl S 3 u (h1.log.map bR)) (hv:Sl S 3 v (h2.log.map bR)) (k1:Hok h1) (k2:Hok h2) (al:wH h1 h2):xD 94 [.agg (bB h1 u),.agg (bB h2 v)] S (.bool true):=by
 have ho:=dW h1 hu.one
 have ho2:=dW h2 hv.one
 have hln:(bB h1 u).length=7:=rfl
 have hln2:(bB h2 v).length=7:=rfl
 obtain ⟨S1,hn1,x1,hg1,hnx1⟩:=nb w 7 (bB h1 u)
 obtain ⟨S2,hn2,x2,hg2,hnx2⟩:=nb (x1.wf w) 7 (bB h2 v)
 have x02:=x1.trans x2
 have g1:=x2.old _ _ hg1
 have w2:=x2.wf (x1.wf w)
 have hu2:=hu.ext x02
 have hv2:=hv.ext x02
 have q1:=k1.b0
 have q2:=k2.b0
 have q3:=k1.li
 have q4:=k2.li
 have q5:=k1.ll
 have q6:=k2.ll
 have q7:=k1.b1
 have q8:=k2.b1
 have e1:wr .i64 (h1.base+h1.log.length)=bI h1:=cR (by omega) (by omega)
 have e2:wr .i64 (h2.base+h2.log.length)=bI h2:=cR (by omega) (by omega)
 have r1:bI h1=h1.base+h1.log.length:=rfl
 have r2:bI h2=h2.base+h2.log.length:=rfl
 refine e94 ?_
 simp only [m94,bK,ho,ho2,hln,hln2,cO,hn1,hn2,bS,fF,eR,aF,Nat.reduceAdd,dY,iC,jA g1,jA hg2,sO g1,sO hg2,kD,hu2.lenI,hv2.lenI,bQ,e1,e2,pR]
 refine Ok.loopL (F:=fun k K=>aAe (aC prog bC bD k) k K (.ptr S.next 0 0 0) (.ptr S1.next 0 0 0)) (ρ:=Unit) (α:=Nat) (X:=Unit) (List.range (min (bI h1) (bI h2) - max h1.base h2.base).toNat) (step:=fun _ _=>.inr ()) (fin:=id) (s:=())
  (out:=fun k K _ S'=>K (.bool true) S')
  (fun i _ vs T=>∃ same:Bool,vs=[.bool false,.bool same,.int .i64 (min (bI h1) (bI h2) - (i:Int))]∧WF T∧Ext S2 T∧(same=true→wK h1 h2 (min (bI h1) (bI h2) - (i:Int))))
  (fun _ _ T=>Ext S2 T) ?_ ?_ ⟨false,by simp,w2,Ext.refl _,fun h=>by cases h⟩ (fun _ T x=>Ok.ret ⟨rfl,x02.trans x⟩)
 ·rintro i j _ vs T ⟨same,rfl,wT,xT,hs⟩ hi
  have hil:=(List.getElem?_eq_some_iff.1 hi).1
  rw [List.length_range] at hil
  refine r94 g1 hg2 hu2 hv2 k1 k2 al wT xT (n:=min (bI h1) (bI h2) - (i:Int)) (by omega) (by omega) (by omega) hs fun T' same' wT' xT' hs'=>⟨(),rfl,same',?_,wT',xT',?_⟩
  ·rw [show min (bI h1) (bI h2) - (i:Int) - 1=min (bI h1) (bI h2) - ((i+1:Nat):Int) by omega]
  ·rw [show min (bI h1) (bI h2) - ((i+1:Nat):Int)=min (bI h1) (bI h2) - (i:Int) - 1 by omega];exact hs'
 ·rintro _ vs T ⟨same,rfl,wT,xT,hs⟩
  refine ⟨(),xT,fun k K aO=>?_⟩
  have hng:¬ max h1.base h2.base<min (bI h1) (bI h2) - ((List.range (min (bI h1) (bI h2) - max h1.base h2.base).toNat).length:Int):=by rw [List.length_range];omega
  simp only [aAe,bE,fF,aF,Nat.reduceAdd,aG,dY,jA (xT.old _ _ g1),jA (xT.old _ _ hg2),uD,dF,hng,decide_false,aH]
end
end Go.Proofs.Ytbiidlmhadihlaa
end
section
namespace Go.Raft
open Go.AM
set_option linter.unusedVariables false
set_option linter.unusedSectionVars false
set_option linter.unusedSimpArgs false
set_option maxRecDepth 100000
theorem Mn.setAt {S:St} {n:Nat} {v:V} {es:List (List V)} (h:Mn S n v es) (w:WF S) {i:Nat} (hi:i<es.length) {x:V} (hx:x.cells.length=n) (ho:aK x.cells=true):
  ∃ p S',(∀ k,pF n v (.int k (i:Int))=.ok p)∧bH n p x S=.ok S'∧Mn S' n v (es.set i x.cells)∧S'.next=S.next∧(∀ y b,aP v≠some y→S.heap.get y=some b→S'.heap.get y=some b)∧WF S'∧At S p (es.getD i []):=by
 rcases h.is with ⟨rfl,rfl⟩ | ⟨a,ver,tl,rfl,h2,h3,h4⟩
 ·cases hi
 ·have hat:es[i]?=some (es.getD i []):=by rw [List.getD_eq_getElem?_getD,List.getElem?_eq_getElem hi];rfl
  have hlen:=(h.len _ (List.mem_of_getElem? hat)).1
  have hat2:(es++tl)[i]?=some (es.getD i []):=by rw [List.getElem?_append_left hi];exact hat
  have hs:splice (es.getD i []) 0 x.cells=x.cells:=gK _ _ (by rw [hx,hlen])
  refine ⟨.ptr a ver i 0,⟨S.next,S.heap.put a (.row ver n ((es++tl).set i x.cells))⟩,fun k=>by simp only [pF,pH hi,if_true,Nat.zero_add],?_,⟨.inr ⟨a,ver,tl,by rw [List.length_set],h2,h3,?_⟩,fun c hc=>?_⟩,rfl,fun y b hy hb=>?_,(But.put h3 _).wf w,.inl ⟨a,ver,i,n,es++tl,rfl,aX h4,hat2⟩⟩
  ·simp only [bH,aX h4,hat2,hx,ho,true_and,hlen,Nat.zero_add,Nat.le_refl,if_true,hs]
  ·show (S.heap.put a _).get a=_
   rw [List.set_append_left _ _ hi]
   exact Tr.get_put_sameB _ _ _ trivial
  ·rcases List.mem_or_eq_of_mem_set hc with hc | rfl
   ·exact h.len c hc
   ·exact ⟨hx,ho⟩
  ·show (S.heap.put a _).get y=_
   rw [Tr.get_put_neB _ _ _ _ trivial (fun e=>hy (by rw [e];rfl))];exact hb
theorem Mn.one {S:St} {n b:Nat} {v:V} {es:List (List V)} (h:Mn S n v es) (w:WF S) {z c:List V} (hc:c.length=n∧aK c=true) (hb:1*n≤16777216) (h1:(es.length+1)*b≤35184372088832) (h2:es.length+1<fO):
  ∃ u S1 v' S',bM n z 1 [(0,.agg c)] none S=.ok (u,S1)∧fZ n b v u none S1=.ok (v',S')∧Mn S' n v' (es++[c])∧(∀ y,aP v'=some y→aP v=some y∨S.next≤y)∧(∀ y x,y<S.next→aP v≠some y→S.heap.get y=some x→S'.heap.get y=some x)∧S.next≤S'.next∧WF S':=by
 have e1:=aJk S n z [c] (fun x hx=>by rw [List.mem_singleton.1 hx];exact hc) (by simpa using hb)
 have x1:Ext S (⟨S.next+1,S.heap.put S.next (.row 0 n [c])⟩:St):=Ext.new w _
 have w1:=x1.wf w
 have g1:(⟨S.next+1,S.heap.put S.next (.row 0 n [c])⟩:St).heap.get S.next=some (.row 0 n [c]):=Tr.get_put_sameB _ _ _ trivial
 have s1:=Sl.many g1 (fun x hx=>by rw [List.mem_singleton.1 hx];exact hc)
 obtain ⟨v',S',q1,q2,q3,q4,q5,q6⟩:=Own.pushG (b:=b) (h.ext x1) (aFa w1) xC s1.elems s1.len (by simp) (by simpa using h1) (by simpa using h2)
 refine ⟨_,_,v',S',e1,q1,q3,fun y hy=>?_,fun y x hy hv hx=>?_,Nat.le_trans x1.next q6,q2.wf xC⟩
 ·rcases q4 with q4 | q4
  ·rw [q4] at hy;cases hy;right;exact Nat.le_succ _
  ·rw [q4] at hy;exact .inl hy
 ·rw [q5 y (Nat.lt_succ_of_lt hy) hv];exact x1.old _ _ hx
theorem GRest.lists {S S':St} {a:Nat} {g:Grp} {p:Int→Nat} {O:Int→Nat→Prop} {lv sv wv sv' wv':V} {rows:List (List V)} {su:List Entry} {wh:List Int} (h:GRest S a g p O lv sv wv rows) (ho:∀ v,0≤v→v<5→(g.cs v).out=[]) (w:WF S) (hn:S.next≤S'.next)
  (hk:∀ y b,y<S.next→aP sv≠some y→aP wv≠some y→S.heap.get y=some b→S'.heap.get y=some b)
  (hs:∀ y,aP sv'=some y→aP sv=some y∨S.next≤y) (hw:∀ y,aP wv'=some y→aP wv=some y∨S.next≤y) (ms:Mn S' 3 sv' (su.map bR)) (mw:Mn S' 1 wv' (wh.map aKc)):
  GRest S' a { g with sure:=su,whn:=wh } p O lv sv' wv' rows:=by
 have wid:∀ {y ver m} {el:List (List V)},S.heap.get y=some (.row ver m el)→m≠1→aP wv≠some y:=fun hy hm e=>by
  obtain ⟨_,ver',tl,_,h2⟩:=h.wv.blk e
  rw [hy] at h2
  injection h2 with h2
  injection h2 with _ h2
  exact hm h2
 have wid3:∀ {y ver m} {el:List (List V)},S.heap.get y=some (.row ver m el)→m≠3→aP sv≠some y:=fun hy hm e=>by
  obtain ⟨_,ver',tl,_,h2⟩:=h.sv.blk e
  rw [hy] at h2
  injection h2 with h2
  injection h2 with _ h2
  exact hm h2
 have Olt:∀ v,0≤v→v<5→∀ y,O v y→y<S.next:=fun v v0 v5 y hy=>by
  obtain ⟨m,hm⟩:=h.cores v v0 v5
  letI:Guard:=⟨m⟩
  exact Go.Proofs.Ytbiidlmhadihlaa.core_lt w hm y hy
 refine ⟨Nat.lt_of_lt_of_le h.al hn,fun y hy e=>?_,fun v v0 v5=>?_,h.sep,fun v v0 v5 y hy=>?_,?_,?_,ms,mw⟩
 ·have hal:=h.al
  rcases hy with hy | hy | hy
  ·exact h.na y (.inl hy) e
  ·rcases hs y hy with q | q
   ·exact h.na y (.inr (.inl q)) e
   ·omega
  ·rcases hw y hy with q | q
   ·exact h.na y (.inr (.inr q)) e
   ·omega
 ·obtain ⟨n,hc⟩:=h.cores v v0 v5
  refine ⟨n,hc.keep (ho v v0 v5) w hn fun y b hy hb=>?_⟩
  obtain ⟨_,_,o3,o4⟩:=h.og v v0 v5 y hy
  exact hk y b (w y b hb) o3 o4 hb
 ·obtain ⟨o1,o2,o3,o4⟩:=h.og v v0 v5 y hy
  have:=Olt v v0 v5 y hy
  refine ⟨o1,o2,fun e=>?_,fun e=>?_⟩
  ·rcases hs y e with q | q
   ·exact o3 q
   ·omega
  ·rcases hw y e with q | q
   ·exact o4 q
   ·omega
 ·refine h.l.keep hn fun y b hy hb=>?_
  obtain ⟨_,ver,el,h2⟩:=h.l.lt hy
  exact hk y b (w y b hb) (wid3 h2 (by decide)) (wid h2 (by decide)) hb
 ·exact lP w (fun y ver el _ _ h2 hb=>hk y _ (w y _ hb) h2 (wid hb (by decide)) hb) (fun v y _ _ hy=>.inl hy) hs h.lets
end Go.Raft
namespace Go.Proofs.Ytbiidlmhadihlaa
open Go.AM Go.Raft Try
set_option linter.unusedVariables false
set_option linter.unusedSectionVars false
set_option linter.unusedSimpArgs false
set_option maxRecDepth 100000
theorem aI2 {S:St} (w:WF S) {k1 k2:Nat} (f1:S.heap.get k1=none∧k1<S.next) (f2:S.heap.get k2=none∧k2<S.next) (hne:k1≠k2) (m n:Nat) (z y c1 c2:List V) (hz:z.length=m) (hy:y.length=n) (h1:c1.length=m) (o1:aK c1=true) (h2:c2.length=n) (o2:aK c2=true):
  ∃ T1 T2 S3 S4,aZ (some k1) S (.row 0 m [z])=.ok (k1,T1)∧aZ (some k2) T1 (.row 0 n [y])=.ok (k2,T2)∧bH m (.ptr k1 0 0 0) (.agg c1) T2=.ok S3∧bH n (.ptr k2 0 0 0) (.agg c2) S3=.ok S4∧Ext S S4∧S4.heap.get k1=some (.row 0 m [c1])∧S4.heap.get k2=some (.row 0 n [c2]):=by
 have hd:∀ x,(⟨S.next,S.heap.put k1 x⟩:St).heap.get k2=none:=fun x=>by show (S.heap.put k1 x).get k2=_;rw [Tr.get_put_neB _ _ _ _ trivial (Ne.symm hne)];exact f2.1
 have x1:Ext S (⟨S.next,S.heap.put k1 (.row 0 m [z])⟩:St):=Ext.newAt f1.1 f1.2 _
 have x2:Ext S (⟨S.next,(S.heap.put k1 (.row 0 m [z])).put k2 (.row 0 n [y])⟩:St):=x1.trans (Ext.newAt (S:=⟨S.next,S.heap.put k1 (.row 0 m [z])⟩) (hd _) f2.2 _)
 have g1:(⟨S.next,(S.heap.put k1 (.row 0 m [z])).put k2 (.row 0 n [y])⟩:St).heap.get k1=some (.row 0 m [z]):=by
  show ((S.heap.put k1 _).put k2 _).get k1=_
  rw [Tr.get_put_neB _ _ _ _ trivial hne];exact Tr.get_put_sameB _ _ _ trivial
 have e3:=cX (x:=.agg c1) (j:=0) (m:=m) g1 h1 o1 (by omega)
 have s3:splice z 0 (V.agg c1).cells=c1:=gK z c1 (by rw [h1,hz])
 rw [s3] at e3
 have g2:(⟨S.next,((S.heap.put k1 (.row 0 m [z])).put k2 (.row 0 n [y])).put k1 (.row 0 m [c1])⟩:St).heap.get k2=some (.row 0 n [y]):=by
  show (((S.heap.put k1 _).put k2 _).put k1 _).get k2=_
  rw [Tr.get_put_neB _ _ _ _ trivial (Ne.symm hne)];exact Tr.get_put_sameB _ _ _ trivial
 have e4:=cX (x:=.agg c2) (j:=0) (m:=n) g2 h2 o2 (by omega)
 have s4:splice y 0 (V.agg c2).cells=c2:=gK y c2 (by rw [h2,hy])
 rw [s4] at e4
 refine ⟨_,_,_,_,eE ..,eE ..,e3,e4,⟨fun q b hq=>?_,Nat.le_refl _,fun w q b hq=>?_⟩,?_,Tr.get_put_sameB _ _ _ trivial⟩
 ·show ((((S.heap.put k1 _).put k2 _).put k1 _).put k2 _).get q=_
  have n1:q≠k1:=fun e=>by rw [e,f1.1] at hq;cases hq
  have n2:q≠k2:=fun e=>by rw [e,f2.1] at hq;cases hq
  rw [Tr.get_put_neB _ _ _ _ trivial n2,Tr.get_put_neB _ _ _ _ trivial n1,Tr.get_put_neB _ _ _ _ trivial n2,Tr.get_put_neB _ _ _ _ trivial n1];exact hq
 ·have hq':((((S.heap.put k1 (Blk.row 0 m [z])).put k2 (.row 0 n [y])).put k1 (.row 0 m [c1])).put k2 (.row 0 n [c2])).get q=some b:=hq
  show q<S.next
  by_cases n1:q=k1
  ·rw [n1];exact f1.2
  by_cases n2:q=k2
  ·rw [n2];exact f2.2
  rw [Tr.get_put_neB _ _ _ _ trivial n2,Tr.get_put_neB _ _ _ _ trivial n1,Tr.get_put_neB _ _ _ _ trivial n2,Tr.get_put_neB _ _ _ _ trivial n1] at hq'
  exact w q b hq'
 ·show ((((S.heap.put k1 _).put k2 _).put k1 _).put k2 _).get k1=_
  rw [Tr.get_put_neB _ _ _ _ trivial hne];exact Tr.get_put_sameB _ _ _ trivial
end Go.Proofs.Ytbiidlmhadihlaa
end
section
namespace Go.Proofs.Ytbiidlmhadihlaa
open Go.AM Go.Raft Try
section
theorem aW5 {S:St} (w:WF S) (n:Nat) (z c:List V) (hz:z.length=n) (hc:c.length=n) (ho:aK c=true):
  ∃ S1 S2,aZ none S (.row 0 n [z])=.ok (S.next,S1)∧bH n (.ptr S.next 0 0 0) (.agg c) S1=.ok S2∧Ext S S2∧S2.heap.get S.next=some (.row 0 n [c]):=by
 have x1:Ext S (⟨S.next+1,S.heap.put S.next (.row 0 n [z])⟩:St):=Ext.new w _
 have g1:(⟨S.next+1,S.heap.put S.next (.row 0 n [z])⟩:St).heap.get S.next=some (.row 0 n [z]):=Tr.get_put_sameB _ _ _ trivial
 have e:=cX (x:=.agg c) (j:=0) (m:=n) g1 hc ho (by omega)
 have s:splice z 0 (V.agg c).cells=c:=gK z c (by rw [hc,hz])
 rw [s] at e
 exact ⟨_,_,dM ..,e,x1.set (Nat.le_refl _) (Nat.lt_succ_self _) w _,Tr.get_put_sameB _ _ _ trivial⟩
structure SafeI (S:St) (a:Nat) (g:Grp) (k:Int) (p:Int→Nat) (O:Int→Nat→Prop) (lv:V) (rows:List (List V)) (b1 b2:Nat) (la:V) (st:List Entry×List Int) (sv wv:V):Prop where
 wf:WF S
 at':GAt S a { g with sure:=st.1,whn:=st.2 } p O lv sv wv rows
 hb:S.heap.get b1=some (.row 0 7 [bB (g.cs k).h la])
 vb:S.heap.get b2=some (.row 0 6 [oE (g.cs k).view])
 hl:Sl S 3 la ((g.cs k).h.log.map bR)
 ls:∀ y,aP la=some y→aP sv≠some y
section
variable {S:St} {a:Nat} {g:Grp} {k:Int} {p:Int→Nat} {O:Int→Nat→Prop} {lv:V} {rows:List (List V)} {b1 b2:Nat} {la:V} {st:List Entry×List Int} {sv wv:V}
theorem SafeI.ext {S':St} (h:SafeI S a g k p O lv rows b1 b2 la st sv wv) (ho:∀ v,0≤v→v<5→(g.cs v).out=[]) (x:Ext S S'):SafeI S' a g k p O lv rows b1 b2 la st sv wv:=
 ⟨x.wf h.wf,h.at'.ext ho h.wf x,x.old _ _ h.hb,x.old _ _ h.vb,h.hl.ext x,h.ls⟩
theorem wne {S:St} {y ver m n:Nat} {v:V} {es el:List (List V)} (h:Mn S n v es) (hy:S.heap.get y=some (.row ver m el)) (hm:m≠n):aP v≠some y:=fun e=>by
 obtain ⟨_,ver',tl,_,h2⟩:=h.blk e
 rw [hy] at h2
 injection h2 with h2
 injection h2 with _ h2
 exact hm h2
theorem SafeI.move (h:SafeI S a g k p O lv rows b1 b2 la st sv wv) (ho:∀ v,0≤v→v<5→(g.cs v).out=[]) {S' S'':St} {su:List Entry} {wh:List Int} {sv' wv':V} (hn:S.next≤S'.next)
  (hk:∀ y b,y<S.next→aP sv≠some y→aP wv≠some y→S.heap.get y=some b→S'.heap.get y=some b)
  (hs:∀ y,aP sv'=some y→aP sv=some y∨S.next≤y) (hw:∀ y,aP wv'=some y→aP wv=some y∨S.next≤y) (ms:Mn S' 3 sv' (su.map bR)) (mw:Mn S' 1 wv' (wh.map aKc)) (w':WF S')
  (hcell:S''.heap.get a=some (.row 0 209 [eS { g with sure:=su,whn:=wh } p lv sv' wv'])) (hput:∀ y b,y≠a→S'.heap.get y=some b→S''.heap.get y=some b) (hn2:S'.next≤S''.next) (w'':WF S''):
  SafeI S'' a g k p O lv rows b1 b2 la (su,wh) sv' wv':=by
 have r:=h.at'.rest.lists (su:=su) (wh:=wh) ho h.wf hn hk hs hw ms mw
 have kk:∀ {y ver m el},S.heap.get y=some (.row ver m el)→m≠3→m≠1→y≠a→S''.heap.get y=some (.row ver m el):=fun hy h3 h1 hya=>hput _ _ hya (hk _ _ (h.wf _ _ hy) (wne h.at'.rest.sv hy h3) (wne h.at'.rest.wv hy h1) hy)
 have na:∀ {y ver m el},S.heap.get y=some (.row ver m el)→m≠209→y≠a:=fun hy hm e=>by
  rw [e,h.at'.cell] at hy
  injection hy with hy
  injection hy with _ hy
  exact hm hy.symm
 refine ⟨w'',⟨hcell,r.keep ho w' hn2 hput⟩,kk h.hb (by decide) (by decide) (na h.hb (by decide)),kk h.vb (by decide) (by decide) (na h.vb (by decide)),?_,fun y hy e=>?_⟩
 ·refine h.hl.keep fun y c hy hc=>?_
  have hrow:∃ ver el,c=.row ver 3 el:=by
   rcases h.hl.is with q | q | ⟨z,ver,off,el,q,g1,_⟩
   ·rw [q.1] at hy;cases hy
   ·rw [q] at hy;cases hy
   ·rw [q] at hy
    cases hy
    have:=eY g1
    rw [hc] at this
    cases this
    exact ⟨ver,el,rfl⟩
  obtain ⟨ver,el,rfl⟩:=hrow
  exact hput _ _ (na hc (by decide)) (hk _ _ (h.wf _ _ hc) (h.ls y hy) (wne h.at'.rest.wv hc (by decide)) hc)
 ·rcases hs y e with q | q
  ·exact h.ls y hy q
  ·have:=aHb h.wf h.hl y hy;omega
def zV:List V:=[.int .i64 0,.int .i64 0,.str []]
theorem SafeI.sv1 (h:SafeI S a g k p O lv rows b1 b2 la st sv wv) (ho:∀ v,0≤v→v<5→(g.cs v).out=[]) (hle:g.lead.length=200) (hb:st.1.length≤1000000):
  ∃ u S1 v' S2 S3,bM 3 zV 1 [(0,.agg zV)] none S=.ok (u,S1)∧fZ 3 32 sv u none S1=.ok (v',S2)∧bH 1 (.ptr a 0 0 7) v' S2=.ok S3∧SafeI S3 a g k p O lv rows b1 b2 la (st.1++[⟨0,0,[]⟩],st.2) v' wv ∧
   (∀ y,aP v'=some y→aP sv=some y∨S.next≤y)∧(∀ y x,y<S.next→y≠a→aP sv≠some y→S.heap.get y=some x→S3.heap.get y=some x)∧S.next≤S3.next:=by
 have r:=h.at'.rest
 obtain ⟨u,S1,v',S2,e1,e2,m,q1,q2,q3,w2⟩:=Mn.one (b:=32) r.sv h.wf (z:=zV) (c:=zV) ⟨rfl,rfl⟩ (by decide) (by rw [List.length_map];show (st.1.length+1)*32≤_;omega) (by rw [List.length_map];show st.1.length+1<_;unfold fO;omega)
 have c2:S2.heap.get a=some (.row 0 209 [eS { g with sure:=st.1,whn:=st.2 } p lv sv wv]):=q2 _ _ r.al (fun e=>r.na a (.inr (.inl e)) rfl) h.at'.cell
 have m':Mn S2 3 v' ((st.1++[(⟨0,0,[]⟩:Entry)]).map bR):=by rw [List.map_append];exact m
 have e3:=mA c2 hle 7 v' (by decide) (dV m'.sl) m'.sl.one (g':={ g with sure:=st.1++[⟨0,0,[]⟩],whn:=st.2 }) (p':=p) (lv':=lv) (sv':=v') (wv':=wv) rfl
 refine ⟨u,S1,v',S2,_,e1,e2,e3,h.move ho (S':=S2) q3 (fun y b hy hs _ hb=>q2 y b hy hs hb) q1 (fun y hy=>.inl hy) m' ?_ w2 jB (fun y b hy hb=>dP y b hy hb) (Nat.le_refl _) ((But.put (Nat.lt_of_lt_of_le r.al q3) _).wf w2),q1,fun y x hy hya hs hx=>dP y x hya (q2 y x hy hs hx),q3⟩
 exact Mn.fr r.wv q3 fun y b hy hb=>q2 y b (r.wv.blk hy).1 (by
  obtain ⟨_,ver,tl,_,g1⟩:=r.wv.blk hy
  exact wne r.sv g1 (by decide)) hb
theorem SafeI.wv1 (h:SafeI S a g k p O lv rows b1 b2 la st sv wv) (ho:∀ v,0≤v→v<5→(g.cs v).out=[]) (hle:g.lead.length=200) (hb:st.2.length≤1000000):
  ∃ u S1 v' S2 S3,bM 1 [.int .i64 0] 1 [(0,.int .i64 0)] none S=.ok (u,S1)∧fZ 1 8 wv u none S1=.ok (v',S2)∧bH 1 (.ptr a 0 0 8) v' S2=.ok S3∧SafeI S3 a g k p O lv rows b1 b2 la (st.1,st.2++[0]) sv v' ∧
   (∀ y x,y<S.next→y≠a→aP wv≠some y→S.heap.get y=some x→S3.heap.get y=some x)∧S.next≤S3.next:=by
 have r:=h.at'.rest
 have eb:bM 1 [.int .i64 0] 1 [(0,.int .i64 0)] none S=bM 1 [.int .i64 0] 1 [(0,.agg (aKc 0))] none S:=rfl
 obtain ⟨u,S1,v',S2,e1,e2,m,q1,q2,q3,w2⟩:=Mn.one (b:=8) r.wv h.wf (z:=[.int .i64 0]) (c:=aKc 0) ⟨rfl,rfl⟩ (by decide) (by rw [List.length_map];show (st.2.length+1)*8≤_;omega) (by rw [List.length_map];show st.2.length+1<_;unfold fO;omega)
 have c2:S2.heap.get a=some (.row 0 209 [eS { g with sure:=st.1,whn:=st.2 } p lv sv wv]):=q2 _ _ r.al (fun e=>r.na a (.inr (.inr e)) rfl) h.at'.cell
 have m':Mn S2 1 v' ((st.2++[0]).map aKc):=by rw [List.map_append];exact m
 have e3:=mA c2 hle 8 v' (by decide) (dV m'.sl) m'.sl.one (g':={ g with sure:=st.1,whn:=st.2++[0] }) (p':=p) (lv':=lv) (sv':=sv) (wv':=v') rfl
 refine ⟨u,S1,v',S2,_,by rw [eb];exact e1,e2,e3,h.move ho (S':=S2) q3 (fun y b hy _ hw hb=>q2 y b hy hw hb) (fun y hy=>.inl hy) q1 ?_ m' w2 jB (fun y b hy hb=>dP y b hy hb) (Nat.le_refl _) ((But.put (Nat.lt_of_lt_of_le r.al q3) _).wf w2),fun y x hy hya hs hx=>dP y x hya (q2 y x hy hs hx),q3⟩
 exact Mn.fr r.sv q3 fun y b hy hb=>q2 y b (r.sv.blk hy).1 (by
  obtain ⟨_,ver,tl,_,g1⟩:=r.sv.blk hy
  exact wne r.wv g1 (by decide)) hb
theorem SafeI.set (h:SafeI S a g k p O lv rows b1 b2 la st sv wv) (ho:∀ v,0≤v→v<5→(g.cs v).out=[]) {n:Nat} (h1:n<st.1.length) (h2:n<st.2.length) (x:Entry) (t:Int):
  ∃ q1 q2 S1 S2,pF 3 sv (.int .i64 (n:Int))=.ok q1∧bH 3 q1 (.agg (bR x)) S=.ok S1∧S1.heap.get b1=some (.row 0 7 [bB (g.cs k).h la])∧pF 1 wv (.int .i64 (n:Int))=.ok q2∧bH 1 q2 (.int .i64 t) S1=.ok S2∧SafeI S2 a g k p O lv rows b1 b2 la (st.1.set n x,st.2.set n t) sv wv:=by
 have r:=h.at'.rest
 obtain ⟨q1,S1,i1,s1,m1,n1,k1,w1,_⟩:=Mn.setAt r.sv h.wf (i:=n) (by rw [List.length_map];exact h1) (x:=.agg (bR x)) rfl rfl
 have m1':Mn S1 3 sv ((st.1.set n x).map bR):=by rw [List.map_set];exact m1
 have f1:=h.move ho (S':=S1) (S'':=S1) (su:=st.1.set n x) (wh:=st.2) (Nat.le_of_eq n1.symm) (fun y b _ hs _ hb=>k1 y b hs hb) (fun y hy=>.inl hy) (fun y hy=>.inl hy) m1' (Mn.fr r.wv (Nat.le_of_eq n1.symm) fun y b hy hb=>k1 y b (by
  obtain ⟨_,ver,tl,_,g1⟩:=r.wv.blk hy
  exact wne r.sv g1 (by decide)) hb) w1 (k1 _ _ (fun e=>r.na a (.inr (.inl e)) rfl) h.at'.cell) (fun y b _ hb=>hb) (Nat.le_refl _) w1
 have r1:=f1.at'.rest
 obtain ⟨q2,S2,i2,s2,m2,n2,k2,w2,_⟩:=Mn.setAt r1.wv f1.wf (i:=n) (by rw [List.length_map];exact h2) (x:=.int .i64 t) rfl rfl
 have m2':Mn S2 1 wv ((st.2.set n t).map aKc):=by rw [List.map_set];exact m2
 have f2:=f1.move ho (S':=S2) (S'':=S2) (su:=st.1.set n x) (wh:=st.2.set n t) (Nat.le_of_eq n2.symm) (fun y b _ _ hw hb=>k2 y b hw hb) (fun y hy=>.inl hy) (fun y hy=>.inl hy) (Mn.fr r1.sv (Nat.le_of_eq n2.symm) fun y b hy hb=>k2 y b (by
  obtain ⟨_,ver,tl,_,g1⟩:=r1.sv.blk hy
  exact wne r1.wv g1 (by decide)) hb) m2' w2 (k2 _ _ (fun e=>r1.na a (.inr (.inr e)) rfl) f1.at'.cell) (fun y b _ hb=>hb) (Nat.le_refl _) w2
 exact ⟨q1,q2,S1,S2,i1 .i64,s1,f1.hb,i2 .i64,s2,f2⟩
end
end
section
variable [Guard]
theorem aSg {S:St} {b:Nat} {v:View} (h:S.heap.get b=some (.row 0 6 [oE v])):aL none (.ptr b 0 0 0) S=.ok (.int .i64 v.role):=by rw [aY _ _ _ _ _ (aX h)];rfl
theorem aI3 {α:Type} (l:List α) (j:Nat) (z:α):l++List.replicate (j+1) z=(l++List.replicate j z)++[z]:=by
 rw [List.append_assoc,List.replicate_succ']
section
variable {S:St} {a:Nat} {g:Grp} {k:Int} {p:Int→Nat} {O:Int→Nat→Prop} {lv:V} {rows:List (List V)} {b1 b2 b3:Nat} {la:V} {st:List Entry×List Int} {sv wv p1:V} {x:Entry} {n:Nat}
theorem aY2 (h:SafeI S a g k p O lv rows b1 b2 la st sv wv) (ho:∀ v,0≤v→v<5→(g.cs v).out=[]) (hx:S.heap.get b3=some (.row 0 3 [bR x])) (hn:n<st.1.length) (hn2:st.1.length=st.2.length) (hn1:n<1000000)
  (ok:(st.1.getD n ⟨0,0,[]⟩).term≠0→st.1.getD n ⟨0,0,[]⟩=x) {ag1:Nat→KS→Ag→Ag} {X:Type} {out:Nat→KS→X→St→An} {Q:Turn X→Prop}
  (hQ:∀ S',SafeI S' a g k p O lv rows b1 b2 la (if (st.1.getD n ⟨0,0,[]⟩).term=0 then (st.1.set n x,st.2.set n (g.cs k).h.term) else st) sv wv→Q (.next [.bool false,.int .i64 ((n:Int)+2)] S')):
  OkL out (fun κ K aO=>pK (aC prog bC bD κ) κ K aO (.ptr a 0 0 0) p1 (.bool false) (.ptr b1 0 0 0) (.ptr b2 0 0 0) (.int .i64 ((n:Int)+1)) (.ptr b3 0 0 0) [] S (ag1 κ K aO)) Q:=by
 have r:=h.at'.rest
 have hge:¬ (st.1.length:Int)<(n:Int)+1:=by omega
 have xb:Ext S (⟨S.next+22,S.heap⟩:St):=(Ext.refl S).bump 22
 have h1:=h.ext ho xb
 have hx1:=xb.old _ _ hx
 obtain ⟨y,hy⟩:∃ y,st.1[n]?=some y:=⟨_,List.getElem?_eq_getElem hn⟩
 have hyd:st.1.getD n ⟨0,0,[]⟩=y:=kT hy
 rw [hyd] at ok hQ
 have w1:wr .i64 ((n:Int)+1 - 1)=(n:Int):=by rw [cR (by omega) (by omega)];omega
 have w2:wr .i64 ((n:Int)+1+1)=(n:Int)+2:=by rw [cR (by omega) (by omega)];omega
 obtain ⟨q,hq,at1,_,_⟩:=h1.at'.rest.sv.sl.elem hy
 have t1:aL none (adv 0 q) (⟨S.next+22,S.heap⟩:St)=.ok (.int .i64 y.term):=by rw [at1.load];rfl
 have t2:aL (some 3) q (⟨S.next+22,S.heap⟩:St)=.ok (.agg (bR y)):=by rw [at1.load0];exact cJ _ _ rfl
 have t3:aL (some 3) (.ptr b3 0 0 0) (⟨S.next+22,S.heap⟩:St)=.ok (.agg (bR x)):=by rw [aY _ _ _ _ _ (aX hx1)];exact cJ _ _ rfl
 have gs:=aI0 h.at'.cell
 have gs1:=aI0 h1.at'.cell
 have j1n:y.term≠0→OkL out (fun κ K aO=>vR (aC prog bC bD κ) κ K aO (.ptr a 0 0 0) p1 (.bool false) (.ptr b1 0 0 0) (.ptr b2 0 0 0) (.int .i64 ((n:Int)+1)) (.ptr b3 0 0 0) (⟨S.next+22,S.heap⟩:St)) Q:=fun hy0=>by
  simp only [vR,dQ,aAj,aF,Nat.reduceAdd,bS,iC,gs1,cL,w1,aBw,hq,kB,at1.advW,dY,t1,aR,cO,bX,hy0,decide_false,aH,bQ,w2]
  rw [if_neg hy0] at hQ
  exact OkL.next (hQ _ h1)
 have j1z:y.term=0→OkL out (fun κ K aO=>vR (aC prog bC bD κ) κ K aO (.ptr a 0 0 0) p1 (.bool false) (.ptr b1 0 0 0) (.ptr b2 0 0 0) (.int .i64 ((n:Int)+1)) (.ptr b3 0 0 0) (⟨S.next+22,S.heap⟩:St)) Q:=fun hy0=>by
  have xc:Ext (⟨S.next+22,S.heap⟩:St) (⟨S.next+22+19,S.heap⟩:St):=(Ext.refl (⟨S.next+22,S.heap⟩:St)).bump 19
  have h2:=h1.ext ho xc
  have hx2:=xc.old _ _ hx1
  have gs2:=aI0 h2.at'.cell
  have gw2:=aT4 h2.at'.cell
  have t4:aL (some 3) (.ptr b3 0 0 0) (⟨S.next+22+19,S.heap⟩:St)=.ok (.agg (bR x)):=by rw [aY _ _ _ _ _ (aX hx2)];exact cJ _ _ rfl
  obtain ⟨q1,q2,S1,S2,i1,i2,i3,i4,i5,i6⟩:=h2.set ho (n:=n) hn (by omega) x (g.cs k).h.term
  rw [hq] at i1
  cases i1
  simp only [vR,dQ,aAj,aP6,aF,Nat.reduceAdd,bS,iC,aXl,gs1,cL,w1,aBw,hq,kB,at1.advW,dY,t1,aR,cO,bX,hy0,decide_true,dD,gs2,gw2,aBy,t4,gL,uE h2.hb,aMl,i2,uE i3,cN,aRs,i4,st3,i5,bQ,w2]
  rw [if_pos hy0] at hQ
  exact OkL.next (hQ _ i6)
 simp only [pK,dQ,aAj,aF,Nat.reduceAdd,bS,iC,gs,kD,r.sv.sl.lenI,bG,hge,decide_false,aH,gs1,cL,w1,aBw,hq,kB,at1.advW,dY,t1,aR,cO,dG]
 refine OkL.pickN (fun e=>?_) (fun e=>?_)
 ·have:=ok e
  subst this
  simp only [aBy,t2,t3,bS,aB3,cO,wC,decide_true,Bool.not_true,aH]
  exact j1n e
 ·exact j1z e
theorem bBl (h:SafeI S a g k p O lv rows b1 b2 la st sv wv) (ho:∀ v,0≤v→v<5→(g.cs v).out=[]) (hle:g.lead.length=200) (hx:S.heap.get b3=some (.row 0 3 [bR x])) (hb3:aP sv≠some b3) (hba:b3≠a) (hn2:st.1.length=st.2.length) (hl:st.1.length≤100000) (hn1:n<100000)
  (ok:((pW st n).1.getD n ⟨0,0,[]⟩).term≠0→(pW st n).1.getD n ⟨0,0,[]⟩=x) {X:Type} {out:Nat→KS→X→St→An} {Q:Turn X→Prop}
  (hQ:∀ S' sv' wv',SafeI S' a g k p O lv rows b1 b2 la (if ((pW st n).1.getD n ⟨0,0,[]⟩).term=0 then ((pW st n).1.set n x,(pW st n).2.set n (g.cs k).h.term) else pW st n) sv' wv'→Q (.next [.bool false,.int .i64 ((n:Int)+2)] S')):
  OkL out (fun κ K aO=>cS κ [] S (pK (aC prog bC bD κ) κ K aO (.ptr a 0 0 0) p1 (.bool false) (.ptr b1 0 0 0) (.ptr b2 0 0 0) (.int .i64 ((n:Int)+1)) (.ptr b3 0 0 0))) Q:=by
 have ee:∀ j,(st.1++List.replicate j (⟨0,0,[]⟩:Entry)).length=st.1.length+j:=fun j=>by rw [List.length_append,List.length_replicate]
 refine OkL.loop (F:=fun κ K ag vs T aO=>pK (aC prog bC bD κ) κ K ag (.ptr a 0 0 0) p1 (.bool false) (.ptr b1 0 0 0) (.ptr b2 0 0 0) (.int .i64 ((n:Int)+1)) (.ptr b3 0 0 0) vs T aO) (σ:=Unit) (ρ:=Unit) (α:=Nat) (Y:=Unit) (List.range (n+1 - st.1.length)) (step:=fun _ _=>.inr ()) (fin:=id) (s:=())
  (out2:=fun κ K ag _ T=>pK (aC prog bC bD κ) κ K ag (.ptr a 0 0 0) p1 (.bool false) (.ptr b1 0 0 0) (.ptr b2 0 0 0) (.int .i64 ((n:Int)+1)) (.ptr b3 0 0 0) [] T (fun _ _=>none))
  (fun j _ vs T=>vs=[]∧j≤n+1 - st.1.length∧∃ sv' wv',SafeI T a g k p O lv rows b1 b2 la (st.1++List.replicate j ⟨0,0,[]⟩,st.2++List.replicate j 0) sv' wv'∧T.heap.get b3=some (.row 0 3 [bR x])∧aP sv'≠some b3)
  (fun _ _ T=>∃ sv' wv',SafeI T a g k p O lv rows b1 b2 la (pW st n) sv' wv'∧T.heap.get b3=some (.row 0 3 [bR x])∧aP sv'≠some b3)
  ?_ ?_ ⟨rfl,Nat.zero_le _,sv,wv,by simpa using h,hx,hb3⟩ (fun _ T ⟨sv',wv',hT,hxT,_⟩=>?_)
 ·rintro j _ _ vs T ⟨rfl,hj,sv',wv',hT,hxT,hsT⟩ hi
  have hil:=(List.getElem?_eq_some_iff.1 hi).1
  rw [List.length_range] at hil
  have e1:=ee j
  obtain ⟨u,S1,v',S2,S3,i1,i2,i3,h3,i5,i6,i7⟩:=hT.sv1 ho hle (by show (st.1++List.replicate j (⟨0,0,[]⟩:Entry)).length≤_;omega)
  obtain ⟨u2,S4,v2,S5,S6,j1,j2,j3,h6,j6,j7⟩:=h3.wv1 ho hle (by show (st.2++List.replicate j (0:Int)).length≤_;rw [List.length_append,List.length_replicate];omega)
  refine ⟨0,.inr ⟨(),[],S6,rfl,⟨rfl,by omega,v',v2,?_,?_,?_⟩,fun κ K ag aO _=>?_⟩⟩
  ·rw [aI3,aI3];exact h6
  ·refine j6 b3 _ ?_ hba (wne h3.at'.rest.wv (i6 b3 _ (hT.wf _ _ hxT) hba hsT hxT) (by decide)) (i6 b3 _ (hT.wf _ _ hxT) hba hsT hxT)
   exact Nat.lt_of_lt_of_le (hT.wf _ _ hxT) i7
  ·intro e
   rcases i5 b3 e with e | e
   ·exact hsT e
   ·have:=hT.wf _ _ hxT;omega
  ·have hlt:(((st.1++List.replicate j (⟨0,0,[]⟩:Entry)).length:Nat):Int)<(n:Int)+1:=by omega
   have gs:=aI0 hT.at'.cell
   have gw:=aT4 h3.at'.cell
   have bz:bO prog 59 []=.ok (.agg zV):=by rw [aRp];rfl
   have i1':bM 3 [.int .i64 0,.int .i64 0,.str []] 1 [(0,.agg zV)] none T=.ok (u,S1):=i1
   simp only [pK,dQ,aAj,aP6,aF,Nat.reduceAdd,bS,iC,aXl,gs,kD,hT.at'.rest.sv.sl.lenI,bG,hlt,decide_true,dD,bz,aP3,i1',tV,i2,aH7,i3,gw,aVh,j1,aP2,j2,bAq,j3]
 ·rintro _ vs T ⟨rfl,hj,sv',wv',hT,hxT,hsT⟩
  rw [List.length_range] at hT
  have hT':SafeI T a g k p O lv rows b1 b2 la (pW st n) sv' wv':=hT
  have hge:¬ (((st.1++List.replicate (n+1 - st.1.length) (⟨0,0,[]⟩:Entry)).length:Nat):Int)<(n:Int)+1:=by have:=ee (n+1 - st.1.length);omega
  have gs:=aI0 hT.at'.cell
  refine ⟨0,(),T,⟨sv',wv',hT',hxT,hsT⟩,fun κ K ag aO _=>?_⟩
  simp only [pK,dQ,aAj,aF,Nat.reduceAdd,bS,iC,gs,kD,hT.at'.rest.sv.sl.lenI,bG,hge,decide_false,aH]
 ·have l1:(pW st n).1.length=st.1.length+(n+1 - st.1.length):=ee _
  have l2:(pW st n).2.length=st.2.length+(n+1 - st.1.length):=by show (st.2++List.replicate _ (0:Int)).length=_;rw [List.length_append,List.length_replicate]
  exact aY2 (ag1:=fun _ _ _ _ _=>none) hT ho hxT (by omega) (by omega) (by omega) ok fun S' hS'=>hQ S' sv' wv' hS'
end
end
section
variable [Guard]
section
variable {S:St} {a:Nat} {g:Grp} {kn:Nat} {p:Int→Nat} {O:Int→Nat→Prop} {lv:V} {rows:List (List V)} {b1 b2:Nat} {la:V} {st:List Entry×List Int} {sv wv:V}
theorem bBm (h:SafeI S a g (kn:Int) p O lv rows b1 b2 la st sv wv) (hk:kn<5) (ho:∀ v,0≤v→v<5→(g.cs v).out=[]) (inv:∀ v,0≤v→v<5→Raft.Inv (g.cs v)) (al:∀ i,0≤i→i<5→i≠(kn:Int)→wH (g.cs (kn:Int)).h (g.cs i).h):
  Ok (fun κ K=>cS κ [.bool false,.int .i64 0] S (vS (aC prog bC bD κ) κ K (.ptr a 0 0 0) (.int .i64 (kn:Int)) (.ptr b1 0 0 0))) fun u S'=>u=.bool true∧SafeI S' a g (kn:Int) p O lv rows b1 b2 la st sv wv:=by
 refine Ok.loopL (F:=fun κ K=>vS (aC prog bC bD κ) κ K (.ptr a 0 0 0) (.int .i64 (kn:Int)) (.ptr b1 0 0 0)) (ρ:=Unit) (α:=Nat) (X:=Unit) (List.range 5) (step:=fun _ _=>.inr ()) (fin:=id) (s:=())
  (out:=fun κ K _ S'=>K (.bool true) S')
  (fun i _ vs T=>vs=[.bool false,.int .i64 (i:Int)]∧i≤5∧SafeI T a g (kn:Int) p O lv rows b1 b2 la st sv wv)
  (fun _ _ T=>SafeI T a g (kn:Int) p O lv rows b1 b2 la st sv wv) ?_ ?_ ⟨rfl,Nat.zero_le _,h⟩ (fun _ T hT=>Ok.ret ⟨rfl,hT⟩)
 ·rintro i j _ vs T ⟨rfl,hi5,hT⟩ hi
  have hil:=(List.getElem?_eq_some_iff.1 hi).1
  rw [List.length_range] at hil
  have hlt:(i:Int)<5:=by omega
  have hwi:wr .i64 ((i:Int)+1)=((i+1:Nat):Int):=fG hil (by decide)
  have xb:Ext T (⟨T.next+15,T.heap⟩:St):=(Ext.refl T).bump 15
  have h1:=hT.ext ho xb
  simp only [vS,bE,bG,bS,hlt,decide_true,dD,aR,cO,dG]
  refine OkL.pickN (fun e=>?_) (fun e=>?_)
  ·have gc:=uN h1.at'.cell (v:=(i:Int)) (by omega) (by omega)
   have hit:((i:Int)).toNat=i:=by omega
   rw [hit] at gc
   obtain ⟨n,hc⟩:=h1.at'.rest.cores (i:Int) (by omega) (by omega)
   simp only [xP,aPt h1.hb,bS,dQ,iW,aF,Nat.reduceAdd,mB,cZ hil,Nat.mul_one,Nat.zero_add,xQ,gc]
   refine OkL.call (letI:Guard:=⟨n⟩;g14 h1.wf hc (inv (i:Int) (by omega) (by omega)).h) fun u S2 ⟨x2,lv',e2,o2⟩=>?_
   subst e2
   have h2:=h1.ext ho x2
   simp only [aPt h2.hb,bS,iI,cO]
   refine (g94 (g.cs (kn:Int)).h (g.cs (i:Int)).h la lv' S2 h2.wf h2.hl o2.sl (inv (kn:Int) (by omega) (by omega)).h (inv (i:Int) (by omega) (by omega)).h (al (i:Int) (by omega) (by omega) e)).callL fun S3 x3=>?_
   simp only [fE,bS,Bool.not_true,aH,bQ,hwi]
   exact OkL.next ⟨(),rfl,rfl,by omega,h2.ext ho x3⟩
  ·simp only [bQ,bS,hwi]
   exact OkL.next ⟨(),rfl,rfl,by omega,h1⟩
 ·rintro _ vs T ⟨rfl,_,hT⟩
  have hlt:¬ (((List.range 5).length:Nat):Int)<5:=by rw [List.length_range];omega
  refine ⟨(),hT,fun κ K aO=>?_⟩
  simp only [vS,bE,bG,aG,hlt,decide_false,aH]
theorem j65 (h:SafeI S a g (kn:Int) p O lv rows b1 b2 la (g.sure,g.whn) sv wv) (hk:kn<5) (ho:∀ v,0≤v→v<5→(g.cs v).out=[]) (inv:∀ v,0≤v→v<5→Raft.Inv (g.cs v)) (al:∀ i,0≤i→i<5→i≠(kn:Int)→wH (g.cs (kn:Int)).h (g.cs i).h)
  (hle:g.lead.length=200) (hsw:g.sure.length=g.whn.length) (hsl:g.sure.length≤90000) (hlast:(g.cs (kn:Int)).last≤90000) (ok:okS (g.cs (kn:Int)).h.term (g.cs (kn:Int)).sures (g.cs (kn:Int)).h.base.toNat (g.sure,g.whn)):
  Ok (fun κ K=>aAb (aC prog bC bD κ) κ K (.ptr a 0 0 0) (.int .i64 (kn:Int)) (.ptr b1 0 0 0) (.ptr b2 0 0 0) S) fun u S'=>u=.bool true∧WF S'∧∃ sv' wv',GAt S' a { g with sure:=(kE (g.cs (kn:Int)).h.term (g.cs (kn:Int)).sures (g.cs (kn:Int)).h.base.toNat (g.sure,g.whn)).1,whn:=(kE (g.cs (kn:Int)).h.term (g.cs (kn:Int)).sures (g.cs (kn:Int)).h.base.toNat (g.sure,g.whn)).2 } p O lv sv' wv' rows:=by
 have I:=inv (kn:Int) (by omega) (by omega)
 have q1:=I.h.b0
 have q2:=I.s0
 have q3:=I.s1
 have hlastd:(g.cs (kn:Int)).last=(g.cs (kn:Int)).h.base+(g.cs (kn:Int)).h.log.length:=rfl
 have hsl2:(g.cs (kn:Int)).sures.length=((g.cs (kn:Int)).sure - (g.cs (kn:Int)).h.base).toNat:=by
  unfold Core.sures;rw [List.length_take];omega
 generalize hb0:(g.cs (kn:Int)).h.base.toNat=b at ok ⊢
 have w0:wr .i64 ((g.cs (kn:Int)).h.base+1)=(g.cs (kn:Int)).h.base+1:=cR (by omega) (by omega)
 have e0:(g.cs (kn:Int)).h.base+1=((b:Nat):Int)+1+((0:Nat):Int):=by omega
 simp only [aAb,fF,aF,Nat.reduceAdd,bS,dY,jA h.hb,bQ,w0]
 rw [e0]
 refine Ok.loopL (F:=fun κ K=>aEp (aC prog bC bD κ) κ K (.ptr a 0 0 0) (.int .i64 (kn:Int)) (.ptr b1 0 0 0) (.ptr b2 0 0 0)) (ρ:=Unit) (α:=Entry) (X:=Unit) (g.cs (kn:Int)).sures (step:=fun _ _=>.inr ()) (fin:=id) (s:=())
  (out:=fun κ K _ S'=>cS κ [.bool false,.int .i64 0] S' (vS (aC prog bC bD κ) κ K (.ptr a 0 0 0) (.int .i64 (kn:Int)) (.ptr b1 0 0 0)))
  (fun i _ vs T=>vs=[.bool false,.int .i64 (((b:Nat):Int)+1+(i:Int))]∧∃ st sv wv,SafeI T a g (kn:Int) p O lv rows b1 b2 la st sv wv∧st.1.length=st.2.length∧st.1.length≤max 90000 (b+i) ∧
   okS (g.cs (kn:Int)).h.term ((g.cs (kn:Int)).sures.drop i) (b+i) st∧kE (g.cs (kn:Int)).h.term (g.cs (kn:Int)).sures b (g.sure,g.whn)=kE (g.cs (kn:Int)).h.term ((g.cs (kn:Int)).sures.drop i) (b+i) st)
  (fun _ _ T=>∃ sv wv,SafeI T a g (kn:Int) p O lv rows b1 b2 la (kE (g.cs (kn:Int)).h.term (g.cs (kn:Int)).sures b (g.sure,g.whn)) sv wv) ?_ ?_ ⟨rfl,(g.sure,g.whn),sv,wv,h,hsw,by show g.sure.length≤_;omega,ok,rfl⟩ (fun _ T ⟨sv',wv',hT⟩=>?_)
 ·rintro i x _ vs T ⟨rfl,st,sv',wv',hT,hl,hmx,hok,hnote⟩ hi
  have hil:=(List.getElem?_eq_some_iff.1 hi).1
  have hdrop:(g.cs (kn:Int)).sures.drop i=x::(g.cs (kn:Int)).sures.drop (i+1):=by
   rw [List.drop_eq_getElem_cons hil,(List.getElem?_eq_some_iff.1 hi).2]
  rw [hdrop] at hok hnote
  have hlog:(g.cs (kn:Int)).h.log[i]?=some x:=by
   unfold Core.sures at hi
   rw [List.getElem?_take] at hi
   split at hi
   ·exact hi
   ·cases hi
  have hle1:((b:Nat):Int)+1+(i:Int)≤(g.cs (kn:Int)).sure:=by omega
  have e1:wr .i64 (((b:Nat):Int)+1+(i:Int) - (g.cs (kn:Int)).h.base)=(i:Int)+1:=by rw [cR (by omega) (by omega)];omega
  have e2:wr .i64 ((i:Int)+1 - 1)=(i:Int):=by rw [cR (by omega) (by omega)];omega
  obtain ⟨q,hq,at1,_,_⟩:=hT.hl.elem hlog
  have lx:aL (some 3) q T=.ok (.agg (bR x)):=by rw [at1.load0];exact cJ _ _ rfl
  obtain ⟨S1,S2,v1,v2,x2,hx⟩:=aW5 hT.wf 3 [.int .i64 0,.int .i64 0,.str []] (bR x) rfl rfl rfl
  have h2:=hT.ext ho x2
  have hn3:aP sv'≠some T.next:=fun e=>by have:=(hT.at'.rest.sv.blk e).1;omega
  have hna:T.next≠a:=fun e=>by have:=hT.at'.rest.al;omega
  simp only [aEp,bE,aF1,aF,Nat.reduceAdd,bS,dY,qO hT.vb,fR]
  have hle1':((b:Nat):Int)+1+(i:Int)≤(g.cs (kn:Int)).view.commit:=hle1
  simp only [hle1',decide_true,dD,eR,fF,aF,Nat.reduceAdd,bS,iC,dY,sO hT.hb,jA hT.hb,cL,e1,e2,aBw,hq,aBy,lx,v1,aMl,v2]
  have e3:((b:Nat):Int)+1+(i:Int)=((b+i:Nat):Int)+1:=by omega
  rw [e3]
  obtain ⟨ok1,ok2⟩:=hok
  refine bBl (n:=b+i) h2 ho hle hx hn3 hna hl (by omega) (by omega) ok1 fun S' sv2 wv2 hS=>?_
  have ll:(pW st (b+i)).1.length=st.1.length+(b+i+1 - st.1.length):=by show (st.1++List.replicate _ (⟨0,0,[]⟩:Entry)).length=_;rw [List.length_append,List.length_replicate]
  have ll2:(pW st (b+i)).2.length=st.2.length+(b+i+1 - st.1.length):=by show (st.2++List.replicate _ (0:Int)).length=_;rw [List.length_append,List.length_replicate]
  refine ⟨(),rfl,?_,_,sv2,wv2,hS,?_,?_,ok2,hnote⟩
  ·rw [show ((b+i:Nat):Int)+2=((b:Nat):Int)+1+((i+1:Nat):Int) by omega]
  ·split
   ·simp only [List.length_set];omega
   ·omega
  ·split
   ·simp only [List.length_set];omega
   ·omega
 ·rintro _ vs T ⟨rfl,st,sv',wv',hT,hl,hmx,hok,hnote⟩
  rw [List.drop_length] at hnote
  have hnote':kE (g.cs (kn:Int)).h.term (g.cs (kn:Int)).sures b (g.sure,g.whn)=st:=hnote
  have hgt:¬ ((b:Nat):Int)+1+(((g.cs (kn:Int)).sures.length:Nat):Int)≤(g.cs (kn:Int)).view.commit:=by
   show ¬ _≤(g.cs (kn:Int)).sure
   omega
  refine ⟨(),⟨sv',wv',by rw [hnote'];exact hT⟩,fun κ K aO=>?_⟩
  simp only [aEp,bE,aF1,aF,Nat.reduceAdd,aG,dY,qO hT.vb,fR,hgt,decide_false,aH]
 ·obtain ⟨u,S',N,⟨hu,hS'⟩,hrun⟩:=bBm hT hk ho inv al
  exact ⟨u,S',N,⟨hu,hS'.wf,sv',wv',hS'.at'⟩,hrun⟩
theorem g65 (h:GAt S a g p O lv sv wv rows) (w:WF S) (hk:kn<5) (F:Fit g 90000) (ok:SafeOK g (kn:Int)):
  Does prog bC bD 65 [.ptr a 0 0 0,.int .i64 (kn:Int)] S fun u S'=>u=.bool true∧WF S'∧∃ sv' wv',GAt S' a (g.note (kn:Int)) p O lv sv' wv' rows:=by
 have k0:(0:Int)≤(kn:Int):=by omega
 have k5:(kn:Int)<5:=by omega
 have hkt:((kn:Int)).toNat=kn:=by omega
 have I:=F.inv (kn:Int) k0 k5
 have ho:=F.out
 have hle:=F.lead
 have xb:Ext S (⟨S.next+18,S.heap⟩:St):=(Ext.refl S).bump 18
 have hb:=h.ext ho w xb
 have wb:=xb.wf w
 have gc:=uN hb.cell k0 k5
 rw [hkt] at gc
 obtain ⟨n,hc⟩:=hb.rest.cores (kn:Int) k0 k5
 refine e65 ?_
 simp only [m65,dQ,iW,aF,Nat.reduceAdd,Nat.zero_add,bS,mB,cZ hk,Nat.mul_one,xQ,gc]
 refine Does.call (Does.dead mT (letI:Guard:=⟨n⟩;g14 wb hc I.h)) fun u S7 ⟨⟨x7,la,e7,o7⟩,d7⟩=>?_
 subst e7
 have h7:=hb.ext ho wb x7
 have w7:=x7.wf wb
 have gc7:=uN h7.cell k0 k5
 rw [hkt] at gc7
 obtain ⟨n7,hc7⟩:=h7.rest.cores (kn:Int) k0 k5
 simp only [gc7,bS,iI,cO]
 refine Does.call (Does.dead mT (letI:Guard:=⟨n7⟩;g17 w7 hc7 I.h)) fun u S10 ⟨⟨e10,x10⟩,d10⟩=>?_
 subst e10
 have w10:=x10.wf w7
 obtain ⟨f1,f1'⟩:=kP w (n:=18) d7 (k:=S.next+14) (Nat.le_add_right _ _) (Nat.add_lt_add_left (by decide) _)
 obtain ⟨f2,f2'⟩:=kP w (n:=18) d7 (k:=S.next+15) (Nat.le_add_right _ _) (Nat.add_lt_add_left (by decide) _)
 obtain ⟨T1,T2,S13,S14,a1,a2,a3,a4,x14,g1,g2⟩:=aI2 w10 (k1:=S.next+14) (k2:=S.next+15) ⟨d10.dead _ f1' f1,Nat.lt_of_lt_of_le f1' d10.next⟩ ⟨d10.dead _ f2' f2,Nat.lt_of_lt_of_le f2' d10.next⟩ (by omega) 7 6
  [.int .i64 0,.int .i64 0,.int .i64 0,.int .i64 0,.int .i64 0,.str [],.nils] [.int .i64 0,.int .i64 0,.int .i64 0,.int .i64 0,.int .i64 0,.int .i64 0] (bB (g.cs (kn:Int)).h la) (oE (g.cs (kn:Int)).view) rfl rfl rfl (dW _ o7.sl.one) rfl rfl
 have x7e:=x10.trans x14
 have h14:=h7.ext ho w7 x7e
 have w14:=x7e.wf w7
 have la14:Sl S14 3 la ((g.cs (kn:Int)).h.log.map bR):=o7.sl.ext x7e
 have las:∀ y,aP la=some y→aP sv≠some y:=fun y hy e=>by
  have h1:=(nN o7 hy).1
  have h2:=(h.rest.sv.blk e).1
  have:S.next+18≤y:=h1
  omega
 have si:SafeI S14 a g (kn:Int) p O lv rows (S.next+14) (S.next+15) la (g.sure,g.whn) sv wv:=⟨w14,h14,g1,g2,la14,las⟩
 simp only [a1,a2,bS,aJg,a3,aRt,a4,aVi,aF,Nat.reduceAdd,dY,aSg g2,aR,cO,bX]
 have rest:∀ {T:St} {g':Grp} {sv' wv':V},SafeI T a g' (kn:Int) p O lv rows (S.next+14) (S.next+15) la (g'.sure,g'.whn) sv' wv'→g'.cs=g.cs→g'.sure=g.sure→g'.whn=g.whn→g'.said=g.said→g'.l=g.l→g'.lead=(if (g.cs (kn:Int)).role=3∧(g.cs (kn:Int)).h.term<200 then g.lead.set (g.cs (kn:Int)).h.term.toNat ((kn:Int)+1) else g.lead)→
   Ok (fun κ K=>aAb (aC prog bC bD κ) κ K (.ptr a 0 0 0) (.int .i64 (kn:Int)) (.ptr (S.next+14) 0 0 0) (.ptr (S.next+15) 0 0 0) T) fun u S'=>u=.bool true∧WF S'∧∃ sv' wv',GAt S' a (g.note (kn:Int)) p O lv sv' wv' rows:=by
  intro T g' sv' wv' hT c1 c2 c3 c4 c5 c6
  have hle':g'.lead.length=200:=by rw [c6];split;rw [List.length_set];exact hle;exact hle
  obtain ⟨u,S',N,⟨q1,q2,sv2,wv2,q3⟩,q4⟩:=j65 hT hk (by rw [c1];exact ho) (by rw [c1];exact F.inv) (by rw [c1];exact ok.alike) hle' (by rw [c2,c3];exact F.sw) (by rw [c2];exact F.sl) (by rw [c1];exact F.last _ k0 k5) (by rw [c1,c2,c3];exact ok.sure)
  refine ⟨u,S',N,⟨q1,q2,sv2,wv2,?_⟩,q4⟩
  have e:g.note (kn:Int)={ g' with sure:=(kE (g'.cs (kn:Int)).h.term (g'.cs (kn:Int)).sures (g'.cs (kn:Int)).h.base.toNat (g'.sure,g'.whn)).1,whn:=(kE (g'.cs (kn:Int)).h.term (g'.cs (kn:Int)).sures (g'.cs (kn:Int)).h.base.toNat (g'.sure,g'.whn)).2 }:=by
   unfold Grp.note
   rw [c1,c2,c3,c4,c5,c6]
  rw [e];exact q3
 have hT0:=I.h.t0
 refine Ok.pickP (fun e3=>?_) (fun e3=>?_)
 ·have e3':(g.cs (kn:Int)).role=3:=e3
  simp only [gL,aF,Nat.reduceAdd,bS,dY,uE g1,bG,aEr]
  refine Ok.pickP (fun et=>?_) (fun et=>?_)
  ·obtain ⟨T,hT,hT2⟩:∃ T:Nat,(g.cs (kn:Int)).h.term=(T:Int)∧T<200:=⟨(g.cs (kn:Int)).h.term.toNat,by omega,by omega⟩
   have htt:(g.cs (kn:Int)).h.term.toNat=T:=by omega
   have xc:Ext S14 (⟨S14.next+20,S14.heap⟩:St):=(Ext.refl S14).bump 20
   have sc:=si.ext ho xc
   have hTl:T<g.lead.length:=by rw [hle];exact hT2
   have gl:=aSf sc.at'.cell (T:=T) hTl
   have xd:Ext (⟨S14.next+20,S14.heap⟩:St) (⟨S14.next+20+9,S14.heap⟩:St):=(Ext.refl (⟨S14.next+20,S14.heap⟩:St)).bump 9
   have sd:=sc.ext ho xd
   have hw:wr .i64 ((kn:Int)+1)=(kn:Int)+1:=cR (by omega) (by omega)
   have est:=mA sd.at'.cell hle (9+T) (.int .i64 ((kn:Int)+1)) (by omega) rfl rfl (g':={ g with lead:=g.lead.set T ((kn:Int)+1) }) (p':=p) (lv':=lv) (sv':=sv) (wv':=wv) (aI1 _ _ _ _ hTl rfl)
   have tm1:=uE sc.hb
   have tm2:=uE sd.hb
   rw [hT] at tm1 tm2
   obtain ⟨S16,est,s16⟩:∃ S16,bH 1 (.ptr a 0 0 (9+T)) (.int .i64 ((kn:Int)+1)) (⟨S14.next+20+9,S14.heap⟩:St)=.ok S16∧SafeI S16 a { g with lead:=g.lead.set T ((kn:Int)+1) } (kn:Int) p O lv rows (S.next+14) (S.next+15) la (g.sure,g.whn) sv wv:=by
    refine ⟨_,est,⟨(But.put sd.at'.rest.al _).wf sd.wf,⟨jB,?_⟩,?_,?_,?_,las⟩⟩
    ·have r:=sd.at'.rest.keep (S':=⟨(⟨S14.next+20+9,S14.heap⟩:St).next,(⟨S14.next+20+9,S14.heap⟩:St).heap.put a (.row 0 209 [eS { g with lead:=g.lead.set T ((kn:Int)+1) } p lv sv wv])⟩) ho sd.wf (Nat.le_refl _) (fun y b hy hb=>dP y b hy hb)
     exact ⟨r.al,r.na,r.cores,r.sep,r.og,r.l,r.lets,r.sv,r.wv⟩
    ·refine dP _ _ (fun e=>?_) sd.hb
     have:=h.rest.al;omega
    ·refine dP _ _ (fun e=>?_) sd.vb
     have:=h.rest.al;omega
    ·refine sd.hl.keep fun y c hy hc=>dP _ _ (fun e=>?_) hc
     have h1:=(nN o7 hy).1
     have h2:=h.rest.al
     have:S.next+18≤y:=h1
     omega
   have j3:Ok (fun κ K=>aEq (aC prog bC bD κ) κ K (.ptr a 0 0 0) (.int .i64 (kn:Int)) (.ptr (S.next+14) 0 0 0) (.ptr (S.next+15) 0 0 0) (⟨S14.next+20,S14.heap⟩:St)) fun u S'=>u=.bool true∧WF S'∧∃ sv' wv',GAt S' a (g.note (kn:Int)) p O lv sv' wv' rows:=by
    simp only [aEq,gL,aF,Nat.reduceAdd,bS,dY,tm2,bQ,hw,dQ,aP7,aT5,cZ hT2,Nat.mul_one,st3,est,Nat.zero_add]
    exact rest s16 rfl rfl rfl rfl rfl (by rw [if_pos ⟨e3',et⟩,htt])
   have lk:=ok.lead e3' et
   rw [htt] at lk
   simp only [gL,aF,Nat.reduceAdd,bS,dY,tm1,dQ,aP7,aT5,cZ hT2,Nat.mul_one,Nat.zero_add,gl,aR,cO,dG]
   refine Ok.pickN (fun e5=>?_) (fun e5=>j3)
   have e6:g.lead.getD T 0=(kn:Int)+1:=by
    rcases lk with lk | lk
    ·exact absurd lk e5
    ·exact lk
   simp only [bQ,hw,bS,e6,aR,cO,dG,decide_true,Bool.not_true,aH]
   exact j3
  ·exact rest si rfl rfl rfl rfl rfl (by rw [if_neg (fun q=>et q.2)])
 ·simp only [aEr,aH]
  exact rest si rfl rfl rfl rfl rfl (by rw [if_neg (fun q=>e3 q.1)])
end
end
section
variable [Guard]
theorem bBn:bC 26=some (.spec (Sp.within.run prog)):=by kernel_rfl
theorem g26 (n lo hi:Int) (S:St) (h1:lo≤hi) (h2:hi≤1000000) (h3:-1000000≤lo):Does prog bC bD 26 [.int .i64 n,.int .i64 lo,.int .i64 hi] S (fun u S'=>u=.int .i64 (cC n lo hi)∧S'=S):=
 Does.step bBn (v:=.int .i64 (cC n lo hi)) (S':=S) (by unfold Sp.run cC;simp only [h1,h2,h3,decide_true,Bool.and_self,cond_true]) ⟨rfl,rfl⟩
theorem aW6 (x:Int):wr .i64 ((BitVec.ofInt IntKind.i64.bits x &&& BitVec.ofInt IntKind.i64.bits 31).toNat)=x % 32:=by
 have h1:(BitVec.ofInt IntKind.i64.bits x &&& BitVec.ofInt IntKind.i64.bits 31).toNat=(x % 32).toNat:=by
  show (BitVec.ofInt 64 x &&& BitVec.ofInt 64 31).toNat=_
  rw [BitVec.toNat_and]
  have h2:(BitVec.ofInt 64 31).toNat=2 ^ 5 - 1:=by decide
  rw [h2,Nat.and_two_pow_sub_one_eq_mod,BitVec.toNat_ofInt]
  omega
 rw [h1,cR (by omega) (by omega)]
 omega
theorem aNa (n:Int):aD prog .and 3 (.int .i64 n) (.int .i64 31)=.ok (.int .i64 (n % 32)):=by
 simp only [aD,bW,cond_true,eA,aW6]
theorem aY3 (n:Int):wr .u8 n=n % 256:=by
 unfold wr
 have h1:lo .u8=0:=rfl
 have h2:hi .u8=255:=rfl
 rw [h1,h2]
 split
 ·omega
 ·rfl
theorem aQ6 (n:Int):V.int .u8 (wr .u8 n)=.int .u8 ((UInt8.ofNat (n % 256).toNat).toNat:Int):=by
 rw [aY3]
 congr 1
 have h:(UInt8.ofNat (n % 256).toNat).toNat=(n % 256).toNat % 256:=UInt8.toNat_ofNat'
 omega
theorem aQ7 (n:Int):aD prog .shr 3 (.int .i64 n) (.int .u64 8)=.ok (.int .i64 (n / 256)):=by
 simp only [aD,lR,show ¬ (8:Int)<0 by decide,decide_false,cond_false]
 have:min (8:Int).toNat IntKind.i64.bits=8:=rfl
 rw [this,Int.fdiv_eq_ediv_of_nonneg _ (Int.pow_nonneg (by decide))]
 rfl
theorem aW7 (S:St) (k:Nat) (a b:V) (ha:a.cells.length=1∧aK a.cells=true) (hb:b.cells.length=1∧aK b.cells=true) (z:List V):bM 1 z 2 [(0,a),(1,b)] (some k) S=.ok (.sl k 0 1 0 2,⟨S.next,S.heap.put k (.row 0 1 [a.cells,b.cells])⟩):=by
 unfold bM
 rw [if_pos (by decide)]
 have h1:Nat.blt 0 2=true:=rfl
 have h2:Nat.blt 1 2=true:=rfl
 have h3:Nat.beq 1 1=true:=rfl
 simp only [uT,List.replicate,List.length_cons,List.length_nil,ha.1,ha.2,hb.1,hb.2,h1,h2,h3,Bool.and_self,cond_true,List.set_cons_zero,List.set_cons_succ,eE,Nat.zero_add,Nat.reduceAdd]
theorem aQ8 (S:St) (k:Nat) (a:V) (ha:a.cells.length=1∧aK a.cells=true) (z:List V):bM 1 z 1 [(0,a)] (some k) S=.ok (.sl k 0 1 0 1,⟨S.next,S.heap.put k (.row 0 1 [a.cells])⟩):=by
 unfold bM
 rw [if_pos (by decide)]
 have h1:Nat.blt 0 1=true:=rfl
 have h3:Nat.beq 1 1=true:=rfl
 simp only [uT,List.replicate,List.length_cons,List.length_nil,ha.1,ha.2,h1,h3,Bool.and_self,cond_true,List.set_cons_zero,eE,Nat.zero_add]
theorem bBo:aS6 prog 74=true:=by kernel_rfl
theorem aLn {S:St} {v:V} {d:List UInt8} (h:Sl S 1 v (d.map tY)) (fr:Option Nat):bU prog 74 9 v fr S=.ok (.str d,S):=aD9 bBo aRz h fr
end
section
variable [Guard]
def qT (q:Raft.Act):List V:=[.int .i64 q.kind,.int .i64 q.a,.int .i64 q.n]
structure StepOK (g':Grp) (k:Int):Prop where
 k0:0≤k
 k5:k<5
 out:∀ v,0≤v→v<5→v≠k→(g'.cs v).out=[]
 ll:g'.l.length≤120
 ol:(g'.cs k).out.length≤7
 lead:g'.lead.length=200
 fit:Fit (g'.post k) 90000
 safe:SafeOK (g'.post k) k
def aC8 (a:Nat) (g:Grp) (A:Raft.Act) (u:V) (S':St):Prop:=u=.bool true∧WF S'∧∃ p' O' lv' sv' wv' rows',GAt S' a (g.act A) p' O' lv' sv' wv' rows'
section
variable {S:St} {a b:Nat} {g:Grp} {k:Int} {p:Int→Nat} {O:Int→Nat→Prop} {lv sv wv:V} {rows:List (List V)} {A:Raft.Act}
theorem aQ9 {g':Grp} (h:g.step A=some (g',k)):g.act A=(g'.post k).note k:=by unfold Grp.act;rw [h]
theorem j25 {g':Grp} (h:GMid S a g' k p O lv sv wv rows) (w:WF S) (hst:g.step A=some (g',k)) (s:StepOK g' k):
  Ok (fun κ K=>lC (aC prog bC bD κ) κ K (.ptr a 0 0 0) (.int .i64 k) S) (aC8 a g A):=by
 have hll:=s.ll
 have hol:=s.ol
 simp only [lC]
 refine Does.call (g64 h w s.k0 s.k5 s.out (by omega) (by omega) s.lead) fun u S1 ⟨_,w1,O1,lv1,rows1,h1⟩=>?_
 obtain ⟨kn,hkn,hk⟩:∃ kn:Nat,k=(kn:Int)∧kn<5:=⟨k.toNat,by have:=s.k0;omega,by have:=s.k5;omega⟩
 subst hkn
 refine Does.call (g65 h1 w1 hk s.fit s.safe) fun u S2 ⟨e2,w2,sv2,wv2,h2⟩=>?_
 subst e2
 exact Ok.ret ⟨rfl,w2,p,O1,lv1,sv2,wv2,rows1,by rw [aQ9 hst];exact h2⟩
theorem aKe (h:S.heap.get b=some (.row 0 3 [qT A])):aL none (.ptr b 0 0 0) S=.ok (.int .i64 A.kind):=by rw [aY _ _ _ _ _ (aX h)];rfl
theorem t_a (h:S.heap.get b=some (.row 0 3 [qT A])):aL none (.ptr b 0 0 1) S=.ok (.int .i64 A.a):=by rw [aY _ _ _ _ _ (aX h)];rfl
theorem t_n (h:S.heap.get b=some (.row 0 3 [qT A])):aL none (.ptr b 0 0 2) S=.ok (.int .i64 A.n):=by rw [aY _ _ _ _ _ (aX h)];rfl
theorem jR {kn:Nat} (h:GAt S a g p O lv sv wv rows) (hk:kn<5):aL none (.ptr a 0 0 kn) S=.ok (.ptr (p (kn:Int)) 0 0 0):=by
 have:=uN h.cell (v:=(kn:Int)) (by omega) (by omega)
 rw [show ((kn:Int)).toNat=kn by omega] at this
 exact this
theorem olt (h:GAt S a g p O lv sv wv rows) (w:WF S):∀ v,0≤v→v<5→∀ y,O v y→y<S.next:=fun v v0 v5 y hy=>by
 obtain ⟨m,hm⟩:=h.rest.cores v v0 v5
 exact aDj w hm y hy
theorem aY5 {kn:Nat} (h:GAt S a g p O lv sv wv rows) (w:WF S) (hk:kn<5) (F:Fit g 90000) (hsd:0≤g.said∧g.said≤90000) (hst:g.step A=some ({ g with said:=g.said+1,cs:=eI g.cs (kn:Int) ((g.cs (kn:Int)).propose [gC (g.said+1)]).1 },(kn:Int)))
  (s:StepOK { g with said:=g.said+1,cs:=eI g.cs (kn:Int) ((g.cs (kn:Int)).propose [gC (g.said+1)]).1 } (kn:Int)):
  Ok (fun κ K=>iB (aC prog bC bD κ) κ K (.ptr a 0 0 0) (.ptr b 0 0 0) (.int .i64 (kn:Int)) (.int .i64 5) (.bool false) S) (aC8 a g A):=by
 have ho:=F.out
 have I:=F.inv (kn:Int) (by omega) (by omega)
 have hw:wr .i64 (g.said+1)=g.said+1:=cR (by omega) (by omega)
 obtain ⟨S2,e2,h2,w2⟩:∃ S2,bH 1 (.ptr a 0 0 6) (.int .i64 (g.said+1)) S=.ok S2∧GAt S2 a { g with said:=g.said+1 } p O lv sv wv rows∧WF S2:=by
  refine ⟨_,mA h.cell F.lead 6 (.int .i64 (g.said+1)) (by decide) rfl rfl (g':={ g with said:=g.said+1 }) (p':=p) (lv':=lv) (sv':=sv) (wv':=wv) rfl,⟨jB,?_⟩,(But.put h.rest.al _).wf w⟩
  have r:=h.rest.keep (S':=⟨S.next,S.heap.put a (.row 0 209 [eS { g with said:=g.said+1 } p lv sv wv])⟩) ho w (Nat.le_refl _) (fun y c hy hc=>dP y c hy hc)
  exact ⟨r.al,r.na,r.cores,r.sep,r.og,r.l,r.lets,r.sv,r.wv⟩
 have xb:Ext S2 (⟨S2.next+21,S2.heap⟩:St):=(Ext.refl S2).bump 21
 have wb:=xb.wf w2
 have hb:=h2.ext ho w2 xb
 have gc:=jR hb hk
 have gsd:=aFn hb.cell
 have f17:(⟨S2.next+21,S2.heap⟩:St).heap.get (S2.next+17)=none:=iY w2 21 _ (Nat.le_add_right _ _)
 have f19:(⟨S2.next+21,S2.heap⟩:St).heap.get (S2.next+19)=none:=iY w2 21 _ (Nat.le_add_right _ _)
 have b1:=aQ6 (g.said+1)
 have b2:=aQ6 ((g.said+1) / 256)
 have hd:((gC (g.said+1)).map tY)=[[.int .u8 ((UInt8.ofNat ((g.said+1) % 256).toNat).toNat:Int)],[.int .u8 ((UInt8.ofNat (((g.said+1) / 256) % 256).toNat).toNat:Int)]]:=rfl
 have e3:=aW7 (⟨S2.next+21,S2.heap⟩:St) (S2.next+17) (.int .u8 ((UInt8.ofNat ((g.said+1) % 256).toNat).toNat:Int)) (.int .u8 ((UInt8.ofNat (((g.said+1) / 256) % 256).toNat).toNat:Int)) ⟨rfl,rfl⟩ ⟨rfl,rfl⟩ [.int .u8 0]
 obtain ⟨S3,hS3,x3,n3,g3,f3⟩:∃ S3,S3=(⟨S2.next+21,S2.heap.put (S2.next+17) (.row 0 1 ((gC (g.said+1)).map tY))⟩:St)∧Ext (⟨S2.next+21,S2.heap⟩:St) S3∧S3.next=S2.next+21∧S3.heap.get (S2.next+17)=some (.row 0 1 ((gC (g.said+1)).map tY))∧S3.heap.get (S2.next+19)=none:=
  ⟨_,rfl,Ext.newAt f17 (by show S2.next+17<S2.next+21;omega) _,rfl,Tr.get_put_sameB _ _ _ trivial,by
   show (S2.heap.put _ _).get _=none
   rw [Tr.get_put_neB _ _ _ _ trivial (by omega)];exact f19⟩
 have e3':bM 1 [.int .u8 0] 2 [(0,.int .u8 ((UInt8.ofNat ((g.said+1) % 256).toNat).toNat:Int)),(1,.int .u8 ((UInt8.ofNat (((g.said+1) / 256) % 256).toNat).toNat:Int))] (some (S2.next+17)) (⟨S2.next+21,S2.heap⟩:St)=.ok (.sl (S2.next+17) 0 1 0 2,S3):=by rw [e3,hS3];rfl
 have sb:=Sl.many g3 (fun c hc=>by
  rw [hd] at hc
  simp only [List.mem_cons,List.not_mem_nil,or_false] at hc
  rcases hc with rfl | rfl<;>exact ⟨rfl,rfl⟩)
 have cv:=aLn (v:=.sl (S2.next+17) 0 1 0 2) (d:=gC (g.said+1)) sb (some (S2.next+18))
 have e4:=aQ8 S3 (S2.next+19) (.str (gC (g.said+1))) ⟨rfl,rfl⟩ [.str []]
 obtain ⟨S4,hS4,x4,g4⟩:∃ S4,S4=(⟨S3.next,S3.heap.put (S2.next+19) (.row 0 1 [[.str (gC (g.said+1))]])⟩:St)∧Ext S3 S4∧S4.heap.get (S2.next+19)=some (.row 0 1 [[.str (gC (g.said+1))]]):=
  ⟨_,rfl,Ext.newAt f3 (by rw [n3];omega) _,Tr.get_put_sameB _ _ _ trivial⟩
 have e4':bM 1 [.str []] 1 [(0,.str (gC (g.said+1)))] (some (S2.next+19)) S3=.ok (.sl (S2.next+19) 0 1 0 1,S4):=by rw [e4,hS4];rfl
 have sd:Sl S4 1 (.sl (S2.next+19) 0 1 0 1) ([gC (g.said+1)].map aS7):=Sl.many g4 (fun c hc=>by rw [List.mem_singleton.1 hc];exact ⟨rfl,rfl⟩)
 have x24:=x3.trans x4
 have h4:=hb.ext ho wb x24
 have w4:=x24.wf wb
 have gsaid:=aFn h.cell
 simp only [iB,aH,aR,cO,bX,decide_true,bS,dD,dQ,iW,aP5,aF,Nat.reduceAdd,Nat.zero_add,dY,gsaid,bQ,hw,st3,e2,mB,cZ hk,Nat.mul_one,xQ,gc,gsd,aSz,b1,aQ7,b2,aXh,e3',cv,bAi,e4']
 refine aBh h4 w4 ho (k:=(kn:Int)) (by omega) (by omega) (fun G hi=>g20 [gC (g.said+1)] (.sl (S2.next+19) 0 1 0 1) w4 hi I sd (fun y hy q=>?_) (by rw [ho (kn:Int) (by omega) (by omega)];exact Nat.zero_le _)) fun S5 O5 w5 _ h5=>?_
 ·cases hy
  have:=olt h2 w2 (kn:Int) (by omega) (by omega) _ q
  omega
 ·exact j25 h5 w5 hst s
end
end
section
variable [Guard]
section
variable {S:St} {a b:Nat} {g:Grp} {kn:Nat} {p:Int→Nat} {O:Int→Nat→Prop} {lv sv wv:V} {rows:List (List V)} {A:Raft.Act}
theorem aY6 (h:GAt S a g p O lv sv wv rows) (w:WF S) (hA:S.heap.get b=some (.row 0 3 [qT A])) (hk:kn<5) (F:Fit g 90000) (hst:g.step A=some ({ g with cs:=eI g.cs (kn:Int) ((g.cs (kn:Int)).change (A.n % 32)).1 },(kn:Int)))
  (s:StepOK { g with cs:=eI g.cs (kn:Int) ((g.cs (kn:Int)).change (A.n % 32)).1 } (kn:Int)):
  Ok (fun κ K=>iB (aC prog bC bD κ) κ K (.ptr a 0 0 0) (.ptr b 0 0 0) (.int .i64 (kn:Int)) (.int .i64 6) (.bool false) S) (aC8 a g A):=by
 have ho:=F.out
 have I:=F.inv (kn:Int) (by omega) (by omega)
 have xb:Ext S (⟨S.next+10,S.heap⟩:St):=(Ext.refl S).bump 10
 have wb:=xb.wf w
 have hb:=h.ext ho w xb
 have gc:=jR hb hk
 have tn:=t_n (xb.old _ _ hA)
 have n56:¬ (6:Int)=5:=by decide
 simp only [iB,aH,aR,cO,bX,n56,decide_false,decide_true,bS,dD,dQ,iW,aF2,aF,Nat.reduceAdd,Nat.zero_add,dY,mB,cZ hk,Nat.mul_one,xQ,gc,tn,aNa]
 exact aBh hb wb ho (k:=(kn:Int)) (by omega) (by omega) (fun G hi=>g21 (A.n % 32) wb hi I (by rw [ho (kn:Int) (by omega) (by omega)];exact Nat.zero_le _)) fun S5 O5 w5 _ h5=>j25 h5 w5 hst s
theorem aY7 (h:GAt S a g p O lv sv wv rows) (w:WF S) (hk:kn<5) (F:Fit g 90000) (hst:g.step A=some ({ g with cs:=eI g.cs (kn:Int) ((g.cs (kn:Int)).compact (g.cs (kn:Int)).sure (xH (g.cs (kn:Int)).sure)).1 },(kn:Int)))
  (s:StepOK { g with cs:=eI g.cs (kn:Int) ((g.cs (kn:Int)).compact (g.cs (kn:Int)).sure (xH (g.cs (kn:Int)).sure)).1 } (kn:Int)):
  Ok (fun κ K=>iB (aC prog bC bD κ) κ K (.ptr a 0 0 0) (.ptr b 0 0 0) (.int .i64 (kn:Int)) (.int .i64 7) (.bool false) S) (aC8 a g A):=by
 have ho:=F.out
 have I:=F.inv (kn:Int) (by omega) (by omega)
 have gc:=jR h hk
 have n5:¬ (7:Int)=5:=by decide
 have n6:¬ (7:Int)=6:=by decide
 obtain ⟨n,hc⟩:=h.rest.cores (kn:Int) (by omega) (by omega)
 simp only [iB,aH,aR,cO,bX,n5,n6,decide_false,decide_true,bS,dD,dQ,iW,aF,Nat.reduceAdd,Nat.zero_add,mB,cZ hk,Nat.mul_one,xQ,gc]
 refine Does.call (letI:Guard:=⟨n⟩;g17 w hc I.h) fun u S1 ⟨e1,x1⟩=>?_
 subst e1
 have w1:=x1.wf w
 obtain ⟨T1,S2,v1,v2,x2,g2⟩:=aW5 w1 6 [.int .i64 0,.int .i64 0,.int .i64 0,.int .i64 0,.int .i64 0,.int .i64 0] (oE (g.cs (kn:Int)).view) rfl rfl rfl
 have w2:=x2.wf w1
 have xb:Ext S2 (⟨S2.next+16,S2.heap⟩:St):=(Ext.refl S2).bump 16
 have wb:=xb.wf w2
 have hb:=h.ext ho w ((x1.trans x2).trans xb)
 have gcb:=jR hb hk
 have vc:aL none (.ptr S1.next 0 0 2) (⟨S2.next+16,S2.heap⟩:St)=.ok (.int .i64 (g.cs (kn:Int)).sure):=qO (xb.old _ _ g2)
 have q2:=I.s0
 have q1:=I.h.b0
 have hlast:=F.last (kn:Int) (by omega) (by omega)
 have q3:=I.s1
 have em:((g.cs (kn:Int)).sure).tmod 10=(g.cs (kn:Int)).sure % 10:=Int.tmod_eq_emod_of_nonneg (by omega)
 have ew:wr .i64 (48+(g.cs (kn:Int)).sure % 10)=48+(g.cs (kn:Int)).sure % 10:=cR (by omega) (by omega)
 have eb:V.int .u8 (wr .u8 (48+(g.cs (kn:Int)).sure % 10))=.int .u8 ((UInt8.ofNat (48+(g.cs (kn:Int)).sure % 10).toNat).toNat:Int):=by
  rw [aQ6]
  rw [show (48+(g.cs (kn:Int)).sure % 10) % 256=48+(g.cs (kn:Int)).sure % 10 by omega]
 have f13:(⟨S2.next+16,S2.heap⟩:St).heap.get (S2.next+13)=none:=iY w2 16 _ (Nat.le_add_right _ _)
 have e3:=aQ8 (⟨S2.next+16,S2.heap⟩:St) (S2.next+13) (.int .u8 ((UInt8.ofNat (48+(g.cs (kn:Int)).sure % 10).toNat).toNat:Int)) ⟨rfl,rfl⟩ [.int .u8 0]
 obtain ⟨S3,hS3,x3,g3⟩:∃ S3,S3=(⟨S2.next+16,S2.heap.put (S2.next+13) (.row 0 1 ((xH (g.cs (kn:Int)).sure).map tY))⟩:St)∧Ext (⟨S2.next+16,S2.heap⟩:St) S3∧S3.heap.get (S2.next+13)=some (.row 0 1 ((xH (g.cs (kn:Int)).sure).map tY)):=
  ⟨_,rfl,Ext.newAt f13 (by show S2.next+13<S2.next+16;omega) _,Tr.get_put_sameB _ _ _ trivial⟩
 have e3':bM 1 [.int .u8 0] 1 [(0,.int .u8 ((UInt8.ofNat (48+(g.cs (kn:Int)).sure % 10).toNat).toNat:Int))] (some (S2.next+13)) (⟨S2.next+16,S2.heap⟩:St)=.ok (.sl (S2.next+13) 0 1 0 1,S3):=by rw [e3,hS3];rfl
 have sb:=Sl.many g3 (fun c hc=>by
  have hc':c∈[[V.int .u8 ((UInt8.ofNat (48+(g.cs (kn:Int)).sure % 10).toNat).toNat:Int)]]:=hc
  rw [List.mem_singleton.1 hc'];exact ⟨rfl,rfl⟩)
 have cv:=aLn (v:=.sl (S2.next+13) 0 1 0 1) (d:=xH (g.cs (kn:Int)).sure) sb (some (S2.next+14))
 have h3:=hb.ext ho wb x3
 have w3:=x3.wf wb
 have n10:aD prog .rem 3 (.int .i64 (g.cs (kn:Int)).sure) (.int .i64 10)=.ok (.int .i64 (((g.cs (kn:Int)).sure).tmod 10)):=aEd _ _ _ _ _ (by decide)
 simp only [v1,aRt,v2,bS,gcb,aF1,aF,Nat.reduceAdd,dY,vc,n10,em,bQ,ew,aSz,eb,aXh,e3',cv]
 exact aBh h3 w3 ho (k:=(kn:Int)) (by omega) (by omega) (fun G hi=>g22 (g.cs (kn:Int)).sure (xH (g.cs (kn:Int)).sure) w3 hi I) fun S5 O5 w5 _ h5=>j25 h5 w5 hst s
theorem aY8 {q:Int} (h:GAt S a g p O lv sv wv rows) (w:WF S) (hk:kn<5) (F:Fit g 90000) (q5:q≠5) (q6:q≠6) (q7:q≠7) (q8:q≠8) (hst:g.step A=some (g,(kn:Int))) (s:StepOK g (kn:Int)):
  Ok (fun κ K=>iB (aC prog bC bD κ) κ K (.ptr a 0 0 0) (.ptr b 0 0 0) (.int .i64 (kn:Int)) (.int .i64 q) (.bool false) S) (aC8 a g A):=by
 simp only [iB,aH,aR,cO,bX,q5,q6,q7,q8,decide_false,bS]
 exact j25 (aFo h w (by omega) (by omega) (F.out (kn:Int) (by omega) (by omega))) w hst s
theorem aY9 {d:Core} (h:GAt S a g p O lv sv wv rows) (w:WF S) (hA:S.heap.get b=some (.row 0 3 [qT A])) (hk:kn<5) (F:Fit g 90000) (hN:oH (kn:Int) (g.cs (kn:Int)).h A.n=some d) (hst:g.step A=some ({ g with cs:=eI g.cs (kn:Int) d },(kn:Int)))
  (s:StepOK { g with cs:=eI g.cs (kn:Int) d } (kn:Int)):
  Ok (fun κ K=>iB (aC prog bC bD κ) κ K (.ptr a 0 0 0) (.ptr b 0 0 0) (.int .i64 (kn:Int)) (.int .i64 8) (.bool false) S) (aC8 a g A):=by
 have ho:=F.out
 have k0:(0:Int)≤(kn:Int):=by omega
 have k5:(kn:Int)<5:=by omega
 have I:=F.inv (kn:Int) k0 k5
 have xb:Ext S (⟨S.next+16,S.heap⟩:St):=(Ext.refl S).bump 16
 have wb:=xb.wf w
 have hb:=h.ext ho w xb
 have gc:=jR hb hk
 have tn:=t_n (xb.old _ _ hA)
 have n5:¬ (8:Int)=5:=by decide
 have n6:¬ (8:Int)=6:=by decide
 have n7:¬ (8:Int)=7:=by decide
 obtain ⟨n,hc⟩:=hb.rest.cores (kn:Int) k0 k5
 simp only [iB,aH,aR,cO,bX,n5,n6,n7,decide_false,decide_true,bS,dD,dQ,iW,aF2,aF,Nat.reduceAdd,Nat.zero_add,mB,cZ hk,Nat.mul_one,xQ,dY,gc,tn]
 refine Does.call (letI:Guard:=⟨n⟩;g14 wb hc I.h) fun u S1 ⟨x1,lv',e1,o1⟩=>?_
 subst e1
 have w1:=x1.wf wb
 have tn1:=t_n ((xb.trans x1).old _ _ hA)
 have hll:=I.h.ll
 simp only [tn1,bS,cN,cO]
 refine Does.call (letI:Guard:=⟨0⟩;g11 (kn:Int) A.n (g.cs (kn:Int)).h lv' S1 w1 (Nat.zero_le _) o1.sl (Nat.le_trans hll (by decide))) fun u S2 ⟨x2,hn⟩=>?_
 rw [hN] at hn
 obtain ⟨c1,O1,rfl,in1,hO1⟩:=hn
 have w2:=x2.wf w1
 have h1:=hb.ext ho wb x1
 obtain ⟨p',hp'⟩:∃ p':Int→Nat,p'=fun u=>if u=(kn:Int) then c1 else p u:=⟨_,rfl⟩
 have hpk:p' (kn:Int)=c1:=by rw [hp'];exact if_pos rfl
 have hpn:∀ v,v≠(kn:Int)→p' v=p v:=fun v hv=>by rw [hp'];exact if_neg hv
 have r2:=uP (p':=p') (d:=d) (O1:=O1) (S':=S2) h1.rest k0 k5 (fun v v0 v5 _=>ho v v0 v5) w1 hpn ⟨0,by rw [hpk];exact in1⟩ ⟨Fr.of x2,fun y hy=>.inr (hO1 y hy)⟩
 have c2:S2.heap.get a=some (.row 0 209 [eS g p lv sv wv]):=x2.old _ _ h1.cell
 have hdo:d.out=[]:=by
  unfold oH at hN
  split at hN
  ·cases hN
  ·cases hN;rfl
 have ho':∀ v,0≤v→v<5→(eI g.cs (kn:Int) d v).out=[]:=fun v v0 v5=>by
  by_cases e:v=(kn:Int)
  ·rw [e,cK];exact hdo
  ·rw [iE _ _ e];exact ho v v0 v5
 have hsp:splice (eS g p lv sv wv) kn [.ptr c1 0 0 0]=eS { g with cs:=eI g.cs (kn:Int) d } p' lv sv wv:=by
  have h5:kn=0∨kn=1∨kn=2∨kn=3∨kn=4:=by omega
  unfold eS
  rcases h5 with rfl | rfl | rfl | rfl | rfl
  ·rw [hpn 1 (by decide),hpn 2 (by decide),hpn 3 (by decide),hpn 4 (by decide),show p' 0=c1 from hpk];rfl
  ·rw [hpn 0 (by decide),hpn 2 (by decide),hpn 3 (by decide),hpn 4 (by decide),show p' 1=c1 from hpk];rfl
  ·rw [hpn 0 (by decide),hpn 1 (by decide),hpn 3 (by decide),hpn 4 (by decide),show p' 2=c1 from hpk];rfl
  ·rw [hpn 0 (by decide),hpn 1 (by decide),hpn 2 (by decide),hpn 4 (by decide),show p' 3=c1 from hpk];rfl
  ·rw [hpn 0 (by decide),hpn 1 (by decide),hpn 2 (by decide),hpn 3 (by decide),show p' 4=c1 from hpk];rfl
 obtain ⟨S3,e3,h3,w3⟩:∃ S3,bH 1 (.ptr a 0 0 kn) (.ptr c1 0 0 0) S2=.ok S3∧GAt S3 a { g with cs:=eI g.cs (kn:Int) d } p' (uO O (kn:Int) O1) lv sv wv rows∧WF S3:=
  ⟨_,mA c2 F.lead kn (.ptr c1 0 0 0) (by omega) rfl rfl hsp,⟨jB,r2.keep ho' w2 (Nat.le_refl _) (fun y c hy hc=>dP y c hy hc)⟩,(But.put r2.al _).wf w2⟩
 simp only [mP,List.getElem?_cons_zero,List.getElem?_cons_succ,aA2,aHr,aHq,aR,dG,cO,bS,aH,decide_true,Bool.not_true,dQ,iW,aF,Nat.reduceAdd,Nat.zero_add,mB,cZ hk,Nat.mul_one,aXo,e3]
 exact j25 (aFo h3 w3 k0 k5 (ho' _ k0 k5)) w3 hst s
end
end
section
variable [Guard]
section
variable {S:St} {a b c:Nat} {g:Grp} {kn:Nat} {p:Int→Nat} {O:Int→Nat→Prop} {lv sv wv:V} {rows:List (List V)} {A:Raft.Act}
theorem aT8 {m:Letter} {ev:V} {l':List Letter} (h:GAt S a { g with l:=l' } p O lv sv wv rows) (w:WF S) (hA:S.heap.get b=some (.row 0 3 [qT A])) (hm:S.heap.get c=some (.row 0 13 [aN m ev])) (hev:Sl S 3 ev (m.entries.map bR)) (hea:∀ y,aP ev=some y→∀ v,0≤v→v<5→¬ O v y) (hto:0≤m.to) (hk:kn<5) (F:Fit g 90000)
  (hst:g.step A=some (if A.kind≠4∧m.to<5 then ({ g with l:=l',cs:=eI g.cs m.to ((g.cs m.to).take m) },m.to) else ({ g with l:=l' },(kn:Int))))
  (s:∀ g' k,g.step A=some (g',k)→StepOK g' k):
  Ok (fun κ K=>aEj (aC prog bC bD κ) κ K (.ptr a 0 0 0) (.ptr b 0 0 0) (.int .i64 (kn:Int)) (.ptr c 0 0 0) S) (aC8 a g A):=by
 have ho:=F.out
 have non:¬ (A.kind≠4∧m.to<5)→Ok (fun κ K=>lC (aC prog bC bD κ) κ K (.ptr a 0 0 0) (.int .i64 (kn:Int)) S) (aC8 a g A):=fun q=>by
  rw [if_neg q] at hst
  exact j25 (aFo h w (by omega) (by omega) (ho (kn:Int) (by omega) (by omega))) w hst (s _ _ hst)
 have l2:aL none (.ptr c 0 0 2) S=.ok (.int .i64 m.to):=by rw [aY _ _ _ _ _ (aX hm)];rfl
 simp only [aEj,aJ9,aJd,aJc,aF,Nat.reduceAdd,bS,dY,aKe hA,l2,aR,cO,dG,bG,aH]
 refine Ok.pickN (fun e=>?_) (fun e=>non fun q=>q.1 e)
 refine Ok.pickP (fun e2=>?_) (fun e2=>non fun q=>e2 q.2)
 rw [if_pos ⟨e,e2⟩] at hst
 obtain ⟨tn,ht,ht5⟩:∃ tn:Nat,m.to=(tn:Int)∧tn<5:=⟨m.to.toNat,by omega,by omega⟩
 have xb:Ext S (⟨S.next+8,S.heap⟩:St):=(Ext.refl S).bump 8
 have wb:=xb.wf w
 have hb:=h.ext ho w xb
 have gc:=jR hb ht5
 have lm:aL (some 13) (.ptr c 0 0 0) (⟨S.next+8,S.heap⟩:St)=.ok (.agg (aN m ev)):=by rw [aY _ _ _ _ _ (aX (xb.old _ _ hm))];exact cJ _ _ rfl
 have I:=F.inv m.to hto e2
 have ho2:=ho m.to hto e2
 have hea2:=fun y hy=>hea y hy m.to hto e2
 rw [ht] at I ho2 hst hea2 ⊢
 simp only [dQ,iW,aF,Nat.reduceAdd,Nat.zero_add,bS,mB,cZ ht5,Nat.mul_one,xQ,gc,aBx,lm]
 exact aBh hb wb ho (k:=(tn:Int)) (by omega) (by omega) (fun G hi=>g19 m ev wb hi I ⟨hev.ext xb,hea2⟩ (by show (g.cs (tn:Int)).out.length≤_;rw [ho2];exact Nat.zero_le _)) fun S5 O5 w5 _ h5=>j25 h5 w5 hst (s _ _ hst)
theorem aQa {q:V} (h:GAt S a g p O lv sv wv rows) (w:WF S) (hA:S.heap.get b=some (.row 0 3 [qT A])) (hba:b≠a) (hk:kn<5) (F:Fit g 90000) (hkd:A.kind=2∨A.kind=3∨A.kind=4) (hkn:cC A.a 0 4=(kn:Int)) (s:∀ g' k,g.step A=some (g',k)→StepOK g' k):
  Ok (fun κ K=>iB (aC prog bC bD κ) κ K (.ptr a 0 0 0) (.ptr b 0 0 0) (.int .i64 (kn:Int)) q (.bool true) S) (aC8 a g A):=by
 have ho:=F.out
 have hll:=F.ll
 have hlen:lenW lv=.ok (.int .i64 g.l.length):=aKd h.rest.l h.rest.lets
 have hk1:A.kind≠1:=by omega
 have gl:=aFm h.cell
 simp only [iB,dD,dQ,aJe,aF,Nat.reduceAdd,bS,aPa,gl,aLb,hlen,aR,cO,bX]
 refine Ok.pickP (fun e=>?_) (fun e=>?_)
 ·have hn:g.l=[]:=List.length_eq_zero_iff.1 (by omega)
  have hst:g.step A=none:=by unfold Grp.step;simp only;rw [if_neg hk1,if_pos hkd,if_pos hn]
  have he:g.act A=g:=by unfold Grp.act;rw [hst]
  exact Ok.ret ⟨rfl,w,p,O,lv,sv,wv,rows,by rw [he];exact h⟩
 have hn:g.l≠[]:=fun q=>e (by rw [q];rfl)
 have hl1:1≤g.l.length:=by omega
 obtain ⟨i0,i1⟩:=gU A.n 0 ((g.l.length:Int) - 1) (by omega)
 obtain ⟨i,hi,hil⟩:∃ i:Nat,cC A.n 0 ((g.l.length:Int) - 1)=(i:Int)∧i<g.l.length:=⟨(cC A.n 0 ((g.l.length:Int) - 1)).toNat,by omega,by omega⟩
 obtain ⟨m,hm⟩:∃ m,g.l[i]?=some m:=⟨_,List.getElem?_eq_getElem hil⟩
 have hto:=F.to m (List.mem_of_getElem? hm)
 have hgd:g.l.getD i Letter.zero=m:=kT hm
 have hit:(cC A.n 0 ((g.l.length:Int) - 1)).toNat=i:=by rw [hi];omega
 have xb:Ext S (⟨S.next+10,S.heap⟩:St):=(Ext.refl S).bump 10
 have wb:=xb.wf w
 have hb:=h.ext ho w xb
 have tn:=t_n (xb.old _ _ hA)
 have gl1:=aFm hb.cell
 have w1:wr .i64 ((g.l.length:Int) - 1)=(g.l.length:Int) - 1:=cR (by omega) (by omega)
 simp only [aF2,aF,Nat.reduceAdd,bS,dY,tn,gl1,hlen,cL,w1]
 refine Does.call (g26 A.n 0 ((g.l.length:Int) - 1) _ (by omega) (by omega) (by omega)) fun u S1 ⟨e1,e2⟩=>?_
 subst e1
 subst e2
 rw [hi]
 obtain ⟨cs,hcs,ev,rfl,se,sn⟩:=hb.rest.lets.get hm
 obtain ⟨q1,hq1,at1⟩:=hb.rest.l.sl.idx hcs .i64
 have l1:aL (some 13) q1 (⟨S.next+10,S.heap⟩:St)=.ok (.agg (aN m ev)):=by rw [at1.load0];exact cJ _ _ rfl
 obtain ⟨T1,S2,v1,v2,x2,g2⟩:=aW5 wb 13 [.int .i64 0,.int .i64 0,.int .i64 0,.int .i64 0,.int .i64 0,.int .i64 0,.int .i64 0,.int .i64 0,.int .i64 0,.int .i64 0,.bool false,.str [],.nils] (aN m ev) rfl rfl (cM m se.one)
 have h2:=hb.ext ho wb x2
 have w2:=x2.wf wb
 have A2:=(xb.trans x2).old _ _ hA
 have se2:=se.ext x2
 have hcn:(⟨S.next+10,S.heap⟩:St).next≠a:=fun e=>by have:=h.rest.al;have:S.next+10=a:=e;omega
 simp only [gl1,bS,bAl,hq1,aBx,l1,v1,bAp,v2,aJd,aF,Nat.reduceAdd,dY,aKe A2,aR,cO,dG]
 refine Ok.pickN (fun e3=>?_) (fun e3=>?_)
 ·
  have hst:g.step A=some (if A.kind≠4∧m.to<5 then ({ g with l:=g.l.take i++g.l.drop (i+1),cs:=eI g.cs m.to ((g.cs m.to).take m) },m.to) else ({ g with l:=g.l.take i++g.l.drop (i+1) },(kn:Int))):=by
   unfold Grp.step
   simp only
   rw [if_neg hk1,if_pos hkd,if_neg hn,hit,hgd,hkn,if_neg e3]
   split<;>rfl
  have xc:Ext S2 (⟨S2.next+20,S2.heap⟩:St):=(Ext.refl S2).bump 20
  have wc:=xc.wf w2
  have h3:=h2.ext ho w2 xc
  have gl3:=aFm h3.cell
  have hrl:rows.length=g.l.length:=h3.rest.lets.len.symm
  have w3:wr .i64 ((i:Int)+1)=((i+1:Nat):Int):=by rw [cR (by omega) (by omega)];omega
  have b1:=mS (len:=rows.length) (l:=(i:Int)) .i64 (by omega) (by omega)
  have b2:=kR (len:=rows.length) (l:=((i+1:Nat):Int)) .i64 (by omega) (by omega)
  obtain ⟨u1,c1,s1,_⟩:=sN aW4 h3.rest.l.sl b1 (by omega) (by omega)
  obtain ⟨u2,c2,s2,_⟩:=sN aW4 h3.rest.l.sl b2 (by omega) (by omega)
  rw [show ((i:Int)).toNat=i by omega,List.drop_zero] at s1
  rw [show (((i+1:Nat):Int)).toNat=i+1 by omega,List.take_length] at s2
  have e4:=aC6 (⟨S2.next+20,S2.heap⟩:St) (S2.next+1) 13 [.int .i64 0,.int .i64 0,.int .i64 0,.int .i64 0,.int .i64 0,.int .i64 0,.int .i64 0,.int .i64 0,.int .i64 0,.int .i64 0,.bool false,.str [],.nils]
  obtain ⟨T4,hT4⟩:∃ T4,T4=(⟨S2.next+20,S2.heap.put (S2.next+1) (.row 0 13 [])⟩:St):=⟨_,rfl⟩
  have e4':bM 13 [.int .i64 0,.int .i64 0,.int .i64 0,.int .i64 0,.int .i64 0,.int .i64 0,.int .i64 0,.int .i64 0,.int .i64 0,.int .i64 0,.bool false,.str [],.nils] 0 [] (some (S2.next+1)) (⟨S2.next+20,S2.heap⟩:St)=.ok (.sl (S2.next+1) 0 13 0 0,T4):=by rw [e4,hT4]
  have x4:Ext S2 T4:=by rw [hT4];exact xc.set (by omega) (by show S2.next+1<S2.next+20;omega) w2 _
  have g4:T4.heap.get (S2.next+1)=some (.row 0 13 []):=by rw [hT4];exact Tr.get_put_sameB _ _ _ trivial
  have n4:T4.next=S2.next+20:=by rw [hT4]
  have f1:(⟨S2.next+20,S2.heap⟩:St).heap.get (S2.next+1)=none:=iY w2 20 _ (Nat.le_add_right _ _)
  have y4:Ext (⟨S2.next+20,S2.heap⟩:St) T4:=by rw [hT4];exact Ext.newAt f1 (by show S2.next+1<S2.next+20;omega) _
  have e5:=aPw (b:=128) g4 (s1.ext y4).elems s1.len (by simp only [List.length_nil,List.length_take];omega) (by simp only [List.length_nil,List.length_take];unfold fO;omega) (some (S2.next+8))
  simp only [List.nil_append,List.length_nil] at e5
  obtain ⟨T5,hT5⟩:∃ T5,T5=(⟨T4.next,T4.heap.put (S2.next+1) (.row (0+1) 13 (rows.take i))⟩:St):=⟨_,rfl⟩
  rw [←hT5] at e5
  have x5:Ext S2 T5:=by rw [hT5];exact x4.set (by omega) (by omega) w2 _
  have g5:T5.heap.get (S2.next+1)=some (.row (0+1) 13 (rows.take i)):=by rw [hT5];exact Tr.get_put_sameB _ _ _ trivial
  have n5:T5.next=S2.next+20:=by rw [hT5];exact n4
  have y5:Ext (⟨S2.next+20,S2.heap⟩:St) T5:=by
   refine ⟨fun y d hd=>?_,by rw [n5];exact Nat.le_refl _,fun _=>x5.wf w2⟩
   exact x5.old y d hd
  have s2':=s2.ext y5
  have e6:=aPw (b:=128) g5 s2'.elems s2.len (by simp only [List.length_take,List.length_drop];omega) (by simp only [List.length_take,List.length_drop];unfold fO;omega) (some (S2.next+16))
  obtain ⟨T6,hT6⟩:∃ T6,T6=(⟨T5.next,T5.heap.put (S2.next+1) (.row (0+1+1) 13 (rows.take i++rows.drop (i+1)))⟩:St):=⟨_,rfl⟩
  rw [←hT6] at e6
  have x6:Ext S2 T6:=by rw [hT6];exact x5.set (by omega) (by omega) w2 _
  have g6:T6.heap.get (S2.next+1)=some (.row (0+1+1) 13 (rows.take i++rows.drop (i+1))):=by rw [hT6];exact Tr.get_put_sameB _ _ _ trivial
  have n6:T6.next=S2.next+20:=by rw [hT6];exact n5
  have h6:=h2.ext ho w2 x6
  have w6:=x6.wf w2
  have gl5:=aFm (h2.ext ho w2 x5).cell
  have l6:Go.Raft.Lq T6 13 (.sl (S2.next+1) (0+1+1) 13 0 (rows.take i++rows.drop (i+1)).length) (rows.take i++rows.drop (i+1)):=by
   refine ⟨fun z hz=>?_,.inr ⟨S2.next+1,0+1+1,0,_,rfl,by rw [n6];omega,g6,by omega,by rw [List.drop_zero,List.take_length]⟩⟩
   rcases List.mem_append.1 hz with hz | hz
   ·exact s1.len z hz
   ·exact s2.len z hz
  have r6:GRest T6 a ({ g with l:=g.l.take i++g.l.drop (i+1) }:Grp) p O (.sl (S2.next+1) (0+1+1) 13 0 (rows.take i++rows.drop (i+1)).length) sv wv (rows.take i++rows.drop (i+1)):=by
   have r:=h6.rest
   have hal:=h2.rest.al
   refine ⟨r.al,fun y hy=>?_,r.cores,r.sep,fun v v0 v5 y hy=>?_,l6,aFp (aDk i r.lets) (wJ (i+1) r.lets),r.sv,r.wv⟩
   ·rcases hy with hy | hy
    ·cases hy;omega
    ·exact r.na y (.inr hy)
   ·obtain ⟨o1,o2,o3,o4⟩:=r.og v v0 v5 y hy
    have:=olt h2 w2 v v0 v5 y hy
    exact ⟨o1,fun e=>by cases e;omega,o3,o4⟩
  obtain ⟨S7,e7,h7,w7,k7⟩:∃ S7,bH 1 (.ptr a 0 0 5) (.sl (S2.next+1) (0+1+1) 13 0 (rows.take i++rows.drop (i+1)).length) T6=.ok S7∧GAt S7 a ({ g with l:=g.l.take i++g.l.drop (i+1) }:Grp) p O (.sl (S2.next+1) (0+1+1) 13 0 (rows.take i++rows.drop (i+1)).length) sv wv (rows.take i++rows.drop (i+1))∧WF S7∧∀ y z,y≠a→T6.heap.get y=some z→S7.heap.get y=some z:=
   ⟨_,mA h6.cell F.lead 5 _ (by decide) rfl rfl (g':={ g with l:=g.l.take i++g.l.drop (i+1) }) (p':=p) (lv':=.sl (S2.next+1) (0+1+1) 13 0 (rows.take i++rows.drop (i+1)).length) (sv':=sv) (wv':=wv) rfl,⟨jB,r6.keep ho w6 (Nat.le_refl _) (fun y z hy hz=>dP y z hy hz)⟩,(But.put r6.al _).wf w6,fun y z hy hz=>dP y z hy hz⟩
  simp only [gl3,bS,c1,bQ,w3,c2,aXg,e4',aP1,e5,gl5,iI,cO,e6,aPc,e7]
  refine aT8 h7 w7 (k7 _ _ hba (x6.old _ _ A2)) (k7 _ _ hcn (x6.old _ _ g2)) ?_ (fun y hy v v0 v5=>(sn y hy).2.1 v v0 v5) hto hk F hst s
  exact (se2.ext x6).keep fun y z hy hz=>k7 y z (sn y hy).1 hz
 ·have hst:g.step A=some (if A.kind≠4∧m.to<5 then ({ g with l:=g.l,cs:=eI g.cs m.to ((g.cs m.to).take m) },m.to) else ({ g with l:=g.l },(kn:Int))):=by
   unfold Grp.step
   simp only
   rw [if_neg hk1,if_pos hkd,if_neg hn,hit,hgd,hkn,if_pos e3]
   split<;>rfl
  exact aT8 h2 w2 A2 g2 se2 (fun y hy v v0 v5=>(sn y hy).2.1 v v0 v5) hto hk F hst s
end
end
end Go.Proofs.Ytbiidlmhadihlaa
end
