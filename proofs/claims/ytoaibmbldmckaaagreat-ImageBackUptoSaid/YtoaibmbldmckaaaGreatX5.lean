import Derived.Test.YtoaibmbldmckaaaGreatX4
set_option linter.unusedSimpArgs false
set_option linter.unusedVariables false
set_option linter.unusedSectionVars false
set_option maxRecDepth 100000
section
namespace Go.Proofs.YtoaibmbldmckaaaGreat
open Go.AM Tryz
structure Rds {α:Type} (b:List UInt8) (f:Rd→α×Rd) (g:List UInt8→Except Int (α×List UInt8)):Prop where
 pos:∀ r:Rd,r.pos≤b.length→(f r).2.pos≤b.length
 bad:∀ r:Rd,r.err≠0→(f r).2.err=r.err
 good:∀ (r:Rd) (a:α) (t:List UInt8),r.pos≤b.length→r.err=0→g (b.drop r.pos)=.ok (a,t)→(f r).1=a∧(f r).2.err=0∧t=b.drop (f r).2.pos
 fail:∀ (r:Rd) (e:Int),r.pos≤b.length→r.err=0→g (b.drop r.pos)=.error e→(f r).2.err=e
def Rb {α β:Type} (f:Rd→α×Rd) (f':Rd→β×Rd):Rd→(α×β)×Rd:=fun r=>(((f r).1,(f' (f r).2).1),(f' (f r).2).2)
def Rm {α β:Type} (h:α→β) (f:Rd→α×Rd):Rd→β×Rd:=fun r=>(h (f r).1,(f r).2)
theorem suf {b x t:List UInt8} {p:Nat} (hp:p≤b.length) (h:b.drop p=x++t):t=b.drop (b.length - t.length):=by
 have hl:(b.drop p).length=b.length - p:=List.length_drop ..
 rw [h,List.length_append] at hl
 have e:b.length - t.length=p+x.length:=by omega
 rw [e,←List.drop_drop,h,List.drop_left']
 rfl
theorem Rds.num (b:List UInt8):Rds b (bY b) Go.Pack.numR:=by
 refine ⟨fun r hr=>aT hr,fun r he=>by unfold bY;rw [if_neg he],fun r a t hr he hg=>?_,fun r e hr he hg=>?_⟩
 ·unfold Go.Pack.numR at hg
  cases e:Go.Pack.rdL 0 0 (b.drop r.pos) with
  | error z=>rw [e] at hg;cases hg
  | ok z=>
   obtain ⟨u,t'⟩:=z
   rw [e] at hg
   cases hg
   obtain ⟨u',_,e2,_,_⟩:=Go.Pack.rd_back _ 0 0 u t (by omega) e
   unfold bY
   rw [if_pos he,e]
   exact ⟨rfl,rfl,suf hr e2⟩
 ·unfold Go.Pack.numR at hg
  cases e2:Go.Pack.rdL 0 0 (b.drop r.pos) with
  | error z=>
   rw [e2] at hg
   cases hg
   unfold bY
   rw [if_pos he,e2]
  | ok z=>rw [e2] at hg;cases hg
theorem Rds.flag (b:List UInt8):Rds b (sL b) Go.Pack.flagR:=by
 have N:=Rds.num b
 refine ⟨fun r hr=>aH4 hr,fun r he=>?_,fun r a t hr he hg=>?_,fun r e hr he hg=>?_⟩
 ·have q:=N.bad r he
  unfold sL
  rw [if_neg (by rw [q];exact he)]
  exact q
 ·unfold Go.Pack.flagR at hg
  cases e:Go.Pack.numR (b.drop r.pos) with
  | error z=>rw [e] at hg;cases hg
  | ok z=>
   obtain ⟨n,t1⟩:=z
   rw [e] at hg
   simp only at hg
   obtain ⟨q1,q2,q3⟩:=N.good r n t1 hr he e
   unfold sL
   rw [if_pos q2,q1]
   split at hg
   ·cases hg;rename_i h0;rw [if_pos h0];exact ⟨rfl,q2,q3⟩
   ·rename_i h0
    split at hg
    ·cases hg;rename_i h1;rw [if_neg h0,if_pos h1];exact ⟨rfl,q2,q3⟩
    ·cases hg
 ·unfold Go.Pack.flagR at hg
  cases e2:Go.Pack.numR (b.drop r.pos) with
  | error z=>
   rw [e2] at hg
   cases hg
   have q:=N.fail r e hr he e2
   have hz:e≠0:=fun hz=>Go.Proofs.YtoaibmbldmckaaaGreat.numR_ne _ (by rw [e2,hz])
   unfold sL
   rw [if_neg (by rw [q];exact hz)]
   exact q
  | ok z=>
   obtain ⟨n,t1⟩:=z
   rw [e2] at hg
   simp only at hg
   obtain ⟨q1,q2,q3⟩:=N.good r n t1 hr he e2
   unfold sL
   rw [if_pos q2,q1]
   split at hg
   ·cases hg
   ·rename_i h0
    split at hg
    ·cases hg
    ·rename_i h1;cases hg;rw [if_neg h0,if_neg h1]
end Go.Proofs.YtoaibmbldmckaaaGreat
end
section
namespace Go.Proofs.YtoaibmbldmckaaaGreat
open Go.AM Go.Pack Tryz
theorem Rds.inn (b:List UInt8) (most:Nat):Rds b (eR b 0 most) (upto most).get:=by
 have N:=Rds.num b
 have hL:∀ n:Int,aE9 most n=true↔0≤n∧n≤most:=fun n=>by unfold aE9;simp
 refine ⟨fun r hr=>nX hr,fun r he=>?_,fun r a t hr he hg=>?_,fun r e hr he hg=>?_⟩
 ·have q:=N.bad r he
  unfold eR
  rw [if_neg (by rw [q];exact he)]
  exact q
 ·simp only [upto,Go.Pack.Cod.only,Go.Pack.num] at hg
  cases e:numR (b.drop r.pos) with
  | error z=>rw [e] at hg;cases hg
  | ok z=>
   obtain ⟨n,t1⟩:=z
   rw [e] at hg
   simp only at hg
   obtain ⟨q1,q2,q3⟩:=N.good r n t1 hr he e
   unfold eR
   rw [if_pos q2,q1]
   split at hg
   ·rename_i h0
    cases hg
    have:=(hL a).1 h0
    rw [if_neg (by omega),if_neg (by omega)]
    exact ⟨q1,q2,q3⟩
   ·cases hg
 ·simp only [upto,Go.Pack.Cod.only,Go.Pack.num] at hg
  cases e2:numR (b.drop r.pos) with
  | error z=>
   rw [e2] at hg
   cases hg
   have q:=N.fail r e hr he e2
   have hz:e≠0:=fun hz=>Go.Proofs.YtoaibmbldmckaaaGreat.numR_ne _ (by rw [e2,hz])
   unfold eR
   rw [if_neg (by rw [q];exact hz)]
   exact q
  | ok z=>
   obtain ⟨n,t1⟩:=z
   rw [e2] at hg
   simp only at hg
   obtain ⟨q1,q2,q3⟩:=N.good r n t1 hr he e2
   unfold eR
   rw [if_pos q2,q1]
   split at hg
   ·cases hg
   ·rename_i h0
    cases hg
    by_cases c:n<0
    ·rw [if_pos c]
    ·rw [if_neg c,if_pos (by have:=mt (hL n).2 h0;omega)]
theorem aQ3 {most:Nat} {b:List UInt8} {e:Int} (h:(upto most).get b=.error e):e≠0:=fun hz=>CNE.upto most b (by rw [h,hz])
theorem Rds.text (b:List UInt8) (most:Nat):Rds b (kO b most) (aBg most):=by
 have N:=Rds.inn b most
 refine ⟨fun r hr=>eI hr,fun r he=>?_,fun r a t hr he hg=>?_,fun r e hr he hg=>?_⟩
 ·have q:=N.bad r he
  unfold kO
  rw [if_neg (by rw [q];exact he)]
  exact q
 ·unfold aBg at hg
  cases e:(upto most).get (b.drop r.pos) with
  | error z=>rw [e] at hg;cases hg
  | ok z=>
   obtain ⟨n,t1⟩:=z
   rw [e] at hg
   simp only at hg
   obtain ⟨q1,q2,q3⟩:=N.good r n t1 hr he e
   have hp:=N.pos r hr
   have hl:t1.length=b.length - (eR b 0 most r).2.pos:=by rw [q3,List.length_drop]
   have h0:=(aCd q2).1
   unfold kO
   rw [if_pos q2]
   rw [q1] at h0 ⊢
   split at hg
   ·rename_i hn
    cases hg
    rw [if_neg (by omega)]
    refine ⟨by rw [q3],rfl,?_⟩
    rw [q3,List.drop_drop]
   ·cases hg
 ·unfold aBg at hg
  cases e2:(upto most).get (b.drop r.pos) with
  | error z=>
   rw [e2] at hg
   cases hg
   have q:=N.fail r e hr he e2
   unfold kO
   rw [if_neg (by rw [q];exact aQ3 e2)]
   exact q
  | ok z=>
   obtain ⟨n,t1⟩:=z
   rw [e2] at hg
   simp only at hg
   obtain ⟨q1,q2,q3⟩:=N.good r n t1 hr he e2
   have hp:=N.pos r hr
   have hl:t1.length=b.length - (eR b 0 most r).2.pos:=by rw [q3,List.length_drop]
   unfold kO
   rw [if_pos q2,q1]
   split at hg
   ·cases hg
   ·rename_i hn
    cases hg
    rw [if_pos (by omega)]
theorem Rds.cnt {b:List UInt8} {most:Nat} {r:Rd} (hr:r.pos≤b.length) (he:r.err=0):(∀ n t,(upto most).get (b.drop r.pos)=.ok (n,t)→n≤(t.length:Int)→(cI b most r).1=n∧(cI b most r).2.err=0∧t=b.drop (cI b most r).2.pos) ∧
  (∀ n t,(upto most).get (b.drop r.pos)=.ok (n,t)→¬ n≤(t.length:Int)→(cI b most r).1=0∧(cI b most r).2.err=3)∧(∀ e,(upto most).get (b.drop r.pos)=.error e→(cI b most r).1=0∧(cI b most r).2.err=e):=by
 have N:=Rds.inn b most
 refine ⟨fun n t h hn=>?_,fun n t h hn=>?_,fun e h=>?_⟩
 ·obtain ⟨q1,q2,q3⟩:=N.good r n t hr he h
  have hp:=N.pos r hr
  have hl:t.length=b.length - (eR b 0 most r).2.pos:=by rw [q3,List.length_drop]
  unfold cI
  rw [if_pos q2,q1,if_neg (by omega)]
  exact ⟨q1,q2,q3⟩
 ·obtain ⟨q1,q2,q3⟩:=N.good r n t hr he h
  have hp:=N.pos r hr
  have hl:t.length=b.length - (eR b 0 most r).2.pos:=by rw [q3,List.length_drop]
  unfold cI
  rw [if_pos q2,q1,if_pos (by omega)]
  exact ⟨rfl,rfl⟩
 ·have q:=N.fail r e hr he h
  have hz:(eR b 0 most r).2.err≠0:=by rw [q];exact aQ3 h
  unfold cI
  rw [if_neg hz]
  exact ⟨aAk hz,q⟩
theorem Rds.many {α β:Type} {b:List UInt8} {f:Rd→β×Rd} {c:Go.Pack.Cod α} {k:α→β} (hc:CNE c) (hp:∀ r:Rd,r.pos≤b.length→(f r).2.pos≤b.length)
  (hg:∀ (r:Rd) (a:α) (t:List UInt8),r.pos≤b.length→r.err=0→c.get (b.drop r.pos)=.ok (a,t)→(f r).1=k a∧(f r).2.err=0∧t=b.drop (f r).2.pos)
  (hf:∀ (r:Rd) (e:Int),r.pos≤b.length→r.err=0→c.get (b.drop r.pos)=.error e→(f r).2.err=e):∀ (n:Nat) (r:Rd),r.pos≤b.length→
  (bD f n r).2.pos≤b.length∧(r.err≠0→(bD f n r).2.err=r.err)∧(r.err=0→(∀ l t,nV c n (b.drop r.pos)=.ok (l,t)→(bD f n r).1=l.map k∧(bD f n r).2.err=0∧t=b.drop (bD f n r).2.pos)∧∀ e,nV c n (b.drop r.pos)=.error e→(bD f n r).2.err=e)
 | 0,r,hr=>⟨hr,fun _=>rfl,fun he=>⟨fun l t h=>by cases h;exact ⟨rfl,he,rfl⟩,fun e h=>by cases h⟩⟩
 | n+1,r,hr=>by
  by_cases he:r.err=0
  ·have ih:=Rds.many hc hp hg hf n (f r).2 (hp r hr)
   simp only [bD,if_pos he]
   refine ⟨ih.1,fun h=>absurd he h,fun _=>⟨fun l t h=>?_,fun e h=>?_⟩⟩
   ·unfold nV at h
    cases e1:c.get (b.drop r.pos) with
    | error z=>rw [e1] at h;cases h
    | ok z=>
     obtain ⟨a,t1⟩:=z
     rw [e1] at h
     simp only at h
     obtain ⟨q1,q2,q3⟩:=hg r a t1 hr he e1
     cases e2:nV c n t1 with
     | error z=>rw [e2] at h;cases h
     | ok z=>
      obtain ⟨l1,t2⟩:=z
      rw [e2] at h
      cases h
      obtain ⟨p1,p2,p3⟩:=(ih.2.2 q2).1 l1 t (by rw [←q3];exact e2)
      exact ⟨by rw [q1,p1];rfl,p2,p3⟩
   ·unfold nV at h
    cases e1:c.get (b.drop r.pos) with
    | error z=>
     rw [e1] at h
     cases h
     have q:=hf r e hr he e1
     exact (ih.2.1 (by rw [q];exact fun hz=>hc _ (by rw [e1,hz]))).trans q
    | ok z=>
     obtain ⟨a,t1⟩:=z
     rw [e1] at h
     simp only at h
     obtain ⟨q1,q2,q3⟩:=hg r a t1 hr he e1
     cases e2:nV c n t1 with
     | ok z=>rw [e2] at h;cases h
     | error z=>
      rw [e2] at h
      cases h
      exact (ih.2.2 q2).2 e (by rw [←q3];exact e2)
  ·simp only [bD,if_neg he]
   exact ⟨hr,fun _=>trivial,fun h=>absurd h he⟩
structure RdsK {α β:Type} (b:List UInt8) (f:Rd→β×Rd) (c:Go.Pack.Cod α) (k:α→β):Prop where
 pos:∀ r:Rd,r.pos≤b.length→(f r).2.pos≤b.length
 bad:∀ r:Rd,r.err≠0→(f r).2.err=r.err
 good:∀ (r:Rd) (a:α) (t:List UInt8),r.pos≤b.length→r.err=0→c.get (b.drop r.pos)=.ok (a,t)→(f r).1=k a∧(f r).2.err=0∧t=b.drop (f r).2.pos
 fail:∀ (r:Rd) (e:Int),r.pos≤b.length→r.err=0→c.get (b.drop r.pos)=.error e→(f r).2.err=e
theorem RdsK.list {α β:Type} {b:List UInt8} {f:Rd→β×Rd} {c:Go.Pack.Cod α} {k:α→β} (h:RdsK b f c k) (hc:CNE c) (most:Nat) (hm:most≤1000000):RdsK b (bN b f most) (c.list most hm) (fun l=>l.map k):=by
 have M:=Rds.many hc h.pos h.good h.fail
 refine ⟨fun r hr=>(M _ _ (jK hr)).1,fun r he=>?_,fun r l t hr he hg=>?_,fun r e hr he hg=>?_⟩
 ·have q:(eR b 0 most r).2.err=r.err:=(Rds.inn b most).bad r he
  have hz:(eR b 0 most r).2.err≠0:=by rw [q];exact he
  have hx:cI b most r=eR b 0 most r:=by unfold cI;rw [if_neg hz]
  unfold bN
  rw [hx,aAk hz]
  exact q
 ·simp only [Go.Pack.Cod.list,aEb] at hg
  cases e1:(upto most).get (b.drop r.pos) with
  | error z=>rw [e1] at hg;cases hg
  | ok z=>
   obtain ⟨n,t1⟩:=z
   rw [e1] at hg
   simp only at hg
   split at hg
   ·rename_i hn
    obtain ⟨q1,q2,q3⟩:=(Rds.cnt hr he).1 n t1 e1 hn
    unfold bN
    rw [q1]
    exact ((M n.toNat _ (jK hr)).2.2 q2).1 l t (by rw [←q3];exact hg)
   ·cases hg
 ·simp only [Go.Pack.Cod.list,aEb] at hg
  cases e1:(upto most).get (b.drop r.pos) with
  | error z=>
   rw [e1] at hg
   cases hg
   obtain ⟨q1,q2⟩:=(Rds.cnt hr he).2.2 e e1
   unfold bN
   rw [q1]
   exact q2
  | ok z=>
   obtain ⟨n,t1⟩:=z
   rw [e1] at hg
   simp only at hg
   split at hg
   ·rename_i hn
    obtain ⟨q1,q2,q3⟩:=(Rds.cnt hr he).1 n t1 e1 hn
    unfold bN
    rw [q1]
    exact ((M n.toNat _ (jK hr)).2.2 q2).2 e (by rw [←q3];exact hg)
   ·rename_i hn
    cases hg
    obtain ⟨q1,q2⟩:=(Rds.cnt hr he).2.1 n t1 e1 hn
    unfold bN
    rw [q1]
    exact q2
theorem RdsK.both {α β α' β':Type} {b:List UInt8} {f:Rd→α'×Rd} {f':Rd→β'×Rd} {c:Go.Pack.Cod α} {d:Go.Pack.Cod β} {k:α→α'} {k':β→β'} (h:RdsK b f c k) (g:RdsK b f' d k') (hc:CNE c):RdsK b (Rb f f') (c.both d) (fun x=>(k x.1,k' x.2)):=by
 refine ⟨fun r hr=>g.pos _ (h.pos r hr),fun r he=>?_,fun r a t hr he hg=>?_,fun r e hr he hg=>?_⟩
 ·have q:=h.bad r he
  exact (g.bad _ (by rw [q];exact he)).trans q
 ·simp only [Go.Pack.Cod.both] at hg
  cases e:c.get (b.drop r.pos) with
  | error z=>rw [e] at hg;cases hg
  | ok z=>
   obtain ⟨x,t1⟩:=z
   rw [e] at hg
   simp only at hg
   obtain ⟨q1,q2,q3⟩:=h.good r x t1 hr he e
   cases e2:d.get t1 with
   | error z=>rw [e2] at hg;cases hg
   | ok z=>
    obtain ⟨y,t2⟩:=z
    rw [e2] at hg
    cases hg
    obtain ⟨p1,p2,p3⟩:=g.good _ y t (h.pos r hr) q2 (by rw [←q3];exact e2)
    exact ⟨by show (((f r).1,(f' (f r).2).1):α'×β')=(k x,k' y);rw [q1,p1],p2,p3⟩
 ·simp only [Go.Pack.Cod.both] at hg
  cases e1:c.get (b.drop r.pos) with
  | error z=>
   rw [e1] at hg
   cases hg
   have h5:=h.fail r e hr he e1
   exact (g.bad _ (by rw [h5];exact fun hz=>hc _ (by rw [e1,hz]))).trans h5
  | ok z=>
   obtain ⟨x,t1⟩:=z
   rw [e1] at hg
   simp only at hg
   obtain ⟨q1,q2,q3⟩:=h.good r x t1 hr he e1
   cases e2:d.get t1 with
   | ok z=>rw [e2] at hg;cases hg
   | error z=>
    rw [e2] at hg
    cases hg
    exact g.fail _ e (h.pos r hr) q2 (by rw [←q3];exact e2)
theorem RdsK.map {α β γ δ:Type} {b:List UInt8} {f:Rd→γ×Rd} {c:Go.Pack.Cod α} {k:α→γ} (h:RdsK b f c k) (w:γ→δ) {p:α→β} {q:β→α} {h1:∀ a,q (p a)=a} {h2:∀ b,p (q b)=b}:RdsK b (Rm w f) (c.map p q h1 h2) (fun y=>w (k (q y))):=by
 refine ⟨h.pos,h.bad,fun r a t hr he hg=>?_,fun r e hr he hg=>?_⟩
 ·simp only [Go.Pack.Cod.map] at hg
  cases e:c.get (b.drop r.pos) with
  | error z=>rw [e] at hg;cases hg
  | ok z=>
   obtain ⟨x,t1⟩:=z
   rw [e] at hg
   cases hg
   obtain ⟨q1,q2,q3⟩:=h.good r x t hr he e
   exact ⟨by show w (f r).1=w (k (q (p x)));rw [h1,q1],q2,q3⟩
 ·simp only [Go.Pack.Cod.map] at hg
  cases e1:c.get (b.drop r.pos) with
  | ok z=>rw [e1] at hg;cases hg
  | error z=>
   rw [e1] at hg
   cases hg
   exact h.fail r e hr he e1
theorem wL (b:List UInt8):RdsK b (bY b) Go.Pack.num id:=⟨(Rds.num b).pos,(Rds.num b).bad,(Rds.num b).good,(Rds.num b).fail⟩
theorem aXd (b:List UInt8):RdsK b (kO b 64) txt id:=⟨(Rds.text b 64).pos,(Rds.text b 64).bad,(Rds.text b 64).good,(Rds.text b 64).fail⟩
theorem bR9 (b:List UInt8):RdsK b (sL b) Go.Pack.flag id:=⟨(Rds.flag b).pos,(Rds.flag b).bad,(Rds.flag b).good,(Rds.flag b).fail⟩
theorem bLs (b:List UInt8):RdsK b (aH5 b) kL id:=RdsK.map (((wL b).both ((wL b).both (wL b) CNE.num) CNE.num)) (fun x=>(⟨x.1,x.2.1,x.2.2⟩:Date))
theorem bFc (b:List UInt8):RdsK b (iL b) zN id:=RdsK.map ((aXd b).both ((bLs b).both (wL b) CNE.day) CNE.txt) (fun x=>(⟨x.1,x.2.1,x.2.2⟩:Rate))
theorem bFd (b:List UInt8):RdsK b (hU b) aIk aN6:=RdsK.map ((aXd b).both ((wL b).both (bR9 b) CNE.num) CNE.txt) (fun x=>(⟨x.1,1,x.2.1,x.2.2⟩:Ser))
theorem bRa (b:List UInt8):RdsK b (hZ b) aBh vR:=RdsK.map ((aXd b).both ((wL b).both (wL b) CNE.num) CNE.txt) (fun x=>(⟨x.1,x.2.1,x.2.2,0⟩:Part))
theorem bRb (b:List UInt8):RdsK b (iM b) zO aGy:=RdsK.map ((wL b).both ((wL b).both ((wL b).both ((wL b).both (wL b) CNE.num) CNE.num) CNE.num) CNE.num) (fun x=>(⟨x.1,x.2.1,⟨x.2.2.1,x.2.2.2.1,x.2.2.2.2⟩⟩:Sess))
theorem CNE.part:CNE aBh:=(CNE.txt.both (CNE.num.both CNE.num)).map
theorem CNE.ser:CNE aIk:=(CNE.txt.both (CNE.num.both CNE.flag)).map
theorem CNE.rate:CNE zN:=(CNE.txt.both (CNE.day.both CNE.num)).map
theorem CNE.sess:CNE zO:=(CNE.num.both (CNE.num.both (CNE.num.both (CNE.num.both CNE.num)))).map
theorem CNE.pst:CNE aF6:=(CNE.txt.both (CNE.day.both (CNE.txt.both (CNE.num.both (CNE.list CNE.part _))))).map
theorem bRc (b:List UInt8):RdsK b (dW b) aF6 uC:=RdsK.map ((aXd b).both ((bLs b).both ((aXd b).both ((wL b).both ((bRa b).list CNE.part 12 (by decide)) CNE.num) CNE.txt) CNE.day) CNE.txt) (fun x=>(⟨⟨x.1,0⟩,x.2.1,⟨0,0,0,x.2.2.2.2⟩,⟨x.2.2.1,x.2.2.2.1⟩,false⟩:Posted))
def uF (b:List UInt8) (r:Rd):State×Rd:=
 let x:=bN b (iL b) 24 r
 let y:=bN b (hU b) 8 x.2
 let z:=bN b (dW b) 40 y.2
 let u:=bN b (iM b) 8 z.2
 let v:=bY b u.2
 (⟨x.1,y.1,z.1,[],u.1,v.1⟩,v.2)
theorem bRd (b:List UInt8):RdsK b (uF b) aBq uD:=by
 have h:=RdsK.map (((bFc b).list CNE.rate 24 (by decide)).both (((bFd b).list CNE.ser 8 (by decide)).both (((bRc b).list CNE.pst 40 (by decide)).both (((bRb b).list CNE.sess 8 (by decide)).both (wL b) (CNE.list CNE.sess _)) (CNE.list CNE.pst _)) (CNE.list CNE.ser _)) (CNE.list CNE.rate _)) (fun x=>(⟨x.1,x.2.1,x.2.2.1,[],x.2.2.2.1,x.2.2.2.2⟩:State)) (p:=fun x=>(⟨x.1,x.2.1,x.2.2.1,x.2.2.2.1,x.2.2.2.2⟩:ImgI)) (q:=fun r=>(r.table,r.ser,r.posted,r.sess,r.next)) (h1:=fun _=>rfl) (h2:=fun _=>rfl)
 refine ⟨h.pos,h.bad,fun r a t hr he hg=>?_,h.fail⟩
 obtain ⟨q1,q2,q3⟩:=h.good r a t hr he hg
 refine ⟨?_,q2,q3⟩
 refine Eq.trans q1 ?_
 simp only [uD,List.map_id,id]
theorem aS6 (b:List UInt8):fT b=(if (uF b ⟨0,0⟩).2.err=0 then (if (uF b ⟨0,0⟩).2.pos<b.length then (State.zero,(5:Int)) else match sJ (uF b ⟨0,0⟩).1 with
  | none=>(State.zero,4)
  | some s=>if aV s=true then (s,0) else (State.zero,4)) else (State.zero,(uF b ⟨0,0⟩).2.err)):=by
 have I:=bRd b
 unfold fT
 cases e:aBq.get b with
 | error z=>
  have q:=I.fail ⟨0,0⟩ z (Nat.zero_le _) rfl e
  have hz:z≠0:=fun hz=>CNE.img b (by rw [e,hz])
  rw [q,if_neg hz]
 | ok z=>
  obtain ⟨x,t⟩:=z
  obtain ⟨q1,q2,q3⟩:=I.good ⟨0,0⟩ x t (Nat.zero_le _) rfl e
  have hp:=I.pos ⟨0,0⟩ (Nat.zero_le _)
  rw [if_pos q2,q1]
  simp only
  by_cases c:(uF b ⟨0,0⟩).2.pos<b.length
  ·rw [if_pos c,if_neg (by rw [q3];intro h;have:=congrArg List.length h;simp at this;omega)]
  ·rw [if_neg c,if_pos (by rw [q3];exact List.drop_eq_nil_of_le (by omega))]
   cases sJ (uD x)<;>rfl
end Go.Proofs.YtoaibmbldmckaaaGreat
end
section
namespace Go.AM
section
section
variable {P:Program} {pl:iQ}
theorem FnR.cut {f:FuncId} {p:Nat→Option (List bJ)} (hpl:pl f=some (.val p)) {lv:Nat→List Nat} {mk:Nat→List V} (hm:Pt mk) {ver n:Nat} {pre0 pre post:List (List V)} {v:V} {c:Nat}
  (h:eY P (W P pl) p lv f (mk 0) ⟨1,Tr.nil.put 0 (.row ver n pre)⟩ fun v0 S0=>v0=v∧S0.heap.get 0=some (.row ver n post)) (hv:nY v=true) (hq:post.all cloVs=true) {S:St} {a:Nat} (hS:S.heap.get a=some (.row ver n pre0))
  (h1:jT (gO S 3) pre0=.ok pre) (h2:iZ (eW S 3) pre0=[c]) (hca:c≠a) (hb:(iP v&&pK [(ver,n,post)])=false) (K:KW):W P pl f (mk a) S K=K v ⟨S.next,(S.heap.cut c).put a (.row ver n post)⟩:=by
 obtain ⟨v0,S0,g1,rfl,g2⟩:=jC aLw h
 refine aEx (lT (g1.one fun k g1=>?_)) K
 simp only [eF,hpl]
 obtain ⟨q1,q2⟩:=gY (S:=S0) (n:=2) hq
 unfold vD
 rw [hm.ptr,hm.sls]
 have hA:([]++cR S [a])=[c]:=by simp only [cR,hS,h2,List.append_nil,List.nil_append]
 have hB:(dX (iB (eW S0 3) S0) v0++cR S0 (pH 0 1)).any (fun a=>Nat.blt a 1)=false:=by
  simp only [pH,cR,g2,q2,aA8 v0 hv,List.append_nil,List.any_nil]
 have hC:([c].any fun x=>gL x [a])=false:=by
  simp only [List.any_cons,List.any_nil,gL,Bool.or_false]
  exact Bool.eq_false_iff.2 fun h=>hca (Nat.eq_of_beq_eq_true h)
 rw [hA]
 simp only [hm.frz,fV,hS,h1,hC,cond_false,List.length_cons,List.length_nil,Nat.zero_add,vC,g1,mL v0 hv,hB,nG]
 have:fV S0 (pH 0 1)=.ok [(ver,n,post)]:=by simp only [pH,fV,g2,q1]
 rw [this]
 simp only [pJ,nG,hb,cond_false]
end
end
end Go.AM
end
section
namespace Go.Proofs.YtoaibmbldmckaaaGreat
open Go.AM Tryz
theorem bRe {b:List UInt8} (hb:b.length<1000000000) {r:Rd} (hr:r.pos≤b.length) (most:Int) {S:St} {a c ver n:Nat} (hc:S.heap.get c=some (.row ver 1 (b.map jP))) (hS:S.heap.get a=some (.row 0 3 [[.sl c ver 1 0 b.length,.int .i64 (r.pos:Int),.int .i64 r.err]])) (hca:c≠a) (hne:b≠[]) (K:KW):
  C 145 [.ptr a 0 0 0,.int .i64 most] S K=K (.int .i64 (cI b most r).1) (St.at ⟨S.next,S.heap.cut c⟩ a ((cI b most r).2.cells b)):=by
 have f1:cF jL (jU (gO S 2) S) (.sl c ver 1 0 b.length)=.ok (.imm (b.map jP)):=by
  have he:aM S (.sl c ver 1 0 b.length)=.ok (b.map jP):=by
   have:=aX3 hc (i:=b.length) (by rw [List.length_map];omega)
   rw [this,List.take_of_length_le (by rw [List.length_map];omega)]
  simp only [cF,jU,he,(gY (S:=S) (n:=1) (aO (enc:=jP) (fun _=>rfl) b)).1]
 have f2:dX (iB (eW S 2) S) (.sl c ver 1 0 b.length)=[c]:=by
  have he:aM S (.sl c ver 1 0 b.length)=.ok (b.map jP):=by
   have:=aX3 hc (i:=b.length) (by rw [List.length_map];omega)
   rw [this,List.take_of_length_le (by rw [List.length_map];omega)]
  simp only [dX,iB,he,(gY (S:=S) (n:=1) (aO (enc:=jP) (fun _=>rfl) b)).2]
 have hbr:pK [(0,3,[(cI b most r).2.cells b])]=false:=by
  cases b with
  | nil=>exact absurd rfl hne
  | cons x y=>rfl
 have e1:gO S 3 [.sl c ver 1 0 b.length,.int .i64 (r.pos:Int),.int .i64 r.err]=.ok (r.cells b):=by
  show frzVs jL (jU (gO S 2) S) [_,_,_]=_
  simp only [frzVs,f1];rfl
 have e2:eW S 3 [.sl c ver 1 0 b.length,.int .i64 (r.pos:Int),.int .i64 r.err]=[c]:=by
  show slsVs (iB (eW S 2) S) [_,_,_]=_
  simp only [slsVs,f2];rfl
 refine FnR.cut (mk:=fun a=>[.ptr a 0 0 0,.int .i64 most]) aXa (lv:=fB []) (Pt.head rfl) (pre:=[r.cells b]) ?_ rfl (Rd.clo b _) hS (by simp only [jT,e1]) (by simp only [iZ,e2];rfl) hca (by rw [hbr,Bool.and_false]) K
 rw [bEx]
 delta Tryz.f145;simp only [↓cw,↓reduceIte,Nat.reduceLT,kk,Rd.cells,aA]
 refine Eq.mpr ((aZq hb hr 0 most).eq (Tr.get_put_sameB _ _ _ trivial) _) ?_
 have hp:=nX (lo:=0) (hi:=most) hr
 unfold cI
 generalize eR b 0 most r=x at hp ⊢
 obtain ⟨n,p,e⟩:=x
 simp only at hp
 have hw:wr .i64 ((b.length:Int) - (p:Int))=(b.length:Int) - (p:Int):=kU (by omega) (by omega)
 simp only [↓cw,↓reduceIte,Nat.reduceLT,kk,Rd.cells,aA,hw]
 by_cases he:e=0
 ·by_cases h1:(b.length:Int) - (p:Int)<n
  ·simp only [↓cw,↓reduceIte,Nat.reduceLT,kk,he,h1,if_true,aA,hw]
   refine Eq.mpr (aF8 (b:=b) (pos:=p) (e0:=0) (Tr.get_put_sameB _ _ _ trivial) r.pos 3 _) ?_
   first | exact ⟨rfl,Tr.get_put_sameB _ _ _ trivial⟩ | exact Tr.get_put_sameB _ _ _ trivial
  ·simp only [↓cw,↓reduceIte,Nat.reduceLT,kk,he,h1,if_true,if_false,aA,hw]
   first | exact ⟨rfl,Tr.get_put_sameB _ _ _ trivial⟩ | exact Tr.get_put_sameB _ _ _ trivial
 ·simp only [↓cw,↓reduceIte,Nat.reduceLT,kk,he,if_true,if_false,aA]
  first | exact ⟨rfl,Tr.get_put_sameB _ _ _ trivial⟩ | exact Tr.get_put_sameB _ _ _ trivial
theorem bRf {b:List UInt8} (hb:b.length<1000000000) {S:St} {a:Nat} (ha:a<S.next) {r:Rd} (hr:r.pos≤b.length) (w:WF S) {T:St} (h145:∀ K:KW,C 145 [.ptr a 0 0 0,.int .i64 24] T K=K (.int .i64 (cI b 24 r).1) (St.at S a ((cI b 24 r).2.cells b))) {K:KW}
  (H:∀ v X,Ext (St.at S a ((bN b (iL b) 24 r).2.cells b)) X→Own (St.at S a ((bN b (iL b) 24 r).2.cells b)) X 5 v ((bN b (iL b) 24 r).1.map Rate.enc)→(bN b (iL b) 24 r).2.pos≤b.length→K v X):
  C 61 [.ptr a 0 0 0,.int .i64 24,.func 62 [] []] T K:=by
 refine v61 ?_
 delta Tryz.f61;simp only [↓cw,↓reduceIte,Nat.reduceLT,kk]
 refine Eq.mpr (h145 _) ?_
 have hc:=jK (most:=24) hr
 obtain ⟨h0,h24⟩:=mX (b:=b) (r:=r) (show (0:Int)≤24 by decide) lC
 unfold bN at H
 generalize cI b 24 r=y at hc h0 h24 H ⊢
 obtain ⟨n,r0⟩:=y
 simp only at hc h0 h24 H ⊢
 obtain ⟨n,rfl⟩:=Int.eq_ofNat_of_zero_le h0
 rw [show ((n:Int)).toNat=n from by omega] at H
 refine jD (fun m vs X=>∃ (i:Nat) (r1:Rd) (v:V) (done:List Rate),i+m=n∧vs=[v,.int .i64 (i:Int)]∧Ext (St.at S a (r1.cells b)) X∧Own (St.at S a (r1.cells b)) X 5 v (done.map Rate.enc)∧done.length=i∧r1.pos≤b.length∧done++(bD (iL b) m r1).1=(bD (iL b) n r0).1∧(bD (iL b) m r1).2=(bD (iL b) n r0).2) ?_ (n:=n) ⟨0,r0,.nils,[],by omega,rfl,Ext.refl _,Own.nil _ _ _,rfl,hc,rfl,rfl⟩
 rintro m vs X ⟨i,r1,v,done,hi,rfl,x,o,hd,hp,e1,e2⟩ aD hag
 have hXa:=x.old a _ (St.at_get S a _)
 have hn:S.next≤X.next:=x.next
 by_cases hin:(i:Int)<(n:Int)
 ·obtain ⟨m,rfl⟩:∃ m',m=m'+1:=⟨m - 1,by omega⟩
  simp only [↓cw,↓reduceIte,Nat.reduceLT,kk,hin,if_true]
  refine Eq.mpr ((aX8 b r1).eq_same hXa _) ?_
  by_cases he:r1.err=0
  ·simp only [↓cw,↓reduceIte,Nat.reduceLT,kk,he,if_true,if_false,not_true_eq_false,↓oM prog C bR4,List.nil_append,List.cons_append]
   refine Eq.mpr ((r62 hb hp).eq hXa _) ?_
   have x':=Go.Proofs.YtoaibmbldmckaaaGreat.Ext.at ha x (d:=(iL b r1).2.cells b)
   have o':=Go.Proofs.YtoaibmbldmckaaaGreat.Own.at ha o (d:=(iL b r1).2.cells b) (e:=(iL b r1).2.cells b)
   have wS:=St.wf_at (d:=(iL b r1).2.cells b) ha w
   rw [show (⟨X.next,X.heap.put a (.row 0 3 [(iL b r1).2.cells b])⟩:St)=St.at X a ((iL b r1).2.cells b) from rfl]
   generalize St.at X a ((iL b r1).2.cells b)=Y at x' o' ⊢
   simp only [bD,he,if_true] at e1 e2
   have hq:=aS2 hp
   generalize iL b r1=z at x' o' e1 e2 wS hq ⊢
   obtain ⟨rt,r2⟩:=z
   simp only at x' o' e1 e2 wS hq ⊢
   have x2:Ext Y ⟨Y.next+1,Y.heap.put Y.next (.row 0 5 [rt.enc])⟩:=Ext.new (x'.wf wS) _
   obtain ⟨v2,X2,q1,x3,n3,o2⟩:=(o'.ext x2).push (b:=48) (x'.trans x2) wS (u:=.sl Y.next 0 5 0 1) (cs:=[rt.enc]) (by simp only [aM,aA];rfl) (fun c hc=>by rcases List.mem_singleton.1 hc with rfl;exact aVy _) (by simp) (by simp;omega) (by simp [eD];omega)
   simp only [Rate.enc] at q1
   simp only [↓cw,↓reduceIte,Nat.reduceLT,kk,aVw,Rate.enc,q1,jO (show i<1000000000 by omega)]
   exact hag m _ _ (by omega) ⟨i+1,r2,v2,done++[rt],by omega,rfl,x3,by simpa using o2,by simp [hd],hq,by rw [←e1];simp,e2⟩
  ·simp only [↓cw,↓reduceIte,Nat.reduceLT,kk,he,if_true,if_false,not_false_eq_true]
   simp only [bD,he,if_false] at e1 e2
   rw [←e1,←e2] at H
   exact H v X x (by simpa using o) hp
 ·obtain rfl:m=0:=by omega
  simp only [↓cw,↓reduceIte,Nat.reduceLT,kk,hin,if_false]
  simp only [bD] at e1 e2
  rw [←e1,←e2] at H
  exact H v X x (by simpa using o) hp
end Go.Proofs.YtoaibmbldmckaaaGreat
end
section
namespace Go.AM
set_option linter.unusedVariables false
set_option linter.unusedSimpArgs false
set_option maxRecDepth 100000
section
variable {P:Program} {pl:iQ}
theorem FnR.nil {f:FuncId} {p:Nat→Option (List bJ)} (hpl:pl f=some (.val p)) {lv:Nat→List Nat} {mk:Nat→List V} (hm:Pt mk) {ver n:Nat} {pre0 pre post:List (List V)} {v:V}
  (h:eY P (W P pl) p lv f (mk 0) ⟨1,Tr.nil.put 0 (.row ver n pre)⟩ fun v0 S0=>v0=v∧S0.heap.get 0=some (.row ver n post)) (hv:nY v=true) (hq:post.all cloVs=true) {S:St} {a:Nat} (hS:S.heap.get a=some (.row ver n pre0))
  (h1:jT (gO S 3) pre0=.ok pre) (h2:iZ (eW S 3) pre0=[]) (K:KW):W P pl f (mk a) S K=K v ⟨S.next,S.heap.put a (.row ver n post)⟩:=by
 obtain ⟨v0,S0,g1,rfl,g2⟩:=jC aLw h
 refine aEx (lT (g1.one fun k g1=>?_)) K
 simp only [eF,hpl]
 obtain ⟨q1,q2⟩:=gY (S:=S0) (n:=2) hq
 unfold vD
 rw [hm.ptr,hm.sls]
 have hA:([]++cR S [a])=[]:=by simp only [cR,hS,h2,List.append_nil,List.nil_append]
 have hB:(dX (iB (eW S0 3) S0) v0++cR S0 (pH 0 1)).any (fun a=>Nat.blt a 1)=false:=by
  simp only [pH,cR,g2,q2,aA8 v0 hv,List.append_nil,List.any_nil]
 rw [hA]
 simp only [hm.frz,fV,hS,h1,List.any_nil,cond_false,List.length_cons,List.length_nil,Nat.zero_add,vC,g1,mL v0 hv,hB,nG]
 have:fV S0 (pH 0 1)=.ok [(ver,n,post)]:=by simp only [pH,fV,g2,q1]
 rw [this]
 simp only [pJ,nG]
 cases iP v0&&pK [(ver,n,post)]<;>rfl
end
end Go.AM
namespace Go.Proofs.YtoaibmbldmckaaaGreat
open Go.AM Tryz
set_option linter.unusedVariables false
set_option linter.unusedSimpArgs false
set_option maxRecDepth 100000
theorem bRg {r:Rd} (hr:r.pos≤([]:List UInt8).length) (most:Int) {S:St} {a:Nat} (hS:S.heap.get a=some (.row 0 3 [[.nils,.int .i64 (r.pos:Int),.int .i64 r.err]])) (K:KW):
  C 145 [.ptr a 0 0 0,.int .i64 most] S K=K (.int .i64 (cI [] most r).1) (St.at S a ((cI [] most r).2.cells [])):=by
 obtain ⟨b,hbb⟩:∃ b:List UInt8,b=[]:=⟨_,rfl⟩
 have hb:b.length<1000000000:=by rw [hbb];decide
 rw [←hbb] at hr ⊢
 refine FnR.nil (mk:=fun a=>[.ptr a 0 0 0,.int .i64 most]) aXa (lv:=fB []) (Pt.head rfl) (pre:=[r.cells b]) ?_ rfl (Rd.clo b _) hS (by rw [hbb];rfl) (by rfl) K
 rw [bEx]
 delta Tryz.f145;simp only [↓cw,↓reduceIte,Nat.reduceLT,kk,Rd.cells,aA]
 refine Eq.mpr ((aZq hb hr 0 most).eq (Tr.get_put_sameB _ _ _ trivial) _) ?_
 have hp:=nX (lo:=0) (hi:=most) hr
 unfold cI
 generalize eR b 0 most r=x at hp ⊢
 obtain ⟨n,p,e⟩:=x
 simp only at hp
 have hw:wr .i64 ((b.length:Int) - (p:Int))=(b.length:Int) - (p:Int):=kU (by omega) (by omega)
 simp only [↓cw,↓reduceIte,Nat.reduceLT,kk,Rd.cells,aA,hw]
 by_cases he:e=0
 ·by_cases h1:(b.length:Int) - (p:Int)<n
  ·simp only [↓cw,↓reduceIte,Nat.reduceLT,kk,he,h1,if_true,aA,hw]
   refine Eq.mpr (aF8 (b:=b) (pos:=p) (e0:=0) (Tr.get_put_sameB _ _ _ trivial) r.pos 3 _) ?_
   first | exact ⟨rfl,Tr.get_put_sameB _ _ _ trivial⟩ | exact Tr.get_put_sameB _ _ _ trivial
  ·simp only [↓cw,↓reduceIte,Nat.reduceLT,kk,he,h1,if_true,if_false,aA,hw]
   first | exact ⟨rfl,Tr.get_put_sameB _ _ _ trivial⟩ | exact Tr.get_put_sameB _ _ _ trivial
 ·simp only [↓cw,↓reduceIte,Nat.reduceLT,kk,he,if_true,if_false,aA]
  first | exact ⟨rfl,Tr.get_put_sameB _ _ _ trivial⟩ | exact Tr.get_put_sameB _ _ _ trivial
end Go.Proofs.YtoaibmbldmckaaaGreat
end
section
namespace Go.Proofs.YtoaibmbldmckaaaGreat
open Go.AM Tryz
theorem bEz (a b:UInt8):(a=b)=((a.toNat:Int)=(b.toNat:Int)):=by
 refine propext ⟨fun h=>by rw [h],fun h=>UInt8.toNat_inj.1 (by omega)⟩
theorem g27 (l r:List UInt8) (hb:l.length<1000000000) (S:St) (K:KW):C 27 [.imm (l.map jP),.imm (r.map jP)] S K=K (.bool (decide (l=r))) S:=by
 refine (v27 rfl ?_).eq S K
 delta Tryz.f27;simp only [↓cw,↓reduceIte,Nat.reduceLT,kk]
 by_cases h:l.length=r.length
 ·simp only [↓cw,↓reduceIte,Nat.reduceLT,show (l.length:Int)=(r.length:Int) by omega,kk,not_true_eq_false,if_false]
  refine aH l (step:=dZ r) (fin:=fun _=>true) (fun i n vs S=>n=i∧vs=[.bool false,.int .i64 (i:Int)]) (fun x=>x=decide (l=r)) ?_ ?_ (s:=0) ⟨rfl,rfl⟩ (eqL h)
  ·rintro i p n vs S hi ⟨rfl,rfl⟩ aD H
   have hil:=(List.getElem?_eq_some_iff.1 hi).1
   have hj:r[n]?=some r[n]:=List.getElem?_eq_getElem (by omega)
   have hlt:((n:Int)<(r.length:Int))=True:=bO hj
   simp only [dZ,hj,Option.some.injEq,bEz] at H
   simp only [↓cw,↓reduceIte,Nat.reduceLT,kk,bO hi,hlt,aIp hi,aIp hj,jP,jO (show n<1000000000 by omega),oo]
   grind
  ·rintro n vs S ⟨rfl,rfl⟩ aD H
   simp only [↓cw,↓reduceIte,Nat.reduceLT,kk,h,Int.lt_irrefl,if_false,oo,←H]
 ·simp only [↓cw,↓reduceIte,Nat.reduceLT,show ¬ (l.length:Int)=(r.length:Int) by omega,kk,not_false_eq_true,if_true,oo]
  have:decide (l=r)=false:=by simpa using fun e=>h (by rw [e])
  rw [this]
end Go.Proofs.YtoaibmbldmckaaaGreat
end
section
namespace Go.AM
set_option linter.unusedVariables false
set_option linter.unusedSimpArgs false
theorem ldR {S:St} {a ver n:Nat} {els:List (List V)} (hS:S.heap.get a=some (.row ver n els)) {i:Nat} {row:List V} (hi:els[i]?=some row) (k:Option Nat) (j m:Nat):gX k (.ptr a ver i j) ⟨m,S.heap⟩=gW k row j:=by
 have:=aI (S:=⟨m,S.heap⟩) hS
 simp only [gX,this,hi]
theorem stR {S:St} {a ver n:Nat} {els:List (List V)} (hS:S.heap.get a=some (.row ver n els)) {i:Nat} {row:List V} (hi:els[i]?=some row) (x:V) {w:Nat} (hx:x.cells.length=w) (ho:aF x.cells=true) (j m:Nat) (hj:j+w≤row.length):
  eH w (.ptr a ver i j) x ⟨m,S.heap⟩=.ok ⟨m,S.heap.put a (.row ver n (els.set i (splice row j x.cells)))⟩:=by
 have:=aI (S:=⟨m,S.heap⟩) hS
 simp only [eH,this,hi]
 rw [if_pos ⟨hx,ho,by omega⟩]
end Go.AM
namespace Go.Proofs.YtoaibmbldmckaaaGreat
open Go.AM Tryz
set_option linter.unusedVariables false
set_option linter.unusedSimpArgs false
set_option maxRecDepth 100000
theorem aAl (t:Total):qJ t=(match aE gC some t.parts [] with | none=>none | some ps=>sD ps):=rfl
theorem bRi {S:St} {a ver i:Nat} {els:List (List V)} {u:V} {q:Posted} (w:WF S) (hS:S.heap.get a=some (.row ver 12 els)) (hi:els[i]?=some (q.encW u)) (ou:Own E0 S 4 u (q.total.parts.map Part.enc)) (hua:AM.blkOf u≠some a) (h12:q.total.parts.length≤12) {K:KW}
  (H1:∀ t S',qJ q.total=some t→WF S'→S.next≤S'.next→S'.heap.get a=some (.row ver 12 (els.set i (({ q with total:=t }:Posted).encW u)))→Own E0 S' 4 u (t.parts.map Part.enc)→(∀ y,y<S.next→y≠a→AM.blkOf u≠some y→S'.heap.get y=S.heap.get y)→K (.bool true) S')
  (H2:∀ S',qJ q.total=none→WF S'→S.next≤S'.next→(∀ y,y<S.next→y≠a→AM.blkOf u≠some y→S'.heap.get y=S.heap.get y)→K (.bool false) S'):C 154 [.ptr a ver i 5] S K:=by
 refine bMn ?_
 have l0:=ldR hS hi
 simp only [Posted.encW] at l0
 have lu:=ou.sl.lenI
 have la:=w _ _ hS
 delta Tryz.f154;simp only [↓cw,↓reduceIte,Nat.reduceLT,kk,l0 none 8 S.next,lu]
 refine aH q.total.parts (step:=gC) (fin:=some) (fun k st vs X=>∃ x y,vs=[.bool false,x,y,.int .i64 (k:Int)]∧Own E0 X 4 u ((st++q.total.parts.drop k).map Part.enc)∧st.length=k∧Own E0 X 1 x ((st.map (·.net)).map cX)∧Own E0 X 1 y ((st.map (·.tax)).map cX)∧WF X∧S.next≤X.next∧(∀ z,AM.blkOf x=some z→S.next≤z)∧(∀ z,AM.blkOf y=some z→S.next≤z)∧(∀ z,AM.blkOf x=some z→AM.blkOf y≠some z)∧∀ z,z<S.next→AM.blkOf u≠some z→X.heap.get z=S.heap.get z)
  (fun r=>r=aE gC some q.total.parts []) ?_ ?_ (s:=[]) ⟨_,_,rfl,by simpa using ou,rfl,Own.nil _ _ _,Own.nil _ _ _,w,Nat.le_refl _,fun z h=>(by cases h),fun z h=>(by cases h),fun z h=>(by cases h),fun _ _ _=>rfl⟩ rfl
 ·rintro k p st vs X hk ⟨x,y,rfl,oU,hst,ox,oy,wX,hn,bx,by_,hxy,keep⟩ aD H
  have hkl:=(List.getElem?_eq_some_iff.1 hk).1
  have bu:∀ z,AM.blkOf u=some z→z<S.next:=fun z hz=>(cN ou hz).2
  have hkU:((st++q.total.parts.drop k).map Part.enc)[k]?=some p.enc:=by
   rw [List.getElem?_map,List.getElem?_append_right (by omega),List.getElem?_drop,hst,Nat.sub_self,Nat.add_zero,hk];rfl
  have rA:X.heap.get a=some (.row ver 12 els):=by rw [keep a la hua];exact hS
  have l1:=ldR rA hi
  simp only [Posted.encW] at l1
  obtain ⟨b,vb,hv,_,hb,e4,_,set1⟩:=(oU.bump 17).setK (zG (wX.bump 17)) pF hkU .i64
  have hld:∀ m j,gX none (.ptr b vb k j) ⟨m,X.heap⟩=gW none p.enc j:=fun m j=>by
   have:=oU.ld hv hkU none j
   simpa only [ldP,gm] using this
  have m1:=fun m=>hld m 1
  have m2:=fun m=>hld m 2
  simp only [kk,Part.enc] at m1 m2
  obtain ⟨S2,st1,x2,n2,oU2,keep2,w2⟩:=set1 3 1 (.int .i64 (bG p.net p.bp).1) rfl rfl (by decide)
  have w2:=w2 (wX.bump 17)
  have hbS:b<S.next:=bu b (by rw [hv];rfl)
  have htx:((st++q.total.parts.drop k).map Part.enc).set k (splice p.enc 3 [.int .i64 (bG p.net p.bp).1])=((st++[tY p])++q.total.parts.drop (k+1)).map Part.enc:=by
   rw [List.map_append,List.set_append_right _ _ (by rw [List.length_map];omega),List.length_map,hst,Nat.sub_self]
   have hd:q.total.parts.drop k=p::q.total.parts.drop (k+1):=by
    have:=(List.getElem?_eq_some_iff.1 hk).2
    rw [←this];exact (List.getElem_cons_drop hkl).symm
   rw [hd]
   simp only [List.map_cons,List.set_cons_zero,List.map_append,List.append_assoc,List.cons_append,List.nil_append,List.map_nil]
   rfl
  simp only [V.cells] at oU2
  rw [htx] at oU2
  have hk2:(((st++[tY p])++q.total.parts.drop (k+1)).map Part.enc)[k]?=some (tY p).enc:=by
   rw [List.getElem?_map,List.append_assoc,List.getElem?_append_right (by omega),hst,Nat.sub_self];rfl
  simp only [gC] at H
  by_cases he:(bG p.net p.bp).2=0
  rotate_left
  ·simp only [he,if_false] at H
   simp only [↓cw,↓reduceIte,Nat.reduceLT,kk,bO hk,l1 none 8,e4,m1,m2,aYu,fZ,st1,he,not_false_eq_true,if_true]
   exact H2 _ (by rw [aAl,←H]) w2 (by have:S2.next=X.next+17:=n2;omega) fun y hy hya hyu=>by rw [keep2 y fun e=>hyu (by rw [hv,e];rfl)];exact keep y hy hyu
  simp only [he,if_true] at H
  have hld2:∀ m j,gX none (.ptr b vb k j) ⟨m,S2.heap⟩=gW none (tY p).enc j:=fun m j=>by
   have:=oU2.ld hv hk2 none j
   simpa only [ldP,gm] using this
  have m3:=fun m=>hld2 m 2
  have m4:=fun m=>hld2 m 3
  simp only [kk,Part.enc,tY] at m3 m4
  have n2':S2.next=X.next+17:=n2
  have ox2:Own E0 S2 1 x _:=ox.same (by omega) fun z hz=>keep2 z (by have:=bx z hz;omega)
  have oy2:Own E0 S2 1 y _:=oy.same (by omega) fun z hz=>keep2 z (by have:=by_ z hz;omega)
  have lx:∀ z,AM.blkOf x=some z→z<X.next:=fun z hz=>(cN ox hz).2
  have ly:∀ z,AM.blkOf y=some z→z<X.next:=fun z hz=>(cN oy hz).2
  obtain ⟨x',S3,q1,w3,n3,ox3,bx3,keep3⟩:=aK9 (b:=8) ox2 w2 (k1:=S2.next+5) (k2:=S2.next+6) (m:=S2.next+16) (fresh w2 (by omega)) (fresh w2 (by omega)) (by omega) (by omega) (by omega) (by omega) (aKa p.net) (by simp;omega) (by simp [eD];omega)
  have oU3:Own E0 S3 4 u _:=oU2.same (by omega) fun z hz=>keep3 z (by have:=bu z hz;omega) (by have:=bu z hz;omega) (fun h=>by have:=bx z h;have:=bu z hz;omega)
  have oy3:Own E0 S3 1 y _:=oy2.same (by omega) fun z hz=>keep3 z (by have:=ly z hz;omega) (by have:=ly z hz;omega) (fun h=>hxy z h hz)
  have fr:∀ c,7≤c→S3.heap.get (S2.next+c)=none:=fun c hc=>by
   rw [keep3 (S2.next+c) (by omega) (by omega) fun h=>by have:=lx _ h;omega];exact fresh w2 (by omega)
  obtain ⟨y',S4,q2,w4,n4,oy4,by4,keep4⟩:=aK9 (b:=8) oy3 w3 (k1:=S2.next+12) (k2:=S2.next+13) (m:=S3.next) (fr 12 (by omega)) (fr 13 (by omega)) (by omega) (by omega) (by omega) (Nat.le_refl _) (aKa (bG p.net p.bp).1) (by simp;omega) (by simp [eD];omega)
  have hx3:∀ z,AM.blkOf x'=some z→z=S2.next+6∨AM.blkOf x=some z:=fun z hz=>by
   rcases bx3 with h | h
   ·rw [h] at hz;cases hz;exact .inl rfl
   ·rw [h] at hz;exact .inr hz
  have hy4:∀ z,AM.blkOf y'=some z→z=S2.next+13∨AM.blkOf y=some z:=fun z hz=>by
   rcases by4 with h | h
   ·rw [h] at hz;cases hz;exact .inl rfl
   ·rw [h] at hz;exact .inr hz
  have ox4:Own E0 S4 1 x' _:=ox3.same (by omega) fun z hz=>by
   rcases hx3 z hz with h | h
   ·exact keep4 z (by omega) (by omega) fun h'=>by have:=ly z h';omega
   ·exact keep4 z (by have:=lx z h;omega) (by have:=lx z h;omega) fun h'=>hxy z h h'
  have oU4:Own E0 S4 4 u _:=oU3.same (by omega) fun z hz=>keep4 z (by have:=bu z hz;omega) (by have:=bu z hz;omega) (fun h=>by have:=by_ z h;have:=bu z hz;omega)
  have m5:=oU3.ld hv hk2 none 3
  simp only [kk,Part.enc,tY] at m5
  simp only [cX] at q1 q2
  simp only [↓cw,↓reduceIte,Nat.reduceLT,kk,bO hk,l1 none 8,e4,m1,m2,aYu,fZ,st1,he,not_true_eq_false,if_false,m3,m4,aDr,q1,m5,q2,jO (show k<1000000000 by omega)]
  refine H _ _ ⟨x',y',rfl,oU4,by rw [List.length_append,hst];rfl,by rw [List.map_append,List.map_append];exact ox4,by rw [List.map_append,List.map_append];exact oy4,w4,by omega,fun z hz=>?_,fun z hz=>?_,fun z hz hz'=>?_,fun z hz hu=>?_⟩
  ·rcases hx3 z hz with h | h
   ·omega
   ·exact bx z h
  ·rcases hy4 z hz with h | h
   ·omega
   ·exact by_ z h
  ·rcases hx3 z hz with h | h<;>rcases hy4 z hz' with h' | h'
   ·omega
   ·have:=ly z h';omega
   ·have:=lx z h;omega
   ·exact hxy z h h'
  ·rw [keep4 z (by omega) (by omega) fun h=>by have:=by_ z h;omega,keep3 z (by omega) (by omega) fun h=>by have:=bx z h;omega,keep2 z fun e=>hu (by rw [hv,e];rfl)]
   exact keep z hz hu
 ·rintro st vs X ⟨x,y,rfl,oU,hst,ox,oy,wX,hn,bx,by_,hxy,keep⟩ aD H
  have bu:∀ z,AM.blkOf u=some z→z<S.next:=fun z hz=>(cN ou hz).2
  rw [List.drop_length,List.append_nil] at oU
  have rA:X.heap.get a=some (.row ver 12 els):=by rw [keep a la hua];exact hS
  have hil:=(List.getElem?_eq_some_iff.1 hi).1
  have c1:=aRi ox (by rw [List.length_map];omega)
  generalize hA:cZ (st.map (·.net))=A at c1
  generalize hB:cZ (st.map (·.tax))=B
  generalize hG:cZ [A.1,B.1]=G
  obtain ⟨X1,hX1⟩:∃ X1:St,X1=⟨X.next,X.heap.put a (.row ver 12 (els.set i (splice (q.encW u) 5 [.int .i64 A.1])))⟩:=⟨_,rfl⟩
  have t1:eH 1 (.ptr a ver i 5) (.int .i64 A.1) X=.ok X1:=by rw [hX1];exact stR rA hi (.int .i64 A.1) (w:=1) rfl rfl 5 X.next (by show 5+1≤12;decide)
  have r1:X1.heap.get a=some (.row ver 12 (els.set i (splice (q.encW u) 5 [.int .i64 A.1]))):=by rw [hX1];exact Tr.get_put_sameB _ _ _ trivial
  have g1:∀ z,z≠a→X1.heap.get z=X.heap.get z:=fun z hz=>by rw [hX1];exact Tr.get_put_neB _ _ _ _ trivial hz
  have i1:(els.set i (splice (q.encW u) 5 [.int .i64 A.1]))[i]?=some (splice (q.encW u) 5 [.int .i64 A.1]):=List.getElem?_set_self hil
  have n1:X1.next=X.next:=by rw [hX1]
  have oy1:Own E0 X1 1 y _:=oy.same (by omega) fun z hz=>g1 z (by have:=by_ z hz;omega)
  have c2:=aRi oy1 (by rw [List.length_map];omega)
  rw [hB] at c2
  obtain ⟨X2,hX2⟩:∃ X2:St,X2=⟨X1.next,X1.heap.put a (.row ver 12 ((els.set i (splice (q.encW u) 5 [.int .i64 A.1])).set i (splice (splice (q.encW u) 5 [.int .i64 A.1]) 6 [.int .i64 B.1])))⟩:=⟨_,rfl⟩
  have t2:eH 1 (.ptr a ver i 6) (.int .i64 B.1) X1=.ok X2:=by rw [hX2];exact stR r1 i1 (.int .i64 B.1) (w:=1) rfl rfl 6 X1.next (by show 6+1≤12;decide)
  have r2:X2.heap.get a=some (.row ver 12 ((els.set i (splice (q.encW u) 5 [.int .i64 A.1])).set i (splice (splice (q.encW u) 5 [.int .i64 A.1]) 6 [.int .i64 B.1]))):=by rw [hX2];exact Tr.get_put_sameB _ _ _ trivial
  have g2:∀ z,z≠a→X2.heap.get z=X1.heap.get z:=fun z hz=>by rw [hX2];exact Tr.get_put_neB _ _ _ _ trivial hz
  have i2:((els.set i (splice (q.encW u) 5 [.int .i64 A.1])).set i (splice (splice (q.encW u) 5 [.int .i64 A.1]) 6 [.int .i64 B.1]))[i]?=some (splice (splice (q.encW u) 5 [.int .i64 A.1]) 6 [.int .i64 B.1]):=List.getElem?_set_self (by rw [List.length_set];exact hil)
  have n2:X2.next=X.next:=by rw [hX2,←n1]
  have w2:WF X2:=by rw [hX2,hX1];exact jN (n:=X.next) (jN (n:=X.next) wX (by show a<X.next;omega) (Nat.le_refl _)) (by show a<X.next;omega) (Nat.le_refl _)
  have l5:=ldR r2 i2 none 5
  have l6:=ldR r2 i2 none 6
  simp only [splice,Posted.encW,V.cells,List.length_cons,List.length_nil,List.take,List.drop,List.cons_append,List.nil_append,Nat.reduceAdd,Nat.zero_add,kk] at l5 l6
  obtain ⟨X3,hX3⟩:∃ X3:St,X3=⟨X2.next+18,X2.heap.put (X2.next+9) (.row 0 1 ([A.1,B.1].map cX))⟩:=⟨_,rfl⟩
  have ow:Own E0 X3 1 (.sl (X2.next+9) 0 1 0 2) ([A.1,B.1].map cX):=⟨.inr ⟨X2.next+9,0,[],rfl,Nat.zero_le _,by rw [hX3];show X2.next+9<X2.next+18;omega,by rw [List.append_nil,hX3];exact Tr.get_put_sameB _ _ _ trivial⟩,fun c hc=>by
   rcases List.mem_cons.1 hc with rfl | hc
   ·exact aKa _
   ·rcases List.mem_cons.1 hc with rfl | hc
    ·exact aKa _
    ·cases hc⟩
  have c3:=aRi ow (by simp)
  rw [hG] at c3
  have g3:∀ z,z<X2.next+9→X3.heap.get z=X2.heap.get z:=fun z hz=>by rw [hX3];exact Tr.get_put_neB _ _ _ _ trivial (by omega)
  have r3:=(g3 a (by omega)).trans r2
  have w3:WF X3:=by rw [hX3];exact jN (n:=X2.next) w2 (by omega) (by omega)
  have n3:X3.next=X2.next+18:=by rw [hX3]
  obtain ⟨X4,hX4⟩:∃ X4:St,X4=⟨X3.next,X3.heap.put a (.row ver 12 (((els.set i (splice (q.encW u) 5 [.int .i64 A.1])).set i (splice (splice (q.encW u) 5 [.int .i64 A.1]) 6 [.int .i64 B.1])).set i (splice (splice (splice (q.encW u) 5 [.int .i64 A.1]) 6 [.int .i64 B.1]) 7 [.int .i64 G.1])))⟩:=⟨_,rfl⟩
  have t4:eH 1 (.ptr a ver i 7) (.int .i64 G.1) X3=.ok X4:=by rw [hX4];exact stR r3 i2 (.int .i64 G.1) (w:=1) rfl rfl 7 X3.next (by show 7+1≤12;decide)
  have w4:WF X4:=by rw [hX4];exact jN (n:=X3.next) w3 (by omega) (Nat.le_refl _)
  have g4:∀ z,z≠a→X4.heap.get z=X3.heap.get z:=fun z hz=>by rw [hX4];exact Tr.get_put_neB _ _ _ _ trivial hz
  have kp:∀ z,z<S.next→z≠a→AM.blkOf u≠some z→X4.heap.get z=S.heap.get z:=fun z hz hza hzu=>by
   rw [g4 z hza,g3 z (by omega),g2 z hza,g1 z hza]
   exact keep z hz hzu
  have nx4:S.next≤X4.next:=by rw [hX4];show S.next≤X3.next;omega
  simp only [List.map_cons,List.map_nil,cX] at hX3
  simp only [↓cw,↓reduceIte,Nat.reduceLT,kk,Int.lt_irrefl,if_false,c1,t1,c2,t2,l5,l6,aMt,←hX3,c3,t4]
  have hr:qJ q.total=sD st:=by rw [aAl,←H]
  unfold sD at hr
  rw [hA,hB,hG] at hr
  by_cases a1:A.2=true
  rotate_left
  ·simp only [a1,if_false] at hr ⊢
   exact H2 _ hr w4 nx4 kp
  by_cases a2:B.2=true
  rotate_left
  ·simp only [a1,a2,if_true,if_false] at hr ⊢
   exact H2 _ hr w4 nx4 kp
  by_cases a3:G.2=true
  rotate_left
  ·simp only [a1,a2,a3,if_true,if_false] at hr ⊢
   exact H2 _ hr w4 nx4 kp
  simp only [a1,a2,a3,if_true] at hr ⊢
  refine H1 _ _ hr w4 nx4 ?_ ?_ kp
  ·rw [hX4]
   refine (Tr.get_put_sameB _ _ _ trivial).trans ?_
   rw [List.set_set,List.set_set];rfl
  ·exact oU.same (by rw [hX4];show X.next≤X3.next;omega) fun z hz=>by
    have:=bu z hz
    rw [g4 z (fun e=>hua (by rw [←e];exact hz)),g3 z (by omega),g2 z (fun e=>hua (by rw [←e];exact hz)),g1 z (fun e=>hua (by rw [←e];exact hz))]
end Go.Proofs.YtoaibmbldmckaaaGreat
end
section
namespace Go.Proofs.YtoaibmbldmckaaaGreat
open Go.AM Tryz
theorem bLt:cG prog 153=some none:=by kernel_rfl
theorem bLu:cG prog 156=some none:=by kernel_rfl
theorem bRj {X:St} (w:WF X) {r b vb i:Nat} (hr:X.heap.get r=some (.row 0 1 [[.ptr b vb i 0]])) {n:Nat} {els:List (List V)} (hb:X.heap.get b=some (.row vb n els)) {row:List V} {name:List UInt8} (hi:els[i]?=some (.str name::row)) (s:Ser) {K:KW}
  (H:∀ X',Ext X X'→K (.bool (s.name == name)) X'):C 153 [.agg s.enc,.ptr r 0 0 0] X K:=by
 refine bMm ?_
 have x1:Ext X ⟨X.next+1,X.heap.put X.next (.row 0 4 [s.enc])⟩:=Ext.new w _
 have l1:=ldR (x1.old _ _ hr) (i:=0) rfl none 0
 have l2:=ldR (x1.old _ _ hb) hi none 0
 simp only [Ser.enc] at l1 l2
 simp only [gW,List.getElem?_cons_zero] at l1 l2
 delta Tryz.f153;simp only [↓cw,↓reduceIte,Nat.reduceLT,kk,Ser.enc,l1,l2]
 exact H _ (x1.bump 9)
theorem bRk {X:St} (w:WF X) {r b vb i:Nat} (hr:X.heap.get r=some (.row 0 1 [[.ptr b vb i 0]])) {n:Nat} {els:List (List V)} (hb:X.heap.get b=some (.row vb n els)) {u:V} {p:Posted} (hi:els[i]?=some (p.encW u)) (u':V) (h1:aF [u']=true) (q:Posted) {K:KW}
  (H:∀ X',Ext X X'→K (.bool (decide (q.ref=p.of))) X'):C 156 [.agg (q.encW u'),.ptr r 0 0 0] X K:=by
 refine bMo ?_
 have x1:Ext X ⟨X.next+1,X.heap.put X.next (.row 0 12 [q.encW u'])⟩:=Ext.new w _
 have l1:=ldR (x1.old _ _ hr) (i:=0) rfl none 0
 have l2:=ldR (x1.old _ _ hb) hi (some 2) 9
 simp only [Posted.encW] at l1 l2
 simp only [kk] at l1 l2
 simp only [aF,List.all_cons,List.all_nil,Bool.and_true] at h1
 delta Tryz.f156;simp only [↓cw,↓reduceIte,Nat.reduceLT,kk,Posted.encW,h1,l1,l2]
 rw [show (q.ref.ser == p.of.ser&&decide (q.ref.num=p.of.num))=decide (q.ref=p.of) by rw [Bool.eq_iff_iff];simp [Ref.ext_iff]]
 exact H _ (x1.bump 8)
theorem bRl {S:St} (w:WF S) {v:V} {l:List Ser} (os:Sl S 4 v (l.map Ser.enc)) (hl:l.length<1000000) {fk:Nat} (ht:cG prog fk=some none) {cap:V} {p:Ser→Bool}
  (hf:∀ (s:Ser) X,Ext S X→∀ K:KW,(∀ X',Ext X X'→K (.bool (p s)) X')→C fk [.agg s.enc,cap] X K) {K:KW} (H:∀ X,Ext S X→K (.int .i64 (ixM p l)) X):C 152 [v,.func fk [] [cap]] S K:=by
 refine bFl ?_
 delta Tryz.f152;simp only [↓cw,↓reduceIte,Nat.reduceLT,kk,os.lenI]
 refine aH l (step:=dO p) (fin:=fun _=>-1) (fun i k vs X=>k=i∧vs=[.int .i64 0,.int .i64 (i:Int)]∧Ext S X) (fun r=>r=ixM p l) ?_ ?_ ⟨rfl,rfl,Ext.refl _⟩ rfl
 ·rintro i s k vs X hi ⟨rfl,rfl,x⟩ aD H'
  have hil:=(List.getElem?_eq_some_iff.1 hi).1
  obtain ⟨q,e1,e2,e3,_⟩:=(os.ext x).elem (enc:=Ser.enc) hi
  have e4:gX (some 4) q X=.ok (.agg s.enc):=by rw [e2.load0,aA7 _ _ e3]
  simp only [↓cw,↓reduceIte,Nat.reduceLT,kk,bO hi,e1,e4,↓oM prog C ht,List.nil_append,List.cons_append]
  refine hf s X x _ fun X' x'=>?_
  simp only [dO] at H'
  cases hp:p s<;>simp only [↓cw,↓reduceIte,Nat.reduceLT,hp,kk,jO (show k<1000000000 by omega)] at H' ⊢
  ·exact H' _ _ ⟨rfl,x.trans x'⟩
  ·rw [H'];exact H _ (x.trans x')
 ·rintro k vs X ⟨rfl,rfl,x⟩ aD H'
  simp only [↓cw,↓reduceIte,Nat.reduceLT,kk,Int.lt_irrefl]
  rw [show (-1:Int)=ixM p l from H'];exact H _ x
theorem bRm {S:St} (w:WF S) {v:V} {es:List (List V)} {l:List Posted} (os:Sl S 12 v es) (hes:∀ (i:Nat) (q:Posted),l[i]?=some q→∃ u,es[i]?=some (q.encW u)∧aF [u]=true) (hel:es.length=l.length) (hl:l.length<1000000) {fk:Nat} (ht:cG prog fk=some none) {cap:V} {p:Posted→Bool}
  (hf:∀ (s:Posted) (u:V) X,aF [u]=true→Ext S X→∀ K:KW,(∀ X',Ext X X'→K (.bool (p s)) X')→C fk [.agg (s.encW u),cap] X K) {K:KW} (H:∀ X,Ext S X→K (.int .i64 (ixM p l)) X):C 155 [v,.func fk [] [cap]] S K:=by
 refine bFm ?_
 have hlen:lenW v=.ok (.int .i64 (l.length:Int)):=by rw [os.lenW,hel]
 delta Tryz.f155;simp only [↓cw,↓reduceIte,Nat.reduceLT,kk,hlen]
 refine aH l (step:=dO p) (fin:=fun _=>-1) (fun i k vs X=>k=i∧vs=[.int .i64 0,.int .i64 (i:Int)]∧Ext S X) (fun r=>r=ixM p l) ?_ ?_ ⟨rfl,rfl,Ext.refl _⟩ rfl
 ·rintro i s k vs X hi ⟨rfl,rfl,x⟩ aD H'
  have hil:=(List.getElem?_eq_some_iff.1 hi).1
  obtain ⟨u,hu,h1⟩:=hes _ _ hi
  obtain ⟨q,e1,e2⟩:=(os.ext x).idx hu .i64
  have e4:gX (some 12) q X=.ok (.agg (s.encW u)):=by rw [e2.load0,aA7 _ _ (show (s.encW u).length=12 from rfl)]
  simp only [↓cw,↓reduceIte,Nat.reduceLT,kk,bO hi,e1,e4,↓oM prog C ht,List.nil_append,List.cons_append]
  refine hf s u X h1 x _ fun X' x'=>?_
  simp only [dO] at H'
  cases hp:p s<;>simp only [↓cw,↓reduceIte,Nat.reduceLT,hp,kk,jO (show k<1000000000 by omega)] at H' ⊢
  ·exact H' _ _ ⟨rfl,x.trans x'⟩
  ·rw [H'];exact H _ (x.trans x')
 ·rintro k vs X ⟨rfl,rfl,x⟩ aD H'
  simp only [↓cw,↓reduceIte,Nat.reduceLT,kk,Int.lt_irrefl]
  rw [show (-1:Int)=ixM p l from H'];exact H _ x
section
structure FL (S X:St) (q:Nat) (tv sv pv cv:V) (nx:Int) (us:List V) (ser:List Ser) (l:List Posted) (bv:V):Prop where
 wf:WF X
 nxt:S.next≤X.next
 row:X.heap.get q=some (.row 0 6 [[tv,sv,pv,bv,cv,.int .i64 nx]])
 os:Own E0 X 4 sv (ser.map Ser.enc)
 op:Own E0 X 12 pv (List.zipWith Posted.encW us l)
 pl:PL E0 X us l
 sep:∀ (i:Nat) (u:V) (y:Nat),us[i]?=some u→AM.blkOf u=some y→AM.blkOf sv≠some y
 keep:∀ (y:Nat) (b:Blk),S.heap.get y=some b→y≠q→AM.blkOf sv≠some y→AM.blkOf pv≠some y→(∀ (i:Nat) (u:V),us[i]?=some u→AM.blkOf u≠some y)→X.heap.get y=some b
structure FK (S X:St) (q:Nat) (sv pv:V) (us:List V):Prop where
 wf:WF X
 nxt:S.next≤X.next
 keep:∀ (y:Nat) (b:Blk),S.heap.get y=some b→y≠q→AM.blkOf sv≠some y→AM.blkOf pv≠some y→(∀ (i:Nat) (u:V),us[i]?=some u→AM.blkOf u≠some y)→X.heap.get y=some b
theorem FL.fk {S X:St} {q:Nat} {tv sv pv cv:V} {nx:Int} {us:List V} {ser:List Ser} {l:List Posted} {bv:V} (h:FL S X q tv sv pv cv nx us ser l bv):FK S X q sv pv us:=⟨h.wf,h.nxt,h.keep⟩
theorem Own.wide {S0 X:St} {n m:Nat} {v:V} {es:List (List V)} (o:Own S0 X n v es) {y ver:Nat} {el:List (List V)} (hy:X.heap.get y=some (.row ver m el)) (hne:m≠n):AM.blkOf v≠some y:=by
 intro e
 rcases o.is with ⟨rfl,_⟩ | ⟨a,ver',tl,rfl,_,_,hg⟩
 ·cases e
 ·cases e
  rw [hy] at hg
  injection hg with hg
  injection hg with _ h2
  exact hne h2
theorem Own.blk {S0 X:St} {n:Nat} {v:V} {es:List (List V)} (o:Own S0 X n v es) {y:Nat} (hy:AM.blkOf v=some y):∃ ver tl,v=.sl y ver n 0 es.length∧X.heap.get y=some (.row ver n (es++tl)):=by
 rcases o.is with ⟨rfl,_⟩ | ⟨a,ver,tl,rfl,_,_,hg⟩
 ·cases hy
 ·cases hy;exact ⟨ver,tl,rfl,hg⟩
section
variable {S X:St} {q:Nat} {tv sv pv cv:V} {nx:Int} {us:List V} {ser:List Ser} {l:List Posted} {bv:V}
theorem PL.cong {S0:St} {l':List Posted} (h:PL S0 X us l) (hl:l'.map (·.total.parts)=l.map (·.total.parts)):PL S0 X us l':=by
 have hlen:l'.length=l.length:=by have:=congrArg List.length hl;simpa using this
 refine PL.mk (h.len.trans hlen.symm) (fun i u p h1 h2=>?_) h.sep
 have hi:i<l.length:=by rw [←hlen];exact (List.getElem?_eq_some_iff.1 h2).1
 have e:(l'.map (·.total.parts))[i]?=(l.map (·.total.parts))[i]?:=by rw [hl]
 rw [List.getElem?_map,List.getElem?_map,h2,List.getElem?_eq_getElem hi] at e
 have e:p.total.parts=l[i].total.parts:=Option.some.inj e
 rw [e]
 exact h.own i u _ h1 (List.getElem?_eq_getElem hi)
theorem FL.ext (h:FL S X q tv sv pv cv nx us ser l bv) {X':St} (x:Ext X X'):FL S X' q tv sv pv cv nx us ser l bv:=
 ⟨x.wf h.wf,Nat.le_trans h.nxt x.next,x.old _ _ h.row,h.os.ext x,h.op.ext x,h.pl.move fun _ _ _ _ _ o=>o.ext x,h.sep,fun y b h1 h2 h3 h4 h5=>x.old _ _ (h.keep y b h1 h2 h3 h4 h5)⟩
theorem FL.bump (h:FL S X q tv sv pv cv nx us ser l bv) (c:Nat):FL S ⟨X.next+c,X.heap⟩ q tv sv pv cv nx us ser l bv:=h.ext ((Ext.refl X).bump c)
theorem FL.pu (h:FL S X q tv sv pv cv nx us ser l bv) {i:Nat} {u:V} (hu:us[i]?=some u) {y:Nat} (hy:AM.blkOf u=some y):AM.blkOf pv≠some y:=by
 have hi:i<l.length:=by rw [←h.pl.len];exact (List.getElem?_eq_some_iff.1 hu).1
 exact Own.apart (by decide) (h.pl.own i u _ hu (List.getElem?_eq_getElem hi)) h.op hy
theorem FL.qu (h:FL S X q tv sv pv cv nx us ser l bv) {i:Nat} {u:V} (hu:us[i]?=some u):AM.blkOf u≠some q:=by
 have hi:i<l.length:=by rw [←h.pl.len];exact (List.getElem?_eq_some_iff.1 hu).1
 exact Own.wide (h.pl.own i u _ hu (List.getElem?_eq_getElem hi)) h.row (by decide)
theorem FL.qs (h:FL S X q tv sv pv cv nx us ser l bv):AM.blkOf sv≠some q:=Own.wide h.os h.row (by decide)
theorem FL.qp (h:FL S X q tv sv pv cv nx us ser l bv):AM.blkOf pv≠some q:=Own.wide h.op h.row (by decide)
theorem FL.sp (h:FL S X q tv sv pv cv nx us ser l bv) {y:Nat} (hy:AM.blkOf sv=some y):AM.blkOf pv≠some y:=Own.apart (by decide) h.os h.op hy
theorem FL.turnP (h:FL S X q tv sv pv cv nx us ser l bv) {X':St} {l':List Posted} {b:Nat} (hb:AM.blkOf pv=some b) (hn:X'.next=X.next) (w':WF X') (ho:∀ y,y≠b→X'.heap.get y=X.heap.get y) (op':Own E0 X' 12 pv (List.zipWith Posted.encW us l')) (hl:l'.map (·.total.parts)=l.map (·.total.parts)):
  FL S X' q tv sv pv cv nx us ser l' bv:=by
 refine FL.mk w' (by rw [hn];exact h.nxt) ?_ ?_ op' ?_ h.sep fun y c h1 h2 h3 h4 h5=>?_
 ·rw [ho q fun e=>h.qp (e▸hb)];exact h.row
 ·exact h.os.same (by omega) fun y hy=>ho y fun e=>h.sp hy (e▸hb)
 ·exact (h.pl.move fun i u p hu _ o=>o.same (by omega) fun y hy=>ho y fun e=>h.pu hu hy (e▸hb)).cong hl
 ·rw [ho y fun e=>h4 (e▸hb)];exact h.keep y c h1 h2 h3 h4 h5
theorem FL.turnS (h:FL S X q tv sv pv cv nx us ser l bv) {X':St} {ser':List Ser} {b:Nat} (hb:AM.blkOf sv=some b) (hn:X'.next=X.next) (w':WF X') (ho:∀ y,y≠b→X'.heap.get y=X.heap.get y) (os':Own E0 X' 4 sv (ser'.map Ser.enc)):
  FL S X' q tv sv pv cv nx us ser' l bv:=by
 refine FL.mk w' (by rw [hn];exact h.nxt) ?_ os' ?_ ?_ h.sep fun y c h1 h2 h3 h4 h5=>?_
 ·rw [ho q fun e=>h.qs (e▸hb)];exact h.row
 ·exact h.op.same (by omega) fun y hy=>ho y fun e=>h.sp (e▸hb) hy
 ·exact h.pl.move fun i u p hu _ o=>o.same (by omega) fun y hy=>ho y fun e=>h.sep i u y hu hy (e▸hb)
 ·rw [ho y fun e=>h3 (e▸hb)];exact h.keep y c h1 h2 h3 h4 h5
theorem FL.turnQ (h:FL S X q tv sv pv cv nx us ser l bv) {m:Nat} (hm:X.next≤m) (bv':V):FL S ⟨m,X.heap.put q (.row 0 6 [[tv,sv,pv,bv',cv,.int .i64 nx]])⟩ q tv sv pv cv nx us ser l bv':=by
 have ho:∀ y,y≠q→(X.heap.put q (.row 0 6 [[tv,sv,pv,bv',cv,.int .i64 nx]])).get y=X.heap.get y:=fun y hy=>Tr.get_put_neB _ _ _ _ trivial hy
 refine FL.mk (jN (n:=X.next) h.wf (by have:=h.wf _ _ h.row;omega) hm) (Nat.le_trans h.nxt hm) (Tr.get_put_sameB _ _ _ trivial) ?_ ?_ ?_ h.sep fun y c h1 h2 h3 h4 h5=>?_
 ·exact h.os.same hm fun y hy=>ho y fun e=>h.qs (e▸hy)
 ·exact h.op.same hm fun y hy=>ho y fun e=>h.qp (e▸hy)
 ·exact h.pl.move fun i u p hu _ o=>o.same hm fun y hy=>ho y fun e=>h.qu hu (e▸hy)
 ·exact (ho y h2).trans (h.keep y c h1 h2 h3 h4 h5)
theorem aCe (us:List V):∀ (l:List Posted) (i:Nat) (u:V) (p':Posted),us[i]?=some u→(List.zipWith Posted.encW us l).set i (p'.encW u)=List.zipWith Posted.encW us (l.set i p'):=by
 induction us with
 | nil=>intro l i u p' h;simp at h
 | cons a us ih=>
  intro l i u p' h
  cases l with
  | nil=>simp
  | cons p l=>
   cases i with
   | zero=>simp at h;subst h;simp
   | succ i=>simp at h;simp [ih l i u p' h]
theorem aIq {us:List V} {l:List Posted} {i:Nat} {u:V} {p:Posted} (hu:us[i]?=some u) (hp:l[i]?=some p):(List.zipWith Posted.encW us l)[i]?=some (p.encW u):=by
 rw [List.getElem?_zipWith,hu,hp]
theorem FL.at (h:FL S X q tv sv pv cv nx us ser l bv) {i:Nat} {p:Posted} (hp:l[i]?=some p):∃ u b vb tl,us[i]?=some u∧pv=.sl b vb 12 0 l.length∧X.heap.get b=some (.row vb 12 (List.zipWith Posted.encW us l++tl))∧(List.zipWith Posted.encW us l++tl)[i]?=some (p.encW u):=by
 have hil:=(List.getElem?_eq_some_iff.1 hp).1
 obtain ⟨u,hu⟩:∃ u,us[i]?=some u:=⟨_,List.getElem?_eq_getElem (by rw [h.pl.len];exact hil)⟩
 have hz:=aIq hu hp
 have hzl:(List.zipWith Posted.encW us l).length=l.length:=by rw [List.length_zipWith,h.pl.len,Nat.min_self]
 rcases h.op.is with ⟨_,e⟩ | ⟨a,ver,tl,e1,_,_,e2⟩
 ·rw [e] at hz;simp at hz
 ·exact ⟨u,a,ver,tl,hu,by rw [e1,hzl],e2,by rw [List.getElem?_append_left (by rw [hzl];exact hil)];exact hz⟩
theorem FL.reck (h:FL S X q tv sv pv cv nx us ser l bv) {i:Nat} {p:Posted} (hp:l[i]?=some p) (h12:p.total.parts.length≤12) {b vb m:Nat} (hpv:pv=.sl b vb 12 0 m) {K:KW}
  (H1:∀ t X',qJ p.total=some t→X.next≤X'.next→(∀ y c,X.heap.get y=some c→y≠b→(∀ (j:Nat) (u:V),us[j]?=some u→AM.blkOf u≠some y)→X'.heap.get y=some c)→FL S X' q tv sv pv cv nx us ser (l.set i { p with total:=t }) bv→K (.bool true) X') (H2:∀ X',qJ p.total=none→WF X'→X.next≤X'.next→(∀ y c,X.heap.get y=some c→y≠b→(∀ (j:Nat) (u:V),us[j]?=some u→AM.blkOf u≠some y)→X'.heap.get y=some c)→K (.bool false) X'):C 154 [.ptr b vb i 5] X K:=by
 obtain ⟨u,b',vb',tl,hu,e1,e2,e3⟩:=h.at hp
 rw [hpv] at e1
 injection e1 with e1 e4
 subst e1 e4
 have hil:=(List.getElem?_eq_some_iff.1 hp).1
 have hbv:AM.blkOf pv=some b:=by rw [hpv];rfl
 have hub:AM.blkOf u≠some b:=fun e=>h.pu hu e hbv
 have hlen:=h.pl.len
 have ho:=h.pl.own i u p hu hp
 refine bRi h.wf e2 e3 ho hub h12 (fun t X' ht w' hn hb' o' hk=>H1 t X' ht hn (fun y c hy hyb hyu=>?_) ?_) fun X' ht w' hn hk=>H2 X' ht w' hn fun y c hy hyb hyu=>by rw [hk y (h.wf _ _ hy) hyb (hyu i u hu)];exact hy
 ·rw [hk y (h.wf _ _ hy) hyb (hyu i u hu)];exact hy
 ·have hzl:(List.zipWith Posted.encW us l).length=l.length:=by rw [List.length_zipWith,hlen,Nat.min_self]
  have kk':∀ y,AM.blkOf pv≠some y→AM.blkOf u≠some y→y<X.next→X'.heap.get y=X.heap.get y:=fun y h1 h2 h3=>hk y h3 (fun e=>h1 (e▸hbv)) h2
  refine FL.mk w' (Nat.le_trans h.nxt hn) ?_ ?_ ?_ ?_ h.sep fun y c h1 h2 h3 h4 h5=>?_
  ·rw [kk' q h.qp (h.qu hu) (h.wf _ _ h.row)];exact h.row
  ·exact h.os.same hn fun y hy=>kk' y (h.sp hy) (fun e=>h.sep i u y hu e hy) (cN h.os hy).2
  ·refine ⟨.inr ⟨b,vb,tl,?_,Nat.zero_le _,Nat.lt_of_lt_of_le (h.wf _ _ e2) hn,?_⟩,?_⟩
   ·rw [hpv,←aCe us l i u _ hu,List.length_set,hzl]
    rcases h.op.is with ⟨e,_⟩ | ⟨a,ver,tl',e,_⟩
    ·rw [hpv] at e;cases e
    ·rw [hpv] at e;injection e with _ _ _ _ e;rw [e,hzl]
   ·rw [hb',List.set_append_left _ _ (by rw [hzl];exact hil),aCe us l i u _ hu]
   ·intro cs hc
    rw [←aCe us l i u _ hu] at hc
    rcases List.mem_or_eq_of_mem_set hc with hc | rfl
    ·exact h.op.len cs hc
    ·exact aL0 ho _
  ·refine PL.mk (by rw [List.length_set];exact hlen) (fun j v r h1 h2=>?_) h.pl.sep
   by_cases e:i=j
   ·subst e
    rw [hu] at h1;cases h1
    rw [List.getElem?_set_self hil] at h2;cases h2
    exact o'
   ·rw [List.getElem?_set_ne e] at h2
    exact (h.pl.own j v r h1 h2).same hn fun y hy=>kk' y (h.pu h1 hy) (fun e'=>e (h.pl.sep i j u v y hu h1 e' hy)) (cN (h.pl.own j v r h1 h2) hy).2
  ·rw [kk' y h4 (h5 i u hu) (h.wf _ _ (h.keep y c h1 h2 h3 h4 h5))];exact h.keep y c h1 h2 h3 h4 h5
theorem FL.setP (h:FL S X q tv sv pv cv nx us ser l bv) {i:Nat} {p p':Posted} (hp:l[i]?=some p) {b vb m:Nat} (hpv:pv=.sl b vb 12 0 m) {j:Nat} {x:V} (hx:x.cells=[x]) (hx1:x.one=true) (hj:j<12) (he:∀ u,splice (p.encW u) j [x]=p'.encW u) (ht:p'.total.parts=p.total.parts):
  ∃ X',eH 1 (.ptr b vb i j) x X=.ok X'∧X'.next=X.next∧(∀ y,y≠b→X'.heap.get y=X.heap.get y)∧FL S X' q tv sv pv cv nx us ser (l.set i p') bv:=by
 obtain ⟨u,b',vb',tl,hu,e1,e2,e3⟩:=h.at hp
 have hil:=(List.getElem?_eq_some_iff.1 hp).1
 obtain ⟨a,ver,q1,_,_,_,_,q2⟩:=h.op.setK (zG h.wf) pF (aIq hu hp) .i64
 have e:a=b∧ver=vb:=by rw [hpv] at q1;injection q1 with q1 q3;exact ⟨q1.symm,q3.symm⟩
 obtain ⟨rfl,rfl⟩:=e
 obtain ⟨X',r1,_,r3,r4,r5,r6⟩:=q2 j 1 x (by rw [hx];rfl) (by rw [hx];simp only [aF,List.all_cons,List.all_nil,hx1,Bool.and_self]) (by omega)
 rw [hx,he,aCe us l i u p' hu] at r4
 refine ⟨X',r1,r3,r5,h.turnP (by rw [hpv];rfl) r3 (r6 h.wf) r5 r4 ?_⟩
 rw [List.map_set,ht]
 apply List.ext_getElem?
 intro k
 rw [List.getElem?_set]
 split
 ·rename_i e;subst e
  rw [List.length_map,if_pos hil,List.getElem?_map,hp];rfl
 ·rfl
end
end
theorem bDt:V.nilp.cells=[V.nilp]:=rfl
theorem qM (s:State):sJ s=(match aE fH some s.posted (s.ser,[]) with
 | none=>none
 | some r=>if (cK r.2).2=0 then some { s with ser:=r.1,posted:=r.2,book:=(cK r.2).1 } else none):=rfl
theorem FL.atS {S X:St} {q:Nat} {tv sv pv cv:V} {nx:Int} {us:List V} {ser:List Ser} {l:List Posted} {bv:V} (h:FL S X q tv sv pv cv nx us ser l bv):lenW pv=.ok (.int .i64 (l.length:Int)):=by
 rw [h.op.sl.lenW,List.length_zipWith,h.pl.len,Nat.min_self]
theorem aEj:∀ (l acc ps:List Part),aE gC some l acc=some ps→ps=acc++l.map tY
 | [],acc,ps,h=>by simp only [aE,Option.some.injEq] at h;simp [h]
 | p::l,acc,ps,h=>by
  simp only [aE,gC] at h
  by_cases c:(bG p.net p.bp).2=0
  ·rw [if_pos c] at h
   have:=aEj l _ ps h
   rw [this];simp
  ·rw [if_neg c] at h;cases h
theorem aL1 {t0 t:Total} (h:qJ t0=some t) (hf:tX t0):tX t:=by
 rw [aAl] at h
 split at h
 ·cases h
 ·rename_i ps hps
  have e:=aEj _ _ _ hps
  have ht:t.parts=ps:=by
   unfold sD at h
   repeat' split at h
   all_goals first | (cases h;done) | (cases h;rfl)
  unfold tX
  rw [ht,e]
  refine ⟨by simpa using hf.1,fun q hq=>?_⟩
  simp only [List.nil_append,List.mem_map] at hq
  obtain ⟨p,hp,rfl⟩:=hq
  exact hf.2 p hp
theorem aL2 {l:List Posted} {k:Nat} (h:∀ p∈l,tX p.total):∀ p∈cE l k,tX p.total:=by
 intro p hp
 unfold cE at hp
 split at hp
 ·exact h p hp
 ·rename_i r hr
  rcases List.mem_or_eq_of_mem_set hp with hp | rfl
  ·exact h p hp
  ·exact h r (List.mem_of_getElem? hr)
theorem aL3:∀ (us:List V) (a b:List Posted),a.length≤us.length→(List.zipWith Posted.encW us (a++b)).take a.length=List.zipWith Posted.encW us a
 | us,[],b,_=>by simp
 | [],p::a,b,h=>by simp at h
 | u::us,p::a,b,h=>by
  simp only [List.length_cons,Nat.add_le_add_iff_right] at h
  simp [aL3 us a b h]
theorem g71 {S:St} {q:Nat} {tv sv pv cv:V} {us:List V} {s:State} (f0:FL S S q tv sv pv cv s.next us s.ser s.posted .nils) (h8:s.ser.length≤8) (h40:s.posted.length≤40) (h12:∀ p∈s.posted,tX p.total) {K:KW}
  (H1:∀ s' bv X,sJ s=some s'→FL S X q tv sv pv cv s.next us s'.ser s'.posted bv→(bv=.imm (s'.book.map Bal.enc)∨(bv=.nils∧s'.book=[]))→K (.bool true) X) (H2:∀ X,sJ s=none→FK S X q sv pv us→K (.bool false) X):C 71 [.ptr q 0 0 0] S K:=by
 refine v71 ?_
 have r0:=aI f0.row
 delta Tryz.f71;simp only [↓cw,↓reduceIte,Nat.reduceLT,kk,r0,f0.atS]
 refine aH s.posted (step:=fH) (fin:=some) (fun i st vs X=>vs=[.bool false,.int .i64 (i:Int)]∧FL S X q tv sv pv cv s.next us st.1 (st.2++s.posted.drop i) .nils∧st.2.length=i∧st.1.length=s.ser.length∧∀ p∈st.2,tX p.total) (fun r=>r=aE fH some s.posted (s.ser,[])) ?_ ?_ (s:=(s.ser,[])) ⟨rfl,f0,rfl,rfl,fun _ h=>by cases h⟩ rfl
 ·rintro i p ⟨ser,done⟩ vs X hi ⟨rfl,f,hdl,hsl,hfit⟩ aD H
  have hdl:done.length=i:=hdl
  have hsl:ser.length=s.ser.length:=hsl
  have f:FL S X q tv sv pv cv s.next us ser (done++s.posted.drop i) .nils:=f
  have hil:=(List.getElem?_eq_some_iff.1 hi).1
  have hp:(done++s.posted.drop i)[i]?=some p:=by rw [List.getElem?_append_right (by omega),List.getElem?_drop,hdl,Nat.sub_self,Nat.add_zero,hi]
  obtain ⟨u,b,vb,tl,hu,hpv,hb,hrow⟩:=f.at hp
  have r1:=aI f.row
  have x1:Ext X (X.var 1 [.nilp] [.ptr b vb i 0]):=Ext.var f.wf 1 _ _
  have ix:fI 12 pv (.int .i64 (i:Int))=.ok (.ptr b vb i 0):=by
   rw [hpv];simp only [fI,fX (show i<(done++s.posted.drop i).length from (List.getElem?_eq_some_iff.1 hp).1),if_true,Nat.zero_add]
  obtain ⟨X1,hX1⟩:∃ X1:St,X1=X.var 1 [.nilp] [.ptr b vb i 0]:=⟨_,rfl⟩
  rw [←hX1] at x1
  have f1:=f.ext x1
  have q1:=aI f1.row
  have c7:X1.heap.get X.next=some (.row 0 1 [[.ptr b vb i 0]]):=by rw [hX1];exact Tr.get_put_sameB _ _ _ trivial
  simp only [St.var] at hX1
  simp only [↓cw,↓reduceIte,Nat.reduceLT,kk,bO hi,r1,ix,bDt,←hX1,q1]
  refine bRl f1.wf f1.os.sl (by omega) bLt (p:=fun t=>t.name == p.ref.ser) (fun t Y y K' hK=>bRj (y.wf f1.wf) (y.old _ _ c7) (y.old _ _ (x1.old _ _ hb)) hrow t hK) fun X2 x2=>?_
  have hx:ixM (fun t:Ser=>t.name == p.ref.ser) ser=fC ser p.ref.ser:=rfl
  rw [hx]
  have f2:=f1.ext x2
  have c72:=aI (x2.old _ _ c7)
  simp only [fH] at H
  rcases jH ser p.ref.ser with h | ⟨k,z,h,h2,h3⟩
  ·simp only [h,show ((-1:Int)<0)=True by simp,if_true] at H
   simp only [↓cw,↓reduceIte,Nat.reduceLT,kk,h,show ((-1:Int)<0)=True by simp,if_true]
   exact H2 _ (by rw [qM,←H]) f2.fk
  have k0:((k:Int)<0)=False:=by simp
  simp only [h,k0,if_false,Int.toNat_natCast,h2] at H
  simp only [↓cw,↓reduceIte,Nat.reduceLT,kk,h,k0,if_false,c72]
  have hkl:=(List.getElem?_eq_some_iff.1 h2).1
  refine f2.reck hp (h12 p (List.mem_of_getElem? hi)).1 hpv (fun t X3 ht hn3 k3 f3=>?_) fun X3 ht w3 hn3 hk3=>?_
  rotate_left
  ·simp only [ht] at H
   simp only [↓cw,↓reduceIte,Nat.reduceLT,kk]
   exact H2 _ (by rw [qM,←H]) ⟨w3,Nat.le_trans f2.nxt hn3,fun y c h1 h2 h3 h4 h5=>hk3 y c (f2.keep y c h1 h2 h3 h4 h5) (fun e=>h4 (by rw [e,hpv];rfl)) h5⟩
  simp only [ht] at H
  have hnX:∀ (j:Nat) (w:V),us[j]?=some w→AM.blkOf w≠some X.next:=fun j w hw e=>by
   have hj:j<(done++s.posted.drop i).length:=by rw [←f.pl.len];exact (List.getElem?_eq_some_iff.1 hw).1
   have:=(cN (f.pl.own j w _ hw (List.getElem?_eq_getElem hj)) e).2
   omega
  have hbX:=f.wf _ _ hb
  have c73:=k3 _ _ (x2.old _ _ c7) (by omega) hnX
  have g73:=aI (S:=⟨X3.next+13,X3.heap⟩) c73
  have f3:=f3.bump 13
  have g3:=aI f3.row
  have hil3:i<(done++s.posted.drop i).length:=(List.getElem?_eq_some_iff.1 hp).1
  have hz:(ser.map Ser.enc)[k]?=some z.enc:=by rw [List.getElem?_map,h2];rfl
  obtain ⟨sa,sver,hsv,_,hsaX,e4,_,_⟩:=f3.os.setK (zG f3.wf) pF hz .i64
  have l3:=f3.os.ld hsv hz none 1
  have hp3:((done++s.posted.drop i).set i { p with total:=t })[i]?=some { p with total:=t }:=List.getElem?_set_self hil3
  obtain ⟨X4,st4,n4,o4,f4⟩:=f3.setP (p':={ p with ref:=⟨p.ref.ser,z.next⟩,total:=t }) hp3 hpv (j:=1) (x:=.int .i64 z.next) rfl rfl (by decide) (fun _=>rfl) rfl
  rw [List.set_set] at f4
  have g4:=aI f4.row
  have l4:=f4.os.ld hsv hz none 1
  simp only [Ser.enc,kk] at l3 l4
  obtain ⟨sa',sver',hsv',_,_,_,_,set5⟩:=f4.os.setK (zG f4.wf) pF hz .i64
  obtain ⟨rfl,rfl⟩:sa'=sa∧sver'=sver:=by rw [hsv] at hsv';injection hsv' with h1 h2;exact ⟨h1.symm,h2.symm⟩
  obtain ⟨X5,st5,_,n5,os5,o5,w5⟩:=set5 1 1 (.int .i64 (wr .i64 (z.next+1))) rfl rfl (by decide)
  have hser:(ser.map Ser.enc).set k (splice z.enc 1 [.int .i64 (wr .i64 (z.next+1))])=(ser.set k { z with next:=wr .i64 (z.next+1) }).map Ser.enc:=by rw [List.map_set];rfl
  simp only [V.cells] at os5
  rw [hser] at os5
  have f5:=f4.turnS (by rw [hsv];rfl) n5 (w5 f4.wf) o5 os5
  have hsX:sa'<X.next:=(cN f.os (by rw [hsv];rfl)).2
  have c75:X5.heap.get X.next=some (.row 0 1 [[.ptr b vb i 0]]):=by
   rw [o5 X.next (by omega),o4 X.next (by omega)];exact c73
  have g75:=aI c75
  have g5:=aI f5.row
  have hp5:((done++s.posted.drop i).set i { p with ref:=⟨p.ref.ser,z.next⟩,total:=t })[i]?=some { p with ref:=⟨p.ref.ser,z.next⟩,total:=t }:=List.getElem?_set_self hil3
  obtain ⟨u5,b5,vb5,tl5,hu5,hpv5,hb5,hrow5⟩:=f5.at hp5
  obtain ⟨rfl,rfl⟩:b5=b∧vb5=vb:=by rw [hpv] at hpv5;injection hpv5 with h1 h2;exact ⟨h1.symm,h2.symm⟩
  have l9:=ldR hb5 hrow5 (some 2) 9 X5.next
  simp only [Posted.encW,kk] at l9
  have e9:(⟨X5.next,X5.heap⟩:St)=X5:=rfl
  rw [e9] at l9
  simp only [↓cw,↓reduceIte,Nat.reduceLT,kk,g73,g3,e4,l3,st4,g4,l4,st5,g75,l9]
  rw [show (p.of.ser == []&&decide (p.of.num=0))=decide (p.of=Ref.zero) by rw [Bool.eq_iff_iff];simp [Ref.ext_iff,Ref.zero],jO (show i<1000000000 by omega)]
  have hl5:(done++s.posted.drop i).set i { p with ref:=⟨p.ref.ser,z.next⟩,total:=t }=(done++[{ p with ref:=⟨p.ref.ser,z.next⟩,total:=t }])++s.posted.drop (i+1):=by
   have hd:s.posted.drop i=p::s.posted.drop (i+1):=by
    have:=(List.getElem?_eq_some_iff.1 hi).2
    rw [←this];exact (List.getElem_cons_drop hil).symm
   rw [hd,List.set_append_right _ _ (by omega),hdl,Nat.sub_self,List.set_cons_zero,List.append_assoc];rfl
  rw [hl5] at f5 hp5 hb5 hrow5
  by_cases hof:p.of=Ref.zero
  ·rw [if_pos hof] at H
   rw [decide_eq_true hof,if_pos rfl]
   exact H _ _ ⟨rfl,f5,by simp [hdl],by rw [List.length_set];exact hsl,fun x hx=>(List.mem_append.1 hx).elim (hfit x) fun hx=>by rw [List.mem_singleton.1 hx];exact aL1 ht (h12 p (List.mem_of_getElem? hi))⟩
  simp only [hof,if_false] at H
  simp only [hof,decide_false,Bool.false_eq_true,if_false]
  generalize hp':({ p with ref:=⟨p.ref.ser,z.next⟩,total:=t }:Posted)=p' at f5 hp5 hb5 hrow5 H
  have hof':p'.of=p.of:=by rw [←hp']
  rw [hpv] at g5
  simp only [↓cw,↓reduceIte,Nat.reduceLT,kk,g5]
  have hbd:fO (done++s.posted.drop i).length none (some (.int .i64 (i:Int)))=.ok (0,i):=by
   have h1:decide ((0:Int)≤(i:Int))=true:=by simp
   have h2:decide ((i:Int)≤((done++s.posted.drop i).length:Int))=true:=by simp;omega
   simp only [fO,h1,h2,Bool.and_self,cond_true,Int.toNat_natCast]
  simp only [↓cw,↓reduceIte,Nat.reduceLT,kk,hbd,Nat.sub_zero]
  have hul:done.length≤us.length:=by rw [f5.pl.len];simp
  have hzt:=aL3 us done ([p']++s.posted.drop (i+1)) hul
  rw [←List.append_assoc,hdl] at hzt
  have hzd:(List.zipWith Posted.encW us done).length=i:=by rw [List.length_zipWith];omega
  have hsl':Sl X5 12 (.sl b5 vb5 12 0 i) (List.zipWith Posted.encW us done):=by
   refine ⟨.inr (.inr ⟨b5,vb5,0,_,by rw [hzd],aI hb5,?_,?_⟩),?_⟩
   ·rw [List.length_append,Nat.zero_add,hzd]
    have:=congrArg List.length hzt
    rw [List.length_take,hzd] at this
    omega
   ·rw [List.drop_zero,List.take_append_of_le_length (by
     have:=congrArg List.length hzt
     rw [List.length_take] at this
     omega),hzd]
    exact hzt
   ·intro cs hc
    rw [←hzt] at hc
    exact f5.op.len cs (List.mem_of_mem_take hc)
  have hes:∀ (j:Nat) (r:Posted),done[j]?=some r→∃ v,(List.zipWith Posted.encW us done)[j]?=some (r.encW v)∧aF [v]=true:=by
   intro j r hr
   have hjl:=(List.getElem?_eq_some_iff.1 hr).1
   obtain ⟨v,hv⟩:∃ v,us[j]?=some v:=⟨_,List.getElem?_eq_getElem (by omega)⟩
   have hr':(done++[p']++s.posted.drop (i+1))[j]?=some r:=by rw [List.append_assoc,List.getElem?_append_left hjl];exact hr
   refine ⟨v,aIq hv hr,?_⟩
   have:=(f5.pl.own j v r hv hr').one
   simp only [aF,List.all_cons,List.all_nil,this,Bool.and_self]
  refine bRm f5.wf hsl' hes (by rw [hzd,hdl]) (by omega) bLu (p:=fun r=>decide (r.ref=p'.of)) (fun r v Y hv y K' hK=>bRk (y.wf f5.wf) (y.old _ _ c75) (y.old _ _ hb5) hrow5 v hv r hK) fun X6 x6=>?_
  have hx:ixM (fun r:Posted=>decide (r.ref=p'.of)) done=bC done p.of:=by rw [hof'];rfl
  rw [hx]
  have f6:=f5.ext x6
  have g6:=aI f6.row
  rw [hpv] at g6
  rcases kH done p.of with h | ⟨j,r,h,hj,hj3⟩
  ·simp only [h,show ((-1:Int)<0)=True by simp,if_true] at H
   simp only [↓cw,↓reduceIte,Nat.reduceLT,kk,h,show ((-1:Int)<0)=True by simp,if_true]
   exact H2 _ (by rw [qM,←H]) f6.fk
  have j0:((j:Int)<0)=False:=by simp
  simp only [h,j0,if_false,Int.toNat_natCast] at H
  have hjl:=(List.getElem?_eq_some_iff.1 hj).1
  have hj':(done++[p']++s.posted.drop (i+1))[j]?=some r:=by rw [List.append_assoc,List.getElem?_append_left hjl];exact hj
  obtain ⟨X7,st7,n7,o7,f7⟩:=f6.setP (p':={ r with back:=true }) hj' hpv (j:=11) (x:=.bool true) rfl rfl (by decide) (fun _=>rfl) rfl
  have ix7:fI 12 (.sl b5 vb5 12 0 (done++s.posted.drop i).length) (.int .i64 (j:Int))=.ok (.ptr b5 vb5 j 0):=by
   simp only [fI,fX (show j<(done++s.posted.drop i).length by simp;omega),if_true,Nat.zero_add]
  have hl7:(done++[p']++s.posted.drop (i+1)).set j { r with back:=true }=(cE done j++[p'])++s.posted.drop (i+1):=by
   simp only [cE,hj]
   rw [List.append_assoc,List.set_append_left _ _ hjl,List.append_assoc]
  rw [hl7] at f7
  simp only [↓cw,↓reduceIte,Nat.reduceLT,kk,h,j0,if_false,g6,ix7,st7]
  refine H _ _ ⟨rfl,f7,?_,by rw [List.length_set];exact hsl,fun x hx=>(List.mem_append.1 hx).elim (aL2 hfit x) fun hx=>by rw [List.mem_singleton.1 hx,←hp'];exact aL1 ht (h12 p (List.mem_of_getElem? hi))⟩
  have:(cE done j).length=done.length:=by unfold cE;split<;>simp
  simp [this,hdl]
 ·rintro ⟨ser,done⟩ vs X ⟨rfl,f,hdl,hsl,hfit⟩ aD H
  have f:FL S X q tv sv pv cv s.next us ser (done++s.posted.drop s.posted.length) .nils:=f
  rw [List.drop_length,List.append_nil] at f
  have q1:=aI f.row
  have hdl:done.length=s.posted.length:=hdl
  simp only [↓cw,↓reduceIte,Nat.reduceLT,kk,Int.lt_irrefl,if_false,q1,f.atS]
  have hr:sJ s=if (cK done).2=0 then some { s with ser:=ser,posted:=done,book:=(cK done).1 } else none:=by rw [qM,←H]
  have hfit:∀ p∈done,tX p.total:=hfit
  refine aH done (step:=bM) (fin:=fun b=>(b,0)) (fun i b vs X=>vs=[.bool false,.int .i64 (i:Int)]∧∃ bv,FL S X q tv sv pv cv s.next us ser done bv∧(bv=.imm (b.map Bal.enc)∨(bv=.nils∧b=[]))∧b.length≤25*i) (fun r=>r=cK done) ?_ ?_ (s:=[]) ⟨rfl,_,f,.inr ⟨rfl,rfl⟩,Nat.zero_le _⟩ rfl
  ·rintro i p b vs X hi ⟨rfl,bv,f,hbv,hbl⟩ aD H
   have hil:=(List.getElem?_eq_some_iff.1 hi).1
   have hfp:=hfit p (List.mem_of_getElem? hi)
   obtain ⟨u,a,va,tl,hu,hpv,ha,hrow⟩:=f.at hi
   have ix:fI 12 pv (.int .i64 (i:Int))=.ok (.ptr a va i 0):=by
    rw [hpv];simp only [fI,fX hil,if_true,Nat.zero_add]
   have ou:=f.pl.own i u p hu hi
   have l12:=ldR ha hrow (some 12) 0 X.next
   have e12:(⟨X.next,X.heap⟩:St)=X:=rfl
   rw [e12,aA7 _ _ (show (p.encW u).length=12 from rfl)] at l12
   obtain ⟨X1,hX1⟩:∃ X1:St,X1=X.var 12 [.str [],.int .i64 0,.int .i64 0,.int .i64 0,.int .i64 0,.int .i64 0,.int .i64 0,.int .i64 0,.nils,.str [],.int .i64 0,.bool false] (p.encW u):=⟨_,rfl⟩
   have x1:Ext X X1:=by rw [hX1];exact Ext.var f.wf 12 _ _
   have f1:=f.ext x1
   have c1:X1.heap.get X.next=some (.row 0 12 [p.encW u]):=by rw [hX1];exact Tr.get_put_sameB _ _ _ trivial
   have g1:=aI c1
   have q1:=aI f1.row
   simp only [Posted.encW] at g1 hX1 l12
   simp only [St.var] at hX1
   have o1:=ou.one
   have o2:=ou.cells
   simp only [bM] at H
   have h157:=fun K':KW=>(bKd p.total hfp).frz (S:=X1) (args:=[.agg [.int .i64 p.total.net,.int .i64 p.total.tax,.int .i64 p.total.gross,u]]) (by simp only [frzVs,cF,(ou.ext x1).frz (aO (fun _=>rfl) _)]) K'
   have hfp1:=hfp.1
   have hel:=tP p.total
   have hle:=rU b (dG p.total).1
   simp only [↓cw,↓reduceIte,Nat.reduceLT,kk,bO hi,ix,l12,o1,o2,bDt,←hX1,q1,g1,h157]
   by_cases c1:(dG p.total).2=0
   rotate_left
   ·simp only [↓cw,↓reduceIte,Nat.reduceLT,kk,c1,not_false_eq_true,if_true] at H ⊢
    exact H2 _ (by rw [hr,if_neg (by rw [←H];exact c1)]) f1.fk
   have hel:=hel.resolve_right (not_not_intro c1)
   have h158:=fun K':KW=>bKs b (dG p.total).1 hbv (by omega) X1 K'
   by_cases c2:(cC b (dG p.total).1).2=0
   rotate_left
   ·simp only [↓cw,↓reduceIte,Nat.reduceLT,kk,c1,c2,h158,q1,not_true_eq_false,not_false_eq_true,if_false,if_true] at H ⊢
    exact H2 _ (by rw [hr,if_neg (by rw [←H];exact c2)]) (f1.turnQ (Nat.le_refl _) _).fk
   simp only [↓cw,↓reduceIte,Nat.reduceLT,kk,c1,c2,h158,q1,not_true_eq_false,if_false,if_true,jO (show i<1000000000 by omega)] at H ⊢
   exact H _ _ ⟨rfl,_,f1.turnQ (Nat.le_refl _) _,.inl rfl,by omega⟩
  ·rintro b vs X ⟨rfl,bv,f,hbv,hbl⟩ aD H
   have hb:cK done=(b,0):=H.symm
   rw [hb] at hr
   simp only [↓cw,↓reduceIte,Nat.reduceLT,kk,Int.lt_irrefl,if_false]
   exact H1 _ bv X hr f hbv
theorem Own.wput {S0 X:St} {n:Nat} {v:V} {es:List (List V)} (o:Own S0 X n v es) {y ver m k:Nat} {el:List (List V)} (hy:X.heap.get y=some (.row ver m el)) (hne:m≠n) (hk:X.next≤k) (bl:Blk):Own S0 ⟨k,X.heap.put y bl⟩ n v es:=
 o.same hk fun z hz=>Tr.get_put_neB _ _ _ _ trivial (fun e=>Own.wide o hy hne (e▸hz))
theorem PL.wput {S0 X:St} {us:List V} {l:List Posted} (o:PL S0 X us l) {y ver m k:Nat} {el:List (List V)} (hy:X.heap.get y=some (.row ver m el)) (hne:m≠4) (hk:X.next≤k) (bl:Blk):PL S0 ⟨k,X.heap.put y bl⟩ us l:=
 o.move fun _ _ _ _ _ q=>Own.wput q hy hne hk bl
theorem bRn {b:List UInt8} (hb:b.length<1000000000) {S:St} (w:WF S) {v:V} (he:aM S v=.ok (b.map jP)) {K:KW}
  (H:∀ a T,Ext S T→S.next≤a→a<T.next→(∃ z,T.heap.get a=some (.row 0 3 [z]))→(∀ T',Ext T T'→∃ Y:St,Y.next=T'.next∧WF Y∧(∀ y,y<S.next∨T.next≤y→Y.heap.get y=T'.heap.get y)∧∀ most (K':KW),C 145 [.ptr a 0 0 0,.int .i64 most] T' K'=K' (.int .i64 (cI b most ⟨0,0⟩).1) (St.at Y a ((cI b most ⟨0,0⟩).2.cells b)))→K (.ptr a 0 0 0) T):C 60 [v] S K:=by
 refine v60 ?_
 by_cases hne:b=[]
 ·subst hne
  have q:fQ 1 1 .nils v none S=.ok (.nils,S):=by simp only [fQ,he];rfl
  delta Tryz.f60;simp only [↓cw,↓reduceIte,Nat.reduceLT,kk,q]
  refine H _ _ (Ext.new w _) (Nat.le_refl _) (Nat.lt_succ_self _) ⟨_,Tr.get_put_sameB _ _ _ trivial⟩ fun T' x=>⟨T',rfl,x.wf ((Ext.new w _).wf w),fun _ _=>rfl,fun most K'=>?_⟩
  exact bRg (r:=⟨0,0⟩) (Nat.le_refl _) most (x.old _ _ (Tr.get_put_sameB _ _ _ trivial)) K'
 ·have h1:b.length*1≤35184372088832:=by omega
  have h2:b.length<eD:=by unfold eD;omega
  obtain ⟨a1,a2⟩:=dA (n:=1) (es:=b.map jP) (fun c hc=>by obtain ⟨x,_,rfl⟩:=List.mem_map.1 hc;exact u81 x)
  have q:fQ 1 1 .nils v none S=.ok (.sl S.next 0 1 0 b.length,⟨S.next+1,S.heap.put S.next (.row 0 1 (b.map jP))⟩):=by
   obtain ⟨x,t,rfl⟩:=List.exists_cons_of_ne_nil hne
   simp only [List.map_cons,List.length_cons,List.length_map] at h1 h2 a1 a2 he ⊢
   simp only [fQ,he,a1,a2,and_self,if_true,h1,h2,fJ,List.length_cons,List.length_map]
  delta Tryz.f60;simp only [↓cw,↓reduceIte,Nat.reduceLT,kk,q]
  have x1:=Ext.new w (.row 0 1 (b.map jP))
  have x2:=Ext.new (x1.wf w) (.row 0 3 [[.sl S.next 0 1 0 b.length,.int .i64 0,.int .i64 0]])
  refine H _ _ (x1.trans x2) (Nat.le_succ _) (Nat.lt_succ_self _) ⟨_,Tr.get_put_sameB _ _ _ trivial⟩ fun T' x=>⟨⟨T'.next,T'.heap.cut S.next⟩,rfl,?_,fun y hy=>?_,fun most K'=>?_⟩
  ·intro y d hy
   have hy:(T'.heap.cut S.next).get y=some d:=hy
   rw [Tr.get_cut] at hy
   split at hy
   ·cases hy
   ·exact x.wf (x2.wf (x1.wf w)) y d hy
  ·show (T'.heap.cut S.next).get y=_
   rw [Tr.get_cut,if_neg]
   rcases hy with hy | hy
   ·omega
   ·have hy:S.next+1+1≤y:=hy
    omega
  ·have hc:T'.heap.get S.next=some (.row 0 1 (b.map jP)):=x.old _ _ (x2.old _ _ (Tr.get_put_sameB _ _ _ trivial))
   have hS:T'.heap.get (S.next+1)=some (.row 0 3 [[.sl S.next 0 1 0 b.length,.int .i64 (((⟨0,0⟩:Rd).pos:Nat):Int),.int .i64 (⟨0,0⟩:Rd).err]]):=x.old _ _ (Tr.get_put_sameB _ _ _ trivial)
   exact bRe (n:=0) hb (r:=⟨0,0⟩) (Nat.zero_le _) most hc hS (by omega) hne K'
structure Got (X:St) (v:V) (s:State):Prop where
 is:∃ tv sv pv bv cv us,v=.agg [tv,sv,pv,bv,cv,.int .i64 s.next]∧Own E0 X 5 tv (s.table.map Rate.enc)∧Own E0 X 4 sv (s.ser.map Ser.enc)∧Own E0 X 12 pv (List.zipWith Posted.encW us s.posted)∧PL E0 X us s.posted∧(bv=.imm (s.book.map Bal.enc)∨(bv=.nils∧s.book=[]))∧Own E0 X 5 cv (s.sess.map Sess.enc)
theorem Got.ext {X Y:St} {v:V} {s:State} (h:Got X v s) (x:Ext X Y):Got Y v s:=by
 obtain ⟨tv,sv,pv,bv,cv,us,h1,h2,h3,h4,h5,h6,h7⟩:=h.is
 exact ⟨tv,sv,pv,bv,cv,us,h1,h2.ext x,h3.ext x,h4.ext x,h5.move fun _ _ _ _ _ o=>o.ext x,h6,h7.ext x⟩
theorem Got.zero (X:St):Got X (.agg [.nils,.nils,.nils,.nils,.nils,.int .i64 0]) State.zero:=
 ⟨.nils,.nils,.nils,.nils,.nils,[],rfl,Own.nil _ _ _,Own.nil _ _ _,Own.nil _ _ _,PL.nil _ _,.inr ⟨rfl,rfl⟩,Own.nil _ _ _⟩
theorem aL4 {X:St} {us:List V}:∀ {l:List Posted},PL E0 X us l→jT (gO X 3) (List.zipWith Posted.encW us l)=.ok (l.map Posted.enc):=by
 induction us with
 | nil=>intro l h;have:=h.len;cases l with | nil=>rfl | cons p l=>simp at this
 | cons u us ih=>
  intro l h
  cases l with
  | nil=>rfl
  | cons p l=>
   have ou:=h.own 0 u p rfl rfl
   have h':PL E0 X us l:=PL.mk (by have:=h.len;simpa using this) (fun i v q h1 h2=>h.own (i+1) v q h1 h2) (fun i j v v' y h1 h2 h3 h4=>by have:=h.sep (i+1) (j+1) v v' y h1 h2 h3 h4;omega)
   have e1:gO X 3 (p.encW u)=.ok p.enc:=by
    have e0:=ou.frzN (aO (fun _=>rfl) _) 1
    show frzVs jL (jU (gO X 2) X) [_,_,_,_,_,_,_,_,_,_,_,_]=_
    simp only [frzVs,cF,e0];rfl
   simp only [List.zipWith_cons_cons,jT,e1,ih h',List.map_cons]
theorem Got.frz {X:St} {v:V} {s:State} (h:Got X v s):cF jL (jU (gO X 3) X) v=.ok (.agg [.imm (s.table.map Rate.enc),.imm (s.ser.map Ser.enc),.imm (s.posted.map Posted.enc),.imm (s.book.map Bal.enc),.imm (s.sess.map Sess.enc),.int .i64 s.next]):=by
 obtain ⟨tv,sv,pv,bv,cv,us,rfl,h2,h3,h4,h5,h6,h7⟩:=h.is
 have e4:cF jL (jU (gO X 3) X) pv=.ok (.imm (s.posted.map Posted.enc)):=by
  have he:=h4.sl.elems
  rcases h4.is with ⟨rfl,hz⟩ | ⟨a,ver,tl,rfl,_⟩
  ·have hm:=aL4 h5
   rw [hz] at hm
   have:s.posted.map Posted.enc=[]:=(Except.ok.inj hm).symm
   rw [this];rfl
  ·show jU (gO X 3) X _=_
   simp only [jU,he,aL4 h5]
 have e6:cF jL (jU (gO X 3) X) bv=.ok (.imm (s.book.map Bal.enc)):=by
  rcases h6 with rfl | ⟨rfl,hq⟩
  ·rfl
  ·rw [hq];rfl
 simp only [cF,frzVs,h2.frz (aO (fun _=>rfl) _),h3.frz (aO (fun _=>rfl) _),e4,e6,h7.frz (aO (fun _=>rfl) _)]
theorem Got.ptr {X:St} {v:V} {s:State} (h:Got X v s):nF v=[]:=by
 obtain ⟨tv,sv,pv,bv,cv,us,rfl,h2,h3,h4,h5,h6,h7⟩:=h.is
 have e6:nF bv=[]:=by rcases h6 with rfl | ⟨rfl,_⟩<;>rfl
 simp only [nF,ptrsVs,h2.ptrs,h3.ptrs,h4.ptrs,e6,h7.ptrs];rfl
section
structure Stg (S X:St) (q a:Nat) (row cs:List V):Prop where
 w:WF S
 ext:Ext S X
 lq:S.next≤q
 la:S.next≤a
 ne:a≠q
 rq:X.heap.get q=some (.row 0 6 [row])
 ra:X.heap.get a=some (.row 0 3 [cs])
section
variable {S X:St} {q a:Nat} {row cs:List V}
theorem Stg.wf (h:Stg S X q a row cs):WF X:=h.ext.wf h.w
theorem Stg.qlt (h:Stg S X q a row cs):q<X.next:=h.wf _ _ h.rq
theorem Stg.alt (h:Stg S X q a row cs):a<X.next:=h.wf _ _ h.ra
theorem Stg.put (h:Stg S X q a row cs) (row':List V):Stg S ⟨X.next,X.heap.put q (.row 0 6 [row'])⟩ q a row' cs:=
 ⟨h.w,h.ext.put h.lq h.qlt (Nat.le_refl _) h.w _,h.lq,h.la,h.ne,Tr.get_put_sameB _ _ _ trivial,(Tr.get_put_neB _ _ _ _ trivial h.ne).trans h.ra⟩
theorem Stg.at (h:Stg S X q a row cs) {cs':List V} {X':St} (e:Ext (St.at X a cs') X'):Stg S X' q a row cs':=
 ⟨h.w,(h.ext.put h.la h.alt (Nat.le_refl _) h.w _).trans e,h.lq,h.la,h.ne,e.old _ _ ((Tr.get_put_neB _ _ _ _ trivial h.ne.symm).trans h.rq),e.old _ _ (St.at_get _ _ _)⟩
theorem Stg.ownP (h:Stg S X q a row cs) {n:Nat} {v:V} {es:List (List V)} {S0:St} (o:Own S0 X n v es) (hn:6≠n) (row':List V):Own S0 ⟨X.next,X.heap.put q (.row 0 6 [row'])⟩ n v es:=Own.wput o h.rq hn (Nat.le_refl _) _
theorem Stg.ownA (h:Stg S X q a row cs) {n:Nat} {v:V} {es:List (List V)} {S0:St} (o:Own S0 X n v es) (hn:3≠n) {cs':List V} {X':St} (e:Ext (St.at X a cs') X'):Own S0 X' n v es:=(Own.wput o h.ra hn (Nat.le_refl _) _).ext e
theorem Stg.plP (h:Stg S X q a row cs) {us:List V} {l:List Posted} {S0:St} (o:PL S0 X us l) (row':List V):PL S0 ⟨X.next,X.heap.put q (.row 0 6 [row'])⟩ us l:=o.wput h.rq (by decide) (Nat.le_refl _) _
theorem Stg.plA (h:Stg S X q a row cs) {us:List V} {l:List Posted} {S0:St} (o:PL S0 X us l) {cs':List V} {X':St} (e:Ext (St.at X a cs') X'):PL S0 X' us l:=(o.wput h.ra (by decide) (Nat.le_refl _) _).move fun _ _ _ _ _ o=>o.ext e
end
theorem PL.weak {S0 X A:St} {us:List V} {l:List Posted} (h:PL S0 X us l) (hA:A.next≤S0.next):PL A X us l:=h.move fun _ _ _ _ _ o=>o.weaken hA
theorem Got.put {X:St} {v:V} {s:State} (h:Got X v s) {y ver:Nat} {el:List (List V)} (hy:X.heap.get y=some (.row ver 6 el)) (bl:Blk):Got ⟨X.next,X.heap.put y bl⟩ v s:=by
 obtain ⟨tv,sv,pv,bv,cv,us,h1,h2,h3,h4,h5,h6,h7⟩:=h.is
 exact ⟨tv,sv,pv,bv,cv,us,h1,Own.wput h2 hy (by decide) (Nat.le_refl _) _,Own.wput h3 hy (by decide) (Nat.le_refl _) _,Own.wput h4 hy (by decide) (Nat.le_refl _) _,h5.wput hy (by decide) (Nat.le_refl _) _,h6,Own.wput h7 hy (by decide) (Nat.le_refl _) _⟩
theorem aS7 (b:List UInt8) (r:Rd):(kO b 64 r).1.length≤64:=by
 unfold kO
 split
 ·rename_i h
  have:=aCd h
  split
  ·exact Nat.zero_le _
  ·rw [List.length_take];omega
 ·exact Nat.zero_le _
theorem aEk {α:Type} (f:Rd→α×Rd):∀ (n:Nat) (r:Rd),(bD f n r).1.length≤n
 | 0,r=>Nat.le_refl _
 | n+1,r=>by
  unfold bD
  split
  ·simpa using aEk f n (f r).2
  ·exact Nat.zero_le _
theorem xK {α:Type} (f:Rd→α×Rd):∀ (n:Nat) (r:Rd) (a:α),a∈(bD f n r).1→∃ r',a=(f r').1
 | 0,r,a,h=>by cases h
 | n+1,r,a,h=>by
  unfold bD at h
  split at h
  ·rcases List.mem_cons.1 h with h | h
   ·exact ⟨r,h⟩
   ·exact xK f n _ a h
  ·cases h
theorem xL {α:Type} (b:List UInt8) (f:Rd→α×Rd) (most:Nat) (r:Rd):(bN b f most r).1.length≤most:=by
 unfold bN
 have:=(mX (b:=b) (r:=r) (most:=most) (by omega) lC).2
 have:=aEk f (cI b most r).1.toNat (cI b most r).2
 omega
theorem aZs (b:List UInt8) (r:Rd):tX (dW b r).1.total:=by
 refine ⟨xL b (hZ b) 12 _,fun q hq=>?_⟩
 obtain ⟨r',rfl⟩:=xK _ _ _ _ hq
 have:(hZ b r').1.cat.length≤64:=aS7 b r'
 omega
theorem bRo {b:List UInt8} (hb:b.length<1000000000) {r:Rd} (hr:r.pos≤b.length) {X:St} {a:Nat} (hX:X.heap.get a=some (.row 0 3 [r.cells b])) (K:KW):C 69 [.ptr a 0 0 0] X K=K (.int .i64 (bY b r).1) (St.at X a ((bY b r).2.cells b)):=(r69 hb hr).eq hX K
theorem bRp {b:List UInt8} {r:Rd} {X:St} {a:Nat} (hX:X.heap.get a=some (.row 0 3 [r.cells b])) (K:KW):C 70 [.ptr a 0 0 0] X K=K (.int .i64 (zR b r).err) (St.at X a ((zR b r).cells b)):=r70.eq hX K
theorem g20 {b:List UInt8} (hb:b.length<1000000000) {S:St} (w:WF S) {v:V} (he:aM S v=.ok (b.map jP)) {K:KW}
  (H:∀ X u,Ext S X→Got X u (fT b).1→K (.tup [u,.int .i64 (fT b).2]) X):C 20 [v] S K:=by
 refine v20 ?_
 obtain ⟨S1,hS1⟩:∃ S1:St,S1=⟨S.next+1,S.heap.put S.next (.row 0 6 [[.nils,.nils,.nils,.nils,.nils,.int .i64 0]])⟩:=⟨_,rfl⟩
 have x1:Ext S S1:=by rw [hS1];exact Ext.new w _
 delta Tryz.f20;simp only [↓cw,↓reduceIte,Nat.reduceLT,kk,←hS1]
 refine bRn hb (x1.wf w) (x1.elems he) fun a T xT ha haT hz h145=>?_
 obtain ⟨T',hT'⟩:∃ T':St,T'=⟨T.next+1,T.heap.put T.next (.row 0 6 [[.nils,.nils,.nils,.nils,.nils,.int .i64 0]])⟩:=⟨_,rfl⟩
 have xT':Ext T T':=by rw [hT'];exact Ext.new (xT.wf (x1.wf w)) _
 simp only [←hT']
 obtain ⟨Y,hYn,wY,hY,h145⟩:=h145 T' xT'
 obtain ⟨q,hq⟩:∃ q,q=T.next:=⟨_,rfl⟩
 have n1:S1.next=S.next+1:=by rw [hS1]
 have nT:T'.next=T.next+1:=by rw [hT']
 have nx:=xT.next
 have w1:=x1.wf w
 have xS:Ext S1 T':=xT.trans xT'
 have xY:Ext S1 Y:=⟨fun y c hy=>by have:=w1 y c hy;rw [hY y (.inl (by omega))];exact xS.old y c hy,by omega,fun _=>wY⟩
 have qY:Y.heap.get q=some (.row 0 6 [[.nils,.nils,.nils,.nils,.nils,.int .i64 0]]):=by rw [hq,hY T.next (.inr (Nat.le_refl _)),hT'];exact Tr.get_put_sameB _ _ _ trivial
 rw [←hq]
 have gI:fT b=(if (uF b ⟨0,0⟩).2.err=0 then (if (uF b ⟨0,0⟩).2.pos<b.length then (State.zero,(5:Int)) else match sJ (uF b ⟨0,0⟩).1 with
  | none=>(State.zero,4)
  | some s=>if aV s=true then (s,0) else (State.zero,4)) else (State.zero,(uF b ⟨0,0⟩).2.err)):=aS6 b
 unfold uF at gI
 refine bRf hb (S:=Y) (by omega) (Nat.zero_le _:(⟨0,0⟩:Rd).pos≤b.length) wY (h145 24) fun tv X1 e1 o1 p1=>?_
 generalize bN b (iL b) 24 ⟨0,0⟩=m1 at e1 o1 p1 gI ⊢
 obtain ⟨tab,r1⟩:=m1
 simp only at e1 o1 p1 gI ⊢
 have s1:Stg S1 X1 q a [.nils,.nils,.nils,.nils,.nils,.int .i64 0] (r1.cells b):=by
  have hya:q≠a:=by omega
  exact ⟨w1,(xY.put (a:=a) (m:=Y.next) (by omega) (by omega) (Nat.le_refl _) w1 _).trans e1,by omega,by omega,by omega,e1.old _ _ ((Tr.get_put_neB _ _ _ _ trivial hya).trans qY),e1.old _ _ (St.at_get _ _ _)⟩
 have t1:=o1.weaken (A:=S1) (by show S1.next≤Y.next;omega)
 have t1c:=t1.cells
 have t1o:=t1.one
 have q1:=aI s1.rq
 simp only [↓cw,↓reduceIte,Nat.reduceLT,kk,q1,t1c,t1o]
 have s1':=s1.put [tv,.nils,.nils,.nils,.nils,.int .i64 0]
 have t1':=s1.ownP t1 (by decide) [tv,.nils,.nils,.nils,.nils,.int .i64 0]
 generalize (⟨X1.next,X1.heap.put q (.row 0 6 [[tv,.nils,.nils,.nils,.nils,.int .i64 0]])⟩:St)=X1' at s1' t1' ⊢
 refine g63 hb s1'.alt p1 s1'.wf s1'.ra fun sv X2 e2 o2 p2=>?_
 have hl2:=xL b (hU b) 8 r1
 rw [show ((8:Nat):Int)=8 from rfl] at hl2
 generalize bN b (hU b) 8 r1=m2 at e2 o2 p2 gI hl2 ⊢
 obtain ⟨ser,r2⟩:=m2
 simp only at e2 o2 p2 gI hl2 ⊢
 have s2:=s1'.at e2
 have t2:=s1'.ownA t1' (by decide) e2
 have v2:=o2.weaken (A:=S1) s1'.ext.next
 have v2c:=v2.cells
 have v2o:=v2.one
 have q2:=aI s2.rq
 simp only [↓cw,↓reduceIte,Nat.reduceLT,kk,q2,v2c,v2o]
 have s2':=s2.put [tv,sv,.nils,.nils,.nils,.int .i64 0]
 have t2':=s2.ownP t2 (by decide) [tv,sv,.nils,.nils,.nils,.int .i64 0]
 have v2':=s2.ownP v2 (by decide) [tv,sv,.nils,.nils,.nils,.int .i64 0]
 generalize (⟨X2.next,X2.heap.put q (.row 0 6 [[tv,sv,.nils,.nils,.nils,.int .i64 0]])⟩:St)=X2' at s2' t2' v2' ⊢
 have hl3:=xL b (dW b) 40 r2
 have hm3:∀ p∈(bN b (dW b) 40 r2).1,tX p.total:=fun p hp=>by
  obtain ⟨r',rfl⟩:=xK _ _ _ _ hp
  exact aZs b r'
 rw [show ((40:Nat):Int)=40 from rfl] at hl3
 refine g65 hb s2'.alt p2 s2'.wf s2'.ra fun pv us X3 e3 o3 pl3 p3=>?_
 generalize bN b (dW b) 40 r2=m3 at e3 o3 pl3 p3 gI hl3 hm3 ⊢
 obtain ⟨pst,r3⟩:=m3
 simp only at e3 o3 pl3 p3 gI hl3 hm3 ⊢
 have s3:=s2'.at e3
 have t3:=s2'.ownA t2' (by decide) e3
 have v3:=s2'.ownA v2' (by decide) e3
 have u3:=o3.weaken (A:=S1) s2'.ext.next
 have sep:∀ (i:Nat) (u:V) (y:Nat),us[i]?=some u→AM.blkOf u=some y→AM.blkOf sv≠some y:=by
  intro i u y hu hy e
  have hi:i<pst.length:=by rw [←pl3.len];exact (List.getElem?_eq_some_iff.1 hu).1
  have h1:X2'.next≤y:=(cN (pl3.own i u _ hu (List.getElem?_eq_getElem hi)) hy).1
  have h2:=(cN v2' e).2
  omega
 have l3:=pl3.weak (A:=S1) s2'.ext.next
 have u3c:=u3.cells
 have u3o:=u3.one
 have q3:=aI s3.rq
 simp only [↓cw,↓reduceIte,Nat.reduceLT,kk,q3,u3c,u3o]
 have s3':=s3.put [tv,sv,pv,.nils,.nils,.int .i64 0]
 have t3':=s3.ownP t3 (by decide) [tv,sv,pv,.nils,.nils,.int .i64 0]
 have v3':=s3.ownP v3 (by decide) [tv,sv,pv,.nils,.nils,.int .i64 0]
 have u3':=s3.ownP u3 (by decide) [tv,sv,pv,.nils,.nils,.int .i64 0]
 have l3':=s3.plP l3 [tv,sv,pv,.nils,.nils,.int .i64 0]
 generalize (⟨X3.next,X3.heap.put q (.row 0 6 [[tv,sv,pv,.nils,.nils,.int .i64 0]])⟩:St)=X3' at s3' t3' v3' u3' l3' ⊢
 refine g67 hb s3'.alt p3 s3'.wf s3'.ra fun cv X4 e4 o4 p4=>?_
 generalize bN b (iM b) 8 r3=m4 at e4 o4 p4 gI ⊢
 obtain ⟨ses,r4⟩:=m4
 simp only at e4 o4 p4 gI ⊢
 have s4:=s3'.at e4
 have t4:=s3'.ownA t3' (by decide) e4
 have v4:=s3'.ownA v3' (by decide) e4
 have u4:=s3'.ownA u3' (by decide) e4
 have l4:=s3'.plA l3' e4
 have c4:=o4.weaken (A:=S1) s3'.ext.next
 have c4c:=c4.cells
 have c4o:=c4.one
 have q4:=aI s4.rq
 simp only [↓cw,↓reduceIte,Nat.reduceLT,kk,q4,c4c,c4o]
 have s4':=s4.put [tv,sv,pv,.nils,cv,.int .i64 0]
 have t4':=s4.ownP t4 (by decide) [tv,sv,pv,.nils,cv,.int .i64 0]
 have v4':=s4.ownP v4 (by decide) [tv,sv,pv,.nils,cv,.int .i64 0]
 have u4':=s4.ownP u4 (by decide) [tv,sv,pv,.nils,cv,.int .i64 0]
 have c4':=s4.ownP c4 (by decide) [tv,sv,pv,.nils,cv,.int .i64 0]
 have l4':=s4.plP l4 [tv,sv,pv,.nils,cv,.int .i64 0]
 generalize (⟨X4.next,X4.heap.put q (.row 0 6 [[tv,sv,pv,.nils,cv,.int .i64 0]])⟩:St)=X4' at s4' t4' v4' u4' c4' l4' ⊢
 have p5:=aT p4
 simp only [bRo hb p4 s4'.ra]
 generalize bY b r4=m5 at gI p5 ⊢
 obtain ⟨nx,r5⟩:=m5
 simp only at gI p5 ⊢
 have e5:=Ext.refl (St.at X4' a (r5.cells b))
 have s5:=s4'.at e5
 have t5:=s4'.ownA t4' (by decide) e5
 have v5:=s4'.ownA v4' (by decide) e5
 have u5:=s4'.ownA u4' (by decide) e5
 have c5:=s4'.ownA c4' (by decide) e5
 have l5:=s4'.plA l4' e5
 generalize St.at X4' a (r5.cells b)=X5 at s5 t5 v5 u5 c5 l5 ⊢
 have q5:=aI s5.rq
 simp only [↓cw,↓reduceIte,Nat.reduceLT,kk,q5]
 have s5':=s5.put [tv,sv,pv,.nils,cv,.int .i64 nx]
 have t5':=s5.ownP t5 (by decide) [tv,sv,pv,.nils,cv,.int .i64 nx]
 have v5':=s5.ownP v5 (by decide) [tv,sv,pv,.nils,cv,.int .i64 nx]
 have u5':=s5.ownP u5 (by decide) [tv,sv,pv,.nils,cv,.int .i64 nx]
 have c5':=s5.ownP c5 (by decide) [tv,sv,pv,.nils,cv,.int .i64 nx]
 have l5':=s5.plP l5 [tv,sv,pv,.nils,cv,.int .i64 nx]
 generalize (⟨X5.next,X5.heap.put q (.row 0 6 [[tv,sv,pv,.nils,cv,.int .i64 nx]])⟩:St)=X5' at s5' t5' v5' u5' c5' l5' ⊢
 simp only [bRp s5'.ra]
 have e6:=Ext.refl (St.at X5' a ((zR b r5).cells b))
 have s6:=s5'.at e6
 have t6:=s5'.ownA t5' (by decide) e6
 have v6:=s5'.ownA v5' (by decide) e6
 have u6:=s5'.ownA u5' (by decide) e6
 have c6:=s5'.ownA c5' (by decide) e6
 have l6:=s5'.plA l5' e6
 generalize St.at X5' a ((zR b r5).cells b)=X6 at s6 t6 v6 u6 c6 l6 ⊢
 have hE:(zR b r5).err=if r5.err=0 then (if r5.pos<b.length then 5 else 0) else r5.err:=by
  unfold zR
  split
  ·split
   ·rfl
   ·assumption
  ·rfl
 rw [hE]
 have rS:X6.heap.get S.next=some (.row 0 6 [[.nils,.nils,.nils,.nils,.nils,.int .i64 0]]):=s6.ext.old _ _ (by rw [hS1];exact Tr.get_put_sameB _ _ _ trivial)
 have hSq:S.next≠q:=by omega
 have fail:∀ (X:St) (e:Int),Ext S1 X→X.heap.get S.next=some (.row 0 6 [[.nils,.nils,.nils,.nils,.nils,.int .i64 0]])→fT b=(State.zero,e)→K (.tup [.agg [.nils,.nils,.nils,.nils,.nils,.int .i64 0],.int .i64 e]) ⟨X.next,X.heap.put S.next (.row 0 6 [[.nils,.nils,.nils,.nils,.nils,.int .i64 0]])⟩:=by
  intro X e x hr hg
  have:=H ⟨X.next,X.heap.put S.next (.row 0 6 [[.nils,.nils,.nils,.nils,.nils,.int .i64 0]])⟩ _ ((x1.trans x).put (Nat.le_refl _) (by have:=x.next;omega) (Nat.le_refl _) w _) (by rw [hg];exact Got.zero _)
  rw [hg] at this
  exact this
 by_cases h5:r5.err=0
 rotate_left
 ·rw [if_neg h5] at gI ⊢
  simp only [↓cw,↓reduceIte,Nat.reduceLT,kk,h5,not_false_eq_true,if_true,aI rS,aA]
  exact fail X6 _ s6.ext rS gI
 rw [if_pos h5] at gI ⊢
 by_cases h6:r5.pos<b.length
 ·rw [if_pos h6] at gI ⊢
  simp only [↓cw,↓reduceIte,Nat.reduceLT,kk,show ¬ ((5:Int)=0) by decide,not_false_eq_true,if_true,aI rS,aA]
  exact fail X6 _ s6.ext rS gI
 rw [if_neg h6] at gI ⊢
 simp only [↓cw,↓reduceIte,Nat.reduceLT,kk,not_true_eq_false,if_false]
 have f0:FL X6 X6 q tv sv pv cv nx us ser pst .nils:=⟨s6.wf,Nat.le_refl _,s6.rq,v6.weaken (Nat.zero_le _),u6.weaken (Nat.zero_le _),l6.weak (Nat.zero_le _),sep,fun y b h _ _ _ _=>h⟩
 have z6:S.next<S1.next:=by omega
 have bV:∀ y,AM.blkOf sv=some y→S1.next≤y:=fun y hy=>(cN v6 hy).1
 have bU:∀ y,AM.blkOf pv=some y→S1.next≤y:=fun y hy=>(cN u6 hy).1
 have bL:∀ (i:Nat) (u:V) (y:Nat),us[i]?=some u→AM.blkOf u=some y→S1.next≤y:=fun i u y hu hy=>by
  have hi:i<pst.length:=by rw [←l6.len];exact (List.getElem?_eq_some_iff.1 hu).1
  exact (cN (l6.own i u _ hu (List.getElem?_eq_getElem hi)) hy).1
 have kS:∀ {X:St},FK X6 X q sv pv us→Ext S1 X∧X.heap.get S.next=some (.row 0 6 [[.nils,.nils,.nils,.nils,.nils,.int .i64 0]]):=by
  intro X k
  have kk':∀ y c,y<S1.next→X6.heap.get y=some c→X.heap.get y=some c:=fun y c hy hc=>k.keep y c hc (by omega) (fun e=>by have:=bV y e;omega) (fun e=>by have:=bU y e;omega) (fun i u hu e=>by have:=bL i u y hu e;omega)
  exact ⟨⟨fun y c hy=>kk' y c (w1 y c hy) (s6.ext.old y c hy),Nat.le_trans s6.ext.next k.nxt,fun _=>k.wf⟩,kk' _ _ z6 rS⟩
 refine g71 (s:=⟨tab,ser,pst,[],ses,nx⟩) f0 hl2 hl3 hm3 (fun s' bv X hf f hbv=>?_) fun X hf k=>?_
 rotate_left
 ·obtain ⟨xX,rX⟩:=kS k
  rw [hf] at gI
  simp only [↓cw,↓reduceIte,Nat.reduceLT,kk,aI rX,aA]
  exact fail X 4 xX rX gI
 rw [hf] at gI
 simp only at gI
 obtain ⟨xX,rX⟩:=kS f.fk
 have hs':s'.table=tab∧s'.sess=ses∧s'.next=nx:=by
  rw [qM] at hf
  split at hf
  ·cases hf
  ·split at hf
   ·cases hf;exact ⟨rfl,rfl,rfl⟩
   ·cases hf
 have o5:∀ {v:V} {es:List (List V)},Own S1 X6 5 v es→Own E0 X 5 v es:=by
  intro v es o
  refine (o.weaken (A:=E0) (Nat.zero_le _)).same f.nxt fun y hy=>?_
  obtain ⟨ver,tl,_,hg⟩:=Own.blk o hy
  rw [hg]
  exact f.keep y _ hg (fun e=>Own.wide o s6.rq (by decide) (e▸hy)) (fun e=>Own.apart (by decide) o v6 hy e) (fun e=>Own.apart (by decide) o u6 hy e) fun i u hu e=>by
   have hi:i<pst.length:=by rw [←l6.len];exact (List.getElem?_eq_some_iff.1 hu).1
   exact Own.apart (by decide) o (l6.own i u _ hu (List.getElem?_eq_getElem hi)) hy e
 have got:Got X (.agg [tv,sv,pv,bv,cv,.int .i64 nx]) s':=⟨tv,sv,pv,bv,cv,us,by rw [hs'.2.2],by rw [hs'.1];exact o5 t6,f.os,f.op,f.pl,hbv,by rw [hs'.2.1];exact o5 c6⟩
 have h24:=fun K':KW=>(Fn.back (fun S K=>g24 s' S K)).frz bFj (by simp only [cloVs,nY,aO (enc:=Rate.enc) (fun _=>rfl),aO (enc:=Ser.enc) (fun _=>rfl),aO (enc:=Posted.enc) (fun _=>rfl),aO (enc:=Bal.enc) (fun _=>rfl),aO (enc:=Sess.enc) (fun _=>rfl),Bool.and_self]) (args:=[.agg [tv,sv,pv,bv,cv,.int .i64 nx]]) (S:=X) (by simp only [frzVs,got.frz]) (by simp only [ptrsVs,got.ptr,List.append_nil]) (.inl rfl) K'
 simp only [↓cw,↓reduceIte,Nat.reduceLT,kk,aI f.row,h24]
 cases hr:aV s'
 ·simp only [hr,Bool.false_eq_true,if_false] at gI
  simp only [↓cw,↓reduceIte,Nat.reduceLT,kk,hr,aI rX,aA]
  exact fail X 4 xX rX gI
 ·simp only [hr,if_true] at gI
  simp only [↓cw,↓reduceIte,Nat.reduceLT,kk,hr,aI rX,aI f.row,aA]
  have b1:bv.one=true:=by rcases hbv with rfl | ⟨rfl,_⟩<;>rfl
  have b2:=(o5 t6).one
  have b3:=f.os.one
  have b4:=f.op.one
  have b5:=(o5 c6).one
  simp only [↓cw,↓reduceIte,Nat.reduceLT,kk,b1,b2,b3,b4,b5,aA]
  have:=H ⟨X.next,X.heap.put S.next (.row 0 6 [[tv,sv,pv,bv,cv,.int .i64 nx]])⟩ (.agg [tv,sv,pv,bv,cv,.int .i64 nx]) ((x1.trans xX).put (Nat.le_refl _) (by have:=xX.next;omega) (Nat.le_refl _) w _) (by rw [gI];exact got.put rX _)
  rw [gI] at this
  exact this
end
theorem bRq:nK 25=some (.spec (Sp.told.run prog)):=by kernel_rfl
theorem g25 (S:St) (K:KW):C 25 [] S K=K (.bool true) S:=aLy bRq rfl K
structure After (s:State):Prop where
 beh:Beh s
 rep:RepI s
theorem After.new:After State.new:=⟨Beh.new,RepI.new⟩
theorem After.play {s:State} (h:After s) (l:List Call):After (playM s l).1:=⟨h.beh.playM l,RepI.playM h.beh h.rep l⟩
theorem After.img {s:State} (h:After s):ImgOK s:=ImgOK.of (aNc h.beh.right h.beh.ints h.rep)
theorem After.smlS {s:State} (h:After s):SmlS s:=by
 obtain ⟨h1,h2,h3,h4,h5,h6,_⟩:=oS h.beh.right
 exact ⟨by omega,by omega,by omega,fun p hp=>by have:=h6 p hp;omega,by omega,by omega⟩
theorem aXe {X:St} {n:Nat} {v:V} {es:List (List V)} (o:Own E0 X n v es) {y:Nat} (hy:AM.blkOf v=some y):∃ ver el,X.heap.get y=some (.row ver n el):=by
 obtain ⟨ver,tl,_,h⟩:=Own.blk o hy
 exact ⟨ver,_,h⟩
theorem aXf {X:St} {us:List V} {y:Nat}:∀ {l:List Posted},PL E0 X us l→y∈iZ (eW X 3) (List.zipWith Posted.encW us l)→∃ ver el,X.heap.get y=some (.row ver 4 el):=by
 induction us with
 | nil=>intro l h hy;simp [iZ] at hy
 | cons u us ih=>
  intro l h hy
  cases l with
  | nil=>simp [iZ] at hy
  | cons p l=>
   have ou:=h.own 0 u p rfl rfl
   have h':PL E0 X us l:=PL.mk (by have:=h.len;simpa using this) (fun i v q h1 h2=>h.own (i+1) v q h1 h2) (fun i j v v' y h1 h2 h3 h4=>by have:=h.sep (i+1) (j+1) v v' y h1 h2 h3 h4;omega)
   simp only [List.zipWith_cons_cons,iZ,List.mem_append] at hy
   rcases hy with hy | hy
   ·have hy:y∈slsVs (iB (eW X 2) X) (p.encW u):=hy
    simp only [Posted.encW,slsVs,dX,List.nil_append,List.append_nil] at hy
    exact aXe ou (ou.blks (aO (fun _=>rfl) _) 1 hy)
   ·exact ih h' hy
theorem Got.blks {X:St} {v:V} {s:State} (h:Got X v s) {y:Nat} (hy:y∈dX (iB (eW X 3) X) v):∃ ver n el,X.heap.get y=some (.row ver n el)∧n≠6:=by
 obtain ⟨tv,sv,pv,bv,cv,us,rfl,h2,h3,h4,h5,h6,h7⟩:=h.is
 simp only [dX,slsVs,List.mem_append,List.append_nil,List.not_mem_nil,or_false] at hy
 have e6:dX (iB (eW X 3) X) bv=[]:=by rcases h6 with rfl | ⟨rfl,_⟩<;>rfl
 rw [e6] at hy
 have fin:∀ {n:Nat} {w:V} {es:List (List V)},Own E0 X n w es→n≠6→AM.blkOf w=some y→∃ ver n el,X.heap.get y=some (.row ver n el)∧n≠6:=by
  intro n w es o hn hb
  obtain ⟨ver,el,hg⟩:=aXe o hb
  exact ⟨ver,n,el,hg,hn⟩
 rcases hy with hy | hy | hy | hy | hy
 ·exact fin h2 (by decide) (h2.blks (aO (fun _=>rfl) _) 2 hy)
 ·exact fin h3 (by decide) (h3.blks (aO (fun _=>rfl) _) 2 hy)
 ·rcases h4.is with ⟨rfl,_⟩ | ⟨a,ver,tl,rfl,_,_,hg⟩
  ·cases hy
  ·have hy:y∈iB (eW X 3) X (.sl a ver 12 0 (List.zipWith Posted.encW us s.posted).length):=hy
   simp only [iB,h4.sl.elems,List.mem_cons] at hy
   rcases hy with rfl | hy
   ·exact ⟨ver,12,_,hg,by decide⟩
   ·obtain ⟨ver,el,hg⟩:=aXf h5 hy
    exact ⟨ver,4,el,hg,by decide⟩
 ·cases hy
 ·exact fin h7 (by decide) (h7.blks (aO (fun _=>rfl) _) 2 hy)
theorem State.clo (s:State):cloVs [.agg [.imm (s.table.map Rate.enc),.imm (s.ser.map Ser.enc),.imm (s.posted.map Posted.enc),.imm (s.book.map Bal.enc),.imm (s.sess.map Sess.enc),.int .i64 s.next]]=true:=by
 simp only [cloVs,nY,aO (enc:=Rate.enc) (fun _=>rfl),aO (enc:=Ser.enc) (fun _=>rfl),aO (enc:=Posted.enc) (fun _=>rfl),aO (enc:=Bal.enc) (fun _=>rfl),aO (enc:=Sess.enc) (fun _=>rfl),Bool.and_self]
theorem bLv {ρ:Nat→Option Nat} {σ:V→R V} {a b a' b':V} (h:cF ρ σ a=.ok a') (k:cF ρ σ b=.ok b'):frzVs ρ σ [a,b]=.ok [a',b']:=by simp only [frzVs,h,k]
theorem bDu {a b:V} (h:nF a=[]) (k:nF b=[]):ptrsVs [a,b]=[]:=by simp only [ptrsVs,h,k,List.append_nil]
theorem State.clo' (s:State):nY (.agg [.imm (s.table.map Rate.enc),.imm (s.ser.map Ser.enc),.imm (s.posted.map Posted.enc),.imm (s.book.map Bal.enc),.imm (s.sess.map Sess.enc),.int .i64 s.next])=true:=by
 have:=State.clo s
 simpa only [cloVs,Bool.and_true] using this
theorem aZt {b:List UInt8} {w:State} (h:fT b=(w,0)):Go.Pack.Cod.ok aBq (aAi w):=by
 unfold fT at h
 split at h
 ·rename_i e he
  have h0:e=0:=congrArg Prod.snd h
  exact absurd he (by rw [h0];exact CNE.img b)
 ·rename_i x t hx
  split at h
  ·split at h
   ·cases h
   ·rename_i s hs
    split at h
    ·cases h
     rw [aGz hs]
     exact (aBq.back _ _ _ hx).2
    ·cases h
  ·cases h
theorem bRs:nK 22=some (.val (dP [])):=by kernel_rfl
theorem bRt:nK 28=some (.val (dP [])):=by kernel_rfl
theorem g15 (l m:List Call) (b:List UInt8) (hb:b.length<1000000000) (S:St) (K:KW):C 15 [.imm (l.map Call.enc),.imm (m.map Call.enc),.imm (b.map jP)] S K=K (.bool true) S:=by
 refine (v15 (by simp only [cloVs,nY,aO (enc:=Call.enc) (fun _=>rfl),aO (enc:=jP) (fun _=>rfl),Bool.and_self]) ?_).eq S K
 have h30:=fun S K=>g30 l 40 (by decide) S K
 have k30:=fun S K=>g30 m 15 (by decide) S K
 simp only [show ((40:Nat):Int)=40 from rfl,show ((15:Nat):Int)=15 from rfl] at h30 k30
 obtain ⟨s,hs⟩:∃ s,s=(playM State.new (lW l 40)).1:=⟨_,rfl⟩
 have A:After s:=by rw [hs];exact After.new.play _
 have h35:=fun S K=>a35 l 40 (by decide) S K
 simp only [←hs] at h35
 obtain ⟨q1,q2,q3,q4,q5,q6,_⟩:=oS A.beh.right
 have sm:Sml s:=⟨by omega,by omega,by omega,by omega,by omega,fun p hp=>by have:=q6 p hp;omega⟩
 have k35:=fun S K=>g35 s (lW m 15) sm (by have:=zA m 15;omega) (aAh m 15) S K
 have hln:=aZj A.beh.right A.beh.ints A.rep
 have h28:=fun S K=>g28 s (fun _=>A.img) S K
 delta Tryz.f15;simp only [↓cw,↓reduceIte,Nat.reduceLT,kk,eG,gm,g31,h30,h35,h28,g25]
 have wS:WF ⟨1,(Tr.nil.put 0 (.row 0 6 [[V.nils,.nils,.nils,.nils,.nils,.int .i64 0]])).put 0 (.row 0 6 [s.enc])⟩:=jN (n:=1) (jN (n:=0) pF (by decide) (by decide)) (by decide) (by decide)
 refine g20 (by omega) wS rfl fun X u x0 got=>?_
 rw [aBv A.beh.right A.beh.ints A.rep] at got ⊢
 have got:Got X u s:=got
 have r0:=aI (x0.old _ _ (Tr.get_put_sameB _ _ _ trivial))
 have w0:WF X:=x0.wf wS
 obtain ⟨tv,sv,pv,bv,cv,us,hu,h2,h3,h4,h5,h6,h7⟩:=got.is
 subst hu
 have b1:bv.one=true:=by rcases h6 with rfl | ⟨rfl,_⟩<;>rfl
 have b2:=h2.one
 have b3:=h3.one
 have b4:=h4.one
 have b5:=h7.one
 obtain ⟨X1,hX1⟩:∃ X1:St,X1=X.var 6 [.nils,.nils,.nils,.nils,.nils,.int .i64 0] [tv,sv,pv,bv,cv,.int .i64 s.next]:=⟨_,rfl⟩
 have x1:Ext X X1:=by rw [hX1];exact Ext.var w0 6 _ _
 have n1:X1.next=X.next+1:=by rw [hX1];rfl
 have got1:=got.ext x1
 have hs0:=aI (x1.old _ _ (x0.old _ _ (Tr.get_put_sameB _ _ _ trivial)))
 have ht0:X1.heap.get X.next=some (.row 0 6 [[tv,sv,pv,bv,cv,.int .i64 s.next]]):=by rw [hX1];exact Tr.get_put_sameB _ _ _ trivial
 have gt0:=aI ht0
 have h22:=fun K':KW=>(Fn.back (fun S K=>g22 s s A.smlS S K)).frz bRs (by simpa only [cloVs,Bool.and_true] using (show cloVs [_,_]=true by simp only [cloVs,State.clo' s,Bool.and_self])) (args:=[.agg [.imm (s.table.map Rate.enc),.imm (s.ser.map Ser.enc),.imm (s.posted.map Posted.enc),.imm (s.book.map Bal.enc),.imm (s.sess.map Sess.enc),.int .i64 s.next],.agg [tv,sv,pv,bv,cv,.int .i64 s.next]]) (S:=X1) (bLv (mL _ (State.clo' s)) got1.frz) (bDu (uP _ (State.clo' s)) got1.ptr) (.inl rfl) K'
 simp only [St.var] at hX1
 simp only [State.enc] at hs0
 obtain ⟨p,hp⟩:∃ p,p=playM s (lW m 15):=⟨_,rfl⟩
 have B:After p.1:=by rw [hp];exact A.play _
 simp only [←hp] at k35
 have hpl:p.2.length<1000000:=by
  have h1:((lW m 15).foldl iU (s,[])).2.length=0+(lW m 15).length:=aRg (lW m 15) s []
  have h2:=zA m 15
  rw [hp]
  show ((lW m 15).foldl iU (s,[])).2.length<_
  omega
 obtain ⟨X2,hX2⟩:∃ X2:St,X2=⟨X1.next+10,(X1.heap.put (X1.next+7) (.row 0 6 [[.nils,.nils,.nils,.nils,.nils,.int .i64 0]])).put (X1.next+7) (.row 0 6 [p.1.enc])⟩:=⟨_,rfl⟩
 have w1:=x1.wf w0
 have x2:Ext X1 X2:=by
  rw [hX2]
  exact ((Ext.refl X1).put (a:=X1.next+7) (m:=X1.next+10) (by omega) (by omega) (by omega) w1 _).put (by omega) (by show X1.next+7<X1.next+10;omega) (Nat.le_refl _) w1 _
 have n2:X2.next=X1.next+10:=by rw [hX2]
 have w2:=x2.wf w1
 have gp2:X2.heap.get (X1.next+7)=some (.row 0 6 [p.1.enc]):=by rw [hX2];exact Tr.get_put_sameB _ _ _ trivial
 have gt2:=aI (x2.old _ _ ht0)
 have got2:=(got1.ext x2).ext ((Ext.refl X2).bump 10)
 obtain ⟨h',hk,h35'⟩:=(Fn.back (fun S K=>g35 s (lW m 15) sm (by have:=zA m 15;omega) (aAh m 15) S K)).cutE bM9 (by have:=State.clo' s;simp only [cloVs,this,nY,aO (enc:=Call.enc) (fun _=>rfl),Bool.and_self]) (args:=[.agg [tv,sv,pv,bv,cv,.int .i64 s.next],.imm ((lW m 15).map Call.enc)]) (S:=⟨X2.next+10,X2.heap⟩) (bLv got2.frz rfl) (bDu got2.ptr rfl)
 simp only [←hp] at h35'
 have hkw:∀ (y:Nat) (row:List V),X2.heap.get y=some (.row 0 6 [row])→h'.get y=some (.row 0 6 [row]):=by
  intro y row hy
  rw [hk y ?_]
  ·exact hy
  ·intro hm
   rw [slsVs,slsVs,slsVs,List.mem_append] at hm
   obtain ⟨ver,n,el,h1,h2⟩:=got2.blks (hm.resolve_right (fun h=>by cases h))
   have h1:X2.heap.get y=_:=h1
   rw [hy] at h1
   cases h1
   exact h2 rfl
 simp only [State.enc] at hX2 gp2
 simp only [↓cw,↓reduceIte,Nat.reduceLT,Nat.reduceAdd,kk,b1,b2,b3,b4,b5,r0,aA,←hX1,hs0,gt0,h22,(aH3 s s).2 rfl,not_true_eq_false,if_false,k30,k35,gm,hs0,uO,←hX2,gt2,h35']
 have w2':WF ⟨X2.next+10,h'⟩:=by
  intro y d hy
  have hy:h'.get y=some d:=hy
  by_cases hm:y∈slsVs (iB (eW ⟨X2.next+10,X2.heap⟩ 3) ⟨X2.next+10,X2.heap⟩) [.agg [tv,sv,pv,bv,cv,.int .i64 s.next],.imm ((lW m 15).map Call.enc)]
  ·rw [slsVs,slsVs,slsVs,List.mem_append] at hm
   obtain ⟨ver,n,el,h1,h2⟩:=got2.blks (hm.resolve_right (fun h=>by cases h))
   have:=w2 y _ h1
   show y<X2.next+10
   omega
  ·rw [hk y hm] at hy
   have:=w2 y _ hy
   show y<X2.next+10
   omega
 obtain ⟨X3,hX3⟩:∃ X3:St,X3=⟨X2.next+10,(h'.put (X2.next+7) (.row 0 6 [[.nils,.nils,.nils,.nils,.nils,.int .i64 0]])).put (X2.next+7) (.row 0 6 [p.1.enc])⟩:=⟨_,rfl⟩
 have w3:WF X3:=by rw [hX3];exact jN (n:=X2.next+10) (jN (n:=X2.next+10) w2' (by omega) (Nat.le_refl _)) (by omega) (Nat.le_refl _)
 have g3:X3.heap.get (X1.next+7)=some (.row 0 6 [p.1.enc]):=by
  rw [hX3]
  show ((h'.put (X2.next+7) _).put (X2.next+7) _).get (X1.next+7)=_
  rw [Tr.get_put_neB _ _ _ _ trivial (by omega),Tr.get_put_neB _ _ _ _ trivial (by omega)]
  exact hkw _ _ gp2
 have g3:=aI g3
 simp only [State.enc] at hX3 g3
 have k22:=fun S K=>g22 p.1 p.1 B.smlS S K
 have k53:=fun S K=>g53 p.2 p.2 hpl S K
 simp only [decide_true] at k53
 simp only [↓cw,↓reduceIte,Nat.reduceLT,Nat.reduceAdd,kk,←hX3,g3,k22,(aH3 p.1 p.1).2 rfl,k53]
 refine g20 hb w3 rfl fun Z v z0 gotZ=>?_
 have wZ:=z0.wf w3
 obtain ⟨tv,sv,pv,bv,cv,us,hu,h2,h3,h4,h5,h6,h7⟩:=gotZ.is
 subst hu
 have b1:bv.one=true:=by rcases h6 with rfl | ⟨rfl,_⟩<;>rfl
 have b2:=h2.one
 have b3:=h3.one
 have b4:=h4.one
 have b5:=h7.one
 obtain ⟨Z1,hZ1⟩:∃ Z1:St,Z1=Z.var 6 [.nils,.nils,.nils,.nils,.nils,.int .i64 0] [tv,sv,pv,bv,cv,.int .i64 (fT b).1.next]:=⟨_,rfl⟩
 have z1:Ext Z Z1:=by rw [hZ1];exact Ext.var wZ 6 _ _
 have gotZ:=gotZ.ext z1
 have gZ:aC Z1 Z.next 0=.ok (6,[[tv,sv,pv,bv,cv,.int .i64 (fT b).1.next]]):=by rw [hZ1];exact aA _ _ _ _ _ _
 simp only [St.var] at hZ1
 simp only [↓cw,↓reduceIte,Nat.reduceLT,Nat.reduceAdd,kk,b1,b2,b3,b4,b5,←hZ1,gZ,g25]
 by_cases he:(fT b).2=0
 rotate_left
 ·simp only [↓cw,↓reduceIte,Nat.reduceLT,kk,he,not_false_eq_true,if_true]
 have hg:fT b=((fT b).1,0):=Prod.ext rfl he
 obtain ⟨h'',_,h28'⟩:=(Fn.back (fun S K=>g28 (fT b).1 (fun _=>ImgOK.of (aZt hg)) S K)).cutE bRt (State.clo _) (args:=[.agg [tv,sv,pv,bv,cv,.int .i64 (fT b).1.next]]) (S:=Z1) (by simp only [frzVs,gotZ.frz]) (by simp only [ptrsVs,gotZ.ptr,List.append_nil])
 have h27:=fun S K=>g27 b b hb S K
 simp only [decide_true] at h27
 simp only [↓cw,↓reduceIte,Nat.reduceLT,kk,he,not_true_eq_false,if_false,h28',get_put hg,h27,g25]
end Go.Proofs.YtoaibmbldmckaaaGreat
end
section
namespace Go.AM
open Go.RowKit
theorem aS8 {P:Program} {H:Type} {enc:TypeId×Value→H} {W:World} {sp:Nat→Bool} {held:Bool} {t e:TypeId} {v:Value} {dd:DataW H} {ps:List MemPlace} (ht:P.underlying t=some (.slice e)) (hd:DataW.Trod enc P W 0 sp held t v dd ps) {G:Gh} {es:List (List V)} (hx:VR G (.imm es) v):
  (dd=.nil∧es=[])∨∃ elems spare,dd=.slice elems spare∧elems.length=es.length:=by
 obtain ⟨fuel,hf⟩:=hd
 rcases DataW.trod_slice ht hf with ⟨h1,h2⟩ | ⟨a,len,cap,elems,rest,m,_,h1,h2,_,_,_,hel,_⟩
 ·left
  cases h2
  refine ⟨rfl,?_⟩
  cases hx with
  | imm0=>rfl
  | imm _ p n c ee hn _ _ _ _ _=>
   simp [Value.cells] at h1
 ·right
  cases h2
  refine ⟨_,_,rfl,?_⟩
  rw [List.length_map]
  cases hx with
  | imm0=>simp [Value.cells] at h1
  | imm _ p n c ee hn _ _ _ _ _=>
   simp [Value.cells] at h1
   omega
end Go.AM
namespace Go.Proofs.YtoaibmbldmckaaaGreat
open Go.AM Tryz
set_option linter.unusedVariables false
set_option linter.unusedSimpArgs false
set_option maxRecDepth 100000
theorem aXg {n:Nat} {xs:List V} (h:aL prog n 22 xs):∃ l:List UInt8,xs=[.imm (l.map jP)]:=by
 obtain ⟨m,es,h,hes⟩:=aDs Tryz.underlying22 h
 obtain ⟨l,hl⟩:=zJ (enc:=jP) fun c hc=>by
  have:=(hes c hc).2
  cases m with
  | zero=>cases this
  | succ m=>
   simp only [aL,Tryz.underlying5] at this
   obtain ⟨i,h1,h2⟩:=this
   simp only [Lit.wf,Bool.and_eq_true,decide_eq_true_eq] at h2
   have h3:(0:Int)≤i∧i≤255:=h2
   have h4:((UInt8.ofNat i.toNat).toNat:Int)=i:=by
    rw [UInt8.toNat_ofNat']
    omega
   exact ⟨UInt8.ofNat i.toNat,by rw [h1,jP,h4]⟩
 exact ⟨l,by rw [h,hl]⟩
end Go.Proofs.YtoaibmbldmckaaaGreat
end
