/- PortWorksSaid: part 7 of 8 of the proof that it returns true for every input and leaves its arguments as they were; no condition. -/
import Derived.Test.YtphmndfjmoacfaaGreatJPortWorksSaid5
import Derived.Test.YtphmndfjmoacfaaGreatJPortWorksSaid3
import Derived.Test.YtphmndfjmoacfaaGreatJPortWorksSaid4
set_option maxHeartbeats 6400000
set_option maxRecDepth 20000
set_option linter.unusedSimpArgs false
set_option linter.unusedVariables false
namespace Go.Ab
open Go.Proofs
def PAddR(U:St)(B:PB)(S:PV)(flow rate room:Int)(U':St)(lg:Log):Prop:=
 (∀z∈lg,PFoot B S.Q z\/U.next<=z)/\∃blk,U.next<=blk/\PAt U' B {S with Q:={S.Q with F:=updF S.Q.F flow (some ⟨blk,rate,room,0,S.now,1⟩),nf:=S.Q.nf+1}}
theorem padd_call{U:St}{B:PB}{S:PV}(H:PAt U B S)(flow rate room:Int)(h:(0<=flow/\flow<=2147483647)/\(1<=rate/\rate<=1000000)/\(0<=room/\room<=1000000000))(hnow:0<=S.now/\S.now<=2147483647)(hF:S.Q.F flow=none)(hn:S.Q.nf<32):
  callX Tryz.prog 19 [.pointer (some ⟨B.p,0,none⟩),.int .i64 flow,.int .i64 rate,.int .i64 room] U λe U' lg=>e=.ret (.int .i64 0)/\PAddR U B S flow rate room U' lg:=by
 have gp:=H.gp
 have hp:=H.lt
 refine enter (p:=q8) Tryz.func19 rfl stat19 ?_
 simp only[go_sem,seval,opLen,undef,Tryz.f19,body32,body51]
 refine .of (pnone_call gp) ?_
 simp only[go_sem,seval,opLen,undef,gp,hp,body32,body51]
 refine callX.hid (qadd_call H.q flow rate room S.now h hnow hF hn) ?_
 intro U1 lg1 hlg1 hA
 obtain⟨h1,blk,hb,hq⟩:=hA
 refine⟨?_⟩
 simp only[go_sem,seval,opLen,undef,gp,hp,body32,body51]
 have h1':∀z∈lg1,Foot B.b S.Q z\/U.next<=z:=λz hz=>(h1 z hz).imp .inl id
 refine⟨λz hz=>(h1' z hz).imp (λh=>.inr (.inr (.inr (.inr h)))) id,blk,hb,H.queue (b':=B.b) hlg1.1 (λc hc hn=>hlg1.2 c hc λhm=>by
  rcases h1' c hm with h|h
  ·exact hn h
  ·omega) hq rfl λc hc=>?_⟩
 rcases hc with hc|⟨k,z,hz,rfl⟩
 ·exact .inl (.inl hc)
 ·by_cases hk:k=flow
  ·subst hk
   have e:updF S.Q.F k (some ⟨blk,rate,room,0,S.now,1⟩) k=some z:=hz
   rw[updF_same]at e
   cases e
   exact .inr hb
  ·have e:updF S.Q.F flow (some ⟨blk,rate,room,0,S.now,1⟩) k=some z:=hz
   rw[updF_other _ _ hk]at e
   exact .inl (.inr ⟨k,z,e,rfl⟩)
def PPutR(U:St)(B:PB)(S:PV)(x:Pk)(U':St)(lg:Log):Prop:=
 (∀z∈lg,PFoot B S.Q z\/U.next<=z)/\∃r',(r'=B.r\/U.next<=r')/\PAt U' {B with r:=r'} {S with V:={S.V with L:=S.V.L++[x]}}
theorem pput_call{U:St}{B:PB}{S:PV}(H:PAt U B S){x:Pk}(h1:0<=x.id/\x.id<=4611686018427387904)(h2:0<=x.flow/\x.flow<=2147483647)(h3:1<=x.size/\x.size<=2000)(hm:x.size<=S.most)(hs:∀y∈S.V.L,0<=y.size/\y.size<=2000)(hroom:x.size<=S.V.room - sumP S.V.L)(hr:-1000000000000<=S.V.room/\S.V.room<=1000000000000)(hn:S.V.L.length<400000):
  callX Tryz.prog 22 [.pointer (some ⟨B.p,0,none⟩),x.val] U λe U' lg=>e=.ret (.int .i64 0)/\PPutR U B S x U' lg:=by
 have gp:=H.gp
 have hp:=H.lt
 have hll:=H.l.lt
 have c1:¬S.most<x.size:=by omega
 have n1:¬U.next=B.p:=by omega
 refine enter (p:=q8) Tryz.func22 rfl stat22 ?_
 simp only[go_sem,seval,opLen,undef,Pk.val,Pk.cells,Tryz.f22,body51,body53]
 refine .of (pnone_call (p:=B.p) (by simp only[go_sem,seval,opLen,hp,gp];rfl)) ?_
 simp only[go_sem,seval,opLen,undef,gp,hp,c1,body51,body53]
 refine callX.hid (lput_call (H.l.keep (by simp only[go_sem,seval,opLen]) (by simp only[go_sem,seval,opLen,hll.1]) (by simp only[go_sem,seval,opLen,hll.2])) (x:=x) h1 h2 h3 hs hroom hr hn) ?_
 intro U1 lg1 hlg1 hA
 obtain⟨hB,r',hr',HL⟩:=hA
 simp only[go_sem,seval,opLen]at hB hr'
 refine⟨?_⟩
 simp only[go_sem,seval,opLen,undef,body51,body53]
 have nx:=hlg1.1
 simp only[go_sem,seval,opLen]at nx
 refine⟨λz hz=>?_,r',by omega,H.line (by omega) (λc hc hcl hcr=>?_) HL (by omega)⟩
 ·rcases hB z hz with h|h|h
  ·exact .inl (.inr (.inl h))
  ·exact .inl (.inr (.inr (.inl h)))
  ·exact .inr (by omega)
 ·have:=hlg1.2 c (by simp only[go_sem,seval,opLen];omega) λhm=>by
   rcases hB c hm with h|h|h
   ·exact hcl h
   ·exact hcr h
   ·omega
  rw[this,St.get_new,if_neg (by omega)]
def PPromR(U:St)(B:PB)(S:PV)(id flow size:Int)(x:FlowV)(n d:Int)(U':St)(lg:Log):Prop:=
 (∀z∈lg,PFoot B S.Q z\/U.next<=z)/\∃A',(∀c∈A',c∈B.b.A\/U.next<=c)/\
  PAt U' {B with b:={B.b with A:=A'}} {S with Q:={S.Q with F:=updF S.Q.F flow (some {x with bytes:=x.bytes+size,n:=n,d:=d}),P:=updF S.Q.P id (some (flow,size)),np:=S.Q.np+1,L:=riseL (S.Q.L.length+1) (S.Q.L++[⟨id,n,d,S.Q.t+1⟩]) S.Q.L.length,t:=S.Q.t+1}}
theorem pprom_call{U:St}{B:PB}{S:PV}(H:PAt U B S)(id flow:Int)(size now s R:Nat){x:FlowV}(hnw:S.now=(now:Nat))(hm:(size:Int)<=S.most)(hF:S.Q.F flow=some x)(hP:S.Q.P id=none)(hid:0<=id/\id<=4611686018427387904)(hfl:0<=flow/\flow<=2147483647)(hsz:1<=size/\size<=2000)(hnow:now<=2147483647)
  (hx1:x.rate=R) (hx2:x.n=fN s R) (hx3:x.d=fD s R) (hR:1<=R/\R<=1000000) (hS:s<1000000000000000000) (hb:-100000000<=x.bytes/\x.bytes<=100000000) (hr:0<=x.room/\x.room<=1000000000) (hroom:x.bytes+size<=x.room) (hnp:S.Q.np<50000) (hnew:∀y∈S.Q.L,y.id≠id) (hL:S.Q.L.length<1000) (ht:0<=S.Q.t/\S.Q.t<1000000):
  callX Tryz.prog 21 [.pointer (some ⟨B.p,0,none⟩),.agg ⟨[.int .i64 id,.int .i64 flow,.int .i64 size]⟩] U λe U' lg=>
   e=.ret (.tuple ⟨[.agg ⟨[.int .i64 (fN (max (now*R) s+size) R:Int),.int .i64 (fD (max (now*R) s+size) R:Int)]⟩,.int .i64 0]⟩)/\PPromR U B S id flow size x (fN (max (now*R) s+size) R) (fD (max (now*R) s+size) R) U' lg:=by
 have gp:=H.gp
 have hp:=H.lt
 rw[hnw]at gp
 have c1:¬S.most<(size:Int):=by omega
 have n1:¬U.next=B.p:=by omega
 have n2:¬U.next+1=B.p:=by omega
 have hqk:∀c,Foot B.b S.Q c->c<U.next:=λc hc=>H.q.in_lt hc
 refine enter (p:=q8) Tryz.func21 rfl stat21 ?_
 simp only[go_sem,seval,opLen,undef,Tryz.f21,body33,body51]
 refine .of (pnone_call (p:=B.p) (by simp only[go_sem,seval,opLen,hp,gp];rfl)) ?_
 simp only[go_sem,seval,opLen,undef,gp,hp,c1,body33,body51]
 refine callX.hid (qput_call (H.q.keep (by simp only[go_sem,seval,opLen]) λc hc=>by have:=hqk c hc;simp only[go_sem,seval,opLen,this]) id flow size now s R hF hP hid hfl hsz hnow hx1 hx2 hx3 hR hS hb hr hroom hnp hnew hL ht) ?_
 intro U1 lg1 hlg1 hA
 obtain⟨hB,A',hA',HQ⟩:=hA
 simp only[go_sem,seval,opLen]at hB hA'
 have nx:=hlg1.1
 simp only[go_sem,seval,opLen]at nx
 have gk:∀c,c<U.next+2->¬Foot B.b S.Q c->U1.get c=((U.new (.cells [.int .i64 id,.int .i64 flow,.int .i64 size] false)).new (.cells [.int .i64 0,.int .i64 0] false)).get c:=λc hc hn=>hlg1.2 c (by simp only[go_sem,seval,opLen];omega) λhm=>by
  rcases hB c hm with h|h
  ·exact hn h
  ·omega
 have g1:=gk (U.next+1) (by omega) λh=>by have:=hqk _ h;omega
 simp only[go_sem,seval,opLen]at g1
 have k1:U.next+1<U1.next:=by omega
 refine⟨?_⟩
 have q1:¬U.next+2<=B.p:=by omega
 simp only[go_sem,seval,opLen,undef,g1,k1,q1,body33,body51]
 have hfo:∀c,Foot {B.b with A:=A'} {S.Q with F:=updF S.Q.F flow (some {x with bytes:=x.bytes+size,n:=(fN (max (now*R) s+size) R:Nat),d:=(fD (max (now*R) s+size) R:Nat)}),P:=updF S.Q.P id (some (flow,(size:Int))),np:=S.Q.np+1,L:=riseL (S.Q.L.length+1) (S.Q.L++[⟨id,(fN (max (now*R) s+size) R:Nat),(fD (max (now*R) s+size) R:Nat),S.Q.t+1⟩]) S.Q.L.length,t:=S.Q.t+1} c->Foot B.b S.Q c\/U.next+2<=c:=by
  intro c hc
  rcases hc with hc|⟨k,z,hz,rfl⟩
  ·simp only[QB.core,List.mem_cons]at hc
   rcases hc with h|h|h|h|h|h
   ·exact .inl (.inl (by simp [QB.core,h]))
   ·exact .inl (.inl (by simp [QB.core,h]))
   ·exact .inl (.inl (by simp [QB.core,h]))
   ·exact .inl (.inl (by simp [QB.core,h]))
   ·exact .inl (.inl (by simp [QB.core,h]))
   ·rcases hA' c h with h|h
    ·exact .inl (.inl (by simp [QB.core,h]))
    ·exact .inr h
  ·by_cases hk:k=flow
   ·subst hk
    have e:=hz
    simp only[updF_same,Option.some.injEq]at e
    subst e
    exact .inl (.inr ⟨k,x,hF,rfl⟩)
   ·have e:=hz
    simp only[updF_other _ _ hk]at e
    exact .inl (.inr ⟨k,z,e,rfl⟩)
 refine⟨λz hz=>?_,A',λc hc=>(hA' c hc).imp _root_.id λh=>by omega,H.queue (b':={B.b with A:=A'}) (by simp only[go_sem,seval,opLen,St.next_put]<;>omega) (λc hc hn=>?_) (HQ.keep (by simp only[go_sem,seval,opLen,St.next_put]<;>omega) λc hc=>?_) rfl λc hc=>(hfo c hc).imp _root_.id λh=>by omega⟩
 ·rcases List.mem_append.1 hz with hz|hz
  ·rcases hB z hz with h|h
   ·exact .inl (.inr (.inr (.inr (.inr h))))
   ·exact .inr (by omega)
  ·simp at hz;exact .inr (by omega)
 ·rw[St.get_set,if_neg (by omega),gk c (by omega) hn,St.get_new,if_neg (by rw[St.next_new];omega),St.get_new,if_neg (by omega)]
 ·rw[St.get_set,if_neg λe=>?_]
  rcases hfo c hc with h|h
  ·have:=hqk c h;omega
  ·omega
theorem under_some{U:St}{B:PB}{S:PV}(H:PAt U B S){x:OnV}(hx:S.on=some x):DCall Tryz.prog 67 [.pointer (some ⟨B.p,0,none⟩)] U (.ret (.tuple ⟨[x.pk.val,.int .i64 x.left,.bool true]⟩)) U []:=by
 have gp:=H.gp
 have hp:=H.lt
 obtain⟨o,ho⟩:∃o,B.o=some o:=by
  have:=H.on.has
  rw[hx]at this
  exact Option.isSome_iff_exists.1 this
 obtain⟨go,hol,hop,_,_,_⟩:=H.on.get o x ho hx
 rw[ho]at gp
 simp only[onPtr]at gp
 simp only[OnV.cells]at go
 have n1:¬U.next=B.p:=by omega
 have n2:¬U.next=o:=by omega
 refine pure_call (enter (p:=q8) Tryz.func67 rfl stat67 ?_) rfl
 simp only[go_sem,seval,opLen,undef,Pk.val,Pk.cells,Tryz.f67,body51]
 refine .of (pnone_call (p:=B.p) (by simp only[go_sem,seval,opLen,hp,gp];rfl)) ?_
 simp only[go_sem,seval,opLen,undef,gp,hp,go,hol,n1,n2,body51]
theorem under_none{U:St}{B:PB}{S:PV}(H:PAt U B S)(hx:S.on=none):DCall Tryz.prog 67 [.pointer (some ⟨B.p,0,none⟩)] U (.ret (.tuple ⟨[Pk.zero.val,.int .i64 0,.bool false]⟩)) U []:=by
 have gp:=H.gp
 have hp:=H.lt
 have ho:B.o=none:=by
  have:=H.on.has
  rw[hx]at this
  cases h:B.o with
  |none=>rfl
  |some o=>rw[h]at this;cases this
 rw[ho]at gp
 simp only[onPtr]at gp
 refine pure_call (enter (p:=q8) Tryz.func67 rfl stat67 ?_) rfl
 simp only[go_sem,seval,opLen,undef,Pk.val,Pk.cells,Pk.zero,Tryz.f67,body51]
 refine .of (pnone_call (p:=B.p) (by simp only[go_sem,seval,opLen,hp,gp];rfl)) ?_
 simp only[go_sem,seval,opLen,undef,gp,hp,body51]
structure Head(Q:QV)(y:Item)(flow size:Int)(x:FlowV):Prop where
 head:Q.L[0]?=some y
 pack:Q.P y.id=some (flow,size)
 flow:Q.F flow=some x
 size:1<=size/\size<=2000
 bytes:-100000000<=x.bytes/\x.bytes<=100000000
def takeV(Q:QV)(y:Item)(flow size:Int)(x:FlowV):QV:={Q with F:=updF Q.F flow (some {x with bytes:=x.bytes - size}),P:=updF Q.P y.id none,np:=Q.np - 1,L:=outL Q.L 0}
def qOn(y:Item)(flow size:Int):OnV:=⟨⟨y.id,flow,size⟩,true,y.n,y.d,0,size⟩
def noOn(b:Bool):OnV:=⟨⟨0,0,0⟩,b,0,0,0,0⟩
theorem takeV_foot{b:QB}{Q:QV}{y:Item}{flow size:Int}{x:FlowV}(h:Head Q y flow size x){c:Nat}(hc:Foot b (takeV Q y flow size x) c):Foot b Q c:=by
 rcases hc with hc|⟨k,z,hz,rfl⟩
 ·exact .inl hc
 ·by_cases hk:k=flow
  ·subst hk
   have e:updF Q.F k (some {x with bytes:=x.bytes - size}) k=some z:=hz
   simp only[updF_same,Option.some.injEq]at e
   subst e
   exact .inr ⟨k,x,h.flow,rfl⟩
  ·have e:updF Q.F flow (some {x with bytes:=x.bytes - size}) k=some z:=hz
   simp only[updF_other _ _ hk]at e
   exact .inr ⟨k,z,e,rfl⟩
def TakenR(U:St)(B:PB)(S S':PV)(U':St)(lg:Log):Prop:=(∀z∈lg,PFoot B S.Q z\/U.next<=z)/\PAt U' B S'
theorem n1_some{U:St}{B:PB}{S:PV}(H:PAt U B S){c:Nat}(gc:U.get c=some (.cells [.pointer (some ⟨B.p,0,none⟩)] false))(hc:c<U.next){y:Item}{flow size:Int}{x:FlowV}(h:Head S.Q y flow size x):
  callX Tryz.prog 118 [.pointer (some ⟨c,0,none⟩)] U λe U' lg=>e=.ret (.tuple ⟨[.agg ⟨(qOn y flow size).cells⟩,.bool true]⟩)/\TakenR U B S {S with Q:=takeV S.Q y flow size x} U' lg:=by
 have gp:=H.gp
 have hp:=H.lt
 have n1:¬U.next=c:=by omega
 have n2:¬U.next=B.p:=by omega
 have hqk:∀c,Foot B.b S.Q c->c<U.next:=λc hc=>H.q.in_lt hc
 refine enter (p:=q8) Tryz.func118 rfl stat118 ?_
 simp only[go_sem,seval,opLen,undef,qOn,OnV.cells,Tryz.f118,gc,gp,hc,hp,n1,n2,body34]
 refine callX.hid (qtake_call (H.q.keep (by simp only[go_sem,seval,opLen]) λc hc=>by have:=hqk c hc;simp only[go_sem,seval,opLen,this]) h.head h.pack h.flow ⟨by have:=h.size;omega,h.size.2⟩ h.bytes) ?_
 intro U1 lg1 hlg1 hA
 obtain⟨hB,HQ⟩:=hA
 have nx:=hlg1.1
 simp only[go_sem,seval,opLen]at nx hB
 have gk:∀c,c<U.next+1->¬Foot B.b S.Q c->U1.get c=(U.new (.cells [.int .i64 0,.int .i64 0,.int .i64 0,.bool false,.int .i64 0,.int .i64 0,.int .i64 0,.int .i64 0] false)).get c:=λc hc hn=>hlg1.2 c (by simp only[go_sem,seval,opLen]<;>omega) λhm=>by
  rcases hB c hm with h|h
  ·exact hn h
  ·omega
 have g0:=gk U.next (by omega) λh=>by have:=hqk _ h;omega
 simp only[go_sem,seval,opLen]at g0
 have k1:U.next<U1.next:=by omega
 refine⟨?_⟩
 simp only[go_sem,seval,opLen,undef,g0,k1,body34]
 have HQ':QAt U1 B.b (takeV S.Q y flow size x):=HQ
 refine⟨λz hz=>?_,H.queue (b':=B.b) (by simp only[go_sem,seval,opLen,St.next_put]<;>omega) (λc hc hn=>?_) (HQ'.keep (by simp only[go_sem,seval,opLen,St.next_put]<;>omega) λc hc=>?_) rfl λc hc=>.inl (takeV_foot h hc)⟩
 ·simp only[List.mem_append,List.mem_cons,List.not_mem_nil,or_false]at hz
  rcases hz with((hz|hz)|hz)|hz
  ·rcases hB z hz with h|h
   ·exact .inl (.inr (.inr (.inr (.inr h))))
   ·exact .inr (by omega)
  ·exact .inr (by omega)
  ·exact .inr (by omega)
  ·exact .inr (by omega)
 ·have m1:¬U.next=c:=by omega
  have m2:c<U1.next:=by omega
  simp only[go_sem,seval,opLen,m1,m2]
  rw[gk c (by omega) hn,St.get_new,if_neg m1]
 ·have m0:=hqk c (takeV_foot h hc)
  have m1:¬U.next=c:=by omega
  have m2:c<U1.next:=by omega
  simp only[go_sem,seval,opLen,m1,m2]
theorem n1_none{U:St}{B:PB}{S:PV}(H:PAt U B S){c:Nat}(gc:U.get c=some (.cells [.pointer (some ⟨B.p,0,none⟩)] false))(hc:c<U.next)(h:S.Q.L=[]):
  DCall Tryz.prog 118 [.pointer (some ⟨c,0,none⟩)] U (.ret (.tuple ⟨[.agg ⟨(noOn true).cells⟩,.bool false]⟩)) U []:=by
 have gp:=H.gp
 have hp:=H.lt
 have n1:¬U.next=c:=by omega
 have n2:¬U.next=B.p:=by omega
 have hqk:∀c,Foot B.b S.Q c->c<U.next:=λc hc=>H.q.in_lt hc
 refine pure_call (enter (p:=q8) Tryz.func118 rfl stat118 ?_) rfl
 simp only[go_sem,seval,opLen,undef,noOn,OnV.cells,Tryz.f118,gc,gp,hc,hp,n1,n2,body34]
 refine callX.hid (qtake_empty (H.q.keep (by simp only[go_sem,seval,opLen]) λc hc=>by have:=hqk c hc;simp only[go_sem,seval,opLen,this]) h) ?_
 intro U1 lg1 hlg1 hB
 have nx:=hlg1.1
 simp only[go_sem,seval,opLen]at nx hB
 have g0:U1.get U.next=(U.new (.cells [.int .i64 0,.int .i64 0,.int .i64 0,.bool false,.int .i64 0,.int .i64 0,.int .i64 0,.int .i64 0] false)).get U.next:=hlg1.2 _ (by simp only[go_sem,seval,opLen]<;>omega) λhm=>by have:=hB _ hm;omega
 simp only[go_sem,seval,opLen]at g0
 have k1:U.next<U1.next:=by omega
 refine⟨?_⟩
 simp only[go_sem,seval,opLen,undef,g0,k1,body34]
 intro z hz
 rcases hz with((hz|hz)|hz)|hz
 ·have:=hB z hz;omega
 ·omega
 ·omega
 ·omega
theorem n2_some{U:St}{B:PB}{S:PV}(H:PAt U B S){c:Nat}(gc:U.get c=some (.cells [.pointer (some ⟨B.p,0,none⟩)] false))(hc:c<U.next){x:Pk}{L:List Pk}(h:S.V.L=x :: L):
  callX Tryz.prog 119 [.pointer (some ⟨c,0,none⟩)] U λe U' lg=>e=.ret (.tuple ⟨[.agg ⟨(lineOn x).cells⟩,.bool true]⟩)/\TakenR U B S {S with V:={S.V with L:=L}} U' lg:=by
 have gp:=H.gp
 have hp:=H.lt
 have hll:=H.l.lt
 have n1:¬U.next=c:=by omega
 have n2:¬U.next=B.p:=by omega
 refine enter (p:=q8) Tryz.func119 rfl stat119 ?_
 simp only[go_sem,seval,opLen,undef,lineOn,OnV.cells,Tryz.f119,gc,gp,hc,hp,n1,n2,body120]
 refine callX.hid (ltake_call (H.l.keep (by simp only[go_sem,seval,opLen]) (by simp only[go_sem,seval,opLen,hll.1]) (by simp only[go_sem,seval,opLen,hll.2])) h) ?_
 intro U1 lg1 hlg1 hA
 obtain⟨hB,HL⟩:=hA
 have nx:=hlg1.1
 simp only[go_sem,seval,opLen]at nx hB
 have gk:∀c,c<U.next+1->c≠B.l->U1.get c=(U.new (.cells [.int .i64 0,.int .i64 0,.int .i64 0,.bool false,.int .i64 0,.int .i64 0,.int .i64 0,.int .i64 0] false)).get c:=λc hc hn=>hlg1.2 c (by simp only[go_sem,seval,opLen]<;>omega) λhm=>by
  rcases hB c hm with h|h
  ·exact hn h
  ·omega
 have g0:=gk U.next (by omega) (by omega)
 simp only[go_sem,seval,opLen]at g0
 have k1:U.next<U1.next:=by omega
 refine⟨?_⟩
 simp only[go_sem,seval,opLen,undef,Pk.val,Pk.cells,g0,k1,body120]
 have fin:∀c,c<U.next->∀o o' o'',(((U1.new o).set U1.next o').set U.next o'').get c=U1.get c:=λc hc o o' o''=>by
  rw[St.get_set,if_neg (by omega),St.get_set,if_neg (by omega),St.get_new,if_neg (by omega)]
 refine⟨λz hz=>?_,H.line (r':=B.r) (by simp only[go_sem,seval,opLen,St.next_put]<;>omega) (λc hc hcl hcr=>?_) (HL.keep (by simp only[go_sem,seval,opLen,St.next_put]<;>omega) (fin _ hll.1 _ _ _) (fin _ hll.2 _ _ _)) (.inl rfl)⟩
 ·simp only[List.mem_append,List.mem_cons,List.not_mem_nil,or_false]at hz
  rcases hz with(hz|hz)|hz
  ·rcases hB z hz with h|h
   ·exact .inl (.inr (.inl h))
   ·exact .inr (by omega)
  ·exact .inr (by omega)
  ·exact .inr (by omega)
 ·rw[fin c hc,gk c (by omega) hcl,St.get_new,if_neg (by omega)]
theorem n2_none{U:St}{B:PB}{S:PV}(H:PAt U B S){c:Nat}(gc:U.get c=some (.cells [.pointer (some ⟨B.p,0,none⟩)] false))(hc:c<U.next)(h:S.V.L=[]):
  DCall Tryz.prog 119 [.pointer (some ⟨c,0,none⟩)] U (.ret (.tuple ⟨[.agg ⟨(noOn false).cells⟩,.bool false]⟩)) U []:=by
 have gp:=H.gp
 have hp:=H.lt
 have hll:=H.l.lt
 have n1:¬U.next=c:=by omega
 have n2:¬U.next=B.p:=by omega
 refine pure_call (enter (p:=q8) Tryz.func119 rfl stat119 ?_) rfl
 simp only[go_sem,seval,opLen,undef,noOn,OnV.cells,Tryz.f119,gc,gp,hc,hp,n1,n2,body120]
 refine .of (ltake_none (H.l.keep (by simp only[go_sem,seval,opLen]) (by simp only[go_sem,seval,opLen,hll.1]) (by simp only[go_sem,seval,opLen,hll.2])) h) ?_
 simp only[go_sem,seval,opLen,undef,Pk.val,Pk.cells,Pk.zero,body120]
inductive NextR(S:PV):OnV->Bool->PV->Prop
 |queue {y:Item} {flow size:Int} {x:FlowV} (h:Head S.Q y flow size x):NextR S (qOn y flow size) true {S with Q:=takeV S.Q y flow size x}
 |line {x:Pk} {L:List Pk} (h:S.Q.L=[]) (h':S.V.L=x :: L):NextR S (lineOn x) true {S with V:={S.V with L:=L}}
 |none (h:S.Q.L=[]) (h':S.V.L=[]):NextR S (noOn false) false S
def FirstR(U:St)(B:PB)(S S':PV)(o:OnV)(t:Bool)(e:AE)(U':St)(lg:Log):Prop:=e=.ret (.tuple ⟨[.agg ⟨o.cells⟩,.bool t]⟩)/\TakenR U B S S' U' lg
theorem first_queue{U:St}{B:PB}{S:PV}(H:PAt U B S){s c:Nat}(gs:U.get s=some (.cells [.func (.func 118) ⟨[]⟩ ⟨[.pointer (some ⟨c,0,none⟩)]⟩,.func (.func 119) ⟨[]⟩ ⟨[.pointer (some ⟨c,0,none⟩)]⟩] false))(hs:s<U.next)
  (gc:U.get c=some (.cells [.pointer (some ⟨B.p,0,none⟩)] false)) (hc:c<U.next) {y:Item} {flow size:Int} {x:FlowV} (h:Head S.Q y flow size x):
  callX Tryz.prog 117 [.slice (some ⟨s,0,some 0⟩) 2 2] U (FirstR U B S {S with Q:=takeV S.Q y flow size x} (qOn y flow size) true):=by
 have n1:¬U.next=s:=by omega
 have n2:¬U.next=c:=by omega
 have kf:∀c,PFoot B S.Q c->c<U.next:=λc hc=>H.in_lt hc
 refine enter (p:=q8) Tryz.func117 rfl stat117 ?_
 simp only[go_sem,seval,opLen,undef,OnV.cells,Tryz.f117,body118,body119]
 refine turn q8 117 (by kernel_rfl) ?_
 simp only[go_sem,seval,opLen,undef,gs,hs,n1,body118,body119]
 refine callX.hid (n1_some (c:=c) (H.keep (by simp only[go_sem,seval,opLen]) λc hc=>by have:=kf c hc;simp only[go_sem,seval,opLen,this]) (by simp only[go_sem,seval,opLen,hc,gc]) (by simp only[go_sem,seval,opLen]<;>omega) h) ?_
 intro U1 lg1 hlg1 hA
 obtain⟨hB,H1⟩:=hA
 have nx:=hlg1.1
 simp only[go_sem,seval,opLen]at nx hB
 have g0:=hlg1.2 U.next (by simp only[go_sem,seval,opLen]<;>omega) λhm=>by
  rcases hB _ hm with h|h
  ·have:=kf _ h;omega
  ·omega
 simp only[go_sem,seval,opLen]at g0
 have k1:U.next<U1.next:=by omega
 refine⟨?_⟩
 simp only[go_sem,seval,opLen,undef,OnV.cells,qOn,g0,k1,body118,body119]
 have hkf:∀c,PFoot B (takeV S.Q y flow size x) c->c<U.next:=λc hc=>kf c (by
  rcases hc with hc|hc|hc|hc|hc
  ·exact .inl hc
  ·exact .inr (.inl hc)
  ·exact .inr (.inr (.inl hc))
  ·exact .inr (.inr (.inr (.inl hc)))
  ·exact .inr (.inr (.inr (.inr (takeV_foot h hc)))))
 refine⟨rfl,λz hz=>?_,H1.keep (by simp only[go_sem,seval,opLen,St.next_put]<;>omega) λc hc=>?_⟩
 ·simp only[List.mem_append,List.mem_cons,List.not_mem_nil,or_false]at hz
  rcases hz with(hz|hz)|hz
  ·rcases hB z hz with h|h
   ·exact .inl h
   ·exact .inr (by omega)
  ·exact .inr (by omega)
  ·exact .inr (by omega)
 ·have m0:=hkf c hc
  have m1:¬U.next=c:=by omega
  have m2:c<U1.next:=by omega
  simp only[go_sem,seval,opLen,m1,m2]
theorem first_line{U:St}{B:PB}{S:PV}(H:PAt U B S){s c:Nat}(gs:U.get s=some (.cells [.func (.func 118) ⟨[]⟩ ⟨[.pointer (some ⟨c,0,none⟩)]⟩,.func (.func 119) ⟨[]⟩ ⟨[.pointer (some ⟨c,0,none⟩)]⟩] false))(hs:s<U.next)
  (gc:U.get c=some (.cells [.pointer (some ⟨B.p,0,none⟩)] false)) (hc:c<U.next) (h0:S.Q.L=[]) {x:Pk} {L:List Pk} (h:S.V.L=x :: L):
  callX Tryz.prog 117 [.slice (some ⟨s,0,some 0⟩) 2 2] U (FirstR U B S {S with V:={S.V with L:=L}} (lineOn x) true):=by
 have n1:¬U.next=s:=by omega
 have n2:¬U.next=c:=by omega
 have n3:¬U.next+1=s:=by omega
 have n4:¬U.next+1=c:=by omega
 have kf:∀c,PFoot B S.Q c->c<U.next:=λc hc=>H.in_lt hc
 refine enter (p:=q8) Tryz.func117 rfl stat117 ?_
 simp only[go_sem,seval,opLen,undef,OnV.cells,Tryz.f117,body118,body119]
 refine turn q8 117 (by kernel_rfl) ?_
 simp only[go_sem,seval,opLen,undef,gs,hs,n1,body118,body119]
 refine .of (n1_none (c:=c) (H.keep (by simp only[go_sem,seval,opLen]) λc hc=>by have:=kf c hc;simp only[go_sem,seval,opLen,this]) (by simp only[go_sem,seval,opLen,hc,gc]) (by simp only[go_sem,seval,opLen]<;>omega) h0) ?_
 simp only[go_sem,seval,opLen,undef,OnV.cells,noOn,body118,body119]
 refine turn q8 117 (by kernel_rfl) ?_
 simp only[go_sem,seval,opLen,undef,gs,hs,n1,n3,body118,body119]
 refine callX.hid (n2_some (c:=c) (H.keep (by simp only[go_sem,seval,opLen]) λc hc=>by have:=kf c hc;simp only[go_sem,seval,opLen,this]) (by simp only[go_sem,seval,opLen,hc,gc]) (by simp only[go_sem,seval,opLen]<;>omega) h) ?_
 intro U1 lg1 hlg1 hA
 obtain⟨hB,H1⟩:=hA
 have nx:=hlg1.1
 simp only[go_sem,seval,opLen]at nx hB
 have g0:=hlg1.2 U.next (by simp only[go_sem,seval,opLen]<;>omega) λhm=>by
  rcases hB _ hm with h|h
  ·have:=kf _ h;omega
  ·omega
 simp only[go_sem,seval,opLen]at g0
 have k1:U.next<U1.next:=by omega
 refine⟨?_⟩
 simp only[go_sem,seval,opLen,undef,OnV.cells,lineOn,g0,k1,body118,body119]
 have hkf:∀c,PFoot B S.Q c->c<U.next:=λc hc=>kf c hc
 refine⟨rfl,λz hz=>?_,H1.keep (by simp only[go_sem,seval,opLen,St.next_put]<;>omega) λc hc=>?_⟩
 ·simp only[List.mem_append,List.mem_cons,List.not_mem_nil,or_false]at hz
  rcases hz with hz|(hz|hz)|hz
  ·exact .inr (by omega)
  ·rcases hB z hz with h|h
   ·exact .inl h
   ·exact .inr (by omega)
  ·exact .inr (by omega)
  ·exact .inr (by omega)
 ·have m0:=hkf c hc
  have m1:¬U.next=c:=by omega
  have m2:c<U1.next:=by omega
  simp only[go_sem,seval,opLen,m1,m2]
theorem first_none{U:St}{B:PB}{S:PV}(H:PAt U B S){s c:Nat}(gs:U.get s=some (.cells [.func (.func 118) ⟨[]⟩ ⟨[.pointer (some ⟨c,0,none⟩)]⟩,.func (.func 119) ⟨[]⟩ ⟨[.pointer (some ⟨c,0,none⟩)]⟩] false))(hs:s<U.next)
  (gc:U.get c=some (.cells [.pointer (some ⟨B.p,0,none⟩)] false)) (hc:c<U.next) (h0:S.Q.L=[]) (h:S.V.L=[]):
  DCall Tryz.prog 117 [.slice (some ⟨s,0,some 0⟩) 2 2] U (.ret (.tuple ⟨[.agg ⟨(noOn false).cells⟩,.bool false]⟩)) U []:=by
 have n1:¬U.next=s:=by omega
 have n2:¬U.next=c:=by omega
 have n3:¬U.next+1=s:=by omega
 have n4:¬U.next+1=c:=by omega
 have kf:∀c,PFoot B S.Q c->c<U.next:=λc hc=>H.in_lt hc
 refine pure_call (enter (p:=q8) Tryz.func117 rfl stat117 ?_) rfl
 simp only[go_sem,seval,opLen,undef,OnV.cells,Tryz.f117,body118,body119]
 refine turn q8 117 (by kernel_rfl) ?_
 simp only[go_sem,seval,opLen,undef,gs,hs,n1,body118,body119]
 refine .of (n1_none (c:=c) (H.keep (by simp only[go_sem,seval,opLen]) λc hc=>by have:=kf c hc;simp only[go_sem,seval,opLen,this]) (by simp only[go_sem,seval,opLen,hc,gc]) (by simp only[go_sem,seval,opLen]<;>omega) h0) ?_
 simp only[go_sem,seval,opLen,undef,OnV.cells,noOn,body118,body119]
 refine turn q8 117 (by kernel_rfl) ?_
 simp only[go_sem,seval,opLen,undef,gs,hs,n1,n3,body118,body119]
 refine .of (n2_none (c:=c) (H.keep (by simp only[go_sem,seval,opLen]) λc hc=>by have:=kf c hc;simp only[go_sem,seval,opLen,this]) (by simp only[go_sem,seval,opLen,hc,gc]) (by simp only[go_sem,seval,opLen]<;>omega) h) ?_
 simp only[go_sem,seval,opLen,undef,OnV.cells,noOn,body118,body119]
 refine turn q8 117 (by kernel_rfl) ?_
 simp only[go_sem,seval,opLen,undef,OnV.cells,noOn,body118,body119]
theorem first_call{U:St}{B:PB}{S S':PV}{o:OnV}{t:Bool}(H:PAt U B S){s c:Nat}(gs:U.get s=some (.cells [.func (.func 118) ⟨[]⟩ ⟨[.pointer (some ⟨c,0,none⟩)]⟩,.func (.func 119) ⟨[]⟩ ⟨[.pointer (some ⟨c,0,none⟩)]⟩] false))(hs:s<U.next)
  (gc:U.get c=some (.cells [.pointer (some ⟨B.p,0,none⟩)] false)) (hc:c<U.next) (h:NextR S o t S'):callX Tryz.prog 117 [.slice (some ⟨s,0,some 0⟩) 2 2] U (FirstR U B S S' o t):=by
 cases h with
 |queue h=>exact first_queue H gs hs gc hc h
 |line h h'=>exact first_line H gs hs gc hc h h'
 |none h h'=>exact .of (first_none H gs hs gc hc h h') ⟨rfl,⟨λz hz=>absurd hz (by simp),H⟩⟩
theorem NextR.foot{S S':PV}{o:OnV}{t:Bool}(h:NextR S o t S'){B:PB}{c:Nat}(hc:PFoot B S'.Q c):PFoot B S.Q c:=by
 cases h with
 |queue h=>
  rcases hc with hc|hc|hc|hc|hc
  ·exact .inl hc
  ·exact .inr (.inl hc)
  ·exact .inr (.inr (.inl hc))
  ·exact .inr (.inr (.inr (.inl hc)))
  ·exact .inr (.inr (.inr (.inr (takeV_foot h hc))))
 |line h h'=>exact hc
 |none h h'=>exact hc
theorem next_call{U:St}{B:PB}{S S':PV}{o:OnV}{t:Bool}(H:PAt U B S)(h:NextR S o t S'):callX Tryz.prog 70 [.pointer (some ⟨B.p,0,none⟩)] U λe U' lg=>e=.ret (.tuple ⟨[.agg ⟨o.cells⟩,.bool t]⟩)/\TakenR U B S S' U' lg:=by
 have kf:∀c,PFoot B S.Q c->c<U.next:=λc hc=>H.in_lt hc
 refine enter (p:=q8) Tryz.func70 rfl stat70 ?_
 simp only[go_sem,seval,opLen,undef,zerosN,Tryz.f70,body117,body118,body119]
 refine callX.hidE (first_call (c:=U.next) (s:=U.next+2) (H.keep (by simp only[go_sem,seval,opLen]) λc hc=>by have:=kf c hc;simp only[go_sem,seval,opLen,this]) (by simp only[go_sem,seval,opLen]) (by simp only[go_sem,seval,opLen]<;>omega) (by simp only[go_sem,seval,opLen]) (by simp only[go_sem,seval,opLen]<;>omega) h) ?_
 intro e U1 lg1 hlg1 hA
 obtain⟨rfl,hB,H1⟩:=hA
 have nx:=hlg1.1
 simp only[go_sem,seval,opLen]at nx hB
 have g0:=hlg1.2 (U.next+1) (by simp only[go_sem,seval,opLen]<;>omega) λhm=>by
  rcases hB _ hm with h|h
  ·have:=kf _ h;omega
  ·omega
 simp only[go_sem,seval,opLen]at g0
 have k1:U.next+1<U1.next:=by omega
 refine⟨?_⟩
 simp only[go_sem,seval,opLen,undef,OnV.cells,g0,k1,body117,body118,body119]
 refine⟨λz hz=>?_,H1.keep (by simp only[go_sem,seval,opLen,St.next_put]<;>omega) λc hc=>?_⟩
 ·rcases List.mem_append.1 hz with hz|hz
  ·rcases hB z hz with h|h
   ·exact .inl h
   ·exact .inr (by omega)
  ·simp at hz;exact .inr (by omega)
 ·have m0:=kf c (h.foot hc)
  rw[St.get_set,if_neg (by omega)]
def Drains:List OnV->QV->Prop
 |[],Q=>Q.L=[]
 |o :: os,Q=>∃y flow size x,Head Q y flow size x/\o=qOn y flow size/\Drains os (takeV Q y flow size x)
def OnV.sent(o:OnV):List Value:=[.int .i64 o.pk.id,.int .i64 o.pk.flow,.int .i64 o.pk.size,.bool o.prom,.int .i64 o.n,.int .i64 o.d,.int .i64 o.fin]
def cellsO:List OnV->List Value
 |[]=>[]
 |x :: xs=>x.sent++cellsO xs
theorem cellsO_length:∀L:List OnV,(cellsO L).length=7*L.length
 |[]=>rfl
 |x :: xs=>by simp [cellsO,OnV.sent,cellsO_length xs];omega
theorem cellsO_append:∀(L L':List OnV),cellsO (L++L')=cellsO L++cellsO L'
 |[],_=>rfl
 |x :: xs,L'=>by simp [cellsO,cellsO_append xs L']
def SoS(lo:Nat)(U:St)(v:Value)(L:List OnV):Prop:=(v=.slice none 0 0/\L=[])\/∃a,v=.slice (some ⟨a,0,some 9⟩) L.length L.length/\U.get a=some (.cells (cellsO L) false)/\lo<=a/\a<U.next/\L≠[]
theorem SoS.keep{lo:Nat}{U U':St}{v:Value}{L:List OnV}(h:SoS lo U v L)(hn:U.next<=U'.next)(hg:∀a,lo<=a->a<U.next->U'.get a=U.get a):SoS lo U' v L:=by
 rcases h with h|⟨a,h1,h2,h3,h4,h5⟩
 ·exact .inl h
 ·exact .inr ⟨a,h1,(hg a h3 h4).trans h2,h3,by omega,h5⟩
theorem und80:(cP Tryz.prog).T.und 77=some (.slice 71):=(cx_und 77).trans Tryz.underlying77
theorem inf88:(cP Tryz.prog).T.info 71=some Tryz.t71:=(cx_info 71).trans info71
theorem so_first{U:St}{b:Nat}{x:OnV}(hg:U.get b=some (.cells x.sent false)):
  opAppend (cP Tryz.prog).T U 77 77 (.slice none 0 0) (.slice (some ⟨b,0,some 0⟩) 1 1)=some (.new (.cells x.sent false) (.slice (some ⟨U.next,0,some 9⟩) 1 1) [b]):=by
 simp only[OnV.sent]at hg ⊢
 simp only[opAppend,und80,inf88,srcLen,Tryz.t71,srcCells,hg]
 simp [isSeqD,oneCells,plain,plainL,vcells]
theorem so_more{U:St}{a b:Nat}{L:List OnV}{x:OnV}(ha:U.get a=some (.cells (cellsO L) false))(hg:U.get b=some (.cells x.sent false))(sm:L.length<=1000000):
  opAppend (cP Tryz.prog).T U 77 77 (.slice (some ⟨a,0,some 9⟩) L.length L.length) (.slice (some ⟨b,0,some 0⟩) 1 1)=
   some (.eff (.slice (some ⟨U.next,0,some 9⟩) (L.length+1) (L.length+1)) ((U.new (.cells (cellsO (L++[x])) false)).put a none) [a]):=by
 have l3:¬4294967296<=L.length:=by omega
 have tk:(cellsO L).take (L.length*7)=cellsO L:=List.take_of_length_le (by rw[cellsO_length];omega)
 have ap:cellsO (L++[x])=cellsO L++x.sent:=by rw[cellsO_append];simp [cellsO]
 rw[ap]
 simp only[OnV.sent]at hg ⊢
 simp only[opAppend,und80,inf88,srcLen,Tryz.t71,srcCells,hg,ha]
 simp [isSeqD,oneCells,plain,plainL,vcells,l3,tk,cellsO_length]
 omega
noncomputable def serveB:Code:=loopOf (Tryz.f28.body.getD .skip)
structure FS(ts:List Value)(p:Nat)(v:Value)(bytes:Int):Prop where
 size:ts.length=106
 t0:lget ts 0=.pointer (some ⟨p,0,none⟩)
 t4:lget ts 4=v
 t5:lget ts 5=.int .i64 bytes
noncomputable def serveX:Code:=blockOf (dropC 1 serveB)
noncomputable def serveT:Code:=dropC 1 serveX
theorem serveB_is:serveB=(nthC 0 serveB).seq (Code.block 2 ((nthC 0 serveX).seq serveT)):=by rfl
structure Low(B:PB)(Q:QV)(lo:Nat):Prop where
 p:B.p<lo
 l:B.l<lo
 r:B.r<lo
 f:∀c,Foot B.b Q c->c<lo
theorem PAt.turn {U U' : St} {B : PB} {S : PV} (H : PAt U B S) {lo : Nat} (hl : Low B S.Q lo) (hn : U.next ≤ U'.next) {o' : Option Nat} {on' : Option OnV}
    (hg : ∀ c, c < lo → c ≠ B.p → B.o ≠ some c → U'.get c = U.get c)
    (gp : U'.get B.p = some (.cells [.pointer (some ⟨B.b.q, 0, none⟩), .pointer (some ⟨B.l, 0, none⟩), .int .i64 S.rate, .int .i64 S.most, .int .i64 S.now, onPtr o'] false)) (hon : OnAt U' { B with o := o' } S.Q on') :
    PAt U' { B with o := o' } { S with on := on' } := by
  have no : ∀ c, PFoot B S.Q c → B.o ≠ some c ∨ (c ≠ B.l ∧ c ≠ B.r ∧ ¬ Foot B.b S.Q c) := fun c _ => by
    by_cases e : B.o = some c
    · have := H.on.has
      rw [e] at this
      cases hx : S.on with
      | none => rw [hx] at this; cases this
      | some x =>
        obtain ⟨_, _, _, h1, h2, h3⟩ := H.on.get c x e hx
        exact .inr ⟨h1, h2, h3⟩
    · exact .inl e
  have nl : B.o ≠ some B.l := fun e => by
    rcases no B.l (.inr (.inl rfl)) with h | h
    · exact h e
    · exact h.1 rfl
  have nr : B.o ≠ some B.r := fun e => by
    rcases no B.r (.inr (.inr (.inl rfl))) with h | h
    · exact h e
    · exact h.2.1 rfl
  have nf : ∀ c, Foot B.b S.Q c → B.o ≠ some c := fun c hc e => by
    rcases no c (.inr (.inr (.inr (.inr hc)))) with h | h
    · exact h e
    · exact h.2.2 hc
  exact { gp := gp
          q := H.q.keep hn fun c hc => hg c (hl.f c hc) (fun e => H.pf (e ▸ hc)) (nf c hc)
          l := H.l.keep hn (hg _ hl.l (fun e => H.pl e.symm) nl) (hg _ hl.r (fun e => H.pr e.symm) nr)
          on := hon
          lt := by have := H.lt; show B.p < _; omega
          pl := H.pl
          pr := H.pr
          pf := H.pf
          lf := H.lf
          rf := H.rf }
theorem tail_part{U:St}{B:PB}{S:PV}{lo o:Nat}{ts:List Value}{v:Value}{bytes:Int}{x:OnV}{K:RR->Prop}(H:PAt U B S)(hl:Low B S.Q lo)(F:FS ts B.p v bytes)(ho:B.o=some o)(hx:S.on=some x)(hb:0<bytes/\bytes<=1000000)(hx1:x.left<=2000)(h:bytes<x.left)
  (k:∀ts' U',FS ts' B.p v 0->PAt U' B {S with on:=some {x with left:=x.left - bytes}}->U'.next=U.next->(∀c,c≠o->U'.get c=U.get c)->K ⟨.norm,⟨ts',[]⟩,U',[o]⟩):
  wp (cP Tryz.prog) q8 (btAll 28) false serveT ⟨ts,[]⟩ U K:=by
 have e0:=F.t0
 have e4:=F.t4
 have e5:=F.t5
 have el:=F.size
 have gp:=H.gp
 have hp:=H.lt
 rw[ho]at gp
 simp only[onPtr]at gp
 obtain⟨go,hol,hop,ho2,ho3,ho4⟩:=H.on.get o x ho hx
 simp only[OnV.cells]at go
 have n1:¬B.p=o:=λe=>hop e.symm
 have c1:¬x.left<bytes:=by omega
 have w1:IntKind.i64.wrap (bytes - bytes)=0:=by rw[Int.sub_self];decide
 have w2:IntKind.i64.wrap (x.left - bytes)=x.left - bytes:=wrapI (by omega) (by omega)
 have z1:(x.left - bytes==0)=false:=by rw[beq_eq_false_iff_ne];omega
 have q1:¬U.next<=B.p:=by omega
 have q2:¬U.next<=o:=by omega
 simp only[go_sem,seval,opLen,undef,opMin,serveT,serveX,serveB,blockOf,dropC,nthC,loopOf,Tryz.f28,Option.getD,e0,e4,e5,el,gp,hp,go,hol,hop,n1,c1,w1,w2,z1,q1,q2]
 refine k _ _ ⟨by simp only[List.length_set,el],by simp only[go_sem,seval,opLen,el,e0],by simp only[go_sem,seval,opLen,el,e4],by simp only[go_sem,seval,opLen,el]⟩ ?_ rfl λc hc=>by rw[St.get_set,if_neg (Ne.symm hc)]
 have hB:({B with o:=some o}:PB)=B:=by cases B;simp only at ho;subst ho;rfl
 have T:=H.turn (U':=U.set o (.cells [.int .i64 x.pk.id,.int .i64 x.pk.flow,.int .i64 x.pk.size,.bool x.prom,.int .i64 x.n,.int .i64 x.d,.int .i64 x.fin,.int .i64 (x.left - bytes)] false)) (o':=some o) (on':=some {x with left:=x.left - bytes}) hl (Nat.le_refl _) (λc _ _ h2=>by rw[St.get_set,if_neg λe=>h2 (by rw[ho,e])]) (by rw[St.get_set,if_neg hop];exact gp) ⟨rfl,λo' x' h1 h2=>by
  cases h1
  cases h2
  exact⟨by rw[St.get_set,if_pos rfl];rfl,hol,hop,ho2,ho3,ho4⟩⟩
 rw[hB]at T
 exact T
def FullR(U:St)(B:PB)(S:PV)(o lo:Nat)(v':Value)(acc:List OnV)(x:OnV)(U':St)(lg:Log):Prop:=
 PAt U' {B with o:=none} {S with on:=none}/\SoS lo U' v' (acc++[{x with fin:=S.now,left:=0}])/\U.next<=U'.next/\(∀z∈lg,z=o\/z=B.p\/lo<=z)
theorem tail_full{U:St}{B:PB}{S:PV}{lo o:Nat}{ts:List Value}{v:Value}{acc:List OnV}{bytes:Int}{x:OnV}{K:RR->Prop}(H:PAt U B S)(hl:Low B S.Q lo)(hlo:lo<=U.next)(F:FS ts B.p v bytes)(ho:B.o=some o)(hx:S.on=some x)(hb:0<bytes/\bytes<=1000000)(hx1:1<=x.left/\x.left<=2000)(h:x.left<=bytes)
  (hv:SoS lo U v acc) (hav:∀a n m,v=.slice (some ⟨a,0,some 9⟩) n m->a≠o) (hacc:acc.length<=1000000)
  (k:∀ts' v' U' lg,FS ts' B.p v' (bytes - x.left)->FullR U B S o lo v' acc x U' lg->K ⟨.norm,⟨ts',[]⟩,U',lg⟩):
  wp (cP Tryz.prog) q8 (btAll 28) false serveT ⟨ts,[]⟩ U K:=by
 have e0:=F.t0
 have e4:=F.t4
 have e5:=F.t5
 have el:=F.size
 have gp:=H.gp
 have hp:=H.lt
 rw[ho]at gp
 simp only[onPtr]at gp
 obtain⟨go,hol,hop,ho2,ho3,ho4⟩:=H.on.get o x ho hx
 simp only[OnV.cells]at go
 have n1:¬B.p=o:=λe=>hop e.symm
 have n2:¬U.next=B.p:=by omega
 have n3:¬U.next=o:=by omega
 have n4:¬U.next+1=B.p:=by omega
 have hmin:(if x.left<bytes then x.left else bytes)=x.left:=by
  split
  ·rfl
  ·omega
 have hmin':opMin (.int .i64 bytes) (.int .i64 x.left)=some (.val (.int .i64 x.left) []):=by simp only[opMin,hmin]
 have w1:IntKind.i64.wrap (bytes - x.left)=bytes - x.left:=wrapI (by omega) (by omega)
 have w2:IntKind.i64.wrap (x.left - x.left)=0:=by rw[Int.sub_self];decide
 have q1:¬U.next<=B.p:=by omega
 have q2:¬U.next<=o:=by omega
 have nf:∀c,c<lo->Foot B.b S.Q c->c≠B.p/\c≠o:=λc _ hc=>⟨λe=>H.pf (e▸hc),λe=>ho4 (e▸hc)⟩
 have hB':∀U':St,U.next<=U'.next->(∀c,c<lo->c≠B.p->c≠o->U'.get c=U.get c)->U'.get B.p=some (.cells [.pointer (some ⟨B.b.q,0,none⟩),.pointer (some ⟨B.l,0,none⟩),.int .i64 S.rate,.int .i64 S.most,.int .i64 S.now,.pointer none] false)->PAt U' {B with o:=none} {S with on:=none}:=λU' h1 h2 h3=>
  H.turn hl h1 (λc hc hcp hco=>h2 c hc hcp λe=>hco (by rw[ho,e])) h3 ⟨rfl,λo' x' h=>by cases h⟩
 rcases hv with⟨rfl,rfl⟩|⟨a,rfl,ga,ha1,ha2,hne⟩
 ·have hap:∀U:St,∀b,U.get b=some (.cells ({x with fin:=S.now,left:=0}:OnV).sent false)->opAppend (cP Tryz.prog).T U 77 77 (.slice none 0 0) (.slice (some ⟨b,0,some 0⟩) 1 1)=some (.new (.cells ({x with fin:=S.now,left:=0}:OnV).sent false) (.slice (some ⟨U.next,0,some 9⟩) 1 1) [b]):=λU b h=>so_first h
  simp only[OnV.sent]at hap
  simp only[go_sem,seval,opLen,undef,zerosN,serveT,serveX,serveB,blockOf,dropC,nthC,loopOf,Tryz.f28,Option.getD,e0,e4,e5,el,gp,hp,go,hol,hop,n1,n2,n3,n4,hmin',w1,w2,q1,q2,hap]
  refine k _ (.slice (some ⟨U.next+1,0,some 9⟩) 1 1) _ _ ⟨by simp only[List.length_set,el],by simp only[go_sem,seval,opLen,el,e0],by simp only[go_sem,seval,opLen,el],by simp only[go_sem,seval,opLen,el]⟩ ⟨hB' _ (by simp only[go_sem,seval,opLen,St.next_put]<;>omega) (λc h1 h2 h3=>?_) (by rw[St.get_set,if_pos rfl]),.inr ⟨U.next+1,rfl,?_,by omega,by simp only[go_sem,seval,opLen,St.next_put]<;>omega,by simp⟩,by simp only[go_sem,seval,opLen,St.next_put]<;>omega,λz hz=>?_⟩
  ·have z1:¬B.p=c:=λe=>h2 e.symm
   have z2:¬o=c:=λe=>h3 e.symm
   have z3:c<U.next:=by omega
   simp only[go_sem,seval,opLen,z1,z2,z3]
  ·have z1:¬B.p=U.next+1:=by omega
   simp only[go_sem,seval,opLen,z1,cellsO,OnV.sent]
  ·simp only[List.mem_cons,List.mem_append,List.not_mem_nil,or_false]at hz;omega
 ·have hao:¬a=o:=hav a _ _ rfl
  have hap:¬a=B.p:=by have:=hl.p;omega
  have hapn:∀U:St,∀b,U.get a=some (.cells (cellsO acc) false)->U.get b=some (.cells ({x with fin:=S.now,left:=0}:OnV).sent false)->opAppend (cP Tryz.prog).T U 77 77 (.slice (some ⟨a,0,some 9⟩) acc.length acc.length) (.slice (some ⟨b,0,some 0⟩) 1 1)=
    some (.eff (.slice (some ⟨U.next,0,some 9⟩) (acc.length+1) (acc.length+1)) ((U.new (.cells (cellsO (acc++[{x with fin:=S.now,left:=0}])) false)).put a none) [a]):=λU b h1 h2=>so_more h1 h2 hacc
  simp only[OnV.sent]at hapn
  have m1:¬B.p=a:=λe=>hap e.symm
  have m2:¬o=a:=λe=>hao e.symm
  simp only[go_sem,seval,opLen,undef,zerosN,serveT,serveX,serveB,blockOf,dropC,nthC,loopOf,Tryz.f28,Option.getD,e0,e4,e5,el,gp,hp,go,hol,hop,ga,ha2,hao,hap,m1,m2,n1,n2,n3,n4,hmin',w1,w2,q1,q2,hapn]
  have hll:(acc++[({x with fin:=S.now,left:=0}:OnV)]).length=acc.length+1:=by rw[List.length_append];rfl
  refine k _ (.slice (some ⟨U.next+1,0,some 9⟩) (acc.length+1) (acc.length+1)) _ _ ⟨by simp only[List.length_set,el],by simp only[go_sem,seval,opLen,el,e0],by simp only[go_sem,seval,opLen,el],by simp only[go_sem,seval,opLen,el]⟩ ⟨hB' _ (by simp only[go_sem,seval,opLen,St.next_put]<;>omega) (λc h1 h2 h3=>?_) (by rw[St.get_set,if_pos rfl]),.inr ⟨U.next+1,by rw[hll],?_,by omega,by simp only[go_sem,seval,opLen,St.next_put]<;>omega,by simp⟩,by simp only[go_sem,seval,opLen,St.next_put]<;>omega,λz hz=>?_⟩
  ·have z1:¬B.p=c:=λe=>h2 e.symm
   have z2:¬o=c:=λe=>h3 e.symm
   have z3:c<U.next:=by omega
   have z4:¬a=c:=by omega
   simp only[go_sem,seval,opLen,z1,z2,z3,z4]
  ·have z1:¬B.p=U.next+1:=by omega
   have z4:¬a=U.next+1:=by omega
   simp only[go_sem,seval,opLen,z1,z4]
  ·simp only[List.mem_cons,List.mem_append,List.not_mem_nil,or_false]at hz;omega
attribute [irreducible] serveT
structure Sizes(on:Option OnV)(qs:List OnV)(L:List Pk):Prop where
 on:∀x,on=some x->1<=x.left/\x.left<=2000
 qs:∀x∈qs,1<=x.left/\x.left<=2000
 L:∀y∈L,1<=y.size/\y.size<=2000
structure Alike(S S':PV):Prop where
 rate:S'.rate=S.rate
 most:S'.most=S.most
 now:S'.now=S.now
 lp:S'.V.lp=S.V.lp
 lb:S'.V.lb=S.V.lb
 room:S'.V.room=S.V.room
theorem Alike.refl(S:PV):Alike S S:=⟨rfl,rfl,rfl,rfl,rfl,rfl⟩
theorem Alike.trans{S S' S'':PV}(h:Alike S S')(k:Alike S' S''):Alike S S'':=⟨k.rate.trans h.rate,k.most.trans h.most,k.now.trans h.now,k.lp.trans h.lp,k.lb.trans h.lb,k.room.trans h.room⟩
theorem serves_zero{now:Int}{on on':Option OnV}{qs qs' out:List OnV}{L L':List Pk}(h:Serves now 0 on qs L out on' qs' L'):out=[]/\on'=on/\qs'=qs/\L'=L:=by
 cases h with
 |zero=>exact⟨rfl,rfl,rfl,rfl⟩
 |empty h=>omega
 |part h=>omega
 |full h=>omega
 |nextq h=>omega
 |nextl h=>omega
inductive Took:QV->List OnV->QV->List OnV->Prop
 |refl {Q:QV} {qs:List OnV}:Took Q qs Q qs
 |more {Q Q':QV} {qs os:List OnV} {y:Item} {flow size:Int} {x:FlowV} (h:Took Q qs Q' (qOn y flow size :: os)) (hh:Head Q' y flow size x):Took Q qs (takeV Q' y flow size x) os
theorem next_of{S:PV}{qs:List OnV}(hD:Drains qs S.Q)(hS:Sizes S.on qs S.V.L):(qs=[]/\S.V.L=[]/\NextR S (noOn false) false S)\/
  ∃x S' qs',NextR S x true S'/\Drains qs' S'.Q/\S'.on=S.on/\Alike S S'/\Sizes (some x) qs' S'.V.L/\(∀Q0 q0,Took Q0 q0 S.Q qs->Took Q0 q0 S'.Q qs')/\
   ∀now b out on' q' L',0<b->Serves now b (some x) qs' S'.V.L out on' q' L'->Serves now b none qs S.V.L out on' q' L':=by
 cases qs with
 |nil=>
  have h0:S.Q.L=[]:=hD
  cases hL:S.V.L with
  |nil=>exact .inl ⟨rfl,rfl,.none h0 hL⟩
  |cons x L=>
   have hx:=hS.L x (by rw[hL];simp)
   refine .inr ⟨_,_,[],.line h0 hL,h0,rfl,⟨rfl,rfl,rfl,rfl,rfl,rfl⟩,⟨λz hz=>by cases hz;exact hx,λz hz=>(by cases hz),λz hz=>hS.L z (by rw[hL];exact List.mem_cons_of_mem _ hz)⟩,λ_ _ h=>h,λnow b out on' q' L' hb h=>.nextl hb h⟩
 |cons o os=>
  obtain⟨y,flow,size,x,hh,rfl,hd⟩:=hD
  have hx:=hS.qs _ List.mem_cons_self
  exact .inr ⟨_,_,os,.queue hh,hd,rfl,⟨rfl,rfl,rfl,rfl,rfl,rfl⟩,⟨λz hz=>by cases hz;exact hx,λz hz=>hS.qs z (List.mem_cons_of_mem _ hz),hS.L⟩,λ_ _ h=>.more h hh,λnow b out on' q' L' hb h=>.nextq hb h⟩
structure SL(B0:PB)(S0:PV)(lo:Nat)(R:Int)(qs0:List OnV)(U:St)(v:Value)(m:Nat)(o:Option Nat)(S:PV)(qs acc:List OnV):Prop where
 hm:m<=1000000
 at':PAt U {B0 with o:=o} S
 al:Alike S0 S
 low:Low {B0 with o:=o} S.Q lo
 hlo:lo<=U.next
 dr:Drains qs S.Q
 sz:Sizes S.on qs S.V.L
 so:SoS lo U v acc
 av:∀a n k,v=.slice (some ⟨a,0,some 9⟩) n k->o≠some a
 len:acc.length+m<=1000000
 ho:∀z,o=some z->B0.o=some z\/lo<=z
 sv:∀out on' qs' L',Serves S0.now m S.on qs S.V.L out on' qs' L'->Serves S0.now R S0.on qs0 S0.V.L (acc++out) on' qs' L'
 ft:∀c,Foot B0.b S.Q c->Foot B0.b S0.Q c
 tk:Took S0.Q qs0 S.Q qs
def IS(B0:PB)(S0:PV)(lo:Nat)(R:Int)(qs0:List OnV)(m:Nat)(fr:Fr)(U:St):Prop:=
 ∃ts v o S qs acc,fr=⟨ts,[]⟩/\FS ts B0.p v (m:Int)/\SL B0 S0 lo R qs0 U v m o S qs acc
def ES(B0:PB)(S0:PV)(lo:Nat)(R:Int)(qs0:List OnV)(x:AX)(fr:Fr)(U:St):Prop:=
 x=.exit 1/\∃ts v m o S qs acc,fr=⟨ts,[]⟩/\ts.length=106/\lget ts 4=v/\SL B0 S0 lo R qs0 U v m o S qs acc/\Serves S0.now R S0.on qs0 S0.V.L acc S.on qs S.V.L
theorem SL.part {B0 : PB} {S0 : PV} {lo : Nat} {R : Int} {qs0 : List OnV} {U U' : St} {v : Value} {m o : Nat} {S : PV} {qs acc : List OnV} {x : OnV} (H : SL B0 S0 lo R qs0 U v m (some o) S qs acc) (hx : S.on = some x) (hm : 0 < m) (hlt : (m : Int) < x.left)
    (h1 : PAt U' { B0 with o := some o } { S with on := some { x with left := x.left - m } }) (hn : U'.next = U.next) (hg : ∀ c, c ≠ o → U'.get c = U.get c) : SL B0 S0 lo R qs0 U' v 0 (some o) { S with on := some { x with left := x.left - m } } qs acc :=
  { hm := Nat.zero_le _
    at' := h1
    al := H.al.trans ⟨rfl, rfl, rfl, rfl, rfl, rfl⟩
    low := ⟨H.low.p, H.low.l, H.low.r, H.low.f⟩
    hlo := by have := H.hlo; omega
    dr := H.dr
    sz := ⟨fun z hz => by cases hz; have := (H.sz.on x hx).2; show 1 ≤ x.left - m ∧ x.left - m ≤ 2000; omega, H.sz.qs, H.sz.L⟩
    so := by
      rcases H.so with h | ⟨a, h2, h3, h4, h5, h6⟩
      · exact .inl h
      · exact .inr ⟨a, h2, (hg a fun e => H.av a _ _ h2 (by rw [e])).trans h3, h4, by omega, h6⟩
    av := H.av
    len := by have := H.len; omega
    ho := H.ho
    sv := fun out on' qs' L' h => by
      have h : Serves S0.now 0 (some { x with left := x.left - m }) qs S.V.L out on' qs' L' := h
      obtain ⟨rfl, rfl, rfl, rfl⟩ := serves_zero h
      refine H.sv _ _ _ _ ?_
      rw [hx]
      exact .part (by omega) hlt
    ft := H.ft
    tk := H.tk }
theorem SL.full {B0 : PB} {S0 : PV} {lo : Nat} {R : Int} {qs0 : List OnV} {U U' : St} {v v' : Value} {m o : Nat} {S : PV} {qs acc : List OnV} {x : OnV} {lg : Log} (H : SL B0 S0 lo R qs0 U v m (some o) S qs acc) (hx : S.on = some x) (hm : 0 < m) (hle : x.left ≤ (m : Int))
    (h : FullR U { B0 with o := some o } S o lo v' acc x U' lg) : SL B0 S0 lo R qs0 U' v' (m - x.left.toNat) none { S with on := none } qs (acc ++ [{ x with fin := S.now, left := 0 }]) := by
  have hl := H.sz.on x hx
  have hk : ((m - x.left.toNat : Nat) : Int) = m - x.left := by omega
  have hm1 := H.hm
  exact { hm := by omega
          at' := h.1
          al := H.al.trans ⟨rfl, rfl, rfl, rfl, rfl, rfl⟩
          low := ⟨H.low.p, H.low.l, H.low.r, H.low.f⟩
          hlo := by have := H.hlo; have := h.2.2.1; omega
          dr := H.dr
          sz := ⟨fun z hz => (by cases hz), H.sz.qs, H.sz.L⟩
          so := h.2.1
          av := fun a n k _ e => by cases e
          len := by have := H.len; simp; omega
          ho := fun z hz => by cases hz
          sv := fun out on' qs' L' k => by
            rw [hk] at k
            have k : Serves S0.now (m - x.left) none qs S.V.L out on' qs' L' := k
            rw [List.append_assoc]
            refine H.sv _ _ _ _ ?_
            rw [hx, H.al.now]
            exact .full (by omega) hle k
          ft := H.ft
          tk := H.tk }
theorem SL.next {B0 : PB} {S0 : PV} {lo : Nat} {R : Int} {qs0 : List OnV} {U U1 U2 : St} {v : Value} {m : Nat} {S S' : PV} {qs qs' acc : List OnV} {x : OnV} {lg : Log} (H : SL B0 S0 lo R qs0 U v m none S qs acc) (hx : S.on = none) (hm : 0 < m) (hN : NextR S x true S') (hD : Drains qs' S'.Q) (hon : S'.on = S.on) (hal : Alike S S') (hsz : Sizes (some x) qs' S'.V.L)
    (htk : ∀ Q0 q0, Took Q0 q0 S.Q qs → Took Q0 q0 S'.Q qs') (hsv : ∀ now b out on' q' L', 0 < b → Serves now b (some x) qs' S'.V.L out on' q' L' → Serves now b none qs S.V.L out on' q' L') (hl : Logged U U1 lg) (hT : TakenR U { B0 with o := none } S S' U1 lg)
    (hn : U2.next = U1.next + 1) (hg : ∀ c, c < U1.next → c ≠ B0.p → U2.get c = U1.get c) (g1 : U2.get U1.next = some (.cells x.cells false)) (g2 : U2.get B0.p = some (.cells [.pointer (some ⟨B0.b.q, 0, none⟩), .pointer (some ⟨B0.l, 0, none⟩), .int .i64 S'.rate, .int .i64 S'.most, .int .i64 S'.now, .pointer (some ⟨U1.next, 0, none⟩)] false)) :
    SL B0 S0 lo R qs0 U2 v m (some U1.next) { S' with on := some x } qs' acc := by
  obtain ⟨hB, H1⟩ := hT
  have hlo := H.hlo
  have hnx := hl.1
  have ft : ∀ c, Foot B0.b S'.Q c → Foot B0.b S.Q c := fun c hc => by
    have := hN.foot (B := { B0 with o := none }) (c := c) (.inr (.inr (.inr (.inr hc))))
    rcases this with h | h | h | h | h
    · exact absurd hc (h ▸ H1.pf)
    · exact absurd hc (h ▸ H1.lf)
    · exact absurd hc (h ▸ H1.rf)
    · cases h
    · exact h
  have hp : B0.p < lo := H.low.p
  have hll : B0.l < lo := H.low.l
  have hr : B0.r < lo := H.low.r
  have lw : Low { B0 with o := none } S'.Q lo := ⟨hp, hll, hr, fun c hc => H.low.f c (ft c hc)⟩
  have P2 := H1.turn (U' := U2) (o' := some U1.next) (on' := some x) lw (by omega) (fun c hc hcp _ => hg c (by omega) hcp) g2 ⟨rfl, fun o' x' h1 h2 => by
    cases h1
    cases h2
    exact ⟨g1, by omega, by show U1.next ≠ B0.p; omega, by show U1.next ≠ B0.l; omega, by show U1.next ≠ B0.r; omega, fun h => by have := lw.f _ h; omega⟩⟩
  exact { hm := H.hm
          at' := P2
          al := H.al.trans (hal.trans ⟨rfl, rfl, rfl, rfl, rfl, rfl⟩)
          low := ⟨hp, hll, hr, lw.f⟩
          hlo := by omega
          dr := hD
          sz := hsz
          so := H.so.keep (by omega) fun a h1 h2 => by
            rw [hg a (by omega) (by omega)]
            exact hl.2 a h2 fun hm => by
              rcases hB a hm with h | h
              · rcases h with h | h | h | h | h
                · have h : a = B0.p := h
                  omega
                · have h : a = B0.l := h
                  omega
                · have h : a = B0.r := h
                  omega
                · cases h
                · have := H.low.f a h; omega
              · omega
          av := fun a n k hv e => by
            have e : U1.next = a := by cases e; rfl
            rcases H.so with ⟨h, _⟩ | ⟨a', h, _, _, h4, _⟩
            · rw [h] at hv; cases hv
            · rw [h] at hv
              have : a' = a := by cases hv; rfl
              omega
          len := H.len
          ho := fun z hz => .inr (by cases hz; omega)
          sv := fun out on' q' L' k => H.sv _ _ _ _ (by rw [hx]; exact hsv _ _ _ _ _ _ (by omega) k)
          ft := fun c hc => H.ft c (ft c hc)
          tk := htk _ _ H.tk }
theorem SL.old{B0:PB}{S0:PV}{lo:Nat}{R:Int}{qs0:List OnV}{U:St}{v:Value}{m:Nat}{S:PV}{qs acc:List OnV}(H:SL B0 S0 lo R qs0 U v m none S qs acc){c:Nat}(h:PFoot {B0 with o:=none} S.Q c):c<lo:=by
 rcases h with h|h|h|h|h
 ·exact h▸H.low.p
 ·exact h▸H.low.l
 ·exact h▸H.low.r
 ·cases h
 ·exact H.low.f c h
theorem SL.keep {B0 : PB} {S0 : PV} {lo : Nat} {R : Int} {qs0 : List OnV} {U U' : St} {v : Value} {m : Nat} {o : Option Nat} {S : PV} {qs acc : List OnV} (H : SL B0 S0 lo R qs0 U v m o S qs acc) (h : PAt U' { B0 with o := o } S) (hn : U.next ≤ U'.next) (hg : ∀ a, lo ≤ a → a < U.next → U'.get a = U.get a) : SL B0 S0 lo R qs0 U' v m o S qs acc :=
  { H with
    at' := h
    hlo := by have := H.hlo; omega
    so := H.so.keep hn hg }
theorem serve_loop{B0:PB}{S0:PV}{lo:Nat}{R:Int}{qs0:List OnV}:∀m fr U,IS B0 S0 lo R qs0 m fr U->loopX Tryz.prog false serveB fr U (endL (ES B0 S0 lo R qs0) λz=>PFoot B0 S0.Q z\/lo<=z):=by
 refine loop_ind q8 28 (by kernel_rfl) _ _ _ ?_
 rintro m fr U ⟨ts,v,o,S,qs,acc,rfl,F,H⟩
 have e0:=F.t0
 have e4:=F.t4
 have e5:=F.t5
 have el:=F.size
 have gp:U.get B0.p=some (.cells [.pointer (some ⟨B0.b.q,0,none⟩),.pointer (some ⟨B0.l,0,none⟩),.int .i64 S.rate,.int .i64 S.most,.int .i64 S.now,onPtr o] false):=H.at'.gp
 have hp:B0.p<U.next:=H.at'.lt
 have hhas:o.isSome=S.on.isSome:=H.at'.on.has
 by_cases hm:m=0
 ·subst hm
  have c0:¬(0:Int)<((0:Nat):Int):=by omega
  simp only[Int.cast_ofNat_Int]at e5 c0
  simp only[go_sem,seval,opLen,undef,serveB,loopOf,Tryz.f28,Option.getD,e0,e4,e5,el,c0]
  refine⟨rfl,_,v,0,o,S,qs,acc,rfl,by simp only[List.length_set,el],by simp only[go_sem,seval,opLen,el,e4],H,?_⟩
  have:=H.sv [] S.on qs S.V.L .zero
  rw[List.append_nil]at this
  exact this
 have hm0:0<m:=by omega
 have hm1:=H.hm
 have c0:(0:Int)<(m:Int):=by omega
 have hB1:∀z,o=some z->PFoot B0 S0.Q z\/lo<=z:=λz hz=>(H.ho z hz).imp (λh=>.inr (.inr (.inr (.inl h)))) id
 cases hon:S.on with
 |some x=>
  obtain⟨o',rfl⟩:∃o',o=some o':=by
   rw[hon]at hhas
   exact Option.isSome_iff_exists.1 hhas
  simp only[onPtr]at gp
  have hsx:=H.sz.on x hon
  by_cases hlt:(m:Int)<x.left
  ·rw[serveB_is]
   simp only[go_sem,seval,opLen,undef,nthC,serveX,serveB,blockOf,dropC,loopOf,Tryz.f28,Option.getD,e0,e4,e5,el,gp,hp,c0]
   refine tail_part (v:=v) (bytes:=(m:Int)) H.at' H.low ⟨by simp only[List.length_set,el],by simp only[go_sem,seval,opLen,el,e0],by simp only[go_sem,seval,opLen,el,e4],by simp only[go_sem,seval,opLen,el,e5]⟩ rfl hon (by omega) (by omega) hlt ?_
   intro ts' U' F1 P1 hn hg
   have H':=H.part hon hm0 hlt P1 hn hg
   have hz:=hB1 o' rfl
   simp only[go_sem,seval,opLen]
   exact⟨hz,0,hm0,ts',v,some o',_,qs,acc,rfl,F1,H'⟩
  ·rw[serveB_is]
   simp only[go_sem,seval,opLen,undef,nthC,serveX,serveB,blockOf,dropC,loopOf,Tryz.f28,Option.getD,e0,e4,e5,el,gp,hp,c0]
   refine tail_full (v:=v) (bytes:=(m:Int)) H.at' H.low H.hlo ⟨by simp only[List.length_set,el],by simp only[go_sem,seval,opLen,el,e0],by simp only[go_sem,seval,opLen,el,e4],by simp only[go_sem,seval,opLen,el,e5]⟩ rfl hon (by omega) (by omega) (by omega) H.so (λa n k hv e=>H.av a n k hv (by rw[e])) (by have:=H.len;omega) ?_
   intro ts' v' U' lg F1 hfl
   have H':=H.full hon hm0 (by omega) hfl
   have hz:∀z∈lg,PFoot B0 S0.Q z\/lo<=z:=λz hz=>by
    rcases hfl.2.2.2 z hz with h|h|h
    ·exact hB1 z (by rw[h])
    ·exact .inl (.inl h)
    ·exact .inr h
   have hk:((m - x.left.toNat:Nat):Int)=m - x.left:=by omega
   rw[<-hk]at F1
   simp only[go_sem,seval,opLen]
   exact⟨hz,m - x.left.toNat,by omega,ts',v',none,_,qs,_,rfl,F1,H'⟩
 |none=>
  obtain rfl:o=none:=by
   rw[hon]at hhas
   cases o with
   |none=>rfl
   |some o=>cases hhas
  simp only[onPtr]at gp
  rcases next_of H.dr H.sz with⟨rfl,hL,hN⟩|⟨x,S',qs',hN,hD,hon',hal,hsz,htk,hsv⟩
  ·rw[serveB_is]
   simp only[go_sem,seval,opLen,undef,nthC,serveX,serveB,blockOf,dropC,loopOf,Tryz.f28,Option.getD,e0,e4,e5,el,gp,hp,c0,body70]
   refine callX.hid (next_call (B:={B0 with o:=none}) H.at' hN) ?_
   intro U1 lg1 hlg1 hA
   refine⟨?_⟩
   simp only[go_sem,seval,opLen,undef,noOn,OnV.cells,e0,e4,e5,el,body70]
   have hB:=hA.1
   have nx:=hlg1.1
   have hlo:=H.hlo
   have hz:∀z∈lg1,PFoot B0 S0.Q z\/lo<=z:=λz hz=>by
    rcases hB z hz with h|h
    ·rcases h with h|h|h|h|h
     ·exact .inl (.inl h)
     ·exact .inl (.inr (.inl h))
     ·exact .inl (.inr (.inr (.inl h)))
     ·cases h
     ·exact .inl (.inr (.inr (.inr (.inr (H.ft z h)))))
    ·exact .inr (by omega)
   refine⟨λz hz'=>hz'.elim (hz z) λe=>.inr (by omega),rfl,_,v,m,none,S,[],acc,rfl,by simp only[List.length_set,el],by simp only[go_sem,seval,opLen,el,e4],?_,?_⟩
   ·refine H.keep (hA.2.keep (by simp only[go_sem,seval,opLen,St.next_put]<;>omega) λc hc=>?_) (by simp only[go_sem,seval,opLen,St.next_put]<;>omega) λa h1 h2=>?_
    ·have:=hA.2.in_lt hc
     simp only[go_sem,seval,opLen,this]
    ·have h3:a<U1.next:=by omega
     simp only[go_sem,seval,opLen,h3]
     exact hlg1.2 a h2 λhm=>by
      rcases hB a hm with h|h
      ·have:=H.old h;omega
      ·omega
   ·have:=H.sv [] none [] [] (by rw[hon,hL];exact .empty c0)
    rw[List.append_nil]at this
    rw[hon,hL]
    exact this
  ·by_cases hlt:(m:Int)<x.left
   ·rw[serveB_is]
    simp only[go_sem,seval,opLen,undef,nthC,serveX,serveB,blockOf,dropC,loopOf,Tryz.f28,Option.getD,e0,e4,e5,el,gp,hp,c0,body70]
    refine callX.hid (next_call (B:={B0 with o:=none}) H.at' hN) ?_
    intro U1 lg1 hlg1 hA
    have gp1:U1.get B0.p=some (.cells [.pointer (some ⟨B0.b.q,0,none⟩),.pointer (some ⟨B0.l,0,none⟩),.int .i64 S'.rate,.int .i64 S'.most,.int .i64 S'.now,.pointer none] false):=hA.2.gp
    have hp1:B0.p<U1.next:=hA.2.lt
    have n1:¬U1.next=B0.p:=by omega
    have hB:=hA.1
    have hlo:=H.hlo
    have nx:=hlg1.1
    have hz1:∀z∈lg1,PFoot B0 S0.Q z\/lo<=z:=λz hz=>by
     rcases hB z hz with h|h
     ·rcases h with h|h|h|h|h
      ·exact .inl (.inl h)
      ·exact .inl (.inr (.inl h))
      ·exact .inl (.inr (.inr (.inl h)))
      ·cases h
      ·exact .inl (.inr (.inr (.inr (.inr (H.ft z h)))))
     ·exact .inr (by omega)
    have H2:=H.next (U2:=(((U1.new (.cells [.int .i64 0,.int .i64 0,.int .i64 0,.bool false,.int .i64 0,.int .i64 0,.int .i64 0,.int .i64 0] false)).set U1.next (.cells x.cells false)).set B0.p (.cells [.pointer (some ⟨B0.b.q,0,none⟩),.pointer (some ⟨B0.l,0,none⟩),.int .i64 S'.rate,.int .i64 S'.most,.int .i64 S'.now,.pointer (some ⟨U1.next,0,none⟩)] false))) hon hm0 hN hD hon' hal hsz htk hsv hlg1 hA
     (by simp only[go_sem,seval,opLen]) (λc h1 h2=>by have h2:¬B0.p=c:=λe=>h2 e.symm;simp only[go_sem,seval,opLen,h1,h2]) (by have h2:¬B0.p=U1.next:=(by omega);simp only[go_sem,seval,opLen,h2]) (by rw[St.get_set,if_pos rfl])
    have hsx:=hsz.on x rfl
    refine⟨?_⟩
    simp only[go_sem,seval,opLen,undef,OnV.cells,gp1,hp1,n1,e0,e4,e5,el,body70]
    refine tail_part (v:=v) (bytes:=(m:Int)) H2.at' H2.low ⟨by simp only[List.length_set,el],by simp only[go_sem,seval,opLen,el,e0],by simp only[go_sem,seval,opLen,el,e4],by simp only[go_sem,seval,opLen,el,e5]⟩ rfl rfl (by omega) (by omega) hlt ?_
    intro ts' U' F1 P1 hn hg
    have H':=H2.part rfl hm0 hlt P1 hn hg
    simp only[go_sem,seval,opLen]
    refine⟨λz hz=>?_,0,hm0,ts',v,some U1.next,_,qs',acc,rfl,F1,H'⟩
    rcases hz with((hz|hz)|hz)|hz
    ·exact hz1 z hz
    ·exact .inr (by omega)
    ·exact .inl (.inl hz)
    ·exact .inr (by omega)
   ·rw[serveB_is]
    simp only[go_sem,seval,opLen,undef,nthC,serveX,serveB,blockOf,dropC,loopOf,Tryz.f28,Option.getD,e0,e4,e5,el,gp,hp,c0,body70]
    refine callX.hid (next_call (B:={B0 with o:=none}) H.at' hN) ?_
    intro U1 lg1 hlg1 hA
    have gp1:U1.get B0.p=some (.cells [.pointer (some ⟨B0.b.q,0,none⟩),.pointer (some ⟨B0.l,0,none⟩),.int .i64 S'.rate,.int .i64 S'.most,.int .i64 S'.now,.pointer none] false):=hA.2.gp
    have hp1:B0.p<U1.next:=hA.2.lt
    have n1:¬U1.next=B0.p:=by omega
    have hB:=hA.1
    have hlo:=H.hlo
    have nx:=hlg1.1
    have hz1:∀z∈lg1,PFoot B0 S0.Q z\/lo<=z:=λz hz=>by
     rcases hB z hz with h|h
     ·rcases h with h|h|h|h|h
      ·exact .inl (.inl h)
      ·exact .inl (.inr (.inl h))
      ·exact .inl (.inr (.inr (.inl h)))
      ·cases h
      ·exact .inl (.inr (.inr (.inr (.inr (H.ft z h)))))
     ·exact .inr (by omega)
    have H2:=H.next (U2:=(((U1.new (.cells [.int .i64 0,.int .i64 0,.int .i64 0,.bool false,.int .i64 0,.int .i64 0,.int .i64 0,.int .i64 0] false)).set U1.next (.cells x.cells false)).set B0.p (.cells [.pointer (some ⟨B0.b.q,0,none⟩),.pointer (some ⟨B0.l,0,none⟩),.int .i64 S'.rate,.int .i64 S'.most,.int .i64 S'.now,.pointer (some ⟨U1.next,0,none⟩)] false))) hon hm0 hN hD hon' hal hsz htk hsv hlg1 hA
     (by simp only[go_sem,seval,opLen]) (λc h1 h2=>by have h2:¬B0.p=c:=λe=>h2 e.symm;simp only[go_sem,seval,opLen,h1,h2]) (by have h2:¬B0.p=U1.next:=(by omega);simp only[go_sem,seval,opLen,h2]) (by rw[St.get_set,if_pos rfl])
    have hsx:=hsz.on x rfl
    refine⟨?_⟩
    simp only[go_sem,seval,opLen,undef,OnV.cells,gp1,hp1,n1,e0,e4,e5,el,body70]
    refine tail_full (v:=v) (bytes:=(m:Int)) H2.at' H2.low H2.hlo ⟨by simp only[List.length_set,el],by simp only[go_sem,seval,opLen,el,e0],by simp only[go_sem,seval,opLen,el,e4],by simp only[go_sem,seval,opLen,el,e5]⟩ rfl rfl (by omega) (by omega) (by omega) H2.so (λa n k hv e=>H2.av a n k hv (by rw[e])) (by have:=H.len;omega) ?_
    intro ts' v' U' lg F1 hfl
    have H':=H2.full rfl hm0 (by omega) hfl
    have hk:((m - x.left.toNat:Nat):Int)=m - x.left:=by omega
    rw[<-hk]at F1
    simp only[go_sem,seval,opLen]
    refine⟨λz hz=>?_,m - x.left.toNat,by omega,ts',v',none,_,qs',_,rfl,F1,H'⟩
    rcases hz with((hz|hz)|hz)|hz
    ·exact hz1 z hz
    ·exact .inr (by omega)
    ·exact .inl (.inl hz)
    ·rcases hfl.2.2.2 z hz with h|h|h
     ·exact .inr (by omega)
     ·exact .inl (.inl h)
     ·exact .inr h
def tick(S:PV):PV:={S with now:=S.now+1}
structure Served(U:St)(B:PB)(S:PV)(qs:List OnV)(U':St)(v:Value)(o:Option Nat)(S':PV)(qs' out:List OnV):Prop where
 at':PAt U' {B with o:=o} S'
 al:Alike (tick S) S'
 dr:Drains qs' S'.Q
 sz:Sizes S'.on qs' S'.V.L
 so:SoS U.next U' v out
 av:∀a n k,v=.slice (some ⟨a,0,some 9⟩) n k->o≠some a
 sv:Serves (S.now+1) S.rate S.on qs S.V.L out S'.on qs' S'.V.L
 o:∀z,o=some z->B.o=some z\/U.next<=z
 ft:∀c,Foot B.b S'.Q c->Foot B.b S.Q c
 tk:Took S.Q qs S'.Q qs'
def ServedR(U:St)(B:PB)(S:PV)(qs:List OnV)(e:AE)(U':St)(lg:Log):Prop:=
 ∃v o S' qs' out,e=.ret (.tuple ⟨[v,.int .i64 0]⟩)/\(∀z∈lg,PFoot B S.Q z\/U.next<=z)/\Served U B S qs U' v o S' qs' out
theorem PAt.now {U U' : St} {B : PB} {S : PV} (H : PAt U B S) (k : Int) (hn : U.next ≤ U'.next) (hg : ∀ c, c < U.next → c ≠ B.p → U'.get c = U.get c)
    (gp : U'.get B.p = some (.cells [.pointer (some ⟨B.b.q, 0, none⟩), .pointer (some ⟨B.l, 0, none⟩), .int .i64 S.rate, .int .i64 S.most, .int .i64 k, onPtr B.o] false)) : PAt U' B { S with now := k } :=
  { gp := gp
    q := H.q.keep hn fun c hc => hg c (H.q.in_lt hc) fun e => H.pf (e ▸ hc)
    l := H.l.keep hn (hg _ H.l.lt.1 fun e => H.pl e.symm) (hg _ H.l.lt.2 fun e => H.pr e.symm)
    on := ⟨H.on.has, fun o x h1 h2 => by
      obtain ⟨a, b, c1, c2⟩ := H.on.get o x h1 h2
      exact ⟨(hg o b c1).trans a, by omega, c1, c2⟩⟩
    lt := by have := H.lt; omega
    pl := H.pl
    pr := H.pr
    pf := H.pf
    lf := H.lf
    rf := H.rf }
theorem serve_call {U : St} {B : PB} {S : PV} {qs : List OnV} (H : PAt U B S) (hD : Drains qs S.Q) (hS : Sizes S.on qs S.V.L) (hnow : 0 ≤ S.now ∧ S.now < 2147483647) (hr : 0 ≤ S.rate ∧ S.rate ≤ 1000000) : callX Tryz.prog 28 [.pointer (some ⟨B.p, 0, none⟩)] U (ServedR U B S qs) := by
  have gp := H.gp
  have hp := H.lt
  have c1 : ¬ (2147483647 : Int) ≤ S.now := by omega
  have w1 : IntKind.i64.wrap (S.now + 1) = S.now + 1 := wrapI (by omega) (by omega)
  have hR : ((S.rate.toNat : Nat) : Int) = S.rate := by omega
  refine enter (p := q8) Tryz.func28 rfl stat28 ?_
  simp only [go_sem, seval, opLen, undef, Tryz.f28, body51]
  refine enscope q8 28 (by kernel_rfl) ?_
  simp only [go_sem, seval, opLen, undef, body51]
  refine .of (pnone_call gp) ?_
  simp only [go_sem, seval, opLen, undef, gp, hp, c1, w1, body51]
  have H1 := H.now (U' := U.set B.p (.cells [.pointer (some ⟨B.b.q, 0, none⟩), .pointer (some ⟨B.l, 0, none⟩), .int .i64 S.rate, .int .i64 S.most, .int .i64 (S.now + 1), onPtr B.o] false)) (S.now + 1) (Nat.le_refl _) (fun c _ h => by rw [St.get_set, if_neg (Ne.symm h)]) (by rw [St.get_set, if_pos rfl])
  refine loop_then (serve_loop (B0 := B) (S0 := tick S) (lo := U.next) (R := S.rate) (qs0 := qs) S.rate.toNat _ _ ⟨_, .slice none 0 0, B.o, tick S, qs, [], rfl, ⟨rfl, rfl, rfl, by rw [hR]; rfl⟩, ?_⟩) ?_
  · exact { hm := by omega
            at' := H1
            al := Alike.refl _
            low := ⟨H.lt, H.l.lt.1, H.l.lt.2, fun c hc => H.q.in_lt hc⟩
            hlo := Nat.le_refl _
            dr := hD
            sz := hS
            so := .inl ⟨rfl, rfl⟩
            av := fun a n k h => by cases h
            len := by show 0 + S.rate.toNat ≤ 1000000; omega
            ho := fun z hz => .inl hz
            sv := fun out on' qs' L' h => by rw [hR] at h; exact h
            ft := fun c h => h
            tk := .refl }
  · intro x fr' U' lg hlg hB h
    obtain ⟨rfl, ts, v, m, o, S', qs', acc, rfl, el, e4, HL, hs⟩ := h
    simp only [go_sem, seval, opLen, undef, e4, el, body51]
    refine ⟨v, o, S', qs', acc, rfl, fun z hz => ?_, ⟨HL.at', HL.al, HL.dr, HL.sz, HL.so, HL.av, hs, HL.ho, HL.ft, HL.tk⟩⟩
    rcases List.mem_cons.1 hz with h | h
    · exact .inl (.inl h)
    · exact hB z h
def sumB{α:Type}(g:α->Int):List α->Int
 |[]=>0
 |x :: l=>g x+sumB g l
theorem sumB_perm{α:Type}{g:α->Int}{l l':List α}(h:l.Perm l'):sumB g l=sumB g l':=by
 induction h with
 |nil=>rfl
 |cons x _ ih=>simp only[sumB,ih]
 |swap x y l=>simp only[sumB];omega
 |trans _ _ a b=>exact a.trans b
theorem sumB_append{α:Type}(g:α->Int)(l l':List α):sumB g (l++l')=sumB g l+sumB g l':=by
 induction l with
 |nil=>simp [sumB]
 |cons x l ih=>simp only[List.cons_append,sumB,ih];omega
theorem sumB_congr{α:Type}{g g':α->Int}{l:List α}(h:∀x∈l,g x=g' x):sumB g l=sumB g' l:=by
 induction l with
 |nil=>rfl
 |cons x l ih=>simp only[sumB];rw[h x (by simp),ih λy hy=>h y (List.mem_cons_of_mem _ hy)]
theorem sumB_zero{α:Type}{g:α->Int}{l:List α}(h:∀x∈l,g x=0):sumB g l=0:=by
 induction l with
 |nil=>rfl
 |cons x l ih=>simp only[sumB];rw[h x (by simp),ih λy hy=>h y (List.mem_cons_of_mem _ hy)];rfl
theorem sumB_bound{α:Type}{g:α->Int}{l:List α}{c:Int}(h:∀x∈l,0<=g x/\g x<=c):0<=sumB g l/\sumB g l<=c*l.length:=by
 induction l with
 |nil=>simp [sumB]
 |cons x l ih=>
  have h1:=h x (by simp)
  have h2:=ih λy hy=>h y (List.mem_cons_of_mem _ hy)
  simp only[sumB,List.length_cons]
  rw[Int.natCast_add,Int.mul_add]
  omega
theorem sumB_add{α:Type}(g g':α->Int)(l:List α):sumB (λx=>g x+g' x) l=sumB g l+sumB g' l:=by
 induction l with
 |nil=>rfl
 |cons x l ih=>simp only[sumB,ih];omega
theorem sumB_one{l:List Int}{k v:Int}(hn:l.Nodup)(hk:k∈l):sumB (λx=>if x=k then v else 0) l=v:=by
 induction l with
 |nil=>simp at hk
 |cons x l ih=>
  obtain⟨h1,h2⟩:=List.nodup_cons.1 hn
  simp only[sumB]
  by_cases e:x=k
  ·subst e
   rw[if_pos rfl,sumB_zero λy hy=>if_neg λ(e:y=x)=>h1 (e▸hy)]
   omega
  ·rw[if_neg e,ih h2 (by rcases List.mem_cons.1 hk with h|h;exact absurd h.symm e;exact h)]
   omega
theorem Dist.nodup{L:List Item}(h:Dist L):L.Nodup:=by
 rw[List.nodup_iff_pairwise_ne,List.pairwise_iff_getElem]
 intro i j hi hj hij e
 have:=h i j L[i] L[j] (List.getElem?_eq_getElem hi) (List.getElem?_eq_getElem hj) (by rw[e])
 omega
theorem Dist.one{L:List Item}(h:Dist L){x y:Item}(hx:x∈L)(hy:y∈L)(e:x.id=y.id):x=y:=by
 obtain⟨i,hi⟩:=List.getElem?_of_mem hx
 obtain⟨j,hj⟩:=List.getElem?_of_mem hy
 have:=h i j x y hi hj e
 subst this
 rw[hi]at hj
 exact Option.some.inj hj
theorem Dist.of{L:List Item}(hn:L.Nodup)(h:∀x∈L,∀y∈L,x.id=y.id->x=y):Dist L:=λi j x y hx hy e=>by
 have:=h x (List.mem_of_getElem? hx) y (List.mem_of_getElem? hy) e
 subst this
 obtain⟨hi,hi'⟩:=List.getElem?_eq_some_iff.1 hx
 obtain⟨hj,hj'⟩:=List.getElem?_eq_some_iff.1 hy
 rw[List.nodup_iff_pairwise_ne,List.pairwise_iff_getElem]at hn
 rcases Nat.lt_trichotomy i j with h1|h1|h1
 ·exact absurd (hi'.trans hj'.symm) (hn i j hi hj h1)
 ·exact h1
 ·exact absurd (hj'.trans hi'.symm) (hn j i hj hi h1)
def szI(Q:QV)(it:Item):Int:=match Q.P it.id with|some p=>p.2|none=>0
def flI(Q:QV)(it:Item):Int:=match Q.P it.id with|some p=>p.1|none=>-1
def sumQ(Q:QV):Int:=sumB (szI Q) Q.L
def sumF(Q:QV)(k:Int):Int:=sumB (λit=>if flI Q it=k then szI Q it else 0) Q.L
def ClkOk(x:FlowV)(m:Nat):Prop:=∃R s:Nat,(1<=R/\R<=1000000)/\x.rate=R/\x.n=fN s R/\x.d=fD s R/\s<=R*(50+2000*m)
structure QOk(Q:QV)(m:Nat):Prop where
 hp:Hp Q.L
 dist:Dist Q.L
 pos:AllPos Q.L
 has:∀it∈Q.L,∃p,Q.P it.id=some p
 of:∀id p,Q.P id=some p->∃it∈Q.L,it.id=id
 pk:∀id p,Q.P id=some p->(0<=id/\id<=4611686018427387904)/\(0<=p.1/\p.1<=2147483647)/\(1<=p.2/\p.2<=2000)/\∃x,Q.F p.1=some x
 fl:∀k x,Q.F k=some x->(0<=x.room/\x.room<=1000000000)/\x.bytes=sumF Q k/\ClkOk x m
 np:Q.np=Q.L.length
 len:Q.L.length<=m
 t:0<=Q.t/\Q.t<=m
theorem QOk.nil:QOk Q0 0 where
 hp:=λi _ u v hu _=>by simp [Q0]at hu
 dist:=λi j x y hx=>by simp [Q0]at hx
 pos:=λx hx=>by simp [Q0]at hx
 has:=λit h=>by simp [Q0]at h
 of:=λid p h=>by cases h
 pk:=λid p h=>by cases h
 fl:=λk x h=>by cases h
 np:=rfl
 len:=Nat.le_refl _
 t:=⟨Int.le_refl _,Int.le_refl _⟩
theorem ClkOk.mono{x:FlowV}{m m':Nat}(h:ClkOk x m)(hm:m<=m'):ClkOk x m':=by
 obtain⟨R,s,h1,h2,h3,h4,h5⟩:=h
 exact⟨R,s,h1,h2,h3,h4,Nat.le_trans h5 (Nat.mul_le_mul_left _ (by omega))⟩
theorem QOk.mono {Q : QV} {m m' : Nat} (h : QOk Q m) (hm : m ≤ m') : QOk Q m' :=
  { h with
    fl := fun k x hx => ⟨(h.fl k x hx).1, (h.fl k x hx).2.1, (h.fl k x hx).2.2.mono hm⟩
    len := Nat.le_trans h.len hm
    t := ⟨h.t.1, by have := h.t.2; omega⟩ }
theorem QOk.sz{Q:QV}{m:Nat}(h:QOk Q m):∀it∈Q.L,1<=szI Q it/\szI Q it<=2000:=λit hit=>by
 obtain⟨p,hp⟩:=h.has it hit
 have:=(h.pk _ _ hp).2.2.1
 unfold szI
 rw[hp]
 exact this
theorem QOk.sumF_bound{Q:QV}{m:Nat}(h:QOk Q m)(k:Int):0<=sumF Q k/\sumF Q k<=2000*m:=by
 have:=sumB_bound (g:=λit=>if flI Q it=k then szI Q it else 0) (l:=Q.L) (c:=2000) λit hit=>by
  have:=h.sz it hit
  split<;>omega
 have hl:=h.len
 exact⟨this.1,by have:=this.2;unfold sumF;omega⟩
theorem QOk.sumQ_bound{Q:QV}{m:Nat}(h:QOk Q m):0<=sumQ Q/\sumQ Q<=2000*m:=by
 have:=sumB_bound (g:=szI Q) (l:=Q.L) (c:=2000) λit hit=>by
  have:=h.sz it hit
  omega
 have hl:=h.len
 exact⟨this.1,by have:=this.2;unfold sumQ;omega⟩
theorem QOk.bytes{Q:QV}{m:Nat}(h:QOk Q m){k:Int}{x:FlowV}(hx:Q.F k=some x):0<=x.bytes/\x.bytes<=2000*m:=by
 rw[(h.fl k x hx).2.1];exact h.sumF_bound k
theorem QOk.fresh{Q:QV}{m:Nat}(h:QOk Q m){id:Int}(hP:Q.P id=none):∀y∈Q.L,y.id≠id:=λy hy e=>by
 obtain⟨p,hp⟩:=h.has y hy
 rw[e,hP]at hp
 cases hp
theorem QOk.total{Q:QV}{m:Nat}(h:QOk Q m){ks:List Int}(hn:ks.Nodup)(hk:∀k x,Q.F k=some x->k∈ks):sumB (sumF Q) ks=sumQ Q:=by
 have key:∀l:List Item,(∀it∈l,flI Q it∈ks)->sumB (λk=>sumB (λit=>if flI Q it=k then szI Q it else 0) l) ks=sumB (szI Q) l:=by
  intro l
  induction l with
  |nil=>intro _;exact sumB_zero λ_ _=>rfl
  |cons it l ih=>
   intro hl
   have e:(λk=>sumB (λit=>if flI Q it=k then szI Q it else 0) (it :: l))=λk=>(if k=flI Q it then szI Q it else 0)+sumB (λit=>if flI Q it=k then szI Q it else 0) l:=funext λk=>by
    simp only[sumB]
    by_cases e:flI Q it=k
    ·rw[if_pos e,if_pos e.symm]
    ·rw[if_neg e,if_neg (Ne.symm e)]
   rw[e,sumB_add,sumB_one hn (hl it (by simp)),ih λy hy=>hl y (List.mem_cons_of_mem _ hy)]
   rfl
 refine key Q.L λit hit=>?_
 obtain⟨p,hp⟩:=h.has it hit
 obtain⟨x,hx⟩:=(h.pk _ _ hp).2.2.2
 have:flI Q it=p.1:=by unfold flI;rw[hp]
 rw[this]
 exact hk _ _ hx
theorem sums_congr{Q Q':QV}(hL:Q'.L=Q.L)(hP:Q'.P=Q.P):sumQ Q'=sumQ Q/\∀k,sumF Q' k=sumF Q k:=by
 have e1:szI Q'=szI Q:=funext λit=>by unfold szI;rw[hP]
 have e2:flI Q'=flI Q:=funext λit=>by unfold flI;rw[hP]
 refine⟨by unfold sumQ;rw[hL,e1],λk=>by unfold sumF;rw[hL,e1,e2]⟩
theorem QOk.no_flow{Q:QV}{m:Nat}(h:QOk Q m){k:Int}(hF:Q.F k=none):sumF Q k=0:=sumB_zero λit hit=>by
 obtain⟨p,hp⟩:=h.has it hit
 obtain⟨x,hx⟩:=(h.pk _ _ hp).2.2.2
 have e:flI Q it=p.1:=by unfold flI;rw[hp]
 rw[if_neg]
 rw[e]
 intro e
 rw[e,hF]at hx
 cases hx
theorem QOk.flows {Q : QV} {m : Nat} (h : QOk Q m) {k : Int} {x : FlowV} {nf : Nat} (hx : (0 ≤ x.room ∧ x.room ≤ 1000000000) ∧ x.bytes = sumF Q k ∧ ClkOk x m) : QOk { Q with F := updF Q.F k (some x), nf := nf } m ∧ sumQ { Q with F := updF Q.F k (some x), nf := nf } = sumQ Q := by
  have hs := sums_congr (Q := Q) (Q' := { Q with F := updF Q.F k (some x), nf := nf }) rfl rfl
  refine ⟨{ h with
    pk := fun id p hp => ?_
    fl := fun k' y hy => ?_ }, hs.1⟩
  · obtain ⟨a, b, c, z, hz⟩ := h.pk id p hp
    refine ⟨a, b, c, ?_⟩
    by_cases e : p.1 = k
    · exact ⟨x, by show updF Q.F k (some x) p.1 = _; rw [e, updF_same]⟩
    · exact ⟨z, by show updF Q.F k (some x) p.1 = _; rw [updF_other _ _ e, hz]⟩
  · have hy : updF Q.F k (some x) k' = some y := hy
    rw [hs.2]
    by_cases e : k' = k
    · subst e
      rw [updF_same] at hy
      cases hy
      exact hx
    · rw [updF_other _ _ e] at hy
      exact h.fl k' y hy
theorem rise_perm{L:List Item}(hd:Dist L){y:Item}(hnew:∀x∈L,x.id≠y.id)(hd':Dist (riseL (L.length+1) (L++[y]) L.length)):(riseL (L.length+1) (L++[y]) L.length).Perm (L++[y]):=by
 refine(List.perm_ext_iff_of_nodup hd'.nodup ?_).2 λz=>riseL_mem_iff _ _ _
 refine List.nodup_append.2 ⟨hd.nodup,by simp,λa ha b hb e=>?_⟩
 have hb:b=y:=by simpa using hb
 exact hnew a ha (by rw[e,hb])
theorem QOk.put{Q:QV}{m:Nat}(h:QOk Q m){id flow size n d:Int}{x:FlowV}(hF:Q.F flow=some x)(hP:Q.P id=none)(hid:0<=id/\id<=4611686018427387904)(hfl:0<=flow/\flow<=2147483647)(hsz:1<=size/\size<=2000)
  (hc:ClkOk {x with bytes:=x.bytes+size,n:=n,d:=d} (m+1)) (hpos:(⟨id,n,d,Q.t+1⟩:Item).pos) (hd':Dist (riseL (Q.L.length+1) (Q.L++[⟨id,n,d,Q.t+1⟩]) Q.L.length)):
  QOk {Q with F:=updF Q.F flow (some {x with bytes:=x.bytes+size,n:=n,d:=d}),P:=updF Q.P id (some (flow,size)),np:=Q.np+1,L:=riseL (Q.L.length+1) (Q.L++[⟨id,n,d,Q.t+1⟩]) Q.L.length,t:=Q.t+1} (m+1)/\
  sumQ {Q with F:=updF Q.F flow (some {x with bytes:=x.bytes+size,n:=n,d:=d}),P:=updF Q.P id (some (flow,size)),np:=Q.np+1,L:=riseL (Q.L.length+1) (Q.L++[⟨id,n,d,Q.t+1⟩]) Q.L.length,t:=Q.t+1}=sumQ Q+size:=by
 have hnew:=h.fresh hP
 have hperm:=rise_perm (y:=⟨id,n,d,Q.t+1⟩) h.dist hnew hd'
 generalize hQ:({Q with F:=updF Q.F flow (some {x with bytes:=x.bytes+size,n:=n,d:=d}),P:=updF Q.P id (some (flow,size)),np:=Q.np+1,L:=riseL (Q.L.length+1) (Q.L++[⟨id,n,d,Q.t+1⟩]) Q.L.length,t:=Q.t+1}:QV)=Q'
 have eP:Q'.P=updF Q.P id (some (flow,size)):=by rw[<-hQ]
 have eF:Q'.F=updF Q.F flow (some {x with bytes:=x.bytes+size,n:=n,d:=d}):=by rw[<-hQ]
 have eL:Q'.L=riseL (Q.L.length+1) (Q.L++[⟨id,n,d,Q.t+1⟩]) Q.L.length:=by rw[<-hQ]
 have s1:∀it∈Q.L,szI Q' it=szI Q it/\flI Q' it=flI Q it:=λit hit=>by
  unfold szI flI
  rw[eP,updF_other _ _ (hnew it hit)]
  exact⟨rfl,rfl⟩
 have s2:szI Q' ⟨id,n,d,Q.t+1⟩=size/\flI Q' ⟨id,n,d,Q.t+1⟩=flow:=by
  unfold szI flI
  rw[eP]
  show(match updF Q.P id (some (flow,size)) id with|some p=>p.2|none=>0)=size/\_
  rw[updF_same]
  exact⟨rfl,rfl⟩
 have hF':∀k,sumF Q' k=sumF Q k+(if flow=k then size else 0):=λk=>by
  unfold sumF
  rw[eL,sumB_perm hperm,sumB_append]
  simp only[sumB,s2]
  rw[sumB_congr (g':=λit=>if flI Q it=k then szI Q it else 0) λit hit=>by rw[(s1 it hit).1,(s1 it hit).2]]
  omega
 have hQ':sumQ Q'=sumQ Q+size:=by
  unfold sumQ
  rw[eL,sumB_perm hperm,sumB_append]
  simp only[sumB,s2]
  rw[sumB_congr (g':=szI Q) λit hit=>(s1 it hit).1]
  omega
 have hmem:∀z,z∈Q'.L↔z∈Q.L\/z=⟨id,n,d,Q.t+1⟩:=λz=>by rw[eL,hperm.mem_iff];simp
 refine⟨{
  hp:=by rw[eL];exact put_heap h.hp h.pos hpos
  dist:=by rw[eL];exact hd'
  pos:=λz hz=>by
   rcases(hmem z).1 hz with hz|rfl
   ·exact h.pos z hz
   ·exact hpos
  has:=λz hz=>by
   rcases(hmem z).1 hz with hz|rfl
   ·obtain⟨p,hp⟩:=h.has z hz
    exact⟨p,by rw[eP,updF_other _ _ (hnew z hz),hp]⟩
   ·exact⟨(flow,size),by rw[eP,updF_same]⟩
  of:=λi p hp=>by
   rw[eP]at hp
   by_cases e:i=id
   ·exact⟨_,(hmem _).2 (.inr rfl),e.symm⟩
   ·rw[updF_other _ _ e]at hp
    obtain⟨it,hit,hi⟩:=h.of i p hp
    exact⟨it,(hmem _).2 (.inl hit),hi⟩
  pk:=λi p hp=>by
   rw[eP]at hp
   have hup:∀k y,Q.F k=some y->∃z,Q'.F k=some z:=λk y hy=>by
    rw[eF]
    by_cases e:k=flow
    ·rw[e,updF_same];exact⟨_,rfl⟩
    ·rw[updF_other _ _ e];exact⟨y,hy⟩
   by_cases e:i=id
   ·subst e
    rw[updF_same]at hp
    cases hp
    exact⟨hid,hfl,hsz,hup _ _ hF⟩
   ·rw[updF_other _ _ e]at hp
    obtain⟨a,b,c,y,hy⟩:=h.pk i p hp
    exact⟨a,b,c,hup _ _ hy⟩
  fl:=λk y hy=>by
   rw[hF']
   rw[eF]at hy
   by_cases e:k=flow
   ·subst e
    rw[updF_same]at hy
    cases hy
    obtain⟨a,b,c⟩:=h.fl k x hF
    exact⟨a,by rw[if_pos rfl];show x.bytes+size=_;rw[b],hc⟩
   ·rw[updF_other _ _ e]at hy
    obtain⟨a,b,c⟩:=h.fl k y hy
    exact⟨a,by rw[if_neg (Ne.symm e),b];omega,c.mono (by omega)⟩
  np:=by rw[eL,hperm.length_eq,List.length_append];rw[<-hQ];show Q.np+1=_;rw[h.np];rfl
  len:=by rw[eL,hperm.length_eq,List.length_append];have:=h.len;simp;omega
  t:=by rw[<-hQ];have:=h.t;show 0<=Q.t+1/\Q.t+1<=((m+1:Nat):Int);omega},hQ'⟩
theorem out_perm{L:List Item}(hd:Dist L){n:Nat}{x:Item}(hx:L[n]?=some x)(hd':(outL L n).Nodup):L.Perm (x :: outL L n):=by
 refine(List.perm_ext_iff_of_nodup hd.nodup ?_).2 λz=>?_
 ·refine List.nodup_cons.2 ⟨λh=>?_,hd'⟩
  exact((outL_mem hd hx).1 h).2 rfl
 ·rw[List.mem_cons,outL_mem hd hx]
  constructor
  ·intro h
   by_cases e:z.id=x.id
   ·exact .inl (hd.one h (List.mem_of_getElem? hx) e)
   ·exact .inr ⟨h,e⟩
  ·rintro(rfl|⟨h,_⟩)
   ·exact List.mem_of_getElem? hx
   ·exact h
theorem le_of_sub{α:Type}:∀{N L:List α},N.Nodup->(∀z∈N,z∈L)->N.length<=L.length
 |[],_,_,_=>Nat.zero_le _
 |x :: N,L,hn,hs=>by
  obtain⟨s,t,rfl⟩:=List.append_of_mem (hs x (by simp))
  obtain⟨h1,h2⟩:=List.nodup_cons.1 hn
  have:=le_of_sub (N:=N) (L:=s++t) h2 λz hz=>by
   have h3:=hs z (List.mem_cons_of_mem _ hz)
   simp only[List.mem_append,List.mem_cons]at h3 ⊢
   rcases h3 with h|h|h
   ·exact .inl h
   ·exact absurd (h▸hz) h1
   ·exact .inr h
  simp only[List.length_append,List.length_cons]at this ⊢
  omega
theorem nodup_of_len{α:Type}:∀{L N:List α},N.Nodup->(∀z∈N,z∈L)->L.length<=N.length->L.Nodup
 |[],_,_,_,_=>List.nodup_nil
 |x :: L,N,hn,hs,hl=>by
  by_cases hx:x∈L
  ·have:=le_of_sub hn λz hz=>by
    rcases List.mem_cons.1 (hs z hz) with h|h
    ·exact h▸hx
    ·exact h
   simp only[List.length_cons]at hl
   omega
  ·by_cases hxN:x∈N
   ·obtain⟨s,t,rfl⟩:=List.append_of_mem hxN
    have hn':(s++t).Nodup:=hn.sublist (List.Sublist.append_left (List.sublist_cons_self _ _) _)
    have hxn:x∉s++t:=by
     obtain⟨h4,h5,h6⟩:=List.nodup_append.1 hn
     intro h7
     rcases List.mem_append.1 h7 with h7|h7
     ·exact h6 x h7 x (by simp) rfl
     ·exact(List.nodup_cons.1 h5).1 h7
    refine List.nodup_cons.2 ⟨hx,nodup_of_len hn' (λz hz=>?_) (by simp only[List.length_append,List.length_cons]at hl ⊢;omega)⟩
    rcases List.mem_cons.1 (hs z (by simp only[List.mem_append,List.mem_cons]at hz ⊢;rcases hz with h|h<;>simp [h])) with h|h
    ·exact absurd (h▸hz) hxn
    ·exact h
   ·have:=le_of_sub hn λz hz=>by
     rcases List.mem_cons.1 (hs z hz) with h|h
     ·exact absurd (h▸hz) hxN
     ·exact h
    simp only[List.length_cons]at hl
    omega
theorem outL_nodup{L:List Item}(hd:Dist L){n:Nat}{x:Item}(hx:L[n]?=some x):(outL L n).Nodup:=by
 obtain⟨hn,hxe⟩:=List.getElem?_eq_some_iff.1 hx
 have hp:L.Perm (x :: (L.take n++L.drop (n+1))):=by
  have e:L=L.take n++x :: L.drop (n+1):=by rw[<-hxe];simp
  have h2:(L.take n++x :: L.drop (n+1)).Perm (x :: (L.take n++L.drop (n+1))):=List.perm_middle
  rw[<-e]at h2
  exact h2
 have hnd:=(hp.nodup_iff).1 hd.nodup
 obtain⟨h1,h2⟩:=List.nodup_cons.1 hnd
 refine nodup_of_len h2 (λz hz=>(outL_mem hd hx).2 ?_) ?_
 ·have hzL:z∈L:=hp.mem_iff.2 (List.mem_cons_of_mem _ hz)
  exact⟨hzL,λe=>h1 (hd.one hzL (List.mem_of_getElem? hx) e▸hz)⟩
 ·rw[outL_length hx]
  have:=hp.length_eq
  simp only[List.length_cons]at this
  omega
theorem outL_dist{L:List Item}(hd:Dist L){n:Nat}{x:Item}(hx:L[n]?=some x):Dist (outL L n):=
 .of (outL_nodup hd hx) λa ha b hb e=>hd.one ((outL_mem hd hx).1 ha).1 ((outL_mem hd hx).1 hb).1 e
theorem riseL_dist{L:List Item}(hd:Dist L){y:Item}(hnew:∀x∈L,x.id≠y.id):Dist (riseL (L.length+1) (L++[y]) L.length):=by
 have h0:(L++[y]).Nodup:=List.nodup_append.2 ⟨hd.nodup,by simp,λa ha b hb e=>by
  have hb:b=y:=by simpa using hb
  exact hnew a ha (by rw[e,hb])⟩
 refine .of (nodup_of_len h0 (λz hz=>(riseL_mem_iff _ _ _).2 hz) ?_) λa ha b hb e=>?_
 ·rw[riseL_length];exact Nat.le_refl _
 ·have ha':=(riseL_mem_iff _ _ _).1 ha
  have hb':=(riseL_mem_iff _ _ _).1 hb
  clear ha hb
  simp only[List.mem_append,List.mem_singleton]at ha' hb'
  rcases ha' with ha|rfl<;>rcases hb' with hb|rfl
  ·exact hd.one ha hb e
  ·exact absurd e (hnew a ha)
  ·exact absurd e.symm (hnew b hb)
  ·rfl
theorem QOk.take{Q:QV}{m:Nat}(h:QOk Q m){y:Item}{flow size:Int}{x:FlowV}(hh:Head Q y flow size x):QOk (takeV Q y flow size x) m/\sumQ (takeV Q y flow size x)=sumQ Q - size:=by
 have hy:=List.mem_of_getElem? hh.head
 have hperm:=out_perm h.dist hh.head (outL_nodup h.dist hh.head)
 have hmem:∀z,z∈outL Q.L 0↔z∈Q.L/\z.id≠y.id:=λz=>outL_mem h.dist hh.head
 have s1:∀it∈outL Q.L 0,szI (takeV Q y flow size x) it=szI Q it/\flI (takeV Q y flow size x) it=flI Q it:=λit hit=>by
  have:=((hmem it).1 hit).2
  unfold szI flI
  show(match updF Q.P y.id none it.id with|some p=>p.2|none=>0)=_/\(match updF Q.P y.id none it.id with|some p=>p.1|none=>-1)=_
  rw[updF_other _ _ this]
  exact⟨rfl,rfl⟩
 have s2:szI Q y=size/\flI Q y=flow:=by
  unfold szI flI
  rw[hh.pack]
  exact⟨rfl,rfl⟩
 have hF:∀k,sumF (takeV Q y flow size x) k=sumF Q k - (if flow=k then size else 0):=λk=>by
  have e1:sumF Q k=(if flow=k then size else 0)+sumB (λit=>if flI Q it=k then szI Q it else 0) (outL Q.L 0):=by
   unfold sumF
   rw[sumB_perm hperm]
   simp only[sumB,s2]
  have e2:sumF (takeV Q y flow size x) k=sumB (λit=>if flI Q it=k then szI Q it else 0) (outL Q.L 0):=by
   unfold sumF
   exact sumB_congr λit hit=>by rw[(s1 it hit).1,(s1 it hit).2]
  omega
 have hQ:sumQ (takeV Q y flow size x)=sumQ Q - size:=by
  have e1:sumQ Q=size+sumB (szI Q) (outL Q.L 0):=by
   unfold sumQ
   rw[sumB_perm hperm]
   simp only[sumB,s2]
  have e2:sumQ (takeV Q y flow size x)=sumB (szI Q) (outL Q.L 0):=by
   unfold sumQ
   exact sumB_congr λit hit=>(s1 it hit).1
  omega
 refine⟨{
  hp:=out_heap h.hp h.pos hh.head
  dist:=outL_dist h.dist hh.head
  pos:=λz hz=>h.pos z ((hmem z).1 hz).1
  has:=λz hz=>by
   obtain⟨hz1,hz2⟩:=(hmem z).1 hz
   obtain⟨p,hp⟩:=h.has z hz1
   exact⟨p,by show updF Q.P y.id none z.id=_;rw[updF_other _ _ hz2,hp]⟩
  of:=λid p hp=>by
   have hp:updF Q.P y.id none id=some p:=hp
   by_cases e:id=y.id
   ·rw[e,updF_same]at hp;cases hp
   ·rw[updF_other _ _ e]at hp
    obtain⟨it,hit,hi⟩:=h.of id p hp
    exact⟨it,(hmem it).2 ⟨hit,by rw[hi];exact e⟩,hi⟩
  pk:=λid p hp=>by
   have hp:updF Q.P y.id none id=some p:=hp
   by_cases e:id=y.id
   ·rw[e,updF_same]at hp;cases hp
   ·rw[updF_other _ _ e]at hp
    obtain⟨a,b,c,z,hz⟩:=h.pk id p hp
    refine⟨a,b,c,?_⟩
    by_cases e2:p.1=flow
    ·exact⟨_,by show updF Q.F flow _ p.1=_;rw[e2,updF_same]⟩
    ·exact⟨z,by show updF Q.F flow _ p.1=_;rw[updF_other _ _ e2,hz]⟩
  fl:=λk z hz=>by
   have hz:updF Q.F flow (some {x with bytes:=x.bytes - size}) k=some z:=hz
   rw[hF]
   by_cases e:k=flow
   ·subst e
    rw[updF_same]at hz
    cases hz
    obtain⟨a,b,c⟩:=h.fl k x hh.flow
    exact⟨a,by rw[if_pos rfl];show x.bytes - size=_;rw[b],c⟩
   ·rw[updF_other _ _ e]at hz
    obtain⟨a,b,c⟩:=h.fl k z hz
    exact⟨a,by rw[if_neg (Ne.symm e),b];omega,c⟩
  np:=by
   show Q.np - 1=(outL Q.L 0).length
   rw[outL_length hh.head,h.np]
  len:=by
   show(outL Q.L 0).length<=m
   rw[outL_length hh.head]
   have:=h.len;omega
  t:=h.t},hQ⟩
theorem QOk.head{Q:QV}{m:Nat}(h:QOk Q m)(hm:m<=40){y:Item}(hy:Q.L[0]?=some y):∃flow size x,Head Q y flow size x:=by
 obtain⟨p,hp⟩:=h.has y (List.mem_of_getElem? hy)
 obtain⟨a,b,c,x,hx⟩:=h.pk _ _ hp
 exact⟨p.1,p.2,x,hy,hp,hx,c,by have:=h.bytes hx;omega⟩
def onL:Option OnV->List OnV
 |some o=>[o]
 |none=>[]
def bytesO:List OnV->Int
 |[]=>0
 |o :: os=>o.left+bytesO os
def bytesOf(on:Option OnV)(qs:List OnV)(L:List Pk):Int:=bytesO (onL on)+bytesO qs+sumP L
theorem QOk.drains{m:Nat}(hm:m<=40):∀(n:Nat) (Q:QV),Q.L.length=n->QOk Q m->∃qs,Drains qs Q/\∀o∈qs,1<=o.left/\o.left<=2000
 |0,Q,hn,h=>⟨[],List.eq_nil_of_length_eq_zero hn,λo ho=>by cases ho⟩
 |n+1,Q,hn,h=>by
  obtain⟨y,hy⟩:∃y,Q.L[0]?=some y:=⟨Q.L[0]'(by omega),List.getElem?_eq_getElem _⟩
  obtain⟨flow,size,x,hh⟩:=h.head hm hy
  obtain⟨qs,h1,h2⟩:=QOk.drains hm n (takeV Q y flow size x) (by show(outL Q.L 0).length=n;rw[outL_length hy];omega) (h.take hh).1
  refine⟨_ :: qs,⟨y,flow,size,x,hh,rfl,h1⟩,λo ho=>?_⟩
  rcases List.mem_cons.1 ho with rfl|ho
  ·exact hh.size
  ·exact h2 o ho
theorem QOk.sumO{m:Nat}:∀{qs:List OnV} {Q:QV},QOk Q m->Drains qs Q->bytesO qs=sumQ Q
 |[],Q,h,hd=>by
  have hd:Q.L=[]:=hd
  unfold sumQ
  rw[hd]
  rfl
 |o :: qs,Q,h,hd=>by
  obtain⟨y,flow,size,x,hh,rfl,hd⟩:=hd
  have:=QOk.sumO (h.take hh).1 hd
  rw[(h.take hh).2]at this
  show size+bytesO qs=_
  omega
theorem QOk.took{m:Nat}{Q Q':QV}{qs qs':List OnV}(ht:Took Q qs Q' qs'):QOk Q m->QOk Q' m/\(∀k,(Q'.F k).isSome=(Q.F k).isSome)/\Q'.nf=Q.nf:=by
 induction ht with
 |refl=>exact λh=>⟨h,λ_=>rfl,rfl⟩
 |more ht hh ih=>
  intro h
  obtain⟨h1,h2,h3⟩:=ih h
  refine⟨(h1.take hh).1,λk=>?_,h3⟩
  rw[<-h2]
  show(updF _ _ _ k).isSome=_
  have hf:=hh.flow
  unfold updF
  split
  ·rename_i e;rw[e,hf];rfl
  ·rfl
theorem Serves.bytes{now b:Int}{on on':Option OnV}{qs qs' out:List OnV}{L L':List Pk}(h:Serves now b on qs L out on' qs' L'):
  bytesOf on qs L<=bytesOf on' qs' L'+b/\(bytesOf on' qs' L'+b=bytesOf on qs L\/(on'=none/\qs'=[]/\L'=[]))/\∀o∈out,o.fin=now:=by
 induction h with
 |zero=>exact⟨by omega,.inl (by omega),λo ho=>by cases ho⟩
 |empty h=>exact⟨by simp only[bytesOf,onL,bytesO,sumP];omega,.inr ⟨rfl,rfl,rfl⟩,λo ho=>by cases ho⟩
 |part h h1=>exact⟨by simp only[bytesOf,onL,bytesO];omega,.inl (by simp only[bytesOf,onL,bytesO];omega),λo ho=>by cases ho⟩
 |full h h1 k ih=>
  obtain⟨i1,i2,i3⟩:=ih
  refine⟨by simp only[bytesOf,onL,bytesO]at i1 ⊢;omega,i2.imp (λi=>by simp only[bytesOf,onL,bytesO]at i ⊢;omega) id,λo ho=>?_⟩
  rcases List.mem_cons.1 ho with rfl|ho
  ·rfl
  ·exact i3 o ho
 |nextq h k ih=>
  obtain⟨i1,i2,i3⟩:=ih
  exact⟨by simp only[bytesOf,onL,bytesO]at i1 ⊢;omega,i2.imp (λi=>by simp only[bytesOf,onL,bytesO]at i ⊢;omega) id,i3⟩
 |nextl h k ih=>
  obtain⟨i1,i2,i3⟩:=ih
  exact⟨by simp only[bytesOf,onL,bytesO,sumP,lineOn]at i1 ⊢;omega,i2.imp (λi=>by simp only[bytesOf,onL,bytesO,sumP,lineOn]at i ⊢;omega) id,i3⟩
theorem sumP_sumB(l:List Pk):sumP l=sumB Pk.size l:=by
 induction l with
 |nil=>rfl
 |cons x l ih=>simp only[sumP,sumB,ih]
def turnOf(Q:QV)(id:Int):Int:=match Q.L.find? (λit=>decide (it.id=id)) with|some it=>it.turn|none=>0
theorem QOk.turn{Q:QV}{m:Nat}(h:QOk Q m):∀it∈Q.L,turnOf Q it.id=it.turn:=λit hit=>by
 unfold turnOf
 cases hf:Q.L.find? (λy=>decide (y.id=it.id)) with
 |none=>
  have:=List.find?_eq_none.1 hf it hit
  simp at this
 |some y=>
  have h1:=List.find?_some hf
  have h2:=List.mem_of_find?_eq_some hf
  rw[h.dist.one h2 hit (by simpa using h1)]
theorem QOk.dropF{Q:QV}{m:Nat}(h:QOk Q m){f:Int}{nf:Nat}{L':List Item}{D:List Pk}(hl:Left Q.L L' D)(hd':Dist L')(hm:∀x,x∈D↔Q.P x.id=some (x.flow,x.size)/\x.flow=f)(hn:(D.map Pk.id).Nodup):
  QOk {dropV Q D L' with F:=updF Q.F f none,nf:=nf} m/\sumQ {dropV Q D L' with F:=updF Q.F f none,nf:=nf}=sumQ Q - sumP D:=by
 generalize hQ':({dropV Q D L' with F:=updF Q.F f none,nf:=nf}:QV)=Q'
 have eP:∀k,k∉D.map Pk.id->Q'.P k=Q.P k:=λk hk=>by rw[<-hQ'];show(if k∈D.map Pk.id then none else Q.P k)=_;rw[if_neg hk]
 have eP':∀k p,Q'.P k=some p->k∉D.map Pk.id/\Q.P k=some p:=λk p hp=>by
  rw[<-hQ']at hp
  have hp:(if k∈D.map Pk.id then none else Q.P k)=some p:=hp
  by_cases e:k∈D.map Pk.id
  ·rw[if_pos e]at hp;cases hp
  ·rw[if_neg e]at hp;exact⟨e,hp⟩
 have eF:Q'.F=updF Q.F f none:=by rw[<-hQ']
 have eL:Q'.L=L':=by rw[<-hQ'];rfl
 have s1:∀it∈L',szI Q' it=szI Q it/\flI Q' it=flI Q it:=λit hit=>by
  unfold szI flI
  rw[eP _ ((hl.mem it).1 hit).2]
  exact⟨rfl,rfl⟩
 let M:=Q.L.filter λit=>decide (it.id∈D.map Pk.id)
 have hM:∀it,it∈M↔it∈Q.L/\it.id∈D.map Pk.id:=λit=>by simp only[M,List.mem_filter,decide_eq_true_eq]
 have hMd:∀it∈M,⟨it.id,flI Q it,szI Q it⟩∈D/\flI Q it=f:=λit hit=>by
  obtain⟨h1,h2⟩:=(hM it).1 hit
  obtain⟨x,hx,hxi⟩:=List.mem_map.1 h2
  obtain⟨a,b⟩:=(hm x).1 hx
  have e1:flI Q it=x.flow:=by unfold flI;rw[<-hxi,a]
  have e2:szI Q it=x.size:=by unfold szI;rw[<-hxi,a]
  refine⟨?_,by rw[e1,b]⟩
  rw[e1,e2,<-hxi]
  exact hx
 have hMn:M.Nodup:=h.dist.nodup.sublist List.filter_sublist
 have hperm:Q.L.Perm (L'++M):=by
  refine(List.perm_ext_iff_of_nodup h.dist.nodup (List.nodup_append.2 ⟨hd'.nodup,hMn,λa ha b hb e=>?_⟩)).2 λz=>?_
  ·exact((hl.mem a).1 ha).2 (by rw[e];exact((hM b).1 hb).2)
  ·rw[List.mem_append,hl.mem,hM]
   by_cases e:z.id∈D.map Pk.id
   ·simp [e]
   ·simp [e]
 have hDn:D.Nodup:=by
  unfold List.Nodup at hn ⊢
  rw[List.pairwise_map]at hn
  exact hn.imp λ{a b} h e=>h (by rw[e])
 have hpD:(M.map λit=>(⟨it.id,flI Q it,szI Q it⟩:Pk)).Perm D:=by
  refine(List.perm_ext_iff_of_nodup ?_ hDn).2 λz=>?_
  ·unfold List.Nodup
   rw[List.pairwise_map]
   refine hMn.imp_of_mem λ{a b} ha hb hne e=>hne ?_
   exact h.dist.one ((hM a).1 ha).1 ((hM b).1 hb).1 (congrArg Pk.id e)
  ·rw[List.mem_map]
   constructor
   ·rintro⟨it,hit,rfl⟩;exact(hMd it hit).1
   ·intro hz
    obtain⟨a,b⟩:=(hm z).1 hz
    obtain⟨it,hit,hi⟩:=h.of _ _ a
    refine⟨it,(hM it).2 ⟨hit,by rw[hi];exact List.mem_map_of_mem hz⟩,?_⟩
    have e1:flI Q it=z.flow:=by unfold flI;rw[hi,a]
    have e2:szI Q it=z.size:=by unfold szI;rw[hi,a]
    rw[e1,e2,hi]
 have hsM:sumB (szI Q) M=sumP D:=by
  rw[sumP_sumB,<-sumB_perm hpD]
  have:∀l:List Item,sumB (szI Q) l=sumB Pk.size (l.map λit=>(⟨it.id,flI Q it,szI Q it⟩:Pk)):=λl=>by
   induction l with
   |nil=>rfl
   |cons x l ih=>simp only[sumB,List.map_cons,ih]
  exact this M
 have hlen:Q.L.length=L'.length+D.length:=by
  have h1:=hperm.length_eq
  have h2:=hpD.length_eq
  rw[List.length_append]at h1
  rw[List.length_map]at h2
  omega
 have hFk:∀k,k≠f->sumF Q' k=sumF Q k:=λk hk=>by
  have e1:sumF Q k=sumB (λit=>if flI Q it=k then szI Q it else 0) L':=by
   unfold sumF
   rw[sumB_perm hperm,sumB_append,sumB_zero (l:=M) λit hit=>if_neg (by rw[(hMd it hit).2];exact Ne.symm hk)]
   omega
  rw[e1]
  unfold sumF
  rw[eL]
  exact sumB_congr λit hit=>by rw[(s1 it hit).1,(s1 it hit).2]
 have hQs:sumQ Q'=sumQ Q - sumP D:=by
  have e1:sumQ Q=sumB (szI Q) L'+sumP D:=by
   unfold sumQ
   rw[sumB_perm hperm,sumB_append,hsM]
  have e2:sumQ Q'=sumB (szI Q) L':=by
   unfold sumQ
   rw[eL]
   exact sumB_congr λit hit=>(s1 it hit).1
  omega
 refine⟨{
  hp:=by rw[eL];exact hl.hp
  dist:=by rw[eL];exact hd'
  pos:=λz hz=>by rw[eL]at hz;exact h.pos z ((hl.mem z).1 hz).1
  has:=λz hz=>by
   rw[eL]at hz
   obtain⟨h1,h2⟩:=(hl.mem z).1 hz
   obtain⟨p,hp⟩:=h.has z h1
   exact⟨p,by rw[eP _ h2,hp]⟩
  of:=λid p hp=>by
   obtain⟨h1,h2⟩:=eP' _ _ hp
   obtain⟨it,hit,hi⟩:=h.of id p h2
   exact⟨it,by rw[eL];exact(hl.mem it).2 ⟨hit,by rw[hi];exact h1⟩,hi⟩
  pk:=λid p hp=>by
   obtain⟨h1,h2⟩:=eP' _ _ hp
   obtain⟨a,b,c,z,hz⟩:=h.pk id p h2
   refine⟨a,b,c,z,?_⟩
   rw[eF,updF_other _ _ ?_,hz]
   intro e
   exact h1 (List.mem_map.2 ⟨⟨id,p.1,p.2⟩,(hm _).2 ⟨h2,e⟩,rfl⟩)
  fl:=λk z hz=>by
   rw[eF]at hz
   by_cases e:k=f
   ·rw[e,updF_same]at hz;cases hz
   ·rw[updF_other _ _ e]at hz
    obtain⟨a,b,c⟩:=h.fl k z hz
    exact⟨a,by rw[hFk k e,b],c⟩
  np:=by
   rw[eL,<-hQ']
   show Q.np - D.length=_
   rw[h.np];omega
  len:=by rw[eL];have:=h.len;omega
  t:=by rw[<-hQ'];exact h.t},hQs⟩
def inB(n a b:Int):Bool:=decide (a<=n)&&decide (n<=b)
def wV:List Value->Option Value
 |[.int .i64 n,.int .i64 a,.int .i64 b]=>some (.bool (inB n a b))
 |_=>none
def mayV:List Value->Option Value
 |[.int .i64 f,.int .i64 r,.int .i64 m]=>some (.bool (inB f 0 2147483647&&(inB r 1 1000000&&inB m 0 1000000000)))
 |_=>none
theorem may_all(f r m:Int)(U:St):DCall Tryz.prog 73 [.int .i64 f,.int .i64 r,.int .i64 m] U (.ret (.bool (inB f 0 2147483647&&(inB r 1 1000000&&inB m 0 1000000000)))) U []:=by
 refine pure_call (enter (p:=q8) Tryz.func73 rfl stat73 ?_) rfl
 simp only[go_sem,seval,opLen,undef,Tryz.f73]
 refine .of (within_call _ _ _ _) ?_
 show _
 obtain⟨b1,h1⟩:∃b,inB f 0 2147483647=b:=⟨_,rfl⟩
 obtain⟨b2,h2⟩:∃b,inB r 1 1000000=b:=⟨_,rfl⟩
 have h1':=h1
 have h2':=h2
 unfold inB at h1' h2'
 rw[h1,h2]
 cases b1 with
 |false=>simp only[go_sem,seval,opLen,undef,h1',Bool.false_and]
 |true=>
  simp only[go_sem,seval,opLen,undef,h1']
  refine .of (within_call _ _ _ _) ?_
  cases b2 with
  |false=>simp only[go_sem,seval,opLen,undef,h2',Bool.false_and]
  |true=>
   simp only[go_sem,seval,opLen,undef,h2']
   refine .of (within_call _ _ _ _) ?_
   simp only[go_sem,seval,opLen,undef,inB]
def w9get(f:FuncId)(args:List Value):Option Value:=
 if f=74 then wV args else if f=50 then wV args else if f=97 then wV args else if f=73 then mayV args else none
theorem wV_ok{args:List Value}{v:Value}(h:wV args=some v):∃n a b,args=[.int .i64 n,.int .i64 a,.int .i64 b]/\v=.bool (decide (a<=n)&&decide (n<=b)):=by
 unfold wV at h
 split at h
 ·cases h;exact⟨_,_,_,rfl,rfl⟩
 ·cases h
def w9:PureTab Tryz.prog:=⟨w9get,λf args v h U=>by
 unfold w9get at h
 split at h
 ·rename_i e;subst e;obtain⟨n,a,b,rfl,rfl⟩:=wV_ok h;exact within_call n a b U
 ·split at h
  ·rename_i e;subst e;obtain⟨n,a,b,rfl,rfl⟩:=wV_ok h;exact within67_call n a b U
  ·split at h
   ·rename_i e;subst e;obtain⟨n,a,b,rfl,rfl⟩:=wV_ok h;exact within98_call n a b U
   ·split at h
    ·rename_i e;subst e
     unfold mayV at h
     split at h
     ·cases h;exact may_all _ _ _ U
     ·cases h
    ·cases h⟩
attribute [go_sem] w9 w9get wV mayV
theorem andB{n a b:Int}(h:inB n a b=true):a<=n/\n<=b:=by
 simpa [inB]using h
def addNo(Q:QV)(flow rate room now:Int):Int:=
 if(inB flow 0 2147483647&&(inB rate 1 1000000&&inB room 0 1000000000))=false\/inB now 0 2147483647=false then 2 else if(Q.F flow).isSome then 210 else if 32<=Q.nf then 3 else 0
theorem qadd_no{U:St}{b:QB}{Q:QV}(H:QAt U b Q)(flow rate room now:Int)(h:addNo Q flow rate room now≠0):
  DCall Tryz.prog 32 [.pointer (some ⟨b.q,0,none⟩),.int .i64 flow,.int .i64 rate,.int .i64 room,.int .i64 now] U (.ret (.int .i64 (addNo Q flow rate room now))) U []:=by
 have gq:=H.gq
 obtain⟨es,ck,gf,hki,hlk,hlen,hbr⟩:=H.mf
 have hq:b.q<U.next:=H.lt _ (by simp [QB.core])
 have hfm:b.fm<U.next:=H.lt _ (by simp [QB.core])
 refine pure_call (enter (p:=w9) Tryz.func32 rfl stat32 ?_) rfl
 simp only[go_sem,seval,opLen,callW,undef,Tryz.f32]
 refine enscope w9 32 (by kernel_rfl) ?_
 simp only[go_sem,seval,opLen,callW,undef]
 refine .of (qnone_call gq) ?_
 unfold addNo at h ⊢
 obtain⟨b1,h1⟩:∃b,(inB flow 0 2147483647&&(inB rate 1 1000000&&inB room 0 1000000000))=b:=⟨_,rfl⟩
 obtain⟨b2,h2⟩:∃b,inB now 0 2147483647=b:=⟨_,rfl⟩
 rw[h1,h2]at h ⊢
 cases b1 with
 |false=>
  simp only[go_sem,seval,opLen,callW,undef,h1,true_or,if_true]
  refine enscope w9 32 (by kernel_rfl) ?_
  simp only[go_sem,seval,opLen,callW,undef]
 |true=>cases b2 with
  |false=>
   simp only[go_sem,seval,opLen,callW,undef,h1,h2,or_true,if_true]
   refine enscope w9 32 (by kernel_rfl) ?_
   simp only[go_sem,seval,opLen,callW,undef]
  |true=>
   cases hF:Q.F flow with
   |some x=>
    obtain⟨j,e,hfind,hev,_,_⟩:=findV_some und2' (i:=0) (v:=ptrOf x) hki ((hlk flow).trans (by show(Q.F flow).map ptrOf=_;rw[hF];rfl))
    simp only[go_sem,seval,opLen,callW,undef,h1,h2,gq,gf,hfind,hev,ptrOf,und2',reduceCtorEq,or_self,if_false,Option.isSome_some,if_true]
    refine enscope w9 32 (by kernel_rfl) ?_
    simp only[go_sem,seval,opLen,callW,undef]
   |none=>
    have hfind:=findV_none und2' (i:=0) hki ((hlk flow).trans (by show(Q.F flow).map ptrOf=none;rw[hF];rfl))
    rw[hF]at h
    by_cases hn:32<=Q.nf
    ·have hn':(32:Int)<=es.length:=by omega
     simp only[go_sem,seval,opLen,callW,undef,h1,h2,gq,gf,hfind,hn',und2',reduceCtorEq,or_self,if_false,Option.isSome_none,Bool.false_eq_true,hn,if_true]
     refine enscope w9 32 (by kernel_rfl) ?_
     simp only[go_sem,seval,opLen,callW,undef]
    ·simp [hn]at h
def putNo(Q:QV)(id flow size now:Int):Int:=
 if inB id 0 4611686018427387904=false\/inB flow 0 2147483647=false\/inB size 1 2000=false\/inB now 0 2147483647=false then 2
 else match Q.F flow with
  |none=>5
  |some x=>if(Q.P id).isSome then 210 else if x.room - x.bytes<size then 230 else if 50000<=Q.np then 3 else 0
theorem putNo_arg{Q:QV}{id flow size now:Int}(h:inB id 0 4611686018427387904=false\/inB flow 0 2147483647=false\/inB size 1 2000=false\/inB now 0 2147483647=false):putNo Q id flow size now=2:=if_pos h
theorem qput_no{U:St}{b:QB}{Q:QV}(H:QAt U b Q)(id flow size now:Int)(hr:∀x,Q.F flow=some x->(0<=x.room/\x.room<=1000000000)/\(-100000000<=x.bytes/\x.bytes<=100000000))(h:putNo Q id flow size now≠0):
  DCall Tryz.prog 33 [.pointer (some ⟨b.q,0,none⟩),.agg ⟨[.int .i64 id,.int .i64 flow,.int .i64 size]⟩,.int .i64 now] U (.ret (.tuple ⟨[.agg ⟨[.int .i64 0,.int .i64 0]⟩,.int .i64 (putNo Q id flow size now)]⟩)) U []:=by
 have gq:=H.gq
 obtain⟨es,ck,gf,hki,hlk,hlen,hbr⟩:=H.mf
 obtain⟨ep,cp,gp,hkp,hlp,hlenp,hbp⟩:=H.mp
 have hq:b.q<U.next:=H.lt _ (by simp [QB.core])
 have hfm:b.fm<U.next:=H.lt _ (by simp [QB.core])
 have hpm:b.pm<U.next:=H.lt _ (by simp [QB.core])
 have ne:=H.ne
 refine pure_call (enter (p:=w9) Tryz.func33 rfl stat33 ?_) rfl
 simp only[go_sem,seval,opLen,callW,undef,Tryz.f33]
 refine .of (qnone_call (q:=b.q) (by simp only[go_sem,seval,opLen,hq,gq];rfl)) ?_
 obtain⟨b1,h1⟩:∃b,inB id 0 4611686018427387904=b:=⟨_,rfl⟩
 obtain⟨b2,h2⟩:∃b,inB flow 0 2147483647=b:=⟨_,rfl⟩
 obtain⟨b3,h3⟩:∃b,inB size 1 2000=b:=⟨_,rfl⟩
 obtain⟨b4,h4⟩:∃b,inB now 0 2147483647=b:=⟨_,rfl⟩
 cases hF:Q.F flow with
 |none=>
  have hfind:=findV_none und2' (i:=0) hki ((hlk flow).trans (by show(Q.F flow).map ptrOf=none;rw[hF];rfl))
  cases hP:Q.P id with
  |none=>
   have hfindp:=findV_none und2' (i:=0) hkp ((hlp id).trans (by show(Q.P id).map (packOf id)=none;rw[hP];rfl))
   by_cases c1:b1=false
   ·rw[putNo_arg (by simp [h1,h2,h3,h4,c1])]
    subst c1
    simp only[go_sem,seval,opLen,callW,undef,gq,gf,gp,hq,hfm,hpm,hfind,hfindp,und2',zerosN,h1]
   obtain rfl:b1=true:=by simpa using c1
   by_cases c2:b2=false
   ·rw[putNo_arg (by simp [h1,h2,h3,h4,c2])]
    subst c2
    simp only[go_sem,seval,opLen,callW,undef,gq,gf,gp,hq,hfm,hpm,hfind,hfindp,und2',zerosN,h1,h2]
   obtain rfl:b2=true:=by simpa using c2
   by_cases c3:b3=false
   ·rw[putNo_arg (by simp [h1,h2,h3,h4,c3])]
    subst c3
    simp only[go_sem,seval,opLen,callW,undef,gq,gf,gp,hq,hfm,hpm,hfind,hfindp,und2',zerosN,h1,h2,h3]
   obtain rfl:b3=true:=by simpa using c3
   by_cases c4:b4=false
   ·rw[putNo_arg (by simp [h1,h2,h3,h4,c4])]
    subst c4
    simp only[go_sem,seval,opLen,callW,undef,gq,gf,gp,hq,hfm,hpm,hfind,hfindp,und2',zerosN,h1,h2,h3,h4]
   obtain rfl:b4=true:=by simpa using c4
   have e:putNo Q id flow size now=5:=by unfold putNo;rw[h1,h2,h3,h4,hF];simp
   rw[e]
   simp only[go_sem,seval,opLen,callW,undef,gq,gf,gp,hq,hfm,hpm,hfind,hfindp,und2',zerosN,h1,h2,h3,h4]
  |some pp=>
   obtain⟨jp,ep',hfindp,hevp,hjp,hkeyp⟩:=findV_some und2' (i:=0) (v:=packOf id pp) hkp ((hlp id).trans (by show(Q.P id).map (packOf id)=_;rw[hP];rfl))
   by_cases c1:b1=false
   ·rw[putNo_arg (by simp [h1,h2,h3,h4,c1])]
    subst c1
    simp only[go_sem,seval,opLen,callW,undef,gq,gf,gp,hq,hfm,hpm,hfind,hfindp,und2',zerosN,hevp,packOf,h1]
   obtain rfl:b1=true:=by simpa using c1
   by_cases c2:b2=false
   ·rw[putNo_arg (by simp [h1,h2,h3,h4,c2])]
    subst c2
    simp only[go_sem,seval,opLen,callW,undef,gq,gf,gp,hq,hfm,hpm,hfind,hfindp,und2',zerosN,hevp,packOf,h1,h2]
   obtain rfl:b2=true:=by simpa using c2
   by_cases c3:b3=false
   ·rw[putNo_arg (by simp [h1,h2,h3,h4,c3])]
    subst c3
    simp only[go_sem,seval,opLen,callW,undef,gq,gf,gp,hq,hfm,hpm,hfind,hfindp,und2',zerosN,hevp,packOf,h1,h2,h3]
   obtain rfl:b3=true:=by simpa using c3
   by_cases c4:b4=false
   ·rw[putNo_arg (by simp [h1,h2,h3,h4,c4])]
    subst c4
    simp only[go_sem,seval,opLen,callW,undef,gq,gf,gp,hq,hfm,hpm,hfind,hfindp,und2',zerosN,hevp,packOf,h1,h2,h3,h4]
   obtain rfl:b4=true:=by simpa using c4
   have e:putNo Q id flow size now=5:=by unfold putNo;rw[h1,h2,h3,h4,hF];simp
   rw[e]
   simp only[go_sem,seval,opLen,callW,undef,gq,gf,gp,hq,hfm,hpm,hfind,hfindp,und2',zerosN,hevp,packOf,h1,h2,h3,h4]
 |some x=>
  obtain⟨j,e,hfind,hev,_,_⟩:=findV_some und2' (i:=0) (v:=ptrOf x) hki ((hlk flow).trans (by show(Q.F flow).map ptrOf=_;rw[hF];rfl))
  cases hP:Q.P id with
  |none=>
   have hfindp:=findV_none und2' (i:=0) hkp ((hlp id).trans (by show(Q.P id).map (packOf id)=none;rw[hP];rfl))
   by_cases c1:b1=false
   ·rw[putNo_arg (by simp [h1,h2,h3,h4,c1])]
    subst c1
    simp only[go_sem,seval,opLen,callW,undef,gq,gf,gp,hq,hfm,hpm,hfind,hfindp,und2',zerosN,hev,ptrOf,h1]
   obtain rfl:b1=true:=by simpa using c1
   by_cases c2:b2=false
   ·rw[putNo_arg (by simp [h1,h2,h3,h4,c2])]
    subst c2
    simp only[go_sem,seval,opLen,callW,undef,gq,gf,gp,hq,hfm,hpm,hfind,hfindp,und2',zerosN,hev,ptrOf,h1,h2]
   obtain rfl:b2=true:=by simpa using c2
   by_cases c3:b3=false
   ·rw[putNo_arg (by simp [h1,h2,h3,h4,c3])]
    subst c3
    simp only[go_sem,seval,opLen,callW,undef,gq,gf,gp,hq,hfm,hpm,hfind,hfindp,und2',zerosN,hev,ptrOf,h1,h2,h3]
   obtain rfl:b3=true:=by simpa using c3
   by_cases c4:b4=false
   ·rw[putNo_arg (by simp [h1,h2,h3,h4,c4])]
    subst c4
    simp only[go_sem,seval,opLen,callW,undef,gq,gf,gp,hq,hfm,hpm,hfind,hfindp,und2',zerosN,hev,ptrOf,h1,h2,h3,h4]
   obtain rfl:b4=true:=by simpa using c4
   obtain⟨⟨r1,r2⟩,r3,r4⟩:=hr x hF
   obtain⟨gx,hxl,hxc⟩:=H.fl flow x hF
   simp only[FlowV.cells]at gx
   have w1:IntKind.i64.wrap (x.room - x.bytes)=x.room - x.bytes:=wrapI (by omega) (by omega)
   by_cases c5:x.room - x.bytes<size
   ·have e:putNo Q id flow size now=230:=by unfold putNo;rw[h1,h2,h3,h4,hF,hP];simp [c5]
    rw[e]
    simp only[go_sem,seval,opLen,callW,undef,gq,gf,gp,hq,hfm,hpm,hfind,hfindp,und2',zerosN,hev,ptrOf,gx,hxl,w1,c5,h1,h2,h3,h4]
   by_cases c6:50000<=Q.np
   ·have e:putNo Q id flow size now=3:=by unfold putNo;rw[h1,h2,h3,h4,hF,hP];simp [c5,c6]
    have hn:(50000:Int)<=ep.length:=by omega
    rw[e]
    simp only[go_sem,seval,opLen,callW,undef,gq,gf,gp,hq,hfm,hpm,hfind,hfindp,und2',zerosN,hev,ptrOf,gx,hxl,w1,c5,hn,h1,h2,h3,h4]
   ·exact absurd (by unfold putNo;rw[h1,h2,h3,h4,hF,hP];simp [c5,c6]) h
  |some pp=>
   obtain⟨jp,ep',hfindp,hevp,hjp,hkeyp⟩:=findV_some und2' (i:=0) (v:=packOf id pp) hkp ((hlp id).trans (by show(Q.P id).map (packOf id)=_;rw[hP];rfl))
   by_cases c1:b1=false
   ·rw[putNo_arg (by simp [h1,h2,h3,h4,c1])]
    subst c1
    simp only[go_sem,seval,opLen,callW,undef,gq,gf,gp,hq,hfm,hpm,hfind,hfindp,und2',zerosN,hev,ptrOf,hevp,packOf,h1]
   obtain rfl:b1=true:=by simpa using c1
   by_cases c2:b2=false
   ·rw[putNo_arg (by simp [h1,h2,h3,h4,c2])]
    subst c2
    simp only[go_sem,seval,opLen,callW,undef,gq,gf,gp,hq,hfm,hpm,hfind,hfindp,und2',zerosN,hev,ptrOf,hevp,packOf,h1,h2]
   obtain rfl:b2=true:=by simpa using c2
   by_cases c3:b3=false
   ·rw[putNo_arg (by simp [h1,h2,h3,h4,c3])]
    subst c3
    simp only[go_sem,seval,opLen,callW,undef,gq,gf,gp,hq,hfm,hpm,hfind,hfindp,und2',zerosN,hev,ptrOf,hevp,packOf,h1,h2,h3]
   obtain rfl:b3=true:=by simpa using c3
   by_cases c4:b4=false
   ·rw[putNo_arg (by simp [h1,h2,h3,h4,c4])]
    subst c4
    simp only[go_sem,seval,opLen,callW,undef,gq,gf,gp,hq,hfm,hpm,hfind,hfindp,und2',zerosN,hev,ptrOf,hevp,packOf,h1,h2,h3,h4]
   obtain rfl:b4=true:=by simpa using c4
   have e:putNo Q id flow size now=210:=by unfold putNo;rw[h1,h2,h3,h4,hF,hP];simp
   rw[e]
   simp only[go_sem,seval,opLen,callW,undef,gq,gf,gp,hq,hfm,hpm,hfind,hfindp,und2',zerosN,hev,ptrOf,hevp,packOf,h1,h2,h3,h4]
def upN(n d:Nat):Nat:=n / d+(if 0<n % d then 1 else 0)
theorem ceil_call{n d:Nat}(hd:0<d)(hd2:d<4000000000000000000)(hn:n<4000000000000000000)(hc:Nat.gcd n d=1)(U:St):DCall Tryz.prog 85 [.agg ⟨[.int .i64 n,.int .i64 d]⟩] U (.ret (.tuple ⟨[.int .i64 (upN n d),.int .i64 0]⟩)) U []:=by
 have k1:okI (n:Int)=true:=by simp only[okI,Bool.and_eq_true,decide_eq_true_eq];omega
 have k2:okI (d:Int)=true:=by simp only[okI,Bool.and_eq_true,decide_eq_true_eq];omega
 have k3:chk (n:Int) (d:Int):=⟨by omega,by omega,by rw[Int.gcd_natCast_natCast];exact hc⟩
 have d0:¬(d:Int)=0:=by omega
 have hdiv:(n:Int).tdiv (d:Int)=((n / d:Nat):Int):=rfl
 have hmod:(n:Int).tmod (d:Int)=((n % d:Nat):Int):=rfl
 have hq:n / d<=n:=Nat.div_le_self _ _
 have hm:n % d<=n:=Nat.mod_le _ _
 have w1:IntKind.i64.wrap ((n / d:Nat):Int)=((n / d:Nat):Int):=wrapIN (by omega)
 have w2:IntKind.i64.wrap ((n % d:Nat):Int)=((n % d:Nat):Int):=wrapIN (by omega)
 have w3:IntKind.i64.wrap (((n / d:Nat):Int)+1)=((n / d+1:Nat):Int):=by
  have:((n / d:Nat):Int)+1=((n / d+1:Nat):Int):=by omega
  rw[this];exact wrapIN (by omega)
 refine pure_call (enter (p:=q8) Tryz.func85 rfl stat85 ?_) rfl
 by_cases h:0<n % d
 ·have c0:(0:Int)<((n % d:Nat):Int):=by omega
  have hu:upN n d=n / d+1:=by unfold upN;rw[if_pos h]
  rw[hu]
  simp only[go_sem,seval,opLen,undef,Tryz.f85,k1,k2,k3,d0,hdiv,hmod,w1,w2,w3,c0]
 ·have c0:¬(0:Int)<((n % d:Nat):Int):=by omega
  have hu:upN n d=n / d:=by unfold upN;rw[if_neg h];rfl
  rw[hu]
  simp only[go_sem,seval,opLen,undef,Tryz.f85,k1,k2,k3,d0,hdiv,hmod,w1,w2,w3,c0]
theorem flow_call{U:St}{b:QB}{Q:QV}(H:QAt U b Q){f:Int}{x:FlowV}(hF:Q.F f=some x):
  DCall Tryz.prog 12 [.pointer (some ⟨b.q,0,none⟩),.int .i64 f] U (.ret (.tuple ⟨[.agg ⟨x.cells f⟩,.bool true]⟩)) U []:=by
 have gq:=H.gq
 obtain⟨es,ck,gf,hki,hlk,hlen,hbr⟩:=H.mf
 obtain⟨gx,hxl,hxc⟩:=H.fl f x hF
 have hq:b.q<U.next:=H.lt _ (by simp [QB.core])
 have hfm:b.fm<U.next:=H.lt _ (by simp [QB.core])
 obtain⟨j,e,hfind,hev,_,_⟩:=findV_some und2' (i:=0) (v:=ptrOf x) hki ((hlk f).trans (by show(Q.F f).map ptrOf=_;rw[hF];rfl))
 simp only[FlowV.cells]at gx ⊢
 refine pure_call (enter (p:=q8) Tryz.func12 rfl stat12 ?_) rfl
 simp only[go_sem,seval,opLen,undef,zerosN,Tryz.f12]
 refine .of (qnone_call (q:=b.q) (by simp only[go_sem,seval,opLen,hq,gq];rfl)) ?_
 simp only[go_sem,seval,opLen,undef,zerosN,ptrOf,gq,gf,gx,hq,hfm,hxl,hfind,hev,und2']
theorem until_call{U:St}{B:PB}{S:PV}(H:PAt U B S){f:Int}{x:FlowV}(hF:S.Q.F f=some x){n d now:Nat}(hn:x.n=n)(hd:x.d=d)(hnow:S.now=(now:Nat))(hd0:0<d)(hd2:d<4000000000000000000)(hn2:n<4000000000000000000)(hc:Nat.gcd n d=1):
  DCall Tryz.prog 52 [.pointer (some ⟨B.p,0,none⟩),.int .i64 f] U (.ret (.int .i64 (max (upN n d) now:Nat))) U []:=by
 have gp:=H.gp
 have hp:=H.lt
 have hfl:=flow_call H.q hF
 simp only[FlowV.cells,hn,hd]at hfl
 have hmx:opMax (.int .i64 ((upN n d:Nat):Int)) (.int .i64 ((now:Nat):Int))=some (.val (.int .i64 ((max (upN n d) now:Nat):Int)) []):=by
  by_cases h:(now:Int)<((upN n d:Nat):Int)
  ·have e:max (upN n d) now=upN n d:=Nat.max_eq_left (by omega)
   rw[e];unfold opMax;simp;omega
  ·have e:max (upN n d) now=now:=Nat.max_eq_right (by omega)
   rw[e];unfold opMax;simp;omega
 rw[hnow]at gp
 refine pure_call (enter (p:=q8) Tryz.func52 rfl stat52 ?_) rfl
 simp only[go_sem,seval,opLen,undef,zerosN,Tryz.f52,gp]
 refine .of hfl ?_
 simp only[go_sem,seval,opLen,undef,zerosN,gp]
 refine .of (ceil_call hd0 hd2 hn2 hc _) ?_
 simp only[go_sem,seval,opLen,undef,zerosN,gp,hp,hmx]
theorem now_call{U:St}{B:PB}{S:PV}(H:PAt U B S):DCall Tryz.prog 18 [.pointer (some ⟨B.p,0,none⟩)] U (.ret (.int .i64 S.now)) U []:=by
 have gp:=H.gp
 refine pure_call (enter (p:=q8) Tryz.func18 rfl stat18 ?_) rfl
 simp only[go_sem,seval,opLen,undef,Tryz.f18]
 refine .of (pnone_call gp) ?_
 simp only[go_sem,seval,opLen,undef,gp]
def mayB(flow rate room:Int):Bool:=inB flow 0 2147483647&&(inB rate 1 1000000&&inB room 0 1000000000)
def setNo(Q:QV)(flow rate room:Int):Int:=if mayB flow rate room=false then 2 else if(Q.F flow).isSome then 0 else 5
def setV(Q:QV)(flow rate room up:Int)(x:FlowV):QV:={Q with F:=updF Q.F flow (some {x with rate:=rate,room:=room,n:=up,d:=1})}
def SetR(U:St)(b:QB)(Q:QV)(flow rate room up:Int)(x:FlowV)(U':St)(l:Log):Prop:=(∀c∈l,c=x.blk\/U.next<=c)/\QAt U' b (setV Q flow rate room up x)
theorem qset_no{U:St}{b:QB}{Q:QV}(H:QAt U b Q)(flow rate room:Int)(h:setNo Q flow rate room≠0):
  DCall Tryz.prog 38 [.pointer (some ⟨b.q,0,none⟩),.int .i64 flow,.int .i64 rate,.int .i64 room] U (.ret (.int .i64 (setNo Q flow rate room))) U []:=by
 have gq:=H.gq
 obtain⟨es,ck,gf,hki,hlk,hlen,hbr⟩:=H.mf
 have hq:b.q<U.next:=H.lt _ (by simp [QB.core])
 have hfm:b.fm<U.next:=H.lt _ (by simp [QB.core])
 refine pure_call (enter (p:=w9) Tryz.func38 rfl stat38 ?_) rfl
 simp only[go_sem,seval,opLen,callW,undef,Tryz.f38]
 refine .of (qnone_call gq) ?_
 unfold setNo mayB at h ⊢
 obtain⟨b1,h1⟩:∃b,(inB flow 0 2147483647&&(inB rate 1 1000000&&inB room 0 1000000000))=b:=⟨_,rfl⟩
 rw[h1]at h ⊢
 cases hF:Q.F flow with
 |some x=>
  obtain⟨j,e,hfind,hev,_,_⟩:=findV_some und2' (i:=0) (v:=ptrOf x) hki ((hlk flow).trans (by show(Q.F flow).map ptrOf=_;rw[hF];rfl))
  cases b1 with
  |false=>simp only[go_sem,seval,opLen,callW,undef,h1,gq,gf,hq,hfm,hfind,hev,ptrOf,und2',if_true]
  |true=>rw[hF]at h;simp at h
 |none=>
  have hfind:=findV_none und2' (i:=0) hki ((hlk flow).trans (by show(Q.F flow).map ptrOf=none;rw[hF];rfl))
  cases b1 with
  |false=>simp only[go_sem,seval,opLen,callW,undef,h1,gq,gf,hq,hfm,hfind,und2',if_true]
  |true=>simp only[go_sem,seval,opLen,callW,undef,h1,gq,gf,hq,hfm,hfind,und2',if_false,Option.isSome_none,Bool.false_eq_true,reduceCtorEq]
theorem qset_call{U:St}{b:QB}{Q:QV}(H:QAt U b Q)(flow rate room:Int){x:FlowV}(hF:Q.F flow=some x)(hm:mayB flow rate room=true){n d:Nat}(hn:x.n=n)(hd:x.d=d)(hd0:0<d)(hd2:d<4000000000000000000)(hn2:n<4000000000000000000)(hc:Nat.gcd n d=1):
  callX Tryz.prog 38 [.pointer (some ⟨b.q,0,none⟩),.int .i64 flow,.int .i64 rate,.int .i64 room] U λe U' l=>e=.ret (.int .i64 0)/\SetR U b Q flow rate room (upN n d:Nat) x U' l:=by
 have gq:=H.gq
 obtain⟨es,ck,gf,hki,hlk,hlen,hbr⟩:=H.mf
 obtain⟨gx,hxl,hxc⟩:=H.fl flow x hF
 have hq:b.q<U.next:=H.lt _ (by simp [QB.core])
 have hfm:b.fm<U.next:=H.lt _ (by simp [QB.core])
 obtain⟨j,e,hfind,hev,_,_⟩:=findV_some und2' (i:=0) (v:=ptrOf x) hki ((hlk flow).trans (by show(Q.F flow).map ptrOf=_;rw[hF];rfl))
 simp only[FlowV.cells,hn,hd]at gx
 unfold mayB at hm
 refine enter (p:=w9) Tryz.func38 rfl stat38 ?_
 simp only[go_sem,seval,opLen,callW,undef,Tryz.f38]
 refine .of (qnone_call gq) ?_
 simp only[go_sem,seval,opLen,callW,undef,hm,gq,gf,gx,hq,hfm,hxl,hfind,hev,ptrOf,und2']
 refine .of (ceil_call hd0 hd2 hn2 hc _) ?_
 simp only[go_sem,seval,opLen,callW,undef,gq,gf,gx,hq,hfm,hxl]
 refine .of (whole_call' _ _) ?_
 simp only[go_sem,seval,opLen,callW,undef,gq,gf,gx,hq,hfm,hxl]
 refine⟨λc hc=>by simp only[List.mem_cons,List.not_mem_nil,or_false]at hc;rcases hc with h|h|h<;>exact .inl h,?_⟩
 have key:∀c,¬x.blk=c->∀o1 o2 o3,(((U.set x.blk o1).set x.blk o2).set x.blk o3).get c=U.get c:=λc h o1 o2 o3=>by
  rw[St.get_set,if_neg h,St.get_set,if_neg h,St.get_set,if_neg h]
 refine H.change (x':={x with rate:=rate,room:=room,n:=(upN n d:Nat),d:=1}) (A':=b.A) (P':=Q.P) (np':=Q.np) (L':=Q.L) (t':=Q.t) hF rfl ?_ (λc hc=>.inl hc) (λc c1 c2 c3 c4=>key c c2 _ _ _) (Nat.le_refl _) (by rw[St.get_set,if_pos rfl];rfl) ?_
 ·refine H.hx.keep (Nat.le_refl _) λc hc=>key c (λe=>hxc ?_) _ _ _
  rw[e]
  simp only[QB.core,List.mem_cons]at hc ⊢
  rcases hc with h|h|h<;>simp [h]
 ·exact H.mp.keep (key _ (λe=>hxc (by simp [QB.core,e])) _ _ _)
theorem flow_none{U:St}{b:QB}{Q:QV}(H:QAt U b Q){f:Int}(hF:Q.F f=none):
  DCall Tryz.prog 12 [.pointer (some ⟨b.q,0,none⟩),.int .i64 f] U (.ret (.tuple ⟨[.agg ⟨[.int .i64 0,.int .i64 0,.int .i64 0,.int .i64 0,.int .i64 0,.int .i64 0]⟩,.bool false]⟩)) U []:=by
 have gq:=H.gq
 obtain⟨es,ck,gf,hki,hlk,hlen,hbr⟩:=H.mf
 have hq:b.q<U.next:=H.lt _ (by simp [QB.core])
 have hfm:b.fm<U.next:=H.lt _ (by simp [QB.core])
 have hfind:=findV_none und2' (i:=0) hki ((hlk f).trans (by show(Q.F f).map ptrOf=none;rw[hF];rfl))
 refine pure_call (enter (p:=q8) Tryz.func12 rfl stat12 ?_) rfl
 simp only[go_sem,seval,opLen,undef,zerosN,Tryz.f12]
 refine .of (qnone_call (q:=b.q) (by simp only[go_sem,seval,opLen,hq,gq];rfl)) ?_
 simp only[go_sem,seval,opLen,undef,zerosN,gq,gf,hq,hfm,hfind,und2']
theorem until_none{U:St}{B:PB}{S:PV}(H:PAt U B S){f:Int}(hF:S.Q.F f=none):DCall Tryz.prog 52 [.pointer (some ⟨B.p,0,none⟩),.int .i64 f] U (.ret (.int .i64 0)) U []:=by
 have gp:=H.gp
 have hp:=H.lt
 refine pure_call (enter (p:=q8) Tryz.func52 rfl stat52 ?_) rfl
 simp only[go_sem,seval,opLen,undef,zerosN,Tryz.f52,gp]
 refine .of (flow_none H.q hF) ?_
 simp only[go_sem,seval,opLen,undef,zerosN,gp,hp]
theorem padd_no{U:St}{B:PB}{S:PV}(H:PAt U B S)(flow rate room:Int)(h:addNo S.Q flow rate room S.now≠0):
  DCall Tryz.prog 19 [.pointer (some ⟨B.p,0,none⟩),.int .i64 flow,.int .i64 rate,.int .i64 room] U (.ret (.int .i64 (addNo S.Q flow rate room S.now))) U []:=by
 have gp:=H.gp
 have hp:=H.lt
 refine pure_call (enter (p:=q8) Tryz.func19 rfl stat19 ?_) rfl
 simp only[go_sem,seval,opLen,undef,Tryz.f19]
 refine .of (pnone_call gp) ?_
 simp only[go_sem,seval,opLen,undef,gp,hp]
 refine .of (qadd_no H.q flow rate room S.now h) ?_
 simp only[go_sem,seval,opLen,undef,gp,hp]
theorem pset_no{U:St}{B:PB}{S:PV}(H:PAt U B S)(flow rate room:Int)(h:setNo S.Q flow rate room≠0){u:Int}(hu:DCall Tryz.prog 52 [.pointer (some ⟨B.p,0,none⟩),.int .i64 flow] U (.ret (.int .i64 u)) U []):
  DCall Tryz.prog 60 [.pointer (some ⟨B.p,0,none⟩),.int .i64 flow,.int .i64 rate,.int .i64 room] U (.ret (.tuple ⟨[.int .i64 0,.int .i64 (setNo S.Q flow rate room)]⟩)) U []:=by
 have gp:=H.gp
 have hp:=H.lt
 have h0:(setNo S.Q flow rate room != 0)=true:=by simpa using h
 refine pure_call (enter (p:=q8) Tryz.func60 rfl stat60 ?_) rfl
 simp only[go_sem,seval,opLen,undef,Tryz.f60]
 refine .of (pnone_call gp) ?_
 simp only[go_sem,seval,opLen,undef,gp,hp]
 refine .of hu ?_
 simp only[go_sem,seval,opLen,undef,gp,hp]
 refine .of (qset_no H.q flow rate room h) ?_
 simp only[go_sem,seval,opLen,undef,h0]
def PSetR(U:St)(B:PB)(S:PV)(flow rate room up:Int)(x:FlowV)(U':St)(lg:Log):Prop:=(∀z∈lg,PFoot B S.Q z\/U.next<=z)/\PAt U' B {S with Q:=setV S.Q flow rate room up x}
theorem pset_call{U:St}{B:PB}{S:PV}(H:PAt U B S)(flow rate room:Int){x:FlowV}(hF:S.Q.F flow=some x)(hm:mayB flow rate room=true){n d now:Nat}(hn:x.n=n)(hd:x.d=d)(hnow:S.now=(now:Nat))(hd0:0<d)(hd2:d<4000000000000000000)(hn2:n<4000000000000000000)(hc:Nat.gcd n d=1):
  callX Tryz.prog 60 [.pointer (some ⟨B.p,0,none⟩),.int .i64 flow,.int .i64 rate,.int .i64 room] U λe U' lg=>e=.ret (.tuple ⟨[.int .i64 (max (upN n d) now:Nat),.int .i64 0]⟩)/\PSetR U B S flow rate room (upN n d:Nat) x U' lg:=by
 have gp:=H.gp
 have hp:=H.lt
 refine enter (p:=q8) Tryz.func60 rfl stat60 ?_
 simp only[go_sem,seval,opLen,undef,Tryz.f60]
 refine .of (pnone_call gp) ?_
 simp only[go_sem,seval,opLen,undef,gp,hp]
 refine .of (until_call H hF hn hd hnow hd0 hd2 hn2 hc) ?_
 simp only[go_sem,seval,opLen,undef,gp,hp]
 refine callX.hid (qset_call H.q flow rate room hF hm hn hd hd0 hd2 hn2 hc) ?_
 intro U1 lg1 hlg1 hA
 obtain⟨h1,hq⟩:=hA
 refine⟨?_⟩
 simp only[go_sem,seval,opLen,undef]
 have h1':∀z∈lg1,Foot B.b S.Q z\/U.next<=z:=λz hz=>(h1 z hz).imp (λe=>.inr ⟨flow,x,hF,e.symm⟩) id
 refine⟨λz hz=>(h1' z hz).imp (λh=>.inr (.inr (.inr (.inr h)))) id,H.queue (b':=B.b) hlg1.1 (λc hc hn=>hlg1.2 c hc λhm=>by
  rcases h1' c hm with h|h
  ·exact hn h
  ·omega) hq rfl λc hc=>?_⟩
 rcases hc with hc|⟨k,z,hz,rfl⟩
 ·exact .inl (.inl hc)
 ·have e:updF S.Q.F flow (some {x with rate:=rate,room:=room,n:=(upN n d:Nat),d:=1}) k=some z:=hz
  by_cases hk:k=flow
  ·subst hk
   rw[updF_same]at e
   cases e
   exact .inl (.inr ⟨k,x,hF,rfl⟩)
  ·rw[updF_other _ _ hk]at e
   exact .inl (.inr ⟨k,z,e,rfl⟩)
theorem pprom_thick{U:St}{B:PB}{S:PV}(H:PAt U B S)(id flow size:Int)(h:S.most<size):
  DCall Tryz.prog 21 [.pointer (some ⟨B.p,0,none⟩),.agg ⟨[.int .i64 id,.int .i64 flow,.int .i64 size]⟩] U (.ret (.tuple ⟨[.agg ⟨[.int .i64 0,.int .i64 0]⟩,.int .i64 2]⟩)) U []:=by
 have gp:=H.gp
 have hp:=H.lt
 refine pure_call (enter (p:=q8) Tryz.func21 rfl stat21 ?_) rfl
 simp only[go_sem,seval,opLen,undef,zerosN,Tryz.f21]
 refine .of (pnone_call (p:=B.p) (by simp only[go_sem,seval,opLen,hp,gp];rfl)) ?_
 simp only[go_sem,seval,opLen,undef,zerosN,gp,hp,h]
theorem pprom_no{U:St}{B:PB}{S:PV}(H:PAt U B S)(id flow size:Int)(hm:¬S.most<size)(hr:∀x,S.Q.F flow=some x->(0<=x.room/\x.room<=1000000000)/\(-100000000<=x.bytes/\x.bytes<=100000000))(h:putNo S.Q id flow size S.now≠0):
  DCall Tryz.prog 21 [.pointer (some ⟨B.p,0,none⟩),.agg ⟨[.int .i64 id,.int .i64 flow,.int .i64 size]⟩] U (.ret (.tuple ⟨[.agg ⟨[.int .i64 0,.int .i64 0]⟩,.int .i64 (putNo S.Q id flow size S.now)]⟩)) U []:=by
 have gp:=H.gp
 have hp:=H.lt
 refine pure_call (enter (p:=q8) Tryz.func21 rfl stat21 ?_) rfl
 simp only[go_sem,seval,opLen,undef,zerosN,Tryz.f21]
 refine .of (pnone_call (p:=B.p) (by simp only[go_sem,seval,opLen,hp,gp];rfl)) ?_
 simp only[go_sem,seval,opLen,undef,zerosN,gp,hp,hm]
 refine .of (qput_no (H.q.keep (by simp only[go_sem,seval,opLen]<;>omega) λc hc=>?_) id flow size S.now hr h) ?_
 ·have:=H.q.in_lt hc
  simp only[go_sem,seval,opLen,this]
 simp only[go_sem,seval,opLen,undef,zerosN,gp,hp]
def fitB(id flow size:Int):Bool:=inB id 0 4611686018427387904&&(inB flow 0 2147483647&&inB size 1 2000)
theorem lput_arg{U:St}{l r:Nat}{V:LV}(H:LAt U l r V)(id flow size:Int)(h:fitB id flow size=false):
  DCall Tryz.prog 53 [.pointer (some ⟨l,0,none⟩),.agg ⟨[.int .i64 id,.int .i64 flow,.int .i64 size]⟩] U (.ret (.int .i64 2)) U []:=by
 obtain⟨R,f,sp,gl,gr,hR,hRs⟩:=H.core
 have hl:=H.lt.1
 obtain⟨b1,h1⟩:∃b,inB id 0 4611686018427387904=b:=⟨_,rfl⟩
 obtain⟨b2,h2⟩:∃b,inB flow 0 2147483647=b:=⟨_,rfl⟩
 obtain⟨b3,h3⟩:∃b,inB size 1 2000=b:=⟨_,rfl⟩
 unfold fitB at h
 rw[h1,h2,h3]at h
 refine pure_call (enter (p:=w9) Tryz.func53 rfl stat53 ?_) rfl
 simp only[go_sem,seval,opLen,callW,undef,Tryz.f53]
 refine .of (lnone_call (l:=l) (by simp only[go_sem,seval,opLen,hl,gl];rfl)) ?_
 cases b1 with
 |false=>simp only[go_sem,seval,opLen,callW,undef,h1]
 |true=>cases b2 with
  |false=>simp only[go_sem,seval,opLen,callW,undef,h1,h2]
  |true=>cases b3 with
   |false=>simp only[go_sem,seval,opLen,callW,undef,h1,h2,h3]
   |true=>cases h
theorem pput_thick{U:St}{B:PB}{S:PV}(H:PAt U B S)(id flow size:Int)(h:S.most<size):
  DCall Tryz.prog 22 [.pointer (some ⟨B.p,0,none⟩),.agg ⟨[.int .i64 id,.int .i64 flow,.int .i64 size]⟩] U (.ret (.int .i64 2)) U []:=by
 have gp:=H.gp
 have hp:=H.lt
 refine pure_call (enter (p:=q8) Tryz.func22 rfl stat22 ?_) rfl
 simp only[go_sem,seval,opLen,undef,Tryz.f22]
 refine .of (pnone_call (p:=B.p) (by simp only[go_sem,seval,opLen,hp,gp];rfl)) ?_
 simp only[go_sem,seval,opLen,undef,gp,hp,h]
theorem pput_arg{U:St}{B:PB}{S:PV}(H:PAt U B S)(id flow size:Int)(hm:¬S.most<size)(h:fitB id flow size=false):
  DCall Tryz.prog 22 [.pointer (some ⟨B.p,0,none⟩),.agg ⟨[.int .i64 id,.int .i64 flow,.int .i64 size]⟩] U (.ret (.int .i64 2)) U []:=by
 have gp:=H.gp
 have hp:=H.lt
 have hll:=H.l.lt
 refine pure_call (enter (p:=q8) Tryz.func22 rfl stat22 ?_) rfl
 simp only[go_sem,seval,opLen,undef,Tryz.f22]
 refine .of (pnone_call (p:=B.p) (by simp only[go_sem,seval,opLen,hp,gp];rfl)) ?_
 simp only[go_sem,seval,opLen,undef,gp,hp,hm]
 refine .of (lput_arg (H.l.keep (by simp only[go_sem,seval,opLen]) (by simp only[go_sem,seval,opLen,hll.1]) (by simp only[go_sem,seval,opLen,hll.2])) id flow size h) ?_
 simp only[go_sem,seval,opLen,undef,gp,hp]
theorem one_cellsP:∀L:List Pk,oneCells (cellsP L)=true:=oneCells_pk
theorem pclone_call{U:St}{r sp n:Nat}{R:List Pk}(gr:U.get r=some (.cells (cellsP R) false))(hr:r<U.next)(hn:R.length=n)(h0:0<n)(hn2:n<1000000):
  DCall Tryz.prog 121 [.slice (some ⟨r,0,some sp⟩) n n] U (.ret (.slice (some ⟨U.next+1,0,some 5⟩) n n)) ((U.new (.cells [] false)).new (.cells (cellsP R) false)) []:=by
 have na:¬U.next=r:=by omega
 have l0:¬R.length=0:=by omega
 have A1:∀U:St,∀b,U.get b=some (.cells [] false)->U.get r=some (.cells (cellsP R) false)->opAppend (cP Tryz.prog).T U 59 59 (.slice (some ⟨b,0,some 0⟩) 0 0) (.slice (some ⟨r,0,some sp⟩) n n)=some (.new (.cells (cellsP R) false) (.slice (some ⟨U.next,0,some 5⟩) n n) [b,r]):=λU b hb hg=>by
  subst hn
  have m4:¬R.length*3=0:=by omega
  have l3:¬4294967296<=R.length:=by omega
  have lx:R.length*3<=(cellsP R).length:=by rw[cellsP_length];omega
  have tk:(cellsP R).take (R.length*3)=cellsP R:=List.take_of_length_le (by rw[cellsP_length];omega)
  have on:=one_cellsP R
  have lc:(cellsP R).length=3*R.length:=cellsP_length R
  have e:R.length*3<=3*R.length:=by omega
  have h1:R≠[]:=λh=>l0 (by rw[h];rfl)
  simp only[opAppend,und168,inf54,srcLen,Tryz.t33,srcCells,hb,hg]
  simp [isSeqD,plain,plainL,vcells,l3,l0,m4,lx,tk,on,lc,e,h1]
 have key:callX Tryz.prog 121 [.slice (some ⟨r,0,some sp⟩) n n] U λe U' lg=>e=.ret (.slice (some ⟨U.next+1,0,some 5⟩) n n)/\U'=(U.new (.cells [] false)).new (.cells (cellsP R) false)/\lg=[]:=by
  refine enter (p:=q8) Tryz.func121 rfl stat121 ?_
  simp only[go_sem,seval,opLen,undef,zerosN,Tryz.f121,gr,hr,na,A1]
 obtain⟨e,U',lg,d,rfl,rfl,rfl⟩:=key
 exact d
def LCopyR(U:St)(V:LV)(e:AE)(U':St)(lg:Log):Prop:=∃l r,e=.ret (.pointer (some ⟨l,0,none⟩))/\(∀z∈lg,U.next<=z)/\U.next<=l/\U.next<=r/\LAt U' l r V
theorem lcopy_call{U:St}{l r:Nat}{V:LV}(H:LAt U l r V):callX Tryz.prog 72 [.pointer (some ⟨l,0,none⟩)] U (LCopyR U V):=by
 obtain⟨R,f,sp,gl,gr,hR,hRs⟩:=H.core
 have hl:=H.lt.1
 have hrr:=H.lt.2
 have h0:0<R.length:=by have:=hR.lt;omega
 refine enter (p:=q8) Tryz.func72 rfl stat72 ?_
 simp only[go_sem,seval,opLen,undef,zerosN,Tryz.f72]
 refine .of (lnone_call gl) ?_
 simp only[go_sem,seval,opLen,undef,zerosN,gl,hl]
 refine .of (pclone_call (r:=r) (R:=R) (sp:=sp) ?_ ?_ rfl h0 hRs) ?_
 ·simp only[go_sem,seval,opLen,hrr];exact gr
 ·simp only[go_sem,seval,opLen]<;>omega
 simp only[go_sem,seval,opLen,undef,zerosN,gl,hl]
 refine⟨U.next,U.next+2,rfl,λz hz=>?_,Nat.le_refl _,by omega,⟨R,f,5,?_,?_,hR,hRs⟩,by omega,?_⟩
 ·simp only[List.mem_append,List.mem_cons,List.not_mem_nil,or_false,false_or]at hz
  omega
 ·simp only[go_sem,seval,opLen]
 ·simp only[go_sem,seval,opLen]
 ·simp only[go_sem,seval,opLen]<;>omega
theorem pline_call{U:St}{B:PB}{S:PV}(H:PAt U B S):callX Tryz.prog 68 [.pointer (some ⟨B.p,0,none⟩)] U (LCopyR U S.V):=by
 have gp:=H.gp
 have hp:=H.lt
 refine enter (p:=q8) Tryz.func68 rfl stat68 ?_
 simp only[go_sem,seval,opLen,undef,zerosN,Tryz.f68]
 refine .of (pnone_call gp) ?_
 simp only[go_sem,seval,opLen,undef,zerosN,gp,hp]
 refine callX.hidE (lcopy_call H.l) ?_
 intro e U1 lg1 hlg1 hA
 obtain⟨l,r,rfl,h1,h2,h3,h4⟩:=hA
 refine⟨?_⟩
 simp only[go_sem,seval,opLen,undef,zerosN]
 exact⟨l,r,rfl,by simpa using h1,h2,h3,h4⟩
theorem extMC:extAt 142=some .clone:=by kernel_rfl
theorem cE_extMC:cE.T.ext 142=some .clone:=(withExt_ext _ _ 142).trans extMC
theorem nobodyMC:(cP Tryz.prog).bodies 142=false:=by kernel_rfl
theorem mclone_call{U:St}{m ck:Nat}{es:List MapEntry}(gm:U.get m=some (.map es ck))(hm:m<U.next):DCall Tryz.prog 152 [.map (some m)] U (.ret (.map (some U.next))) (U.new (.map es ck)) []:=by
 have key:callX Tryz.prog 152 [.map (some m)] U λe U' lg=>e=.ret (.map (some U.next))/\U'=U.new (.map es ck)/\lg=[]:=by
  refine callX.enter (p:=q0) (bt:=btAll 152) cE_ok mixed Tryz.func152 rfl stat152 ?_
  simp only[go_sem,seval,opLen,callW,q0,undef,cE_und,cE_info,cE_flat,cE_bodies,cE_extMC,nobodyMC,extA,isIfaceD,opTypeAssert,Bool.false_eq_true,gm,hm,Tryz.f152]
 obtain⟨e,U',lg,d,rfl,rfl,rfl⟩:=key
 exact d
theorem pmclone_call{U:St}{m ck:Nat}{es:List MapEntry}(gm:U.get m=some (.map es ck))(hm:m<U.next):DCall Tryz.prog 93 [.map (some m)] U (.ret (.map (some U.next))) (U.new (.map es ck)) []:=by
 have key:callX Tryz.prog 93 [.map (some m)] U λe U' lg=>e=.ret (.map (some U.next))/\U'=U.new (.map es ck)/\lg=[]:=by
  refine callX.enter (p:=q0) (bt:=btAll 93) cE_ok mixed Tryz.func93 rfl stat93 ?_
  simp only[go_sem,seval,opLen,callW,q0,undef,cE_und,cE_info,cE_flat,cE_bodies,cE_extMC,nobodyMC,extA,isIfaceD,opTypeAssert,Bool.false_eq_true,gm,hm,Tryz.f93]
 obtain⟨e,U',lg,d,rfl,rfl,rfl⟩:=key
 exact d
theorem one_cellsL:∀L:List Item,oneCells (cellsL L)=true
 |[]=>rfl
 |x :: L=>by
  have:=one_cellsL L
  simp only[cellsL,Item.cells,List.cons_append,List.nil_append,oneCells,this,Bool.and_self]
theorem und165:(cP Tryz.prog).T.und 165=some (.slice 159):=(cx_und 165).trans Tryz.underlying165
theorem inf159:(cP Tryz.prog).T.info 159=some Tryz.t159:=(cx_info 159).trans info159
theorem iclone_call{U:St}{a s cap:Nat}{L:List Item}{G:List Value}(ga:U.get a=some (.cells (cellsL L++G) false))(ha:a<U.next)(hL:L.length<1000000):
  ∃wa wl wc U',DCall Tryz.prog 153 [.slice (some ⟨a,0,some s⟩) L.length cap] U (.ret (.slice wa wl wc)) U' []:=by
 have key:callX Tryz.prog 153 [.slice (some ⟨a,0,some s⟩) L.length cap] U λe U' lg=>(∃wa wl wc,e=.ret (.slice wa wl wc))/\lg=[]:=by
  have na:¬U.next=a:=by omega
  by_cases h0:L=[]
  ·have l0:L.length=0:=by rw[h0];rfl
   have A1:∀U:St,∀b,opAppend (cP Tryz.prog).T U 165 165 (.slice (some ⟨b,0,some 0⟩) 0 0) (.slice (some ⟨a,0,some s⟩) L.length cap)=some (.val (.slice (some ⟨b,0,some 0⟩) 0 0) []):=λU b=>by
    rw[l0]
    simp only[opAppend,und165,inf159,srcLen,Tryz.t159,srcCells]
    simp [isSeqD,oneCells,plain,plainL,vcells]
   refine enter (p:=q0) Tryz.func153 rfl stat153 ?_
   simp only[go_sem,seval,opLen,callW,q0,undef,zerosN,Tryz.f153,A1]
   exact⟨_,_,_,rfl⟩
  ·have l0:¬L.length=0:=λh=>h0 (List.eq_nil_of_length_eq_zero h)
   have A1:∀U:St,∀b,U.get b=some (.cells [] false)->U.get a=some (.cells (cellsL L++G) false)->opAppend (cP Tryz.prog).T U 165 165 (.slice (some ⟨b,0,some 0⟩) 0 0) (.slice (some ⟨a,0,some s⟩) L.length cap)=some (.new (.cells (cellsL L) false) (.slice (some ⟨U.next,0,some 6⟩) L.length L.length) [b,a]):=λU b hb hg=>by
    have m4:¬L.length*4=0:=by omega
    have l3:¬4294967296<=L.length:=by omega
    have lx:L.length*4<=(cellsL L++G).length:=by rw[List.length_append,cellsL_length];omega
    have tk:(cellsL L++G).take (L.length*4)=cellsL L:=by rw[List.take_append_of_le_length (by rw[cellsL_length];omega),List.take_of_length_le (by rw[cellsL_length];omega)]
    have on:=one_cellsL L
    have lc:(cellsL L).length=4*L.length:=cellsL_length L
    have e:L.length*4<=4*L.length+G.length:=by omega
    simp only[opAppend,und165,inf159,srcLen,Tryz.t159,srcCells,hb,hg]
    simp [isSeqD,plain,plainL,vcells,l3,l0,m4,lx,tk,on,lc,e,h0]
   refine enter (p:=q0) Tryz.func153 rfl stat153 ?_
   simp only[go_sem,seval,opLen,callW,q0,undef,zerosN,Tryz.f153,ga,ha,na,A1]
   exact⟨_,_,_,rfl⟩
 obtain⟨e,U',lg,d,⟨wa,wl,wc,rfl⟩,rfl⟩:=key
 exact⟨wa,wl,wc,U',d⟩
theorem iclone_nil(U:St):DCall Tryz.prog 153 [.slice none 0 0] U (.ret (.slice none 0 0)) U []:=by
 refine pure_call (enter (p:=q0) Tryz.func153 rfl stat153 ?_) rfl
 simp only[go_sem,seval,opLen,callW,q0,undef,Option.isNone_none,Tryz.f153]
def HCopyR(U:St)(e:AE)(_:St)(lg:Log):Prop:=∃h2,e=.ret (.pointer (some ⟨h2,0,none⟩))/\∀z∈lg,U.next<=z
theorem hcopy_call{U:St}{h m:Nat}{A:List Nat}{L:List Item}{t:Int}(H:HX U h m A L t)(hL:L.length<1000000):callX Tryz.prog 110 [.pointer (some ⟨h,0,none⟩)] U (HCopyR U):=by
 obtain⟨sa,sl,sc,es,ck,gh,gm,hh,hm,hcl⟩:∃sa sl sc es ck,U.get h=some (.cells [.map (some m),.slice sa sl sc,.int .i64 t] false)/\U.get m=some (.map es ck)/\h<U.next/\m<U.next/\
   ∃wa wl wc U',DCall Tryz.prog 153 [.slice sa sl sc] (U.new (.map es ck)) (.ret (.slice wa wl wc)) U' []:=by
  rcases H with⟨rfl,rfl,H⟩|⟨a,cap,rfl,H⟩
  ·obtain⟨ck,gm⟩:=H.gm
   exact⟨_,_,_,[],ck,H.gh,gm,H.lt.1,H.lt.2,_,_,_,_,iclone_nil _⟩
  ·obtain⟨f,H1,hi⟩:=H.hs
   obtain⟨es,ck,gm,hkv,hlk⟩:=H1.gm
   obtain⟨G,ga,hG⟩:=H1.ga
   have lt:=H1.lt
   exact⟨_,_,_,es,ck,H1.gh,gm,by omega,by omega,iclone_call (L:=L) (G:=G) (by rw[St.get_new,if_neg (by omega)];exact ga) (by simp;omega) hL⟩
 obtain⟨wa,wl,wc,U2,d2⟩:=hcl
 have n2:=d2.1.1
 have g2:∀c,c<U.next+1->U2.get c=(U.new (.map es ck)).get c:=λc hc=>d2.1.2 c hc (by simp)
 have gh2:U2.get h=some (.cells [.map (some m),.slice sa sl sc,.int .i64 t] false):=(g2 h (by omega)).trans (by rw[St.get_new,if_neg (by omega)];exact gh)
 have hh2:h<U2.next:=by rw[St.next_new]at n2;omega
 refine enter (p:=q0) Tryz.func110 rfl stat110 ?_
 simp only[go_sem,seval,opLen,callW,q0,undef,Tryz.f110]
 refine .of (none_call gh) ?_
 simp only[go_sem,seval,opLen,callW,q0,undef,gh,hh]
 refine .of (mclone_call gm hm) ?_
 simp only[go_sem,seval,opLen,callW,q0,undef,gh,hh]
 refine .of d2 ?_
 simp only[go_sem,seval,opLen,callW,q0,undef,gh2,hh2]
 have q0:¬U.next<=h:=by omega
 have q1:¬U.next+1<=h:=by omega
 exact⟨by simp [q0,q1],⟨_,rfl,λz hz=>by simp at hz⟩⟩
structure FAt(U:St)(q fm:Nat)(F:Int->Option FlowV)(nf:Nat):Prop where
 gq:∃h pm,U.get q=some (.cells [.pointer (some ⟨h,0,none⟩),.map (some fm),.map (some pm)] false)
 mf:MapAt U fm (λk=>(F k).map ptrOf) nf
 fl:∀k x,F k=some x->U.get x.blk=some (.cells (x.cells k) false)/\x.blk<U.next
 lt:q<U.next/\fm<U.next
def keyI(e:MapEntry):Int:=match e.key with|.int _ k=>k|_=>0
theorem KI.key{es:List MapEntry}(h:KI es){e:MapEntry}(he:e∈es):e.key=.int .i64 (keyI e):=by
 obtain⟨k,hk⟩:=h.ints e he
 unfold keyI
 rw[hk]
theorem KI.keys{es:List MapEntry}(h:KI es):(es.map keyI).Nodup:=by
 unfold List.Nodup
 rw[List.pairwise_map]
 exact h.nodup.imp_of_mem λ{a b} ha hb hne e=>hne (by rw[h.key ha,h.key hb,e])
theorem KI.at'{es:List MapEntry}(h:KI es){e:MapEntry}(he:e∈es):lkV es (keyI e)=some e.val:=lkV_of_key h e he (h.key he)
theorem KI.mem{es:List MapEntry}:KI es->∀{k:Int} {v:Value},lkV es k=some v->k∈es.map keyI:=λh=>by
 intro k v hk
 obtain⟨j,e,_,_,h3,h4⟩:=findV_some (T:=⟨λ_=>some {(default:TypeInfo) with desc:=.int .i64},λ_=>none,λ_=>none⟩) (kt:=0) (kk:=.i64) rfl (i:=0) h hk
 refine List.mem_map.2 ⟨e,List.mem_of_getElem? h3,?_⟩
 unfold keyI
 rw[h4]
def copyF(F:Int->Option FlowV)(ks:List Int)(g:Int->Nat)(k:Int):Option FlowV:=if k∈ks then(F k).map λx=>{x with blk:=g k} else none
noncomputable def cpB:Code:=loopOf (Tryz.f57.body.getD .skip)
theorem cpS:statAll (btAll 57) (dropC 1 cpB)=true:=by kernel_rfl
structure FCp(ts:List Value)(c itb:Nat):Prop where
 size:ts.length=41
 t3:lget ts 3=.pointer (some ⟨c,0,none⟩)
 t26:lget ts 26=.pointer (some ⟨itb,0,none⟩)
structure Cp(U0:St)(b:QB)(Q:QV)(es:List MapEntry)(ck c fm2 itb lo:Nat)(seen:List Nat)(ks:List Int)(g:Int->Nat)(U:St):Prop where
 old:∀z,z<U0.next->U.get z=U0.get z
 nx:U0.next<=c/\U0.next<=fm2/\U0.next<=itb/\c<lo/\fm2<lo/\itb<lo/\lo<=U.next/\c≠fm2/\c≠itb/\fm2≠itb
 gc:∃h pm,U.get c=some (.cells [.pointer (some ⟨h,0,none⟩),.map (some fm2),.map (some pm)] false)
 gi:U.get itb=some (.mapIter (some b.fm) ck ⟨seen⟩ ck)
 mf:MapAt U fm2 (λk=>(copyF Q.F ks g k).map ptrOf) ks.length
 fl:∀k∈ks,∀x,Q.F k=some x->U.get (g k)=some (.cells (x.cells k) false)/\lo<=g k/\g k<U.next
 perm:(ks++(leftE seen es).map keyI).Perm (es.map keyI)
def ICp(U0:St)(b:QB)(Q:QV)(es:List MapEntry)(ck c fm2 itb lo:Nat)(seen:List Nat)(ts:List Value)(U:St):Prop:=
 FCp ts c itb/\∃ks g,Cp U0 b Q es ck c fm2 itb lo seen ks g U
def ECp(U0:St)(b:QB)(Q:QV)(es:List MapEntry)(ck c fm2 itb lo:Nat)(x:AX)(fr:Fr)(U:St):Prop:=
 x=.exit 0/\∃ts seen ks g,fr=⟨ts,[]⟩/\FCp ts c itb/\leftE seen es=[]/\Cp U0 b Q es ck c fm2 itb lo seen ks g U
theorem copyF_more{F:Int->Option FlowV}{ks:List Int}{g:Int->Nat}{k:Int}{x:FlowV}{nb:Nat}(hk:F k=some x)(k':Int):copyF F (ks++[k]) (λz=>if z=k then nb else g z) k'=if k'=k then some {x with blk:=nb} else copyF F ks g k':=by
 unfold copyF
 by_cases e:k'=k
 ·subst e
  rw[if_pos (by simp),if_pos rfl,hk]
  simp
 ·rw[if_neg e]
  by_cases h:k'∈ks
  ·rw[if_pos (by simp [h]),if_pos h]
   simp only[e,if_false]
  ·rw[if_neg (by simp [h,e]),if_neg h]
theorem cp_loop{U0:St}{b:QB}{Q:QV}(H:QAt U0 b Q){es:List MapEntry}{ck c fm2 itb lo:Nat}(gf:U0.get b.fm=some (.map es ck))(hki:KI es)(hlk:∀k,lkV es k=(Q.F k).map ptrOf)(hbr:Br es ck):
  ∀seen ts U,ICp U0 b Q es ck c fm2 itb lo seen ts U->loopS Tryz.prog false cpB ⟨ts,[]⟩ U (endL (ECp U0 b Q es ck c fm2 itb lo) λz=>U0.next<=z):=by
 have hfm:b.fm<U0.next:=H.lt _ (by simp [QB.core])
 refine loop_map q8 57 (b:=cpB) (X:=dropC 1 cpB) (m:=b.fm) (itb:=itb) rfl rfl rfl cpS hbr _ _ _ ?_ ?_ ?_
 ·rintro seen ts U ⟨F,ks,g,C⟩
  exact⟨by simp only[go_sem,seval,opLen,F.t26],C.gi,(C.old _ hfm).trans gf⟩
 ·rintro seen ts U e ⟨F,ks,g,C⟩ he
  have e3:=F.t3
  have e26:=F.t26
  have el:=F.size
  have nx:=C.nx
  obtain⟨h2,pm2,gc⟩:=C.gc
  have hem:=(leftE_mem he).1
  have hkey:=hki.key hem
  have hat:=hki.at' hem
  rw[hlk]at hat
  obtain⟨k,hk⟩:∃k,k=keyI e:=⟨_,rfl⟩
  rw[<-hk]at hkey hat
  obtain⟨x,hx,hv⟩:∃x,Q.F k=some x/\e.val=ptrOf x:=by
   cases hF:Q.F k with
   |none=>rw[hF]at hat;cases hat
   |some x=>rw[hF]at hat;exact⟨x,rfl,(Option.some.inj hat).symm⟩
  obtain⟨gx0,hxl,hxc⟩:=H.fl k x hx
  have gx:U.get x.blk=some (.cells (x.cells k) false):=(C.old _ hxl).trans gx0
  have gi':(stepSt U itb b.fm ck seen ck e).get itb=some (.mapIter (some b.fm) ck ⟨seen++[e.born]⟩ ck):=by unfold stepSt;rw[St.get_set,if_pos rfl]
  have gs:∀z,z≠itb->(stepSt U itb b.fm ck seen ck e).get z=U.get z:=λz hz=>by unfold stepSt;rw[St.get_set,if_neg (Ne.symm hz)]
  have gm':(stepSt U itb b.fm ck seen ck e).get b.fm=some (.map es ck):=(gs _ (by omega)).trans ((C.old _ hfm).trans gf)
  have hent:=opEntry_is gi' gm' hbr.1 hem
  rw[hv,hkey]at hent
  have nx1:(stepSt U itb b.fm ck seen ck e).next=U.next:=by unfold stepSt;rfl
  obtain⟨es2,ck2,gf2,hki2,hlk2,hlen2,hbr2⟩:=C.mf
  have hnd:(ks++(leftE seen es).map keyI).Nodup:=C.perm.nodup_iff.2 hki.keys
  have hkn:k∉ks:=λh=>(List.nodup_append.1 hnd).2.2 k h k (by rw[hk];exact List.mem_map_of_mem he) rfl
  have hno:lkV es2 k=none:=by rw[hlk2];show(copyF Q.F ks g k).map ptrOf=none;unfold copyF;rw[if_neg hkn];rfl
  have hfind:=findV_none und2' (i:=0) hki2 hno
  simp only[FlowV.cells]at gx
  have gx':=(gs x.blk (by omega)).trans gx
  have gc':=(gs c (by omega)).trans gc
  have gf2':=(gs fm2 (by omega)).trans gf2
  have hperm:=C.perm
  have hfl:=C.fl
  generalize hs:stepSt U itb b.fm ck seen ck e=U1 at *
  have z1:c<U1.next:=by omega
  have z2:fm2<U1.next:=by omega
  have z3:x.blk<U1.next:=by omega
  have m1:¬fm2=c:=by omega
  have m2:¬U1.next=fm2:=by omega
  simp only[go_sem,seval,opLen,undef,stepTup,zerosN,cpB,dropC,loopOf,Tryz.f57,Option.getD,e3,e26,el,hent,ptrOf,gx',gc',gf2',z1,z2,z3,m1,m2,hfind,und2']
  refine⟨?_,_,e,he,rfl,⟨by simp only[List.length_set,el],by simp only[go_sem,seval,opLen,el,e3],by simp only[go_sem,seval,opLen,el,e26]⟩,ks++[k],(λz=>if z=k then U1.next else g z),?_⟩
  ·omega
  ·have hlow:∀z,z<U1.next->z≠fm2->z≠itb->∀v o,(((U1.new o).set U1.next v).set fm2 (AObj.map (pushE es2 ⟨.int .i64 k,.pointer (some ⟨U1.next,0,none⟩),ck2⟩) (ck2+1))).get z=U.get z:=λz h1 h2 h3 v o=>by
    rw[St.get_set,if_neg (Ne.symm h2),St.get_set,if_neg (by omega),St.get_new,if_neg (by omega)]
    exact gs z h3
   have gfm2:∀v o,(((U1.new o).set U1.next v).set fm2 (AObj.map (pushE es2 ⟨.int .i64 k,.pointer (some ⟨U1.next,0,none⟩),ck2⟩) (ck2+1))).get fm2=some (AObj.map (pushE es2 ⟨.int .i64 k,.pointer (some ⟨U1.next,0,none⟩),ck2⟩) (ck2+1)):=λv o=>by rw[St.get_set,if_pos rfl]
   have hcf:=copyF_more (ks:=ks) (g:=g) (nb:=U1.next) hx
   refine⟨λz hz=>?_,by simp only[go_sem,seval,opLen]<;>omega,⟨h2,pm2,?_⟩,?_,⟨_,_,gfm2 _ _,pushV_KI hki2 hno,λk'=>?_,?_,hbr2.push _ _⟩,λk' hk' y hy=>?_,?_⟩
   ·rw[hlow z (by omega) (by omega) (by omega)];exact C.old z hz
   ·rw[hlow c (by omega) (by omega) (by omega)];exact gc
   ·rw[St.get_set,if_neg (by omega),St.get_set,if_neg (by omega),St.get_new,if_neg (by omega)];exact gi'
   ·rw[pushV_lk hki2 hno]
    show _=(copyF Q.F (ks++[k]) (λz=>if z=k then U1.next else g z) k').map ptrOf
    rw[hcf]
    by_cases e1:k'=k
    ·rw[if_pos e1,if_pos e1];rfl
    ·rw[if_neg e1,if_neg e1,hlk2]
   ·rw[pushV_length,hlen2,List.length_append];rfl
   ·by_cases e1:k'=k
    ·subst e1
     rw[hx]at hy
     cases hy
     simp only[if_true]
     refine⟨?_,by omega,by simp only[go_sem,seval,opLen]<;>omega⟩
     rw[St.get_set,if_neg (by omega),St.get_set,if_pos rfl]
     rfl
    ·simp only[e1,if_false]
     have hk2:k'∈ks:=by
      rcases List.mem_append.1 hk' with h|h
      ·exact h
      ·exact absurd (by simpa using h) e1
     obtain⟨a1,a2,a3⟩:=hfl k' hk2 y hy
     refine⟨?_,a2,by simp only[go_sem,seval,opLen]<;>omega⟩
     rw[hlow (g k') (by omega) (by omega) (by omega)]
     exact a1
   ·refine List.Perm.trans ?_ hperm
    have h1:=(leftE_step hbr.1 he).map keyI
    rw[List.map_cons,<-hk]at h1
    rw[List.append_assoc]
    exact List.Perm.append_left ks h1.symm
 ·rintro seen ts U ⟨F,ks,g,C⟩ hl
  have e3:=F.t3
  have e26:=F.t26
  have el:=F.size
  simp only[go_sem,seval,opLen,undef,stepTup,zerosN,cpB,dropC,loopOf,Tryz.f57,Option.getD,e3,e26,el]
  exact⟨rfl,_,seen,ks,g,rfl,⟨by simp only[List.length_set,el],by simp only[go_sem,seval,opLen,el,e3],by simp only[go_sem,seval,opLen,el,e26]⟩,hl,C⟩
theorem leftE_nil:∀l:List MapEntry,leftE [] l=l
 |[]=>rfl
 |x :: l=>by show x :: leftE [] l=_;rw[leftE_nil l]
theorem copyF_all{F:Int->Option FlowV}{es:List MapEntry}(hki:KI es)(hlk:∀k,lkV es k=(F k).map ptrOf){ks:List Int}{g:Int->Nat}(hp:ks.Perm (es.map keyI))(k:Int):copyF F ks g k=(F k).map λx=>{x with blk:=g k}:=by
 unfold copyF
 by_cases h:k∈ks
 ·rw[if_pos h]
 ·rw[if_neg h]
  cases hF:F k with
  |none=>rfl
  |some x=>
   have:=hki.mem (k:=k) (v:=ptrOf x) (by rw[hlk,hF];rfl)
   exact absurd (hp.mem_iff.2 this) h
def QCopyR(U:St)(Q:QV)(e:AE)(U':St)(lg:Log):Prop:=
 ∃q2 fm2,∃g:Int->Nat,e=.ret (.pointer (some ⟨q2,0,none⟩))/\(∀z∈lg,U.next<=z)/\FAt U' q2 fm2 (λk=>(Q.F k).map λx=>{x with blk:=g k}) Q.nf
theorem qcopy_call{U:St}{b:QB}{Q:QV}(H:QAt U b Q)(hL:Q.L.length<1000000):callN Tryz.prog 57 [.pointer (some ⟨b.q,0,none⟩)] U (QCopyR U Q):=by
 have gq:=H.gq
 obtain⟨es,ck,gf,hki,hlk,hlen,hbr⟩:=H.mf
 have hlk:∀k,lkV es k=(Q.F k).map ptrOf:=hlk
 obtain⟨ep,cp,gp,hkp,hlp,hlenp,hbp⟩:=H.mp
 have hq:b.q<U.next:=H.lt _ (by simp [QB.core])
 have hfm:b.fm<U.next:=H.lt _ (by simp [QB.core])
 have hpm:b.pm<U.next:=H.lt _ (by simp [QB.core])
 refine enterS (p:=q8) Tryz.func57 rfl stat57 ?_
 simp only[go_sem,seval,opLen,callNW,undef,Tryz.f57]
 refine callN.d (qnone_call gq) ?_
 simp only[go_sem,seval,opLen,callNW,undef,gq,hq]
 refine callX.hidE (hcopy_call H.hx hL) ?_
 intro e U1 lg1 hlg1 hA
 obtain⟨h2,rfl,hB⟩:=hA
 have nx:=hlg1.1
 have kp:∀c,c<U.next->U1.get c=U.get c:=λc hc=>hlg1.2 c hc λhm=>by have:=hB c hm;omega
 have gq1:=(kp _ hq).trans gq
 have gp1:(U1.new (.map [] 0)).get b.pm=some (.map ep cp):=by rw[St.get_new,if_neg (by omega)];exact(kp _ hpm).trans gp
 have hq1:b.q<U1.next:=by omega
 refine⟨?_⟩
 simp only[go_sem,seval,opLen,callNW,undef,gq1,hq1]
 refine .of (pmclone_call gp1 (by simp only[St.next_new];omega)) ?_
 have gf1:=(kp _ hfm).trans gf
 have hfm1:b.fm<U1.next:=by omega
 have an0:(lg1.any λ_=>false)=false:=by simp
 have an1:(lg1.any λc=>c==b.q)=false:=List.any_eq_false.2 λc hc=>by have:=hB c hc;simp;omega
 have q1:¬U.next<=b.q:=by omega
 simp only[go_sem,seval,opLen,callNW,undef,opRange,gq1,hq1,gf1,hfm1,an0,an1,q1]
 refine loop_thenS (cp_loop H gf hki hlk hbr (c:=U1.next+2) (fm2:=U1.next) (itb:=U1.next+3) (lo:=U1.next+4) [] _ _ ⟨⟨rfl,rfl,rfl⟩,[],λ_=>0,?_⟩) ?_
 ·refine⟨λz hz=>?_,by simp only[St.next_new];omega,⟨h2,U1.next+1,?_⟩,?_,⟨[],0,?_,KI.nil,λk=>?_,rfl,Br.nil 0⟩,λk hk=>by simp at hk,?_⟩
  ·rw[St.get_new,if_neg (by simp only[St.next_new];omega),St.get_new,if_neg (by simp only[St.next_new];omega),St.get_new,if_neg (by simp only[St.next_new];omega),St.get_new,if_neg (by omega)]
   exact kp z hz
  ·simp only[go_sem,seval,opLen]
  ·simp only[go_sem,seval,opLen]
  ·simp only[go_sem,seval,opLen]
  ·show none=(copyF Q.F [] _ k).map ptrOf
   unfold copyF
   simp
  ·rw[leftE_nil]
   exact List.Perm.refl _
 intro x fr' U2 lg2 hlg2 hB2 h
 obtain⟨rfl,ts,seen,ks,g,rfl,F,hl,C⟩:=h
 have t3:=F.t3
 have el:=F.size
 simp only[go_sem,seval,opLen,callNW,undef,t3,el,AX.inBlock]
 have hperm:=C.perm
 rw[hl,List.map_nil,List.append_nil]at hperm
 have nx2:=C.nx
 have hall:=copyF_all (F:=Q.F) (g:=g) hki hlk hperm
 refine⟨U1.next+2,U1.next,g,rfl,λz hz=>?_,C.gc,?_,λk y hy=>?_,by omega⟩
 ·simp only[List.mem_append]at hz
  rcases hz with hz|hz
  ·exact hB z hz
  ·exact hB2 z hz
 ·obtain⟨es2,ck2,a1,a2,a3,a4,a5⟩:=C.mf
  refine⟨es2,ck2,a1,a2,λk=>?_,?_,a5⟩
  ·have h3:lkV es2 k=(copyF Q.F ks g k).map ptrOf:=a3 k
   rw[h3,hall]
  ·rw[a4,hperm.length_eq,List.length_map,hlen]
 ·cases hF:Q.F k with
  |none=>rw[hF]at hy;cases hy
  |some x=>
   rw[hF]at hy
   cases hy
   have hk:k∈ks:=hperm.mem_iff.2 (hki.mem (v:=ptrOf x) (by rw[hlk,hF];rfl))
   obtain⟨b1,b2,b3⟩:=C.fl k hk x hF
   exact⟨b1,b3⟩
def ckX(k:Int)(x:FlowV):Ck:=⟨k,x.rate,x.room,x.bytes,x.n,x.d⟩
def ckF(F:Int->Option FlowV)(k:Int):Ck:=match F k with|some x=>ckX k x|none=>⟨0,0,0,0,0,0⟩
theorem ckX_cells(k:Int)(x:FlowV):x.cells k=(ckX k x).cells:=rfl
noncomputable def flB:Code:=loopOf (Tryz.f47.body.getD .skip)
theorem flS:statAll (btAll 47) (dropC 1 flB)=true:=by kernel_rfl
structure FFl(ts:List Value)(itb:Nat)(v:Value):Prop where
 size:ts.length=25
 t3:lget ts 3=v
 t12:lget ts 12=.pointer (some ⟨itb,0,none⟩)
structure Fl(U0:St)(fm:Nat)(F:Int->Option FlowV)(es:List MapEntry)(ck itb lo:Nat)(seen:List Nat)(v:Value)(ks:List Int)(U:St):Prop where
 old:∀z,z<U0.next->U.get z=U0.get z
 nx:U0.next<=itb/\itb<lo/\lo<=U.next
 gi:U.get itb=some (.mapIter (some fm) ck ⟨seen⟩ ck)
 v:ItSK lo U v (ks.map (ckF F))
 perm:(ks++(leftE seen es).map keyI).Perm (es.map keyI)
def IFl(U0:St)(fm:Nat)(F:Int->Option FlowV)(es:List MapEntry)(ck itb lo:Nat)(seen:List Nat)(ts:List Value)(U:St):Prop:=
 ∃v ks,FFl ts itb v/\Fl U0 fm F es ck itb lo seen v ks U
def EFl(U0:St)(fm:Nat)(F:Int->Option FlowV)(es:List MapEntry)(ck itb lo:Nat)(x:AX)(fr:Fr)(U:St):Prop:=
 x=.exit 0/\∃ts seen v ks,fr=⟨ts,[]⟩/\FFl ts itb v/\leftE seen es=[]/\Fl U0 fm F es ck itb lo seen v ks U
theorem fl_loop{U0:St}{q fm:Nat}{F:Int->Option FlowV}{nf:Nat}(H:FAt U0 q fm F nf){es:List MapEntry}{ck itb lo:Nat}(gf:U0.get fm=some (.map es ck))(hki:KI es)(hlk:∀k,lkV es k=(F k).map ptrOf)(hbr:Br es ck)(hL:es.length<=1000000):
  ∀seen ts U,IFl U0 fm F es ck itb lo seen ts U->loopS Tryz.prog false flB ⟨ts,[]⟩ U (endL (EFl U0 fm F es ck itb lo) λz=>U0.next<=z):=by
 have hfm:fm<U0.next:=H.lt.2
 refine loop_map q8 47 (b:=flB) (X:=dropC 1 flB) (m:=fm) (itb:=itb) rfl rfl rfl flS hbr _ _ _ ?_ ?_ ?_
 ·rintro seen ts U ⟨v,ks,F,C⟩
  exact⟨by simp only[go_sem,seval,opLen,F.t12],C.gi,(C.old _ hfm).trans gf⟩
 ·rintro seen ts U e ⟨v,ks,Fr,C⟩ he
  have e3:=Fr.t3
  have e12:=Fr.t12
  have el:=Fr.size
  have nx:=C.nx
  have hem:=(leftE_mem he).1
  have hkey:=hki.key hem
  have hat:=hki.at' hem
  rw[hlk]at hat
  obtain⟨k,hk⟩:∃k,k=keyI e:=⟨_,rfl⟩
  rw[<-hk]at hkey hat
  obtain⟨x,hx,hv⟩:∃x,F k=some x/\e.val=ptrOf x:=by
   cases hF:F k with
   |none=>rw[hF]at hat;cases hat
   |some x=>rw[hF]at hat;exact⟨x,rfl,(Option.some.inj hat).symm⟩
  obtain⟨gx0,hxl⟩:=H.fl k x hx
  have gx:U.get x.blk=some (.cells (x.cells k) false):=(C.old _ hxl).trans gx0
  have gi':(stepSt U itb fm ck seen ck e).get itb=some (.mapIter (some fm) ck ⟨seen++[e.born]⟩ ck):=by unfold stepSt;rw[St.get_set,if_pos rfl]
  have gs:∀z,z≠itb->(stepSt U itb fm ck seen ck e).get z=U.get z:=λz hz=>by unfold stepSt;rw[St.get_set,if_neg (Ne.symm hz)]
  have gm':(stepSt U itb fm ck seen ck e).get fm=some (.map es ck):=(gs _ (by omega)).trans ((C.old _ hfm).trans gf)
  have hent:=opEntry_is gi' gm' hbr.1 hem
  rw[hv,hkey]at hent
  have nx1:(stepSt U itb fm ck seen ck e).next=U.next:=by unfold stepSt;rfl
  have hc:ckF F k=ckX k x:=by unfold ckF;rw[hx]
  have hperm:((ks++[k])++(leftE (seen++[e.born]) es).map keyI).Perm (es.map keyI):=by
   refine List.Perm.trans ?_ C.perm
   have h1:=(leftE_step hbr.1 he).map keyI
   rw[List.map_cons,<-hk]at h1
   rw[List.append_assoc]
   exact List.Perm.append_left ks h1.symm
  have hmap:(ks++[k]).map (ckF F)=ks.map (ckF F)++[ckX k x]:=by rw[List.map_append,<-hc];rfl
  have hD:(ks.map (ckF F)).length<=1000000:=by
   have h1:=C.perm.length_eq
   rw[List.length_append,List.length_map,List.length_map]at h1
   rw[List.length_map];omega
  rw[ckX_cells]at gx
  have hv0:=C.v
  have hold:=C.old
  clear C
  generalize ckX k x=c at *
  generalize hD2:ks.map (ckF F)=D at *
  simp only[Ck.cells]at gx
  have gx':=(gs x.blk (by omega)).trans gx
  generalize hs:stepSt U itb fm ck seen ck e=U1 at *
  have z3:x.blk<U1.next:=by omega
  rcases hv0 with⟨rfl,rfl⟩|⟨a,rfl,ga,ha1,ha2⟩
  ·have hap:∀U:St,∀b,U.get b=some (.cells c.cells false)->opAppend (cP Tryz.prog).T U 26 26 (.slice none 0 0) (.slice (some ⟨b,0,some 0⟩) 1 1)=some (.new (.cells c.cells false) (.slice (some ⟨U.next,0,some 8⟩) 1 1) [b]):=λU b h=>it_firstK h
   simp only[Ck.cells]at hap
   simp only[go_sem,seval,opLen,undef,stepTup,zerosN,flB,dropC,loopOf,Tryz.f47,Option.getD,e3,e12,el,hent,ptrOf,gx',z3,hap]
   refine⟨?_,_,e,he,rfl,.slice (some ⟨U1.next+1,0,some 8⟩) 1 1,ks++[k],⟨by simp only[List.length_set,el],by simp only[go_sem,seval,opLen,el],by simp only[go_sem,seval,opLen,el,e12]⟩,λz hz=>?_,by simp only[go_sem,seval,opLen,St.next_put]<;>omega,?_,.inr ⟨U1.next+1,?_,?_,by omega,by simp only[go_sem,seval,opLen,St.next_put]<;>omega⟩,hperm⟩
   ·omega
   ·have z1:z<U1.next:=by omega
    simp only[go_sem,seval,opLen,z1]
    exact(gs z (by omega)).trans (hold z hz)
   ·have z1:itb<U1.next:=by omega
    simp only[go_sem,seval,opLen,z1]
    exact gi'
   ·rw[hmap];rfl
   ·rw[hmap];simp only[go_sem,seval,opLen,cellsK,Ck.cells,List.nil_append]
  ·have hap:∀U:St,∀b,U.get a=some (.cells (cellsK D) false)->U.get b=some (.cells c.cells false)->opAppend (cP Tryz.prog).T U 26 26 (.slice (some ⟨a,0,some 8⟩) D.length D.length) (.slice (some ⟨b,0,some 0⟩) 1 1)=
     some (.eff (.slice (some ⟨U.next,0,some 8⟩) (D.length+1) (D.length+1)) ((U.new (.cells (cellsK (D++[c])) false)).put a none) [a]):=λU b h1 h2=>it_moreK h1 h2 hD
   have ga':U1.get a=some (.cells (cellsK D) false):=(gs a (by omega)).trans ga
   have z1:a<U1.next:=by omega
   simp only[Ck.cells]at hap
   simp only[go_sem,seval,opLen,undef,stepTup,zerosN,flB,dropC,loopOf,Tryz.f47,Option.getD,e3,e12,el,hent,ptrOf,gx',z3,ga',z1,hap]
   have hdl:(D++[c]).length=D.length+1:=by rw[List.length_append];rfl
   refine⟨?_,_,e,he,rfl,.slice (some ⟨U1.next+1,0,some 8⟩) (D++[c]).length (D++[c]).length,ks++[k],⟨by simp only[List.length_set,el],by rw[hdl];simp only[go_sem,seval,opLen,el],by simp only[go_sem,seval,opLen,el,e12]⟩,λz hz=>?_,by simp only[go_sem,seval,opLen,St.next_put]<;>omega,?_,.inr ⟨U1.next+1,?_,?_,by omega,by simp only[go_sem,seval,opLen,St.next_put]<;>omega⟩,hperm⟩
   ·omega
   ·have z1:z<U1.next:=by omega
    have z2:¬a=z:=by omega
    simp only[go_sem,seval,opLen,z1,z2]
    exact(gs z (by omega)).trans (hold z hz)
   ·have z1:itb<U1.next:=by omega
    have z2:¬a=itb:=by omega
    simp only[go_sem,seval,opLen,z1,z2]
    exact gi'
   ·rw[hmap]
   ·have z2:¬a=U1.next+1:=by omega
    rw[hmap];simp only[go_sem,seval,opLen,z2]
 ·rintro seen ts U ⟨v,ks,Fr,C⟩ hl
  have e3:=Fr.t3
  have e12:=Fr.t12
  have el:=Fr.size
  simp only[go_sem,seval,opLen,undef,stepTup,zerosN,flB,dropC,loopOf,Tryz.f47,Option.getD,e3,e12,el]
  exact⟨rfl,_,seen,v,ks,rfl,⟨by simp only[List.length_set,el],by simp only[go_sem,seval,opLen,el,e3],by simp only[go_sem,seval,opLen,el,e12]⟩,hl,C⟩
def fNo:Value:=.func (.func 96) ⟨[]⟩ ⟨[]⟩
theorem fno_call(x:Ck)(U:St):DCall Tryz.prog 96 [.agg ⟨x.cells⟩] U (.ret (.int .i64 x.flow)) U []:=by
 simp only[Ck.cells]
 refine pure_call (enter (p:=q8) Tryz.func96 rfl stat96 ?_) rfl
 simp only[go_sem,seval,opLen,undef,zerosN,Tryz.f96]
theorem cmpf_call{U:St}{bx:Nat}(gx:U.get bx=some (.cells [fNo] false))(hb:bx<U.next)(x y:Ck):
  DCall Tryz.prog 145 [.agg ⟨x.cells⟩,.agg ⟨y.cells⟩,.pointer (some ⟨bx,0,none⟩)] U (.ret (.int .i64 (cmpI x.flow y.flow))) U []:=by
 have d1:=fno_call x ((U.new (.cells x.cells false)).new (.cells y.cells false))
 have d2:=fno_call y ((U.new (.cells x.cells false)).new (.cells y.cells false))
 unfold fNo at gx
 simp only[Ck.cells]at d1 d2 ⊢
 refine pure_call (enter (p:=q8) Tryz.func145 rfl stat145 ?_) rfl
 simp only[go_sem,seval,opLen,undef,Tryz.f145,gx,hb]
 refine .of d1 ?_
 simp only[go_sem,seval,opLen,undef,Tryz.f145,gx,hb]
 refine .of d2 ?_
 simp only[go_sem,seval,opLen,undef,Tryz.f145,gx,hb]
def ltC(x y:Ck):Bool:=decide (x.flow<y.flow)
theorem swo_ltC:Sort.SWO ltC:=by
 constructor
 ·intro x;simp [ltC]
 ·intro x y z h1 h2;simp only[ltC,decide_eq_true_eq]at *;omega
 ·intro x y z h1 h2;simp only[ltC,decide_eq_false_iff_not]at *;omega
theorem CmpOk.ck{U0:St}{a:Nat}{g:FuncId}{ys:List Value}{lt:Ck->Ck->Bool}{p:Ck->Prop}(hb:(cP Tryz.prog).bodies g=true)
  (hc:∀U,Base U0 a U->∀x y:Ck,p x->p y->∃r:Int,DCall Tryz.prog g (.agg ⟨x.cells⟩ :: .agg ⟨y.cells⟩ :: ys) U (.ret (.int .i64 r)) U []/\decide (r<0)=lt x y):CmpOk U0 a g ys lt p:=⟨hb,hc⟩
theorem no_ok{U U1:St}{bx a:Nat}(gx:U.get bx=some (.cells [fNo] false))(hb:bx<U.next)(hn:U.next<=U1.next)(hg:∀z,z<U.next->U1.get z=U.get z)(ha:U.next<=a):
  CmpOk U1 a 145 [.pointer (some ⟨bx,0,none⟩)] ltC λ_=>True:=
 .ck body145 λU2 hB x y _ _=>⟨_,cmpf_call ((hB.get bx (by omega) (by omega)).trans ((hg bx hb).trans gx)) (by have:=hB.nx;omega) x y,by
  simp only[ltC,cmpI]
  by_cases h:x.flow<y.flow
  ·simp [h]
  ·simp only[h,if_false]
   split<;>simp⟩
theorem valuesK_call(sa:Option Addr)(sl sc:Nat)(U:St):callX Tryz.prog 144 [.slice sa sl sc] U λe U' lg=>e=.ret (.func (.func 179) ⟨[]⟩ ⟨[.pointer (some ⟨U.next,0,none⟩)]⟩)/\(lg=[]/\U'=U.new (.cells [.slice sa sl sc] false)):=by
 refine enter (p:=q8) Tryz.func144 rfl stat144 ?_
 simp only[go_sem,seval,opLen,undef,Tryz.f144]
def OrdK(U:St)(L:List Ck)(e:AE)(U':St)(lg:Log):Prop:=
 ∃w S,e=.ret w/\(∀z∈lg,U.next<=z)/\S.Perm L/\(S.Pairwise λx y=>x.flow<=y.flow)/\ItSK U.next U' w S
theorem orderedK_call{U:St}{lo:Nat}{v:Value}{L:List Ck}(hv:ItVK lo U v L)(hL:L.length<256):
  callX Tryz.prog 95 [v,fNo] U (OrdK U L):=by
 obtain⟨sa,sl,sc,rfl⟩:∃sa sl sc,v=.slice sa sl sc:=by
  rcases hv with⟨rfl,_⟩|⟨a,s,cap,G,rfl,_⟩
  ·exact⟨_,_,_,rfl⟩
  ·exact⟨_,_,_,rfl⟩
 unfold fNo
 refine enter (p:=q8) Tryz.func95 rfl stat95 ?_
 simp only[go_sem,seval,opLen,undef,Tryz.f95]
 refine callX.hidE (valuesK_call sa sl sc _) ?_
 intro e U1 lg1 hlg1 h1
 obtain⟨rfl,rfl,rfl⟩:=h1
 refine⟨?_⟩
 simp only[go_sem,seval,opLen,undef,Tryz.f95]
 have hv':ItVK lo ((U.new (.cells [.func (.func 96) ⟨[]⟩ ⟨[]⟩] false)).new (.cells [.slice sa sl sc] false)) (.slice sa sl sc) L:=by
  rcases hv with h|⟨a,s,cap,G,h1,h2,h3,h4⟩
  ·exact .inl h
  ·refine .inr ⟨a,s,cap,G,h1,?_,h3,by simp;omega⟩
   rw[St.get_new,if_neg (by simp;omega),St.get_new,if_neg (by omega)]
   exact h2
 have hs:=sortedf_callK (lt:=ltC) (p:=λ_=>True) (g:=145) (ys:=[.pointer (some ⟨U.next,0,none⟩)]) (λU1 hn hg a ha=>no_ok (U:=(U.new (.cells [.func (.func 96) ⟨[]⟩ ⟨[]⟩] false)).new (.cells [.slice sa sl sc] false)) (by rw[St.get_new,if_neg (by simp),St.get_new,if_pos rfl];rfl) (by simp;omega) hn hg ha) swo_ltC (c:=U.next+1) (by rw[St.get_new,if_pos (by simp)]) (by simp) hv' hL λ_ _=>trivial
 refine callX.hidE hs ?_
 intro e U2 lg2 hlg2 hA
 obtain⟨w,S,rfl,hB,hP,hS,hw⟩:=hA
 refine⟨?_⟩
 simp only[go_sem,seval,opLen,undef]
 simp only[St.next_new]at hB hw
 refine⟨w,S,rfl,λz hz=>by have:=hB z (by simpa using hz);omega,hP,hS.imp λ{x y} h=>by simp only[ltC,decide_eq_false_iff_not]at h;omega,?_⟩
 rcases hw with h|⟨a,h1,h2,h3,h4⟩
 ·exact .inl h
 ·exact .inr ⟨a,h1,h2,by omega,h4⟩
def FlowsR(U:St)(F:Int->Option FlowV)(nf:Nat)(e:AE)(U':St)(lg:Log):Prop:=
 ∃w,∃S:List Ck,∃ks:List Int,e=.ret w/\(∀z∈lg,U.next<=z)/\S.Perm (ks.map (ckF F))/\ks.Nodup/\ks.length=nf/\(∀k,k∈ks↔(F k).isSome)/\(S.Pairwise λx y=>x.flow<=y.flow)/\ItSK U.next U' w S
theorem KI.memV{es:List MapEntry}(h:KI es){k:Int}(hk:k∈es.map keyI):∃v,lkV es k=some v:=by
 obtain⟨e,he,rfl⟩:=List.mem_map.1 hk
 exact⟨_,h.at' he⟩
theorem flows_call{U:St}{q fm:Nat}{F:Int->Option FlowV}{nf:Nat}(H:FAt U q fm F nf)(hnf:nf<256):callN Tryz.prog 47 [.pointer (some ⟨q,0,none⟩)] U (FlowsR U F nf):=by
 obtain⟨h,pm,gq⟩:=H.gq
 obtain⟨es,ck,gf,hki,hlk,hlen,hbr⟩:=H.mf
 have hlk:∀k,lkV es k=(F k).map ptrOf:=hlk
 have hq:=H.lt.1
 have hfm:=H.lt.2
 refine enterS (p:=q8) Tryz.func47 rfl stat47 ?_
 simp only[go_sem,seval,opLen,callNW,undef,Tryz.f47]
 refine callN.d (qnone_call gq) ?_
 simp only[go_sem,seval,opLen,callNW,undef,opRange,gq,hq,gf,hfm]
 refine loop_thenS (fl_loop H gf hki hlk hbr (by omega) (itb:=U.next) (lo:=U.next+1) [] _ _ ⟨.slice none 0 0,[],⟨rfl,rfl,rfl⟩,λz hz=>?_,by simp only[St.next_new];omega,?_,.inl ⟨rfl,rfl⟩,?_⟩) ?_
 ·simp only[go_sem,seval,opLen,hz]
 ·simp only[go_sem,seval,opLen]
 ·rw[leftE_nil];exact List.Perm.refl _
 intro x fr' U2 lg2 hlg2 hB2 h
 obtain⟨rfl,ts,seen,v,ks,rfl,Fr,hl,C⟩:=h
 have t3:=Fr.t3
 have el:=Fr.size
 have hperm:=C.perm
 rw[hl,List.map_nil,List.append_nil]at hperm
 have nx2:=C.nx
 have hkl:ks.length=nf:=by rw[hperm.length_eq,List.length_map,hlen]
 simp only[go_sem,seval,opLen,callNW,undef,t3,el,AX.inBlock]
 refine callN.one (orderedK_call C.v.v (by rw[List.length_map,hkl];exact hnf)) ?_
 intro e U3 lg3 hlg3 hA
 obtain⟨w,S,rfl,hB3,hP,hS,hw⟩:=hA
 refine⟨?_⟩
 simp only[go_sem,seval,opLen,callNW,undef,t3,el]
 refine⟨w,S,ks,rfl,λz hz=>?_,hP,hperm.nodup_iff.2 hki.keys,hkl,λk=>?_,hS,?_⟩
 ·simp only[List.mem_append,List.mem_cons,List.not_mem_nil,or_false,false_or]at hz
  rcases hz with hz|hz
  ·exact hB2 z hz
  ·have:=hB3 z hz;omega
 ·rw[hperm.mem_iff]
  constructor
  ·intro hk
   obtain⟨v,hv⟩:=hki.memV hk
   rw[hlk]at hv
   cases hF:F k with
   |none=>rw[hF]at hv;cases hv
   |some x=>rfl
  ·intro hk
   obtain⟨x,hx⟩:=Option.isSome_iff_exists.1 hk
   exact hki.mem (v:=ptrOf x) (by rw[hlk,hx];rfl)
 ·rcases hw with h|⟨a,h1,h2,h3,h4⟩
  ·exact .inl h
  ·exact .inr ⟨a,h1,h2,by omega,h4⟩
theorem pqueue_call{U:St}{B:PB}{S:PV}(H:PAt U B S)(hL:S.Q.L.length<1000000):callN Tryz.prog 24 [.pointer (some ⟨B.p,0,none⟩)] U (QCopyR U S.Q):=by
 have gp:=H.gp
 have hp:=H.lt
 refine enterS (p:=q8) Tryz.func24 rfl stat24 ?_
 simp only[go_sem,seval,opLen,callNW,undef,zerosN,Tryz.f24]
 refine callN.d (pnone_call gp) ?_
 simp only[go_sem,seval,opLen,callNW,undef,zerosN,gp,hp]
 refine callN.hidE (qcopy_call H.q hL) ?_
 intro e U1 lg1 hlg1 hA
 obtain⟨q2,fm2,g,rfl,h1,h2⟩:=hA
 refine⟨?_⟩
 simp only[go_sem,seval,opLen,callNW,undef,zerosN]
 exact⟨q2,fm2,g,rfl,by simpa using h1,h2⟩
def leftS(S:PV):Int:=match S.on with|some x=>x.left|none=>0
def bytesS(S:PV):Int:=leftS S+sumP S.V.L+sumQ S.Q
theorem under_call{U:St}{B:PB}{S:PV}(H:PAt U B S):∃(x:Pk) (b:Bool),DCall Tryz.prog 67 [.pointer (some ⟨B.p,0,none⟩)] U (.ret (.tuple ⟨[x.val,.int .i64 (leftS S),.bool b]⟩)) U []:=by
 cases h:S.on with
 |none=>
  have:=under_none H h
  unfold leftS
  rw[h]
  exact⟨_,_,this⟩
 |some x=>
  have:=under_some H h
  unfold leftS
  rw[h]
  exact⟨_,_,this⟩
noncomputable def byB:Code:=loopOf (Tryz.f27.body.getD .skip)
theorem byS:statAll (btAll 27) byB=true:=by kernel_rfl
structure FBy(ts:List Value)(v:Value)(n:Int)(i:Nat):Prop where
 size:ts.length=36
 t4:lget ts 4=.int .i64 n
 t6:lget ts 6=v
 t7:lget ts 7=.int .i64 i
def IBy(v:Value)(n:Int)(S:List Ck)(U0:St)(m:Nat)(fr:Fr)(U:St):Prop:=
 ∃ts,∃i:Nat,fr=⟨ts,[]⟩/\FBy ts v (n+sumB Ck.bytes (S.take i)) i/\m+i=S.length/\U=U0
def EBy(n:Int)(S:List Ck)(x:AX)(fr:Fr)(U:St):Prop:=
 x=.exit 0/\∃ts,fr=⟨ts,[]⟩/\ts.length=36/\lget ts 4=.int .i64 (n+sumB Ck.bytes S)
theorem by_loop{U0:St}{v:Value}{lo:Nat}{S:List Ck}{n:Int}(hv:ItSK lo U0 v S)(hS:S.length<256)(hb:∀x∈S,0<=x.bytes/\x.bytes<=1000000)(hn:0<=n/\n<=1000000):
  ∀m fr U,IBy v n S U0 m fr U->loopS Tryz.prog false byB fr U (endL (EBy n S) λ_=>False):=by
 refine loop_indS q8 27 byS _ _ _ ?_
 rintro m fr U ⟨ts,i,rfl,F,hmi,rfl⟩
 have e4:=F.t4
 have e6:=F.t6
 have e7:=F.t7
 have el:=F.size
 by_cases hi:i<S.length
 ·rcases hv with⟨_,rfl⟩|⟨a,rfl,ga,ha1,ha2⟩
  ·simp at hi
  have c0:(i:Int)<(S.length:Int):=by omega
  have c1:(0:Int)<=(i:Int):=by omega
  have w1:IntKind.i64.wrap ((i:Int)+1)=((i+1:Nat):Int):=by
   have:(i:Int)+1=((i+1:Nat):Int):=by omega
   rw[this];exact wrapIN (by omega)
  have hx:S[i]?=some S[i]:=List.getElem?_eq_getElem hi
  generalize S[i]=x at hx
  have tk:S.take (i+1)=S.take i++[x]:=by rw[List.take_add_one,hx];rfl
  have hs:sumB Ck.bytes (S.take (i+1))=sumB Ck.bytes (S.take i)+x.bytes:=by rw[tk,sumB_append];simp only[sumB];omega
  have b1:=sumB_bound (g:=Ck.bytes) (l:=S.take i) (c:=1000000) λy hy=>hb y (List.mem_of_mem_take hy)
  have b2:=hb x (List.mem_of_getElem? hx)
  have b3:(S.take i).length<=256:=by rw[List.length_take];omega
  have w2:IntKind.i64.wrap (n+sumB Ck.bytes (S.take i)+x.bytes)=n+sumB Ck.bytes (S.take (i+1)):=by
   rw[hs,<-Int.add_assoc];exact wrapI (by omega) (by omega)
  have ex:=cellsK_at (G:=[]) hx
  have ez:lget? (cellsK S) (i*6+3)=some (.int .i64 x.bytes):=by
   rw[List.append_nil]at ex
   have e0:=congrArg (λl:List Value=>l[3]?) ex
   simp only[List.getElem?_take,List.getElem?_drop,Ck.cells]at e0
   rw[lget?_eq]
   exact e0
  simp only[go_sem,seval,opLen,undef,zerosN,byB,loopOf,Tryz.f27,Option.getD,Int.toNat_natCast,e4,e6,e7,el,c0,c1,ga,ha2,ez,w1,w2]
  exact⟨m - 1,by omega,_,i+1,rfl,⟨by simp only[List.length_set,el],by simp only[go_sem,seval,opLen,el],by simp only[go_sem,seval,opLen,el,e6],by simp only[go_sem,seval,opLen,el]⟩,by omega,rfl⟩
 ·have c0:¬(i:Int)<(S.length:Int):=by omega
  obtain rfl:i=S.length:=by omega
  rw[List.take_length]at e4
  have hlen:∀U,opLen (cP Tryz.prog).T U 26 v=some (.val (.int .i64 S.length) []):=λU=>by
   rcases hv with⟨rfl,rfl⟩|⟨a,rfl,_⟩
   ·simp only[opLen,und37wK];rfl
   ·simp only[opLen,und37wK]
  simp only[go_sem,seval,undef,zerosN,byB,loopOf,Tryz.f27,Option.getD,e4,e6,e7,el,c0,hlen]
  exact⟨rfl,_,rfl,by simp only[List.length_set,el],by simp only[go_sem,seval,opLen,el,e4]⟩
theorem sumB_map{α β:Type}(g:β->Int)(h:α->β)(l:List α):sumB g (l.map h)=sumB (λk=>g (h k)) l:=by
 induction l with
 |nil=>rfl
 |cons a l ih=>simp only[List.map_cons,sumB,ih]
structure POk(S:PV)(m:Nat):Prop where
 q:QOk S.Q m
 le:m<=40
 nf:S.Q.nf<256
 sz:∀x∈S.V.L,0<=x.size/\x.size<=2000
 len:S.V.L.length<=m
 on:∀x,S.on=some x->0<=x.left/\x.left<=2000
theorem POk.left{S:PV}{m:Nat}(h:POk S m):0<=leftS S/\leftS S<=2000:=by
 unfold leftS
 split
 ·rename_i x hx;exact h.on x hx
 ·omega
theorem POk.line{S:PV}{m:Nat}(h:POk S m):0<=sumP S.V.L/\sumP S.V.L<=2000*m:=by
 have h1:=sumP_bound _ h.sz
 have h2:=h.len
 omega
theorem bytes_n{U:St}{B:PB}{S:PV}{m:Nat}(H:PAt U B S)(hS:POk S m):callN Tryz.prog 27 [.pointer (some ⟨B.p,0,none⟩)] U λe U' lg=>e=.ret (.int .i64 (bytesS S))/\∀z∈lg,U.next<=z:=by
 have hp:=H.lt
 have hm:=hS.le
 have b1:=hS.left
 have b2:=hS.line
 have hlq:=hS.q.len
 obtain⟨x,b,hu⟩:=under_call H
 simp only[Pk.val,Pk.cells]at hu
 refine enterS (p:=q8) Tryz.func27 rfl stat27 ?_
 simp only[go_sem,seval,opLen,callNW,undef,zerosN,Tryz.f27]
 refine callN.d hu ?_
 simp only[go_sem,seval,opLen,callNW,undef,zerosN]
 obtain⟨Uz,hUz⟩:∃Uz,Uz=((U.new (.cells [.int .i64 0,.int .i64 0,.int .i64 0] false)).set U.next (.cells [.int .i64 x.id,.int .i64 x.flow,.int .i64 x.size] false)):=⟨_,rfl⟩
 have zn:Uz.next=U.next+1:=by rw[hUz];rfl
 have zg:∀c,c<U.next->Uz.get c=U.get c:=λc hc=>by rw[hUz,St.get_set,if_neg (by omega),St.get_new,if_neg (by omega)]
 rw[<-hUz]
 clear hUz
 have Hz:PAt Uz B S:=H.keep (by omega) λc hc=>zg c (H.in_lt hc)
 refine callN.one (pline_call Hz) ?_
 intro e U1 lg1 hlg1 hA
 obtain⟨l,r,rfl,hB1,hl1,hr1,HL⟩:=hA
 refine⟨?_⟩
 simp only[go_sem,seval,opLen,callNW,undef,zerosN]
 refine callN.d (bytes_call HL hS.sz) ?_
 have w1:IntKind.i64.wrap (leftS S+sumP S.V.L)=leftS S+sumP S.V.L:=wrapI (by omega) (by omega)
 have H1:PAt U1 B S:=Hz.keep hlg1.1 λc hc=>hlg1.2 c (Hz.in_lt hc) λhm=>by have:=hB1 c hm;have:=Hz.in_lt hc;omega
 simp only[go_sem,seval,opLen,callNW,undef,zerosN,w1]
 refine callN.hidE (pqueue_call H1 (by omega)) ?_
 intro e U2 lg2 hlg2 hA
 obtain⟨q2,fm2,g,rfl,hB2,HF⟩:=hA
 refine⟨?_⟩
 simp only[go_sem,seval,opLen,callNW,undef,zerosN]
 refine callN.hidE (flows_call HF hS.nf) ?_
 intro e U3 lg3 hlg3 hA
 obtain⟨w,L,ks,rfl,hB3,hP,hnd,hkl,hks,_,hw⟩:=hA
 refine⟨?_⟩
 simp only[go_sem,seval,opLen,callNW,undef,zerosN]
 have n1:=hlg1.1
 have n2:=hlg2.1
 have hks:∀k,k∈ks↔(S.Q.F k).isSome:=λk=>by rw[hks k];simp only[Option.isSome_map]
 have hck:∀k∈ks,(ckF (λk=>(S.Q.F k).map λx=>{x with blk:=g k}) k).bytes=sumF S.Q k:=λk hk=>by
  obtain⟨z,hF⟩:=Option.isSome_iff_exists.1 ((hks k).1 hk)
  unfold ckF
  simp only[hF,Option.map_some]
  exact(hS.q.fl k z hF).2.1
 have hsum:sumB Ck.bytes L=sumQ S.Q:=by
  rw[sumB_perm hP]
  have e1:sumB Ck.bytes (ks.map (ckF λk=>(S.Q.F k).map λx=>{x with blk:=g k}))=sumB (λk=>(ckF (λk=>(S.Q.F k).map λx=>{x with blk:=g k}) k).bytes) ks:=by
   exact sumB_map _ _ ks
  rw[e1,sumB_congr hck]
  exact hS.q.total hnd λk x hx=>(hks k).2 (by rw[hx];rfl)
 have hLl:L.length=S.Q.nf:=by rw[hP.length_eq,List.length_map,hkl]
 refine loop_thenS (by_loop (n:=leftS S+sumP S.V.L) hw (by rw[hLl];exact hS.nf) (λx hx=>?_) (by omega) L.length _ _ ⟨_,0,rfl,⟨rfl,by simp only[List.take_zero,sumB,Int.add_zero];rfl,rfl,rfl⟩,rfl,rfl⟩) ?_
 ·obtain⟨k,hk,rfl⟩:=List.mem_map.1 (hP.mem_iff.1 hx)
  rw[hck k hk]
  have:=hS.q.sumF_bound k
  omega
 intro x fr' U4 lg4 hlg4 hB4 h
 obtain⟨rfl,ts,rfl,el,t4⟩:=h
 have hno:lg4=[]:=List.eq_nil_iff_forall_not_mem.2 hB4
 simp only[go_sem,seval,opLen,callNW,undef,zerosN,t4,el]
 refine⟨by unfold bytesS;rw[hsum],λz hz=>?_⟩
 subst hno
 simp only[List.mem_append,List.mem_cons,List.not_mem_nil,or_false,false_or,List.append_nil]at hz
 have hz2:z∈lg1\/z∈lg2\/z∈lg3:=by
  simpa only[or_assoc]using hz
 rcases hz2 with hz|hz|hz
 ·have:=hB1 z hz;omega
 ·have:=hB2 z hz;omega
 ·have:=hB3 z hz;omega
noncomputable def pdBody:Code:=Tryz.f20.body.getD .skip
noncomputable def pdLoop:Code:=loopOf (nthC 5 pdBody)
structure FPdr(ts:List Value)(p:Nat)(u:Int)(w:Value)(n i:Nat):Prop where
 size:ts.length=47
 t0:lget ts 0=.pointer (some ⟨p,0,none⟩)
 t4:lget ts 4=.int .i64 u
 t5:lget ts 5=.slice none 0 0
 t27:lget ts 27=w
 t28:lget ts 28=.int .i64 n
 t29:lget ts 29=.int .i64 i
def addL(S:PV)(D:List Pk):PV:={S with V:={S.V with L:=S.V.L++D}}
def IPdr(B:PB)(S:PV)(n0 lo:Nat)(u:Int)(w:Value)(Sl:List Pk)(m:Nat)(fr:Fr)(U:St):Prop:=
 ∃ts r',∃i:Nat,fr=⟨ts,[]⟩/\FPdr ts B.p u w Sl.length i/\m+i=Sl.length/\PAt U {B with r:=r'} (addL S (Sl.take i))/\(r'=B.r\/lo<=r')/\lo<=U.next/\
  ((w=.slice none 0 0/\Sl=[])\/∃a,w=.slice (some ⟨a,0,some 5⟩) Sl.length Sl.length/\U.get a=some (.cells (cellsP Sl) false)/\n0<=a/\a<lo)
def EPdr(B:PB)(S:PV)(lo:Nat)(u:Int)(Sl:List Pk)(x:AX)(fr:Fr)(U:St):Prop:=
 x=.exit 0/\∃ts r',fr=⟨ts,[]⟩/\ts.length=47/\lget ts 4=.int .i64 u/\lget ts 5=.slice none 0 0/\PAt U {B with r:=r'} (addL S Sl)/\(r'=B.r\/lo<=r')
def Fits(x:Pk):Prop:=(0<=x.id/\x.id<=4611686018427387904)/\(0<=x.flow/\x.flow<=2147483647)/\(1<=x.size/\x.size<=2000)
theorem pd_loop{B:PB}{S:PV}{n0 lo:Nat}{u:Int}{w:Value}{Sl:List Pk}(hlo:n0<=lo)(hlB:B.l<n0/\B.r<n0)(hfit:∀x∈Sl,Fits x)(hs:∀y∈S.V.L,0<=y.size/\y.size<=2000)(hS:Sl.length<256)(hL:S.V.L.length<200)(hroom:sumP S.V.L+sumP Sl<=S.V.room/\S.V.room<=1000000):
  ∀m fr U,IPdr B S n0 lo u w Sl m fr U->loopX Tryz.prog false pdLoop fr U (endL (EPdr B S lo u Sl) λz=>z=B.l\/z=B.r\/lo<=z):=by
 refine loop_ind q8 20 (by kernel_rfl) _ _ _ ?_
 rintro m fr U ⟨ts,r',i,rfl,F,hmi,H,hr',hn,hw⟩
 have e0:=F.t0
 have e4:=F.t4
 have e5:=F.t5
 have e27:=F.t27
 have e28:=F.t28
 have e29:=F.t29
 have el:=F.size
 by_cases hi:i<Sl.length
 ·have c0:(i:Int)<(Sl.length:Int):=by omega
  have c1:(0:Int)<=(i:Int):=by omega
  have w1:IntKind.i64.wrap ((i:Int)+1)=((i+1:Nat):Int):=by
   have:(i:Int)+1=((i+1:Nat):Int):=by omega
   rw[this];exact wrapIN (by omega)
  have hx:Sl[i]?=some Sl[i]:=List.getElem?_eq_getElem hi
  generalize Sl[i]=x at hx
  have tk:Sl.take (i+1)=Sl.take i++[x]:=by rw[List.take_add_one,hx];rfl
  have hxm:=List.mem_of_getElem? hx
  obtain⟨f1,f2,f3⟩:=hfit x hxm
  rcases hw with⟨_,rfl⟩|⟨a,rfl,ga,ha1,ha2⟩
  ·simp at hi
  have gp:=H.gp
  have hp:=H.lt
  have hll:=H.l.lt
  have ha:a<U.next:=by omega
  have ex:=cellsP_at' hx
  have lx:i*3+3<=(cellsP Sl).length:=by rw[cellsP_length];omega
  simp only[Pk.cells]at ex
  have hsz:∀y∈(addL S (Sl.take i)).V.L,0<=y.size/\y.size<=2000:=λy hy=>by
   rcases List.mem_append.1 (show y∈S.V.L++Sl.take i from hy) with hy|hy
   ·exact hs y hy
   ·have:=(hfit y (List.mem_of_mem_take hy)).2.2;omega
  have hlen:(addL S (Sl.take i)).V.L.length=S.V.L.length+i:=by
   show(S.V.L++Sl.take i).length=_
   rw[List.length_append,List.length_take];omega
  have hsum:sumP (addL S (Sl.take i)).V.L+x.size<=S.V.room:=by
   have h1:sumP (addL S (Sl.take i)).V.L=sumP S.V.L+sumP (Sl.take i):=by show sumP (S.V.L++Sl.take i)=_;rw[sumP_append]
   have h2:sumP (Sl.take i)+x.size<=sumP Sl:=by
    have h3:Sl=Sl.take (i+1)++Sl.drop (i+1):=(List.take_append_drop _ _).symm
    have h4:sumP (Sl.take (i+1))=sumP (Sl.take i)+x.size:=by rw[tk,sumP_append];simp only[sumP];omega
    have h5:0<=sumP (Sl.drop (i+1)):=(sumP_bound _ λy hy=>by
     have:=(hfit y (List.mem_of_mem_drop hy)).2.2;omega).1
    have h6:=congrArg sumP h3
    rw[sumP_append]at h6
    omega
   omega
  simp only[go_sem,seval,opLen,undef,zerosN,pdLoop,pdBody,nthC,loopOf,Tryz.f20,Option.getD,Int.toNat_natCast,e0,e4,e5,e27,e28,e29,el,c0,c1,ga,ha,ex,lx,gp,hp]
  obtain⟨Uz,hUz⟩:∃Uz,Uz=((U.new (.cells [.int .i64 0,.int .i64 0,.int .i64 0] false)).set U.next (.cells [.int .i64 x.id,.int .i64 x.flow,.int .i64 x.size] false)):=⟨_,rfl⟩
  have zn:Uz.next=U.next+1:=by rw[hUz];rfl
  have zg:∀c,c<U.next->Uz.get c=U.get c:=λc hc=>by rw[hUz,St.get_set,if_neg (by omega),St.get_new,if_neg (by omega)]
  have hput:=lput_call (H.l.keep (U':=Uz) (by omega) (zg _ hll.1) (zg _ hll.2)) (x:=x) f1 f2 f3 hsz (by show x.size<=S.V.room - _;omega) (by show _<=S.V.room/\S.V.room<=_;have:=(sumP_bound _ hsz).1;have:=f3.1;omega) (by rw[hlen];omega)
  simp only[Pk.val,Pk.cells]at hput
  rw[<-hUz]
  refine callX.hid hput ?_
  intro U1 lg1 hlg1 hA
  obtain⟨hB,r2,hr2,HL⟩:=hA
  have nx:=hlg1.1
  have hk:∀c,c<U.next->c≠B.l->c≠r'->U1.get c=U.get c:=λc h1 h2 h3=>by
   rw[hlg1.2 c (by omega) λhm=>by
    rcases hB c hm with h|h|h
    ·exact h2 h
    ·exact h3 h
    ·omega,zg c h1]
  refine⟨?_⟩
  simp only[go_sem,seval,opLen,undef,zerosN,e0,e4,e5,e27,e28,e29,el,w1]
  have hr2':r2=r'\/Uz.next<=r2:=hr2
  have h2:=H.line (r':=r2) (by omega) hk HL (hr2'.imp id λh=>by omega)
  refine⟨⟨.inr (.inr (by omega)),λz hz=>?_⟩,m - 1,by omega,_,r2,i+1,rfl,⟨by simp only[List.length_set,el],by simp only[go_sem,seval,opLen,el,e0],by simp only[go_sem,seval,opLen,el,e4],by simp only[go_sem,seval,opLen,el,e5],by simp only[go_sem,seval,opLen,el,e27],by simp only[go_sem,seval,opLen,el,e28],by simp only[go_sem,seval,opLen,el]⟩,by omega,?_,by omega,by omega,.inr ⟨a,rfl,(hk a ha (by omega) (by omega)).trans ga,ha1,ha2⟩⟩
  ·rcases hB z hz with h|h|h
   ·exact .inl h
   ·have h:z=r':=h
    rcases hr' with h'|h'
    ·exact .inr (.inl (h.trans h'))
    ·exact .inr (.inr (by omega))
   ·exact .inr (.inr (by omega))
  ·rw[tk]
   have e:addL S (Sl.take i++[x])={addL S (Sl.take i) with V:={(addL S (Sl.take i)).V with L:=(addL S (Sl.take i)).V.L++[x]}}:=by
    simp only[addL,List.append_assoc]
   rw[e]
   exact h2
 ·have c0:¬(i:Int)<(Sl.length:Int):=by omega
  obtain rfl:i=Sl.length:=by omega
  simp only[go_sem,seval,opLen,undef,zerosN,pdLoop,pdBody,nthC,loopOf,Tryz.f20,Option.getD,e0,e4,e5,e27,e28,e29,el,c0]
  rw[List.take_length]at H
  exact⟨rfl,_,r',rfl,by simp only[List.length_set,el],by simp only[go_sem,seval,opLen,el,e4],by simp only[go_sem,seval,opLen,el,e5],H,hr'⟩
def pdropV(S:PV)(f:Int)(Sl:List Pk)(L':List Item):PV:={S with Q:={dropV S.Q Sl L' with F:=updF S.Q.F f none,nf:=S.Q.nf - 1},V:={S.V with L:=S.V.L++Sl}}
structure PDropped(U:St)(B:PB)(S:PV)(f:Int)(tn:Int->Int)(U':St)(lg:Log)(Sl:List Pk)(L':List Item)(r':Nat):Prop where
 lg:∀z∈lg,PFoot B S.Q z\/U.next<=z
 r:r'=B.r\/U.next<=r'
 at':PAt U' {B with r:=r'} (pdropV S f Sl L')
 left:Left S.Q.L L' Sl
 mem:∀x,x∈Sl↔S.Q.P x.id=some (x.flow,x.size)/\x.flow=f
 nd:(Sl.map Pk.id).Nodup
 ord:Sl.Pairwise λx y=>tn x.id<=tn y.id
 len:Sl.length<256
def PDropR(U:St)(B:PB)(S:PV)(f u:Int)(tn:Int->Int)(e:AE)(U':St)(lg:Log):Prop:=
 ∃Sl L' r',e=.ret (.tuple ⟨[.int .i64 u,.slice none 0 0,.int .i64 0]⟩)/\PDropped U B S f tn U' lg Sl L' r'
theorem pdBody_is:pdBody=.seq (nthC 0 pdBody) (.seq (nthC 1 pdBody) (.seq (nthC 2 pdBody) (.seq (nthC 3 pdBody) (dropC 4 pdBody)))):=by rfl
theorem pdS0:statAll (btAll 20) (nthC 0 pdBody)=true:=by kernel_rfl
theorem pdS1:statAll (btAll 20) (nthC 1 pdBody)=true:=by kernel_rfl
theorem pdS2:statAll (btAll 20) (nthC 2 pdBody)=true:=by kernel_rfl
theorem pdS4:statAll (btAll 20) (dropC 4 pdBody)=true:=by kernel_rfl
theorem pdrop_call{U:St}{B:PB}{S:PV}(H:PAt U B S){f:Int}{xf:FlowV}{tn:Int->Int}(hF:S.Q.F f=some xf)(hnp:S.Q.np<256)(hpl:∀id p,S.Q.P id=some p->∃(n:Nat) (it:Item),S.Q.L[n]?=some it/\it.id=id)(htn:∀it∈S.Q.L,tn it.id=it.turn)(hhp:Hp S.Q.L)
  {n d now:Nat} (hn:xf.n=n) (hd:xf.d=d) (hnow:S.now=(now:Nat)) (hd0:0<d) (hd2:d<4000000000000000000) (hn2:n<4000000000000000000) (hc:Nat.gcd n d=1)
  (hfit:∀x:Pk,S.Q.P x.id=some (x.flow,x.size)->x.flow=f->Fits x) (hs:∀y∈S.V.L,0<=y.size/\y.size<=2000) (hL:S.V.L.length<200) (hroom:∀(Sl:List Pk) (L':List Item),Left S.Q.L L' Sl->(∀x,x∈Sl↔S.Q.P x.id=some (x.flow,x.size)/\x.flow=f)->(Sl.map Pk.id).Nodup->sumP S.V.L+sumP Sl<=S.V.room/\S.V.room<=1000000):
  callN Tryz.prog 20 [.pointer (some ⟨B.p,0,none⟩),.int .i64 f] U (PDropR U B S f (max (upN n d) now:Nat) tn):=by
 have gp:=H.gp
 have hp:=H.lt
 have hlB:=H.l.lt
 refine callN.enter cP_ok Tryz.func20 rfl ?_
 show codeS Tryz.prog false pdBody _ _ _
 rw[pdBody_is]
 refine codeS.pre cP_ok mixed pdS0 (p:=q8) (λfr U Q=>wp (cP Tryz.prog) q8 (btAll 20) false (nthC 1 pdBody) fr U (thenW (λfr U Q=>wp (cP Tryz.prog) q8 (btAll 20) false (nthC 2 pdBody) fr U (thenW (λfr U Q=>codeS Tryz.prog false (nthC 3 pdBody) fr U (thenW (codeS Tryz.prog false (dropC 4 pdBody)) Q)) Q)) Q)) ?_
  (λfr U Q h=>codeS.pre cP_ok mixed pdS1 (p:=q8) _ h λfr U Q h=>codeS.pre cP_ok mixed pdS2 (p:=q8) _ h λfr U Q h=>codeS.seq h)
 generalize hB1:codeS Tryz.prog false (nthC 3 pdBody)=B1
 generalize hB2:codeS Tryz.prog false (dropC 4 pdBody)=B2
 simp only[go_sem,seval,opLen,undef,zerosN,pdBody,nthC,Tryz.f20,Option.getD]
 refine .of (pnone_call gp) ?_
 simp only[go_sem,seval,opLen,undef,zerosN]
 refine .of (until_call H hF hn hd hnow hd0 hd2 hn2 hc) ?_
 simp only[go_sem,seval,opLen,undef,zerosN]
 subst hB1
 simp only[pdBody,nthC,Tryz.f20,Option.getD]
 refine codeS.region cP_ok (p:=q8) ?_
 simp only[go_sem,seval,opLen,undef,zerosN,callNW,gp]
 refine callN.use (drop_call H.q hF hnp hpl htn hhp) ?_
 intro e U1 lg1 hlg1 hR
 obtain⟨w,Sl,L',rfl,D⟩:=hR
 simp only[go_sem,seval,opLen,undef,zerosN]
 subst hB2
 have nx:=hlg1.1
 have k1:∀c,c<U.next->¬Foot B.b S.Q c->U1.get c=U.get c:=λc h1 h2=>hlg1.2 c h1 λhm=>by
  rcases D.lg c hm with h|h
  ·exact h2 h
  ·omega
 have sub:∀c,Foot B.b {dropV S.Q Sl L' with F:=updF S.Q.F f none,nf:=S.Q.nf - 1} c->Foot B.b S.Q c:=λc h=>by
  rcases h with h|⟨k,y,hy,rfl⟩
  ·exact .inl h
  ·have hy:updF S.Q.F f none k=some y:=hy
   by_cases e:k=f
   ·subst e;rw[updF_same]at hy;cases hy
   ·rw[updF_other _ _ e]at hy;exact .inr ⟨k,y,hy,rfl⟩
 have H1:=H.queue nx k1 D.q rfl λc h=>.inl (sub c h)
 obtain⟨sa,rfl,hol⟩:∃sa,w=.slice sa Sl.length Sl.length/\∀U,opLen (cP Tryz.prog).T U 59 (.slice sa Sl.length Sl.length)=some (.val (.int .i64 (Sl.length:Nat)) []):=by
  rcases D.w with⟨rfl,rfl⟩|⟨a,rfl,_⟩
  ·exact⟨_,rfl,λU=>by simp only[opLen,und168];rfl⟩
  ·exact⟨_,rfl,λU=>by simp only[opLen,und168]⟩
 have hSl:=D.len
 refine codeS.of_wp cP_ok mixed pdS4 (p:=q8) ?_
 simp only[go_sem,seval,undef,zerosN,pdBody,dropC,Tryz.f20,Option.getD,hol]
 refine loop_then (pd_loop (B:=B) (S:={S with Q:={dropV S.Q Sl L' with F:=updF S.Q.F f none,nf:=S.Q.nf - 1}}) (n0:=U.next) (lo:=U1.next) (u:=((max (upN n d) now:Nat):Int)) (w:=.slice sa Sl.length Sl.length) (Sl:=Sl) nx hlB (λx hx=>hfit x ((D.mem x).1 hx).1 ((D.mem x).1 hx).2) hs hSl hL (hroom Sl L' D.left D.mem D.nd) Sl.length _ _ ⟨_,B.r,0,rfl,⟨rfl,rfl,rfl,rfl,rfl,rfl,rfl⟩,by omega,?_,.inl rfl,Nat.le_refl _,?_⟩) ?_
 ·have e:addL {S with Q:={dropV S.Q Sl L' with F:=updF S.Q.F f none,nf:=S.Q.nf - 1}} (Sl.take 0)={S with Q:={dropV S.Q Sl L' with F:=updF S.Q.F f none,nf:=S.Q.nf - 1}}:=by simp [addL]
  rw[e]
  exact H1
 ·rcases D.w with h|⟨a,h1,h2,h3,h4⟩
  ·exact .inl h
  ·exact .inr ⟨a,h1,h2,h3,h4⟩
 intro x fr' U2 lg2 hlg2 hB2 h
 obtain⟨rfl,ts2,r',rfl,tl,t4,t5,H2,hr2⟩:=h
 simp only[go_sem,seval,opLen,undef,t4,t5,tl]
 refine⟨Sl,L',r',rfl,⟨λz hz=>?_,hr2.imp id (λh=>by omega),H2,D.left,D.mem,D.nd,D.ord,D.len⟩⟩
 simp only[List.mem_append]at hz
 rcases hz with hz|hz
 ·rcases D.lg z hz with h|h
  ·exact .inl (.inr (.inr (.inr (.inr h))))
  ·exact .inr h
 ·rcases hB2 z hz with h|h|h
  ·exact .inl (.inr (.inl h))
  ·exact .inl (.inr (.inr (.inl h)))
  ·exact .inr (by omega)
theorem qdrop_none{U:St}{b:QB}{Q:QV}(H:QAt U b Q){f:Int}(hF:Q.F f=none):callN Tryz.prog 39 [.pointer (some ⟨b.q,0,none⟩),.int .i64 f] U λe U' lg=>e=.ret (.tuple ⟨[.slice none 0 0,.int .i64 5]⟩)/\∀z∈lg,U.next<=z:=by
 have gq:=H.gq
 have hq:b.q<U.next:=H.lt _ (by simp [QB.core])
 have hfm:b.fm<U.next:=H.lt _ (by simp [QB.core])
 obtain⟨es,ck,gf,hki,hlk,hlen,hbr⟩:=H.mf
 have hno:lkV es f=none:=by rw[hlk];show(Q.F f).map ptrOf=none;rw[hF];rfl
 have hfind:=findV_none und2' (i:=0) hki hno
 refine enterS (p:=q8) Tryz.func39 rfl stat39 ?_
 simp only[go_sem,seval,opLen,callNW,undef,zerosN,Tryz.f39]
 refine callN.d (qnone_call (q:=b.q) (by simp only[go_sem,seval,opLen,hq,gq];rfl)) ?_
 simp only[go_sem,seval,opLen,callNW,undef,zerosN,gq,hq,gf,hfm,hfind,und2']
theorem pdrop_none{U:St}{B:PB}{S:PV}(H:PAt U B S){f:Int}(hF:S.Q.F f=none):callN Tryz.prog 20 [.pointer (some ⟨B.p,0,none⟩),.int .i64 f] U λe U' lg=>e=.ret (.tuple ⟨[.int .i64 0,.slice none 0 0,.int .i64 5]⟩)/\∀z∈lg,U.next<=z:=by
 have gp:=H.gp
 have hp:=H.lt
 refine enterS (p:=q8) Tryz.func20 rfl stat20 ?_
 simp only[go_sem,seval,opLen,callNW,undef,zerosN,Tryz.f20]
 refine callN.d (pnone_call gp) ?_
 simp only[go_sem,seval,opLen,callNW,undef,zerosN,gp,hp]
 refine callN.d (until_none H hF) ?_
 simp only[go_sem,seval,opLen,callNW,undef,zerosN,gp,hp]
 refine callN.hidE (qdrop_none H.q hF) ?_
 intro e U1 lg1 hlg1 hA
 obtain⟨rfl,hB⟩:=hA
 refine⟨?_⟩
 simp only[go_sem,seval,opLen,callNW,undef,zerosN]
 exact λz hz=>hB z (by simpa using hz)
theorem within82_call(n a b:Int)(U:St):DCall Tryz.prog 82 [.int .i64 n,.int .i64 a,.int .i64 b] U (.ret (.bool (decide (a<=n)&&decide (n<=b)))) U []:=by
 refine pure_call (enter (p:=q8) Tryz.func82 rfl stat82 ?_) rfl
 by_cases h:a<=n
 ·simp only[go_sem,seval,opLen,undef,Tryz.f82,h]
 ·simp only[go_sem,seval,opLen,undef,Tryz.f82,h]
def w82get(f:FuncId)(args:List Value):Option Value:=if f=82 then wV args else none
def w82:PureTab Tryz.prog:=⟨w82get,λf args v h U=>by
 unfold w82get at h
 split at h
 ·rename_i e;subst e;obtain⟨n,a,b,rfl,rfl⟩:=wV_ok h;exact within82_call n a b U
 ·cases h⟩
attribute [go_sem] w82 w82get
theorem may81_all(f r m:Int)(U:St):DCall Tryz.prog 81 [.int .i64 f,.int .i64 r,.int .i64 m] U (.ret (.bool (inB f 0 2147483647&&(inB r 1 1000000&&inB m 0 1000000000)))) U []:=by
 refine pure_call (enter (p:=w82) Tryz.func81 rfl stat81 ?_) rfl
 obtain⟨b1,h1⟩:∃b,inB f 0 2147483647=b:=⟨_,rfl⟩
 obtain⟨b2,h2⟩:∃b,inB r 1 1000000=b:=⟨_,rfl⟩
 cases b1 with
 |false=>simp only[go_sem,seval,opLen,callW,undef,Tryz.f81,h1,Bool.false_and]
 |true=>cases b2 with
  |false=>simp only[go_sem,seval,opLen,callW,undef,Tryz.f81,h1,h2,Bool.false_and,Bool.true_and]
  |true=>simp only[go_sem,seval,opLen,callW,undef,Tryz.f81,h1,h2,Bool.true_and]
def w11get(f:FuncId)(args:List Value):Option Value:=if f=82 then wV args else if f=81 then mayV args else none
def w11:PureTab Tryz.prog:=⟨w11get,λf args v h U=>by
 unfold w11get at h
 split at h
 ·rename_i e;subst e;obtain⟨n,a,b,rfl,rfl⟩:=wV_ok h;exact within82_call n a b U
 ·split at h
  ·rename_i e;subst e
   unfold mayV at h
   split at h
   ·cases h;exact may81_all _ _ _ U
   ·cases h
  ·cases h⟩
attribute [go_sem] w11 w11get
def zpL(v:Value):List Value:=[.int .i64 0,.int .i64 0,v,.slice none 0 0,.int .i64 0,.slice none 0 0,.int .i64 0,.int .i64 0,.int .i64 0,.int .i64 0,.int .i64 0,.int .i64 0,.bool false,.int .i64 0,.int .i64 0,.int .i64 0,.int .i64 0]
def nilS:Value:=.slice none 0 0
attribute [go_sem] zpL nilS
theorem zfind(f:Int)(U:St):DCall Tryz.prog 13 [.agg ⟨[.slice none 0 0,.slice none 0 0]⟩,.int .i64 f] U (.ret (.int .i64 (-1))) U []:=by
 refine pure_call (enter (p:=w11) Tryz.func13 rfl stat13 ?_) rfl
 simp only[go_sem,seval,opLen,callW,undef,Tryz.f13]
 refine turn w11 13 (by kernel_rfl) ?_
 simp only[go_sem,seval,opLen,callW,undef,Tryz.f13]
theorem zuntil(f:Int)(U:St):DCall Tryz.prog 112 [.agg ⟨zpL nilS⟩,.int .i64 f] U (.ret (.int .i64 0)) U []:=by
 refine pure_call (enter (p:=w11) Tryz.func112 rfl stat112 ?_) rfl
 simp only[go_sem,seval,opLen,callW,undef,Tryz.f112]
 refine .of (zfind f _) ?_
 simp only[go_sem,seval,opLen,callW,undef,Tryz.f112]
def mayNo(f r m n:Int):Int:=if(inB f 0 2147483647&&(inB r 1 1000000&&inB m 0 1000000000))=true then n else 2
theorem zqset(f r m:Int)(U:St):DCall Tryz.prog 37 [.agg ⟨[.slice none 0 0,.slice none 0 0]⟩,.int .i64 f,.int .i64 r,.int .i64 m] U (.ret (.tuple ⟨[.agg ⟨[.slice none 0 0,.slice none 0 0]⟩,.int .i64 (mayNo f r m 5)]⟩)) U []:=by
 refine pure_call (enter (p:=w11) Tryz.func37 rfl stat37 ?_) rfl
 unfold mayNo
 obtain⟨b,hb⟩:∃b,(inB f 0 2147483647&&(inB r 1 1000000&&inB m 0 1000000000))=b:=⟨_,rfl⟩
 cases b with
 |false=>simp only[go_sem,seval,opLen,callW,undef,zerosN,Tryz.f37,hb]
 |true=>
  simp only[go_sem,seval,opLen,callW,undef,zerosN,Tryz.f37,hb]
  refine .of (zfind f _) ?_
  simp only[go_sem,seval,opLen,callW,undef,zerosN,Tryz.f37,hb]
theorem zset(f r m:Int)(U:St):DCall Tryz.prog 61 [.agg ⟨zpL nilS⟩,.int .i64 f,.int .i64 r,.int .i64 m] U
  (.ret (.tuple ⟨[.agg ⟨zpL nilS⟩,.int .i64 0,.int .i64 (mayNo f r m 5)]⟩)) U []:=by
 refine pure_call (enter (p:=w11) Tryz.func61 rfl stat61 ?_) rfl
 simp only[go_sem,seval,opLen,callW,undef,zerosN,Tryz.f61]
 refine .of (zuntil f _) ?_
 simp only[go_sem,seval,opLen,callW,undef,zerosN,Tryz.f61]
 refine .of (zqset f r m _) ?_
 have h:(mayNo f r m 5 != 0)=true:=by unfold mayNo;split<;>rfl
 simp only[go_sem,seval,opLen,callW,undef,zerosN,Tryz.f61,h]
theorem zqdrop(f:Int)(U:St):DCall Tryz.prog 40 [.agg ⟨[.slice none 0 0,.slice none 0 0]⟩,.int .i64 f] U (.ret (.tuple ⟨[.agg ⟨[.slice none 0 0,.slice none 0 0]⟩,.slice none 0 0,.int .i64 5]⟩)) U []:=by
 refine pure_call (enter (p:=w11) Tryz.func40 rfl stat40 ?_) rfl
 simp only[go_sem,seval,opLen,callW,undef,zerosN,Tryz.f40]
 refine .of (zfind f _) ?_
 simp only[go_sem,seval,opLen,callW,undef,zerosN,Tryz.f40]
theorem zdrop(f:Int)(U:St):DCall Tryz.prog 62 [.agg ⟨zpL nilS⟩,.int .i64 f] U
  (.ret (.tuple ⟨[.agg ⟨zpL nilS⟩,.int .i64 0,.slice none 0 0,.int .i64 5]⟩)) U []:=by
 refine pure_call (enter (p:=w11) Tryz.func62 rfl stat62 ?_) rfl
 simp only[go_sem,seval,opLen,callW,undef,zerosN,Tryz.f62]
 refine .of (zuntil f _) ?_
 simp only[go_sem,seval,opLen,callW,undef,zerosN,Tryz.f62]
 refine .of (zqdrop f _) ?_
 simp only[go_sem,seval,opLen,callW,undef,zerosN,Tryz.f62]
theorem zsame(U:St):DCall Tryz.prog 41 [.slice none 0 0,.slice none 0 0] U (.ret (.bool true)) U []:=by
 refine pure_call (enter (p:=w11) Tryz.func41 rfl stat41 ?_) rfl
 simp only[go_sem,seval,opLen,callW,undef,zerosN,Tryz.f41]
 refine turn w11 41 (by kernel_rfl) ?_
 simp only[go_sem,seval,opLen,callW,undef,Tryz.f41]
theorem apNil(U:St):opAppend (cP Tryz.prog).T U 26 26 (.slice none 0 0) (.slice none 0 0)=some (.val (.slice none 0 0) []):=by
 simp only[opAppend,und37wK,inf31wK,srcLen,Tryz.t40,srcCells]
 simp [isSeqD,oneCells,plain,plainL,vcells]
theorem apSame(U:St)(a:Nat):opAppend (cP Tryz.prog).T U 26 26 (.slice (some ⟨a,0,some 8⟩) 1 1) (.slice none 0 0)=some (.val (.slice (some ⟨a,0,some 8⟩) 1 1) []):=by
 simp only[opAppend,und37wK,inf31wK,srcLen,Tryz.t40,srcCells]
 simp [isSeqD,oneCells,plain,plainL,vcells]
theorem zqset83(f r m n d:Int)(U:St):callX Tryz.prog 83 [.agg ⟨[.slice none 0 0,.slice none 0 0]⟩,.int .i64 (-1),.agg ⟨[.int .i64 f,.int .i64 r,.int .i64 m,.int .i64 0,.int .i64 n,.int .i64 d]⟩] U λe U' lg=>∃sa sl sc,e=.ret (.agg ⟨[.slice sa sl sc,.slice none 0 0]⟩)/\∀z∈lg,U.next<=z:=by
 refine enter (p:=w11) Tryz.func83 rfl stat83 ?_
 have hap:∀U:St,∀b,U.get b=some (.cells [.int .i64 f,.int .i64 r,.int .i64 m,.int .i64 0,.int .i64 n,.int .i64 d] false)->opAppend (cP Tryz.prog).T U 26 26 (.slice none 0 0) (.slice (some ⟨b,0,some 0⟩) 1 1)=some (.new (.cells [.int .i64 f,.int .i64 r,.int .i64 m,.int .i64 0,.int .i64 n,.int .i64 d] false) (.slice (some ⟨U.next,0,some 8⟩) 1 1) [b]):=λU b h=>it_firstK (x:=⟨f,r,m,0,n,d⟩) h
 simp only[go_sem,seval,opLen,callW,undef,zerosN,Tryz.f83,apNil]
 refine turn w11 83 (by kernel_rfl) ?_
 simp only[go_sem,seval,opLen,callW,undef,zerosN,Tryz.f83,apNil,hap,apSame]
 exact⟨_,_,_,rfl⟩
theorem zqadd(f r m:Int)(U:St):callX Tryz.prog 36 [.agg ⟨[.slice none 0 0,.slice none 0 0]⟩,.int .i64 f,.int .i64 r,.int .i64 m,.int .i64 0] U λe U' lg=>∃sa sl sc n,e=.ret (.tuple ⟨[.agg ⟨[.slice sa sl sc,.slice none 0 0]⟩,.int .i64 n]⟩)/\∀z∈lg,U.next<=z:=by
 refine enter (p:=w11) Tryz.func36 rfl stat36 ?_
 obtain⟨b,hb⟩:∃b,(inB f 0 2147483647&&(inB r 1 1000000&&inB m 0 1000000000))=b:=⟨_,rfl⟩
 have h0:inB 0 0 2147483647=true:=rfl
 cases b with
 |false=>
  simp only[go_sem,seval,opLen,callW,undef,zerosN,Tryz.f36,hb,h0]
  exact⟨_,_,_,_,rfl⟩
 |true=>
  simp only[go_sem,seval,opLen,callW,undef,zerosN,Tryz.f36,hb,h0]
  refine .of (zfind f _) ?_
  simp only[go_sem,seval,opLen,callW,undef,zerosN,Tryz.f36,hb,h0]
  refine callX.hidE (zqset83 f r m 0 1 _) ?_
  intro e U1 lg1 hlg1 hA
  obtain⟨sa,sl,sc,rfl,hB⟩:=hA
  have n1:=hlg1.1
  have g10:U1.get (U.next+1)=some (.cells [.slice none 0 0,.slice none 0 0] false):=(hlg1.2 _ (by simp only[St.next_new];omega) λhm=>by have:=hB _ hm;simp only[St.next_new]at this;omega).trans (by simp only[go_sem,seval,opLen])
  have z1:U.next+1<U1.next:=by simp only[St.next_new]at n1;omega
  refine⟨?_⟩
  simp only[go_sem,seval,opLen,callW,undef,zerosN,Tryz.f36,hb,h0,g10,z1]
  simp only[St.next_new]at hB
  exact⟨_,_,_,_,rfl,λz hz=>by rcases hz with hz|hz<;>first|(have:=hB _ hz;omega)|omega⟩
theorem zadd(f r m:Int)(U:St):callX Tryz.prog 59 [.agg ⟨zpL nilS⟩,.int .i64 f,.int .i64 r,.int .i64 m] U λe U' lg=>∃sa sl sc n,e=.ret (.tuple ⟨[.agg ⟨zpL (.slice sa sl sc)⟩,.int .i64 n]⟩)/\∀z∈lg,U.next<=z:=by
 refine enter (p:=w11) Tryz.func59 rfl stat59 ?_
 simp only[go_sem,seval,opLen,callW,undef,zerosN,Tryz.f59]
 refine callX.hidE (zqadd f r m _) ?_
 intro e U1 lg1 hlg1 hA
 obtain⟨sa,sl,sc,n,rfl,hB⟩:=hA
 have n1:=hlg1.1
 have kp:∀c,c<U.next+2->∀v,((U.new (.cells (zpL nilS) false)).new (.cells (zpL nilS) false)).get c=some v->U1.get c=some v:=λc hc v hv=>(hlg1.2 _ (by simp only[St.next_new];omega) λhm=>by have:=hB _ hm;simp only[St.next_new]at this;omega).trans hv
 have g0:=kp U.next (by omega) (.cells (zpL nilS) false) (by simp only[go_sem,seval,opLen])
 have g1:=kp (U.next+1) (by omega) (.cells (zpL nilS) false) (by simp only[go_sem,seval,opLen])
 simp only[St.next_new]at n1 hB
 have z0:U.next<U1.next:=by omega
 have z1:U.next+1<U1.next:=by omega
 have m1:¬U1.next=U.next:=by omega
 have m2:¬U1.next=U.next+1:=by omega
 refine⟨?_⟩
 simp only[go_sem,seval,opLen,callW,undef,zerosN,Tryz.f59,g0,g1,z0,z1,m1,m2]
 exact⟨_,_,_,_,rfl,λz hz=>by rcases hz with(hz|hz)|hz<;>first|(have:=hB _ hz;omega)|omega⟩
theorem zqput(id f s:Int)(hs:s<=0)(U:St):DCall Tryz.prog 42 [.agg ⟨[.slice none 0 0,.slice none 0 0]⟩,.agg ⟨[.int .i64 id,.int .i64 f,.int .i64 s]⟩,.int .i64 0] U (.ret (.tuple ⟨[.agg ⟨[.slice none 0 0,.slice none 0 0]⟩,.agg ⟨[.int .i64 0,.int .i64 0]⟩,.int .i64 2]⟩)) U []:=by
 refine pure_call (enter (p:=w11) Tryz.func42 rfl stat42 ?_) rfl
 have h3:inB s 1 2000=false:=by
  have:¬(1:Int)<=s:=by omega
  simp [inB,this]
 obtain⟨b1,h1⟩:∃b,inB id 0 4611686018427387904=b:=⟨_,rfl⟩
 obtain⟨b2,h2⟩:∃b,inB f 0 2147483647=b:=⟨_,rfl⟩
 cases b1 with
 |false=>simp only[go_sem,seval,opLen,callW,undef,zerosN,Tryz.f42,h1,h3]
 |true=>cases b2 with
  |false=>simp only[go_sem,seval,opLen,callW,undef,zerosN,Tryz.f42,h1,h2,h3]
  |true=>simp only[go_sem,seval,opLen,callW,undef,zerosN,Tryz.f42,h1,h2,h3]
theorem zprom(id f s:Int)(U:St):DCall Tryz.prog 63 [.agg ⟨zpL nilS⟩,.agg ⟨[.int .i64 id,.int .i64 f,.int .i64 s]⟩] U
  (.ret (.tuple ⟨[.agg ⟨zpL nilS⟩,.agg ⟨[.int .i64 0,.int .i64 0]⟩,.int .i64 2]⟩)) U []:=by
 refine pure_call (enter (p:=w11) Tryz.func63 rfl stat63 ?_) rfl
 by_cases hs:0<s
 ·simp only[go_sem,seval,opLen,callW,undef,zerosN,Tryz.f63,hs]
 ·simp only[go_sem,seval,opLen,callW,undef,zerosN,Tryz.f63,hs]
  refine .of (zqput id f s (by omega) _) ?_
  simp only[go_sem,seval,opLen,callW,undef,zerosN,Tryz.f63,hs]
theorem zright(id f s:Int)(hs:s<=0)(U:St):DCall Tryz.prog 154 [.agg ⟨[.int .i64 id,.int .i64 f,.int .i64 s]⟩] U (.ret (.bool false)) U []:=by
 refine pure_call (enter (p:=w11) Tryz.func154 rfl stat154 ?_) rfl
 have h5:¬(1:Int)<=s:=by omega
 by_cases h1:0<=id
 ·by_cases h2:id<=4611686018427387904
  ·by_cases h3:0<=f
   ·by_cases h4:f<=2147483647
    ·simp only[go_sem,seval,opLen,callW,undef,zerosN,Tryz.f154,h1,h2,h3,h4,h5]
    ·simp only[go_sem,seval,opLen,callW,undef,zerosN,Tryz.f154,h1,h2,h3,h4,h5]
   ·simp only[go_sem,seval,opLen,callW,undef,zerosN,Tryz.f154,h1,h2,h3,h5]
  ·simp only[go_sem,seval,opLen,callW,undef,zerosN,Tryz.f154,h1,h2,h5]
 ·simp only[go_sem,seval,opLen,callW,undef,zerosN,Tryz.f154,h1,h5]
theorem zlput(id f s:Int)(hs:s<=0)(U:St):DCall Tryz.prog 113 [.agg ⟨[.int .i64 0,.slice none 0 0,.int .i64 0,.int .i64 0]⟩,.agg ⟨[.int .i64 id,.int .i64 f,.int .i64 s]⟩] U (.ret (.tuple ⟨[.agg ⟨[.int .i64 0,.slice none 0 0,.int .i64 0,.int .i64 0]⟩,.int .i64 2]⟩)) U []:=by
 refine pure_call (enter (p:=w11) Tryz.func113 rfl stat113 ?_) rfl
 simp only[go_sem,seval,opLen,callW,undef,zerosN,Tryz.f113]
 refine .of (zright id f s hs _) ?_
 simp only[go_sem,seval,opLen,callW,undef,zerosN,Tryz.f113]
theorem zput(id f s:Int)(U:St):DCall Tryz.prog 64 [.agg ⟨zpL nilS⟩,.agg ⟨[.int .i64 id,.int .i64 f,.int .i64 s]⟩] U
  (.ret (.tuple ⟨[.agg ⟨zpL nilS⟩,.int .i64 2]⟩)) U []:=by
 refine pure_call (enter (p:=w11) Tryz.func64 rfl stat64 ?_) rfl
 by_cases hs:0<s
 ·simp only[go_sem,seval,opLen,callW,undef,zerosN,Tryz.f64,hs]
 ·simp only[go_sem,seval,opLen,callW,undef,zerosN,Tryz.f64,hs]
  refine .of (zlput id f s (by omega) _) ?_
  simp only[go_sem,seval,opLen,callW,undef,zerosN,Tryz.f64,hs]
structure PI(U:St)(B:PB)(S:PV)(m:Nat)(rate:Int):Prop where
 at':PAt U B S
 q:QOk S.Q m
 nf:S.Q.nf<=m
 sz:∀x∈S.V.L,1<=x.size/\x.size<=2000
 tot:S.V.L.length+S.Q.L.length<=m
 on:∀x,S.on=some x->1<=x.left/\x.left<=2000
 cfg:S.rate=rate/\S.most=2000/\S.V.room=100000
 now:∃n:Nat,S.now=(n:Int)/\7<=n/\n<=7+m
theorem PI.keep{U U':St}{B:PB}{S:PV}{m:Nat}{rate:Int}(H:PI U B S m rate)(hn:U.next<=U'.next)(hg:∀z,z<U.next->U'.get z=U.get z):PI U' B S m rate:=
 {H with at':=H.at'.keep hn λc hc=>hg c (H.at'.in_lt hc)}
theorem PI.mono {U : St} {B : PB} {S : PV} {m : Nat} {rate : Int} (H : PI U B S m rate) : PI U B S (m + 1) rate :=
  { H with
    q := H.q.mono (Nat.le_succ m)
    nf := Nat.le_succ_of_le H.nf
    tot := Nat.le_succ_of_le H.tot
    now := by obtain ⟨n, h1, h2, h3⟩ := H.now; exact ⟨n, h1, h2, by omega⟩ }
theorem PI.ok{U:St}{B:PB}{S:PV}{m:Nat}{rate:Int}(H:PI U B S m rate)(hm:m<=40):POk S m where
 q:=H.q
 le:=hm
 nf:=by have:=H.nf;omega
 sz:=λx hx=>by have:=H.sz x hx;omega
 len:=by have:=H.tot;omega
 on:=λx hx=>by have:=H.on x hx;omega
def PStp(U:St)(B:PB)(S:PV)(m:Nat)(rate:Int)(U':St)(lg:Log):Prop:=
 ∃B' S',PI U' B' S' (m+1) rate/\(∀z∈lg,PFoot B S.Q z\/U.next<=z)/\(∀c,PFoot B' S'.Q c->PFoot B S.Q c\/U.next<=c)/\B'.p=B.p
theorem PI.same{U:St}{B:PB}{S:PV}{m:Nat}{rate:Int}(H:PI U B S m rate):PStp U B S m rate U []:=⟨B,S,H.mono,λz hz=>by simp at hz,λc hc=>.inl hc,rfl⟩
structure Clk(x:FlowV)(m R s:Nat):Prop where
 rb:1<=R/\R<=1000000
 rate:x.rate=R
 n:x.n=fN s R
 d:x.d=fD s R
 sb:s<=R*(50+2000*m)
theorem ClkOk.clk{x:FlowV}{m:Nat}(h:ClkOk x m):∃R s,Clk x m R s:=by
 obtain⟨R,s,h1,h2,h3,h4,h5⟩:=h
 exact⟨R,s,h1,h2,h3,h4,h5⟩
theorem Clk.big{x:FlowV}{m R s:Nat}(h:Clk x m R s)(hm:m<=41):s<=100000000000:=by
 have h1:=h.sb
 have h2:R*(50+2000*m)<=1000000*(50+2000*41):=Nat.mul_le_mul h.rb.2 (by omega)
 omega
theorem Clk.dd{x:FlowV}{m R s:Nat}(h:Clk x m R s):0<fD s R/\fD s R<=1000000:=⟨fD_pos (by have:=h.rb;omega),by have:=fD_le s R;have:=h.rb;omega⟩
theorem Clk.nn{x:FlowV}{m R s:Nat}(h:Clk x m R s)(hm:m<=41):fN s R<=100000000000:=Nat.le_trans (fN_le s R) (h.big hm)
theorem Clk.cp{x:FlowV}{m R s:Nat}(h:Clk x m R s):Nat.gcd (fN s R) (fD s R)=1:=f_coprime (by have:=h.rb;omega)
theorem upN_le{n d k:Nat}(hd:0<d)(h:n<=d*k):upN n d<=k:=by
 unfold upN
 have h1:=Nat.div_add_mod n d
 by_cases hm:0<n % d
 ·rw[if_pos hm]
  have:d*(n / d)<d*k:=by omega
  have:=Nat.lt_of_mul_lt_mul_left this
  omega
 ·rw[if_neg hm]
  have:d*(n / d)<=d*k:=by omega
  have:=Nat.le_of_mul_le_mul_left this hd
  omega
theorem Clk.up{x:FlowV}{m R s:Nat}(h:Clk x m R s):upN (fN s R) (fD s R)<=50+2000*m:=by
 have hR:0<R:=by have:=h.rb;omega
 refine upN_le h.dd.1 ?_
 have h1:=fN_mul s R
 have h2:=fD_mul s R
 have g:=gcd_pos_r (a:=s) hR
 refine Nat.le_of_mul_le_mul_right (c:=Nat.gcd s R) ?_ g
 rw[h1]
 have e:fD s R*(50+2000*m)*Nat.gcd s R=(fD s R*Nat.gcd s R)*(50+2000*m):=by rw[Nat.mul_assoc,Nat.mul_comm (50+2000*m),<-Nat.mul_assoc]
 rw[e,h2]
 exact h.sb
theorem fN_one(a R:Nat)(hR:0<R):fN (a*R) R=a/\fD (a*R) R=1:=by
 have h:Nat.gcd (a*R) R=R:=Nat.gcd_eq_right (Nat.dvd_mul_left R a)
 unfold fN fD
 rw[h]
 exact⟨Nat.mul_div_cancel _ hR,Nat.div_self hR⟩
theorem PI.room{U:St}{B:PB}{S:PV}{m:Nat}{rate:Int}(H:PI U B S m rate)(hm:m<=40):0<=sumP S.V.L/\0<=sumQ S.Q/\sumP S.V.L+sumQ S.Q<=2000*m:=by
 have h1:=sumP_bound S.V.L λx hx=>by have:=H.sz x hx;omega
 have h2:=sumB_bound (g:=szI S.Q) (l:=S.Q.L) (c:=2000) λit hit=>by have:=H.q.sz it hit;omega
 have h3:=H.tot
 exact⟨h1.1,h2.1,by have:=h1.2;have:=h2.2;unfold sumQ;omega⟩
theorem padd_any{U:St}{B:PB}{S:PV}{m:Nat}{rate0:Int}(H:PI U B S m rate0)(hm:m<=40)(flow rate room:Int):
  callX Tryz.prog 19 [.pointer (some ⟨B.p,0,none⟩),.int .i64 flow,.int .i64 rate,.int .i64 room] U λe U' lg=>(∃n,e=.ret (.int .i64 n))/\PStp U B S m rate0 U' lg:=by
 obtain⟨now,hnow,hn1,hn2⟩:=H.now
 by_cases h:addNo S.Q flow rate room S.now=0
 ·unfold addNo at h
  split at h
  ·omega
  ·rename_i h1
   split at h
   ·omega
   ·rename_i h2
    split at h
    ·omega
    ·rename_i h3
     have h1a:(inB flow 0 2147483647&&(inB rate 1 1000000&&inB room 0 1000000000))=true:=by
      cases hb:(inB flow 0 2147483647&&(inB rate 1 1000000&&inB room 0 1000000000)) with
      |true=>rfl
      |false=>exact absurd (.inl hb) h1
     simp only[Bool.and_eq_true]at h1a
     have a1:=andB h1a.1
     have a2:=andB h1a.2.1
     have a3:=andB h1a.2.2
     have hF:S.Q.F flow=none:=by
      cases hF:S.Q.F flow with
      |none=>rfl
      |some x=>rw[hF]at h2;simp at h2
     refine callX.use (padd_call H.at' flow rate room ⟨a1,a2,a3⟩ (by omega) hF (by omega)) λe U' lg _ hA=>?_
     obtain⟨rfl,hB,blk,hblk,hP⟩:=hA
     refine⟨⟨_,rfl⟩,B,_,⟨hP,?_,?_,H.sz,Nat.le_succ_of_le H.tot,H.on,H.cfg,now,hnow,hn1,by omega⟩,hB,λc hc=>?_,rfl⟩
     ·refine(QOk.flows (H.q.mono (Nat.le_succ m)) ⟨⟨a3.1,a3.2⟩,?_,?_⟩).1
      ·exact(H.q.no_flow hF).symm
      ·have hR:=fN_one now rate.toNat (by omega)
       refine⟨rate.toNat,now*rate.toNat,by omega,by show rate=_;omega,by show S.now=_;rw[hR.1,hnow],by show(1:Int)=_;rw[hR.2];rfl,?_⟩
       rw[Nat.mul_comm]
       exact Nat.mul_le_mul_left _ (by omega)
     ·show S.Q.nf+1<=m+1
      have:=H.nf;omega
     ·rcases hc with h|h|h|h|h|⟨k,x,hx,rfl⟩
      ·exact .inl (.inl h)
      ·exact .inl (.inr (.inl h))
      ·exact .inl (.inr (.inr (.inl h)))
      ·exact .inl (.inr (.inr (.inr (.inl h))))
      ·exact .inl (.inr (.inr (.inr (.inr (.inl h)))))
      ·have hx:updF S.Q.F flow (some ⟨blk,rate,room,0,S.now,1⟩) k=some x:=hx
       by_cases e:k=flow
       ·subst e
        rw[updF_same]at hx
        cases hx
        exact .inr hblk
       ·rw[updF_other _ _ e]at hx
        exact .inl (.inr (.inr (.inr (.inr (.inr ⟨k,x,hx,rfl⟩)))))
 ·exact .of (padd_no H.at' flow rate room h) ⟨⟨_,rfl⟩,H.same⟩
theorem foot_same{U:St}{B B':PB}{S:PV}{Q':QV}(hp:B'.p=B.p/\B'.l=B.l/\B'.o=B.o)(hr:B'.r=B.r\/U.next<=B'.r)(hf:∀c,Foot B'.b Q' c->Foot B.b S.Q c\/U.next<=c):∀c,PFoot B' Q' c->PFoot B S.Q c\/U.next<=c:=λc hc=>by
 rcases hc with h|h|h|h|h
 ·exact .inl (.inl (h.trans hp.1))
 ·exact .inl (.inr (.inl (h.trans hp.2.1)))
 ·rcases hr with hr|hr
  ·exact .inl (.inr (.inr (.inl (h.trans hr))))
  ·exact .inr (by omega)
 ·exact .inl (.inr (.inr (.inr (.inl (by rw[<-hp.2.2];exact h)))))
 ·exact(hf c h).imp (λh=>.inr (.inr (.inr (.inr h)))) id
theorem foot_flow{b:QB}{F:Int->Option FlowV}{Q Q':QV}{f:Int}{y:FlowV}(hF:Q.F=F)(hF':Q'.F=updF F f (some y)){n:Nat}(hb:(∃x,F f=some x/\x.blk=y.blk)\/n<=y.blk):∀c,Foot b Q' c->Foot b Q c\/n<=c:=λc hc=>by
 rcases hc with h|⟨k,x,hx,rfl⟩
 ·exact .inl (.inl h)
 ·rw[hF']at hx
  by_cases e:k=f
  ·subst e
   rw[updF_same]at hx
   cases hx
   rcases hb with⟨z,hz,hzb⟩|hb
   ·exact .inl (.inr ⟨k,z,by rw[hF];exact hz,hzb⟩)
   ·exact .inr hb
  ·rw[updF_other _ _ e]at hx
   exact .inl (.inr ⟨k,x,by rw[hF];exact hx,rfl⟩)
theorem puntil_any{U:St}{B:PB}{S:PV}{m:Nat}{rate0:Int}(H:PI U B S m rate0)(hm:m<=40)(flow:Int):∃u,DCall Tryz.prog 52 [.pointer (some ⟨B.p,0,none⟩),.int .i64 flow] U (.ret (.int .i64 u)) U []:=by
 obtain⟨now,hnow,hn1,hn2⟩:=H.now
 cases hF:S.Q.F flow with
 |none=>exact⟨_,until_none H.at' hF⟩
 |some x=>
  obtain⟨R,s,C⟩:=(H.q.fl flow x hF).2.2.clk
  have h1:=C.dd
  have h2:=C.nn (by omega)
  exact⟨_,until_call H.at' hF C.n C.d hnow h1.1 (by omega) (by omega) C.cp⟩
theorem pset_any{U:St}{B:PB}{S:PV}{m:Nat}{rate0:Int}(H:PI U B S m rate0)(hm:m<=40)(flow rate room:Int):
  callX Tryz.prog 60 [.pointer (some ⟨B.p,0,none⟩),.int .i64 flow,.int .i64 rate,.int .i64 room] U λe U' lg=>(∃u n,e=.ret (.tuple ⟨[.int .i64 u,.int .i64 n]⟩))/\PStp U B S m rate0 U' lg:=by
 obtain⟨now,hnow,hn1,hn2⟩:=H.now
 by_cases h:setNo S.Q flow rate room=0
 ·unfold setNo at h
  split at h
  ·omega
  ·rename_i h1
   split at h
   ·rename_i h2
    have hmay:mayB flow rate room=true:=by simpa using h1
    obtain⟨x,hF⟩:=Option.isSome_iff_exists.1 h2
    obtain⟨a1,a2,C⟩:=H.q.fl flow x hF
    obtain⟨R,s,C⟩:=C.clk
    have c1:=C.dd
    have c2:=C.nn (by omega)
    have hb:=hmay
    unfold mayB at hb
    simp only[Bool.and_eq_true]at hb
    have b1:=andB hb.2.1
    have b2:=andB hb.2.2
    have hR:=fN_one (upN (fN s R) (fD s R)) rate.toNat (by omega)
    refine callX.use (pset_call H.at' flow rate room hF hmay C.n C.d hnow c1.1 (by omega) (by omega) C.cp) λe U' lg _ hA=>?_
    obtain⟨rfl,hB,hP⟩:=hA
    refine⟨⟨_,_,rfl⟩,B,_,⟨hP,?_,Nat.le_succ_of_le H.nf,H.sz,Nat.le_succ_of_le H.tot,H.on,H.cfg,now,hnow,hn1,by omega⟩,hB,foot_same ⟨rfl,rfl,rfl⟩ (.inl rfl) (foot_flow (f:=flow) (y:={x with rate:=rate,room:=room,n:=(upN (fN s R) (fD s R):Nat),d:=1}) rfl rfl (.inl ⟨x,hF,rfl⟩)),rfl⟩
    refine(QOk.flows (k:=flow) (x:={x with rate:=rate,room:=room,n:=(upN (fN s R) (fD s R):Nat),d:=1}) (nf:=S.Q.nf) (H.q.mono (Nat.le_succ m)) ⟨⟨b2.1,b2.2⟩,a2,rate.toNat,upN (fN s R) (fD s R)*rate.toNat,by omega,by show rate=_;omega,by show((upN (fN s R) (fD s R):Nat):Int)=_;rw[hR.1],by show(1:Int)=_;rw[hR.2];rfl,?_⟩).1
    rw[Nat.mul_comm]
    exact Nat.mul_le_mul_left _ (by have:=C.up;omega)
   ·omega
 ·obtain⟨u,hu⟩:=puntil_any H hm flow
  exact .of (pset_no H.at' flow rate room h hu) ⟨⟨_,_,rfl⟩,H.same⟩
theorem pput_any{U:St}{B:PB}{S:PV}{m:Nat}{rate0:Int}(H:PI U B S m rate0)(hm:m<=40)(id flow size:Int):
  callX Tryz.prog 22 [.pointer (some ⟨B.p,0,none⟩),.agg ⟨[.int .i64 id,.int .i64 flow,.int .i64 size]⟩] U λe U' lg=>(∃n,e=.ret (.int .i64 n))/\PStp U B S m rate0 U' lg:=by
 obtain⟨now,hnow,hn1,hn2⟩:=H.now
 have hmost:=H.cfg.2.1
 have hroom:=H.cfg.2.2
 by_cases h1:S.most<size
 ·exact .of (pput_thick H.at' id flow size h1) ⟨⟨_,rfl⟩,H.same⟩
 ·cases h2:fitB id flow size with
  |false=>exact .of (pput_arg H.at' id flow size h1 h2) ⟨⟨_,rfl⟩,H.same⟩
  |true=>
   unfold fitB at h2
   simp only[Bool.and_eq_true]at h2
   have a1:=andB h2.1
   have a2:=andB h2.2.1
   have a3:=andB h2.2.2
   have hr:=H.room hm
   have ht:=H.tot
   refine callX.use (pput_call H.at' (x:=⟨id,flow,size⟩) a1 a2 a3 (by show size<=_;omega) (λy hy=>by have:=H.sz y hy;omega) (by show size<=_;omega) (by omega) (by omega)) λe U' lg _ hA=>?_
   obtain⟨rfl,hB,r',hr',hP⟩:=hA
   refine⟨⟨_,rfl⟩,{B with r:=r'},_,⟨hP,H.q.mono (Nat.le_succ m),Nat.le_succ_of_le H.nf,λx hx=>?_,?_,H.on,H.cfg,now,hnow,hn1,by omega⟩,hB,foot_same ⟨rfl,rfl,rfl⟩ hr' (λc hc=>.inl hc),rfl⟩
   ·rcases List.mem_append.1 (show x∈S.V.L++[⟨id,flow,size⟩] from hx) with hx|hx
    ·exact H.sz x hx
    ·have:x=⟨id,flow,size⟩:=by simpa using hx
     rw[this];exact a3
   ·show(S.V.L++[_]).length+_<=_
    rw[List.length_append]
    simp only[List.length_singleton]
    omega
theorem pprom_any{U:St}{B:PB}{S:PV}{m:Nat}{rate0:Int}(H:PI U B S m rate0)(hm:m<=40)(id flow size:Int):
  callX Tryz.prog 21 [.pointer (some ⟨B.p,0,none⟩),.agg ⟨[.int .i64 id,.int .i64 flow,.int .i64 size]⟩] U λe U' lg=>(∃a b n,e=.ret (.tuple ⟨[.agg ⟨[.int .i64 a,.int .i64 b]⟩,.int .i64 n]⟩))/\PStp U B S m rate0 U' lg:=by
 obtain⟨now,hnow,hn1,hn2⟩:=H.now
 have hmost:=H.cfg.2.1
 have hr:∀x,S.Q.F flow=some x->(0<=x.room/\x.room<=1000000000)/\(-100000000<=x.bytes/\x.bytes<=100000000):=λx hx=>⟨(H.q.fl flow x hx).1,by have:=H.q.bytes hx;omega⟩
 by_cases h1:S.most<size
 ·exact .of (pprom_thick H.at' id flow size h1) ⟨⟨_,_,_,rfl⟩,H.same⟩
 ·by_cases h:putNo S.Q id flow size S.now=0
  ·unfold putNo at h
   split at h
   ·omega
   ·rename_i h2
    have tt:∀b:Bool,¬b=false->b=true:=λb h=>by cases b<;>simp_all
    have a1:=andB (tt _ λe=>h2 (.inl e))
    have a2:=andB (tt _ λe=>h2 (.inr (.inl e)))
    have a3:=andB (tt _ λe=>h2 (.inr (.inr (.inl e))))
    cases hF:S.Q.F flow with
    |none=>rw[hF]at h;simp at h
    |some x=>
     rw[hF]at h
     simp only at h
     split at h
     ·omega
     ·rename_i h3
      split at h
      ·omega
      ·rename_i h4
       have hP:S.Q.P id=none:=by
        cases hP:S.Q.P id with
        |none=>rfl
        |some p=>rw[hP]at h3;simp at h3
       obtain⟨c1,c2,C⟩:=H.q.fl flow x hF
       obtain⟨R,s,C⟩:=C.clk
       have hb:=(hr x hF).2
       have hsz:(size.toNat:Int)=size:=by omega
       have hbig:=C.big (by omega)
       have hnew:=H.q.fresh hP
       have hlen:=H.q.len
       have hnp:=H.q.np
       have hcall:=pprom_call H.at' id flow size.toNat now s R hnow (by omega) hF hP a1 a2 (by omega) (by omega) C.rate C.n C.d C.rb (by omega) hb c1 (by omega) (by omega) hnew (by omega) (by have:=H.q.t;omega)
       rw[hsz]at hcall
       refine callX.use hcall λe U' lg _ hA=>?_
       obtain⟨rfl,hB,A',hA',hP'⟩:=hA
       have hs':max (now*R) s+size.toNat<=R*(50+2000*(m+1)):=by
        have h5:now*R<=R*(50+2000*m):=by rw[Nat.mul_comm];exact Nat.mul_le_mul_left _ (by omega)
        have h6:=C.sb
        have h7:R*(50+2000*(m+1))=R*(50+2000*m)+R*2000:=by rw[<-Nat.mul_add,Nat.mul_add 2000 m 1,Nat.add_assoc]
        have h8:1*2000<=R*2000:=Nat.mul_le_mul_right _ C.rb.1
        have h9:max (now*R) s<=R*(50+2000*m):=Nat.max_le.2 ⟨h5,h6⟩
        omega
       have hpos:(⟨id,(fN (max (now*R) s+size.toNat) R:Nat),(fD (max (now*R) s+size.toNat) R:Nat),S.Q.t+1⟩:Item).pos:=by
        show(0:Int)<(fD _ R:Nat)
        have:=fD_pos (a:=max (now*R) s+size.toNat) (r:=R) (by have:=C.rb;omega)
        omega
       have hq:=(QOk.put H.q hF hP a1 a2 (by omega) (size:=size) (n:=(fN (max (now*R) s+size.toNat) R:Nat)) (d:=(fD (max (now*R) s+size.toNat) R:Nat)) ⟨R,max (now*R) s+size.toNat,C.rb,C.rate,rfl,rfl,hs'⟩ hpos (riseL_dist H.q.dist hnew)).1
       refine⟨⟨_,_,_,rfl⟩,{B with b:={B.b with A:=A'}},_,⟨hP',hq,Nat.le_succ_of_le H.nf,H.sz,?_,H.on,H.cfg,now,hnow,hn1,by omega⟩,hB,foot_same ⟨rfl,rfl,rfl⟩ (.inl rfl) (λc hc=>?_),rfl⟩
       ·show _+(riseL _ _ _).length<=_
        rw[riseL_length,List.length_append]
        have:=H.tot
        simp only[List.length_singleton]
        omega
       ·have hco:c∈({B.b with A:=A'}:QB).core->c∈B.b.core\/U.next<=c:=λhc=>by
         simp only[QB.core,List.mem_cons]at hc ⊢
         rcases hc with h|h|h|h|h|h
         ·simp [h]
         ·simp [h]
         ·simp [h]
         ·simp [h]
         ·simp [h]
         ·rcases hA' c h with h|h
          ·simp [h]
          ·exact .inr h
        rcases hc with hc|hc
        ·exact(hco hc).imp .inl λh=>h
        ·have:=foot_flow (b:=B.b) (Q:=S.Q) (Q':={S.Q with F:=updF S.Q.F flow (some {x with bytes:=x.bytes+size,n:=(fN (max (now*R) s+size.toNat) R:Nat),d:=(fD (max (now*R) s+size.toNat) R:Nat)})}) (f:=flow) rfl rfl (n:=U.next) (.inl ⟨x,hF,rfl⟩) c (.inr hc)
         exact this
  ·exact .of (pprom_no H.at' id flow size h1 hr h) ⟨⟨_,_,_,rfl⟩,H.same⟩
theorem pdrop_any{U:St}{B:PB}{S:PV}{m:Nat}{rate0:Int}(H:PI U B S m rate0)(hm:m<=40)(flow:Int):
  callN Tryz.prog 20 [.pointer (some ⟨B.p,0,none⟩),.int .i64 flow] U λe U' lg=>(∃u n,e=.ret (.tuple ⟨[.int .i64 u,.slice none 0 0,.int .i64 n]⟩))/\PStp U B S m rate0 U' lg:=by
 obtain⟨now,hnow,hn1,hn2⟩:=H.now
 have hroom:=H.cfg.2.2
 cases hF:S.Q.F flow with
 |none=>
  refine callN.use (pdrop_none H.at' hF) λe U' lg hlg hA=>?_
  obtain⟨rfl,hB⟩:=hA
  exact⟨⟨_,_,rfl⟩,B,S,(H.keep hlg.1 λz hz=>hlg.2 z hz λh=>by have:=hB z h;omega).mono,λz hz=>.inr (hB z hz),λc hc=>.inl hc,rfl⟩
 |some x=>
  obtain⟨c1,c2,C⟩:=H.q.fl flow x hF
  obtain⟨R,s,C⟩:=C.clk
  have c3:=C.dd
  have c4:=C.nn (by omega)
  have hlen:=H.q.len
  have hnp:=H.q.np
  have ht:=H.tot
  have hr:=H.room hm
  refine callN.use (pdrop_call (tn:=turnOf S.Q) H.at' hF (by omega) (λid p hp=>?_) H.q.turn H.q.hp C.n C.d hnow c3.1 (by omega) (by omega) C.cp (λy hy _=>?_) (λy hy=>by have:=H.sz y hy;omega) (by omega) λSl L' hl hmem hnd=>?_) λe U' lg hlg hA=>?_
  ·obtain⟨it,hit,he⟩:=H.q.of id p hp
   obtain⟨n,hn⟩:=List.getElem?_of_mem hit
   exact⟨n,it,hn,he⟩
  ·obtain⟨d1,d2,d3,_⟩:=H.q.pk _ _ hy
   exact⟨d1,d2,d3⟩
  ·have h1:=sumP_bound Sl λy hy=>by
    have:=(H.q.pk _ _ ((hmem y).1 hy).1).2.2.1
    show 0<=y.size/\y.size<=2000
    have h:1<=y.size/\y.size<=2000:=this
    omega
   have h2:Sl.length<=S.Q.L.length:=by
    have h3:(Sl.map Pk.id).length<=(S.Q.L.map Item.id).length:=le_of_sub hnd λz hz=>by
     obtain⟨y,hy,rfl⟩:=List.mem_map.1 hz
     obtain⟨it,hit,he⟩:=H.q.of _ _ ((hmem y).1 hy).1
     exact List.mem_map.2 ⟨it,hit,he⟩
    simpa using h3
   have h4:=sumP_bound S.V.L λy hy=>by have:=H.sz y hy;omega
   have:=h1.2
   have:=h4.2
   omega
  ·obtain⟨Sl,L',r',rfl,D⟩:=hA
   have hfoot:∀c,Foot B.b (pdropV S flow Sl L').Q c->Foot B.b S.Q c\/U.next<=c:=λc h=>by
    rcases h with h|⟨k,y,hy,rfl⟩
    ·exact .inl (.inl h)
    ·have hy:updF S.Q.F flow none k=some y:=hy
     by_cases e:k=flow
     ·subst e;rw[updF_same]at hy;cases hy
     ·rw[updF_other _ _ e]at hy;exact .inl (.inr ⟨k,y,hy,rfl⟩)
   have hdist:Dist L':=D.at'.q.hx.dist
   have hq:=H.q.dropF (nf:=S.Q.nf - 1) D.left hdist D.mem D.nd
   refine⟨⟨_,_,rfl⟩,{B with r:=r'},pdropV S flow Sl L',⟨D.at',hq.1.mono (Nat.le_succ m),?_,λy hy=>?_,?_,H.on,H.cfg,now,hnow,hn1,by omega⟩,D.lg,foot_same ⟨rfl,rfl,rfl⟩ D.r hfoot,rfl⟩
   ·show S.Q.nf - 1<=m+1
    have:=H.nf;omega
   ·rcases List.mem_append.1 (show y∈S.V.L++Sl from hy) with hy|hy
    ·exact H.sz y hy
    ·exact(H.q.pk _ _ ((D.mem y).1 hy).1).2.2.1
   ·show(S.V.L++Sl).length+L'.length<=m+1
    have h1:Sl.length+L'.length<=S.Q.L.length:=by
     have h3:(Sl.map Pk.id++L'.map Item.id).length<=(S.Q.L.map Item.id).length:=by
      refine le_of_sub (List.nodup_append.2 ⟨D.nd,?_,λa ha b hb e=>?_⟩) λz hz=>?_
      ·unfold List.Nodup
       rw[List.pairwise_map]
       exact hdist.nodup.imp_of_mem λ{a b} ha hb hne e=>hne (hdist.one ha hb e)
      ·obtain⟨it,hit,rfl⟩:=List.mem_map.1 hb
       exact((D.left.mem it).1 hit).2 (e▸ha)
      ·rcases List.mem_append.1 hz with hz|hz
       ·obtain⟨y,hy,rfl⟩:=List.mem_map.1 hz
        obtain⟨it,hit,he⟩:=H.q.of _ _ ((D.mem y).1 hy).1
        exact List.mem_map.2 ⟨it,hit,he⟩
       ·obtain⟨it,hit,rfl⟩:=List.mem_map.1 hz
        exact List.mem_map_of_mem ((D.left.mem it).1 hit).1
     simpa using h3
    rw[List.length_append]
    omega
end Go.Ab
