/- PortWorksSaid: part 8 of 8 of the proof that it returns true for every input and leaves its arguments as they were; no condition. -/
import Derived.Test.YtphmndfjmoacfaaGreatJPortWorksSaid6
import Derived.Test.YtphmndfjmoacfaaGreatJPortWorksSaid4
import Derived.Test.YtphmndfjmoacfaaGreatJPortWorksSaid2
import Derived.Test.YtphmndfjmoacfaaGreatRows
import Derived.ChangeOld
import Derived.Carry
import Derived.Below
set_option maxHeartbeats 6400000
set_option maxRecDepth 20000
set_option linter.unusedSimpArgs false
set_option linter.unusedVariables false
namespace Go.Ab
open Go.Proofs
theorem took_len{Q Q':QV}{qs qs':List OnV}(h:Took Q qs Q' qs'):Q'.L.length<=Q.L.length:=by
 induction h with
 |refl=>exact Nat.le_refl _
 |more h hh ih=>
  show(outL _ 0).length<=_
  rw[outL_length hh.head]
  omega
theorem serves_len{now b:Int}{on on':Option OnV}{qs qs' out:List OnV}{L L':List Pk}(h:Serves now b on qs L out on' qs' L'):L'.length<=L.length:=by
 induction h with
 |zero=>exact Nat.le_refl _
 |empty h=>exact Nat.le_refl _
 |part h h1=>exact Nat.le_refl _
 |full h h1 k ih=>exact ih
 |nextq h k ih=>exact ih
 |nextl h k ih=>exact Nat.le_succ_of_le ih
theorem serves_out{now b:Int}{on on':Option OnV}{qs qs' out:List OnV}{L L':List Pk}(h:Serves now b on qs L out on' qs' L'):out.length<=(onL on).length+qs.length+L.length:=by
 induction h with
 |zero=>simp
 |empty h=>simp
 |part h h1=>simp
 |full h h1 k ih=>simp only[onL,List.length_cons,List.length_nil]at *;omega
 |nextq h k ih=>simp only[onL,List.length_cons,List.length_nil]at *;omega
 |nextl h k ih=>simp only[onL,List.length_cons,List.length_nil]at *;omega
theorem drains_len:∀{qs:List OnV} {Q:QV},Drains qs Q->qs.length=Q.L.length
 |[],Q,hd=>by
  have hd:Q.L=[]:=hd
  rw[hd]
  rfl
 |o :: qs,Q,hd=>by
  obtain⟨y,flow,size,x,hh,rfl,hd⟩:=hd
  have:=drains_len hd
  have h2:(outL Q.L 0).length=Q.L.length - 1:=outL_length hh.head
  have h3:(takeV Q y flow size x).L.length=(outL Q.L 0).length:=rfl
  have h4:0<Q.L.length:=by
   obtain⟨h,_⟩:=List.getElem?_eq_some_iff.1 hh.head
   exact h
  simp only[List.length_cons]
  omega
theorem bytesS_of{S:PV}{m:Nat}{qs:List OnV}(hq:QOk S.Q m)(hd:Drains qs S.Q):bytesOf S.on qs S.V.L=bytesS S:=by
 unfold bytesOf bytesS leftS
 rw[hq.sumO hd]
 cases S.on with
 |none=>simp only[onL,bytesO];omega
 |some x=>simp only[onL,bytesO];omega
structure SvOk(U:St)(B:PB)(S:PV)(m:Nat)(rate:Int)(U':St)(lg:Log)(v:Value)(out:List OnV)(B':PB)(S':PV):Prop where
 pi:PI U' B' S' (m+1) rate
 lg:∀z∈lg,PFoot B S.Q z\/U.next<=z
 ft:∀c,PFoot B' S'.Q c->PFoot B S.Q c\/U.next<=c
 so:SoS U.next U' v out
 av:∀a n k,v=.slice (some ⟨a,0,some 9⟩) n k->¬PFoot B' S'.Q a
 by':bytesS S - bytesS S'=min rate (bytesS S)
 fin:∀o∈out,o.fin=S'.now
 len:out.length<=2000
 p:B'.p=B.p
def SvR(U:St)(B:PB)(S:PV)(m:Nat)(rate:Int)(e:AE)(U':St)(lg:Log):Prop:=
 ∃v out B' S',e=.ret (.tuple ⟨[v,.int .i64 0]⟩)/\SvOk U B S m rate U' lg v out B' S'
theorem serve_any{U:St}{B:PB}{S:PV}{m:Nat}{rate:Int}(H:PI U B S m rate)(hm:m<=40)(hr:1<=rate/\rate<=1000000):callX Tryz.prog 28 [.pointer (some ⟨B.p,0,none⟩)] U (SvR U B S m rate):=by
 obtain⟨now,hnow,hn1,hn2⟩:=H.now
 obtain⟨qs,hd,hqs⟩:=H.q.drains hm _ S.Q rfl
 have hrate:=H.cfg.1
 refine callX.use (serve_call H.at' hd ⟨H.on,hqs,H.sz⟩ (by omega) (by omega)) λe U' lg hlg hA=>?_
 obtain⟨v,o,S',qs',out,rfl,hB,D⟩:=hA
 obtain⟨hq',hF',hnf'⟩:=QOk.took D.tk H.q
 have hby:=D.sv.bytes
 rw[bytesS_of H.q hd,bytesS_of hq' D.dr,hrate]at hby
 have hnow':S'.now=S.now+1:=D.al.now
 have hlen:=serves_len D.sv
 have hlen2:=took_len D.tk
 have htot:=H.tot
 have hPI:PI U' {B with o:=o} S' (m+1) rate:=⟨D.at',hq'.mono (Nat.le_succ m),by have:=H.nf;omega,D.sz.L,by omega,D.sz.on,⟨D.al.rate.trans H.cfg.1,D.al.most.trans H.cfg.2.1,D.al.room.trans H.cfg.2.2⟩,now+1,by omega,by omega,by omega⟩
 have h0:0<=bytesS S':=by
  have h1:=hPI.room
  have h2:=sumP_bound S'.V.L λx hx=>by have:=D.sz.L x hx;omega
  have h3:=hq'.sumQ_bound
  have h4:0<=leftS S':=by
   unfold leftS
   split
   ·rename_i x hx;have:=D.sz.on x hx;omega
   ·omega
  unfold bytesS
  omega
 refine⟨v,out,_,S',rfl,hPI,hB,λc hc=>?_,D.so,λa n k hv hc=>?_,?_,λy hy=>?_,?_,rfl⟩
 ·rcases hc with h|h|h|h|h
  ·exact .inl (.inl h)
  ·exact .inl (.inr (.inl h))
  ·exact .inl (.inr (.inr (.inl h)))
  ·exact(D.o c h).imp (λh=>.inr (.inr (.inr (.inl h)))) id
  ·exact .inl (.inr (.inr (.inr (.inr (D.ft c h)))))
 ·have ha:U.next<=a:=by
   rcases D.so with⟨h1,_⟩|⟨a',h1,_,h3,_⟩
   ·rw[hv]at h1;cases h1
   ·rw[hv]at h1
    simp only[Value.slice.injEq,Option.some.injEq,Addr.mk.injEq]at h1
    omega
  rcases hc with h|h|h|h|h
  ·have:=H.at'.lt
   have h:a=B.p:=h
   omega
  ·have:=H.at'.l.lt
   have h:a=B.l:=h
   omega
  ·have:=H.at'.l.lt
   have h:a=B.r:=h
   omega
  ·exact D.av a n k hv h
  ·have:=H.at'.q.in_lt (D.ft a h)
   omega
 ·rcases hby.2.1 with h|⟨h1,h2,h3⟩
  ·have:=hby.1
   omega
  ·have e:bytesS S'=0:=by
    have h4:=bytesS_of hq' D.dr
    rw[h1,h2,h3]at h4
    rw[<-h4]
    rfl
   have:=hby.1
   omega
 ·rw[hby.2.2 y hy,hnow']
 ·have h1:=serves_out D.sv
  have h2:=drains_len hd
  have h3:(onL S.on).length<=1:=by cases S.on<;>simp [onL]
  have:=H.q.len
  omega
def DoR(U:St)(B:PB)(S:PV)(m:Nat)(rate:Int)(e:AE)(U':St)(lg:Log):Prop:=(∃v,e=.ret v)/\PStp U B S m rate U' lg
theorem PStp.back{U Uz U' U2:St}{B:PB}{S:PV}{m:Nat}{rate:Int}{lg lg2:Log}(h:PStp Uz B S m rate U' lg)(hz:U.next<=Uz.next)(hp:∀c,PFoot B S.Q c->c<U.next)(hn:U'.next<=U2.next)(hg:∀c,(c<U.next\/Uz.next<=c)->c<U'.next->U2.get c=U'.get c)(hl:∀z∈lg2,z∈lg\/U.next<=z):PStp U B S m rate U2 lg2:=by
 obtain⟨B',S',P,h1,h2,h3⟩:=h
 refine⟨B',S',{P with at':=P.at'.keep hn λc hc=>hg c ?_ (P.at'.in_lt hc)},λz hz'=>?_,λc hc=>?_,h3⟩
 ·rcases h2 c hc with h|h
  ·exact .inl (hp c h)
  ·exact .inr h
 ·rcases hl z hz' with h|h
  ·exact(h1 z h).imp (λh=>h) λh=>by omega
  ·exact .inr h
 ·exact(h2 c hc).imp (λh=>h) λh=>by omega
theorem PStp.get{Uz U':St}{B:PB}{S:PV}{m n:Nat}{rate:Int}{lg:Log}(h:PStp Uz B S m rate U' lg)(hl:Logged Uz U' lg)(hp:∀c,PFoot B S.Q c->c<n){c:Nat}(h1:n<=c)(h2:c<Uz.next){v:Option AObj}(hv:Uz.get c=v):U'.get c=v:=by
 obtain⟨B',S',P,h3,_⟩:=h
 refine(hl.2 c h2 λhm=>?_).trans hv
 rcases h3 c hm with h|h
 ·have:=hp c h;omega
 ·omega
theorem flatR:flats Tryz.prog 38=some [.int,.int]:=by kernel_rfl
theorem does1{U:St}{B:PB}{S:PV}{m:Nat}{rate0:Int}(H:PI U B S m rate0)(hm:m<=40)(id flow size rate room:Int):
  callN Tryz.prog 26 [.pointer (some ⟨B.p,0,none⟩),.agg ⟨zpL nilS⟩,.agg ⟨[.int .i64 1,.int .i64 id,.int .i64 flow,.int .i64 size,.int .i64 rate,.int .i64 room]⟩] U (DoR U B S m rate0):=by
 have hp:∀c,PFoot B S.Q c->c<U.next:=λc hc=>H.at'.in_lt hc
 refine enterS (p:=w11) Tryz.func26 rfl stat26 ?_
 simp only[go_sem,seval,opLen,callW,callNW,undef,zerosN,Tryz.f26]
 obtain⟨Ua,hUa⟩:∃Ua,Ua=((U.new (.cells (zpL nilS) false)).new (.cells [.int .i64 1,.int .i64 id,.int .i64 flow,.int .i64 size,.int .i64 rate,.int .i64 room] false)).new (.cells (zpL nilS) false):=⟨_,rfl⟩
 have na:Ua.next=U.next+3:=by rw[hUa];rfl
 have a0:Ua.get U.next=some (.cells (zpL nilS) false):=by rw[hUa];simp only[go_sem,seval,opLen]
 have a1:Ua.get (U.next+1)=some (.cells ([.int .i64 1,.int .i64 id,.int .i64 flow,.int .i64 size,.int .i64 rate,.int .i64 room]) false):=by rw[hUa];simp only[go_sem,seval,opLen]
 have a2:Ua.get (U.next+2)=some (.cells (zpL nilS) false):=by rw[hUa];simp only[go_sem,seval,opLen]
 have ao:∀c,c<U.next->Ua.get c=U.get c:=λc hc=>by rw[hUa,St.get_new,if_neg (by simp only[St.next_new];omega),St.get_new,if_neg (by simp only[St.next_new];omega),St.get_new,if_neg (by omega)]
 simp only[zpL,nilS]at hUa
 rw[<-hUa]
 clear hUa
 refine callN.one (zadd flow rate room Ua) ?_
 intro e U1 lg1 hlg1 hA
 obtain⟨sa,sl,sc,n,rfl,hB⟩:=hA
 have n1:=hlg1.1
 have kp:∀c,c<Ua.next->U1.get c=Ua.get c:=λc hc=>hlg1.2 c hc λhm=>by have:=hB c hm;omega
 have g0:=(kp U.next (by omega)).trans a0
 have g1:=(kp (U.next+1) (by omega)).trans a1
 have z0:U.next<U1.next:=by omega
 have z1:U.next+1<U1.next:=by omega
 refine⟨?_⟩
 simp only[go_sem,seval,opLen,callW,callNW,undef,zerosN,Tryz.f26,g0,g1,z0,z1]
 obtain⟨Uz,hUz⟩:∃Uz,Uz=U1.set U.next (.cells (zpL (.slice sa sl sc)) false):=⟨_,rfl⟩
 have zn:Uz.next=U1.next:=by rw[hUz];rfl
 have y0:Uz.get U.next=some (.cells (zpL (.slice sa sl sc)) false):=by rw[hUz,St.get_set,if_pos rfl]
 have yg:∀c,c≠U.next->Uz.get c=U1.get c:=λc hc=>by rw[hUz,St.get_set,if_neg (Ne.symm hc)]
 have y2:=(yg (U.next+2) (by omega)).trans ((kp _ (by omega)).trans a2)
 have yo:∀c,c<U.next->Uz.get c=U.get c:=λc hc=>(yg c (by omega)).trans ((kp c (by omega)).trans (ao c hc))
 simp only[zpL,nilS]at hUz
 rw[<-hUz]
 clear hUz
 refine callN.one (padd_any (H.keep (by omega) yo) hm flow rate room) ?_
 intro e U2 lg2 hlg2 hA
 obtain⟨⟨n2,rfl⟩,hS⟩:=hA
 have n2':=hlg2.1
 have x0:=hS.get hlg2 hp (Nat.le_refl _) (by omega) y0
 have x2:=hS.get hlg2 hp (by omega) (by omega) y2
 have w0:U.next<U2.next:=by omega
 have w2:U.next+2<U2.next:=by omega
 refine⟨?_⟩
 simp only[go_sem,seval,opLen,callW,callNW,undef,zerosN,Tryz.f26,x0,x2,w0,w2]
 exact⟨⟨_,rfl⟩,hS.back (by omega) hp (by simp only[go_sem,seval,opLen]<;>omega) (λc hc hc2=>by
  simp only[go_sem,seval,opLen]
  repeat rw[if_neg (by omega)]) λz hz=>by
  simp only[List.mem_append,List.mem_cons,List.not_mem_nil,or_false,false_or]at hz
  grind⟩
theorem does2{U:St}{B:PB}{S:PV}{m:Nat}{rate0:Int}(H:PI U B S m rate0)(hm:m<=40)(id flow size rate room:Int):
  callN Tryz.prog 26 [.pointer (some ⟨B.p,0,none⟩),.agg ⟨zpL nilS⟩,.agg ⟨[.int .i64 2,.int .i64 id,.int .i64 flow,.int .i64 size,.int .i64 rate,.int .i64 room]⟩] U (DoR U B S m rate0):=by
 have hp:∀c,PFoot B S.Q c->c<U.next:=λc hc=>H.at'.in_lt hc
 refine enterS (p:=w11) Tryz.func26 rfl stat26 ?_
 simp only[go_sem,seval,opLen,callW,callNW,undef,zerosN,Tryz.f26]
 obtain⟨Ua,hUa⟩:∃Ua,Ua=((U.new (.cells (zpL nilS) false)).new (.cells [.int .i64 2,.int .i64 id,.int .i64 flow,.int .i64 size,.int .i64 rate,.int .i64 room] false)).new (.cells (zpL nilS) false):=⟨_,rfl⟩
 have na:Ua.next=U.next+3:=by rw[hUa];rfl
 have a0:Ua.get U.next=some (.cells (zpL nilS) false):=by rw[hUa];simp only[go_sem,seval,opLen]
 have a1:Ua.get (U.next+1)=some (.cells ([.int .i64 2,.int .i64 id,.int .i64 flow,.int .i64 size,.int .i64 rate,.int .i64 room]) false):=by rw[hUa];simp only[go_sem,seval,opLen]
 have a2:Ua.get (U.next+2)=some (.cells (zpL nilS) false):=by rw[hUa];simp only[go_sem,seval,opLen]
 have ao:∀c,c<U.next->Ua.get c=U.get c:=λc hc=>by rw[hUa,St.get_new,if_neg (by simp only[St.next_new];omega),St.get_new,if_neg (by simp only[St.next_new];omega),St.get_new,if_neg (by omega)]
 simp only[zpL,nilS]at hUa
 rw[<-hUa]
 clear hUa
 refine callN.one (pset_any (H.keep (by omega) ao) hm flow rate room) ?_
 intro e U1 lg1 hlg1 hA
 obtain⟨⟨u,n,rfl⟩,hS⟩:=hA
 have n1:=hlg1.1
 have x0:=hS.get hlg1 hp (Nat.le_refl _) (by omega) a0
 have x1:=hS.get hlg1 hp (by omega) (by omega) a1
 have x2:=hS.get hlg1 hp (by omega) (by omega) a2
 have w0:U.next<U1.next:=by omega
 have w1:U.next+1<U1.next:=by omega
 have w2:U.next+2<U1.next:=by omega
 have m2:¬U1.next=U.next+2:=by omega
 refine⟨?_⟩
 simp only[go_sem,seval,opLen,callW,callNW,undef,zerosN,Tryz.f26,x0,x1,x2,w0,w1,w2]
 refine callN.d (zset flow rate room _) ?_
 obtain⟨b1,hb1⟩:∃b,(u==0)=b:=⟨_,rfl⟩
 cases b1
 all_goals simp only[go_sem,seval,opLen,callW,callNW,undef,zerosN,Tryz.f26,x0,x1,x2,w0,w1,w2,m2,hb1]
 all_goals exact⟨⟨_,rfl⟩,hS.back (by omega) hp (by simp only[go_sem,seval,opLen]<;>omega) (λc hc hc2=>by
  simp only[go_sem,seval,opLen]
  repeat rw[if_neg (by omega)]) λz hz=>by
  simp only[List.mem_append,List.mem_cons,List.not_mem_nil,or_false,false_or]at hz
  grind⟩
theorem does3{U:St}{B:PB}{S:PV}{m:Nat}{rate0:Int}(H:PI U B S m rate0)(hm:m<=40)(id flow size rate room:Int):
  callN Tryz.prog 26 [.pointer (some ⟨B.p,0,none⟩),.agg ⟨zpL nilS⟩,.agg ⟨[.int .i64 3,.int .i64 id,.int .i64 flow,.int .i64 size,.int .i64 rate,.int .i64 room]⟩] U (DoR U B S m rate0):=by
 have hp:∀c,PFoot B S.Q c->c<U.next:=λc hc=>H.at'.in_lt hc
 refine enterS (p:=w11) Tryz.func26 rfl stat26 ?_
 simp only[go_sem,seval,opLen,callW,callNW,undef,zerosN,Tryz.f26]
 obtain⟨Ua,hUa⟩:∃Ua,Ua=((U.new (.cells (zpL nilS) false)).new (.cells [.int .i64 3,.int .i64 id,.int .i64 flow,.int .i64 size,.int .i64 rate,.int .i64 room] false)).new (.cells (zpL nilS) false):=⟨_,rfl⟩
 have na:Ua.next=U.next+3:=by rw[hUa];rfl
 have a0:Ua.get U.next=some (.cells (zpL nilS) false):=by rw[hUa];simp only[go_sem,seval,opLen]
 have a1:Ua.get (U.next+1)=some (.cells ([.int .i64 3,.int .i64 id,.int .i64 flow,.int .i64 size,.int .i64 rate,.int .i64 room]) false):=by rw[hUa];simp only[go_sem,seval,opLen]
 have a2:Ua.get (U.next+2)=some (.cells (zpL nilS) false):=by rw[hUa];simp only[go_sem,seval,opLen]
 have ao:∀c,c<U.next->Ua.get c=U.get c:=λc hc=>by rw[hUa,St.get_new,if_neg (by simp only[St.next_new];omega),St.get_new,if_neg (by simp only[St.next_new];omega),St.get_new,if_neg (by omega)]
 simp only[zpL,nilS]at hUa
 rw[<-hUa]
 clear hUa
 refine callN.hidE (pdrop_any (H.keep (by omega) ao) hm flow) ?_
 intro e U1 lg1 hlg1 hA
 obtain⟨⟨u,n,rfl⟩,hS⟩:=hA
 have n1:=hlg1.1
 have x0:=hS.get hlg1 hp (Nat.le_refl _) (by omega) a0
 have x1:=hS.get hlg1 hp (by omega) (by omega) a1
 have x2:=hS.get hlg1 hp (by omega) (by omega) a2
 have w0:U.next<U1.next:=by omega
 have w1:U.next+1<U1.next:=by omega
 have w2:U.next+2<U1.next:=by omega
 have m2:¬U1.next=U.next+2:=by omega
 refine⟨?_⟩
 simp only[go_sem,seval,opLen,callW,callNW,undef,zerosN,Tryz.f26,x0,x1,x2,w0,w1,w2]
 refine callN.d (zdrop flow _) ?_
 obtain⟨b1,hb1⟩:∃b,(u==0)=b:=⟨_,rfl⟩
 obtain⟨b2,hb2⟩:∃b,(n==5)=b:=⟨_,rfl⟩
 cases b1<;>cases b2
 all_goals simp only[go_sem,seval,opLen,callW,callNW,undef,zerosN,Tryz.f26,x0,x1,x2,w0,w1,w2,m2,hb1,hb2]
 case true.true=>
  refine .of (zsame _) ?_
  simp only[go_sem,seval,opLen,callW,callNW,undef,zerosN,Tryz.f26,x0,x1,x2,w0,w1,w2,m2,hb1,hb2]
  exact⟨⟨_,rfl⟩,hS.back (by omega) hp (by simp only[go_sem,seval,opLen]<;>omega) (λc hc hc2=>by
  simp only[go_sem,seval,opLen]
  repeat rw[if_neg (by omega)]) λz hz=>by
  simp only[List.mem_append,List.mem_cons,List.not_mem_nil,or_false,false_or]at hz
  grind⟩
 all_goals exact⟨⟨_,rfl⟩,hS.back (by omega) hp (by simp only[go_sem,seval,opLen]<;>omega) (λc hc hc2=>by
  simp only[go_sem,seval,opLen]
  repeat rw[if_neg (by omega)]) λz hz=>by
  simp only[List.mem_append,List.mem_cons,List.not_mem_nil,or_false,false_or]at hz
  grind⟩
theorem does4{U:St}{B:PB}{S:PV}{m:Nat}{rate0:Int}(H:PI U B S m rate0)(hm:m<=40)(id flow size rate room:Int):
  callN Tryz.prog 26 [.pointer (some ⟨B.p,0,none⟩),.agg ⟨zpL nilS⟩,.agg ⟨[.int .i64 4,.int .i64 id,.int .i64 flow,.int .i64 size,.int .i64 rate,.int .i64 room]⟩] U (DoR U B S m rate0):=by
 have hp:∀c,PFoot B S.Q c->c<U.next:=λc hc=>H.at'.in_lt hc
 refine enterS (p:=w11) Tryz.func26 rfl stat26 ?_
 simp only[go_sem,seval,opLen,callW,callNW,undef,zerosN,Tryz.f26]
 obtain⟨Ua,hUa⟩:∃Ua,Ua=((U.new (.cells (zpL nilS) false)).new (.cells [.int .i64 4,.int .i64 id,.int .i64 flow,.int .i64 size,.int .i64 rate,.int .i64 room] false)).new (.cells (zpL nilS) false):=⟨_,rfl⟩
 have na:Ua.next=U.next+3:=by rw[hUa];rfl
 have a0:Ua.get U.next=some (.cells (zpL nilS) false):=by rw[hUa];simp only[go_sem,seval,opLen]
 have a1:Ua.get (U.next+1)=some (.cells ([.int .i64 4,.int .i64 id,.int .i64 flow,.int .i64 size,.int .i64 rate,.int .i64 room]) false):=by rw[hUa];simp only[go_sem,seval,opLen]
 have a2:Ua.get (U.next+2)=some (.cells (zpL nilS) false):=by rw[hUa];simp only[go_sem,seval,opLen]
 have ao:∀c,c<U.next->Ua.get c=U.get c:=λc hc=>by rw[hUa,St.get_new,if_neg (by simp only[St.next_new];omega),St.get_new,if_neg (by simp only[St.next_new];omega),St.get_new,if_neg (by omega)]
 simp only[zpL,nilS]at hUa
 rw[<-hUa]
 clear hUa
 refine callN.one (pprom_any (H.keep (by omega) ao) hm id flow size) ?_
 intro e U1 lg1 hlg1 hA
 obtain⟨⟨a,b,n,rfl⟩,hS⟩:=hA
 have n1:=hlg1.1
 have x0:=hS.get hlg1 hp (Nat.le_refl _) (by omega) a0
 have x1:=hS.get hlg1 hp (by omega) (by omega) a1
 have x2:=hS.get hlg1 hp (by omega) (by omega) a2
 have w0:U.next<U1.next:=by omega
 have w1:U.next+1<U1.next:=by omega
 have w2:U.next+2<U1.next:=by omega
 have m0:¬U1.next=U.next:=by omega
 have m1:¬U1.next=U.next+1:=by omega
 have m2:¬U1.next=U.next+2:=by omega
 refine⟨?_⟩
 simp only[go_sem,seval,opLen,callW,callNW,undef,zerosN,Tryz.f26,x0,x1,x2,w0,w1,w2,m0,m1,m2]
 refine callN.d (zprom id flow size _) ?_
 obtain⟨b1,hb1⟩:∃t,(a==0)=t:=⟨_,rfl⟩
 obtain⟨b2,hb2⟩:∃t,(b==0)=t:=⟨_,rfl⟩
 cases b1<;>cases b2
 all_goals simp only[go_sem,seval,opLen,callW,callNW,undef,zerosN,Tryz.f26,x0,x1,x2,w0,w1,w2,m0,m1,m2,flatR,eqCells,hb1,hb2]
 all_goals exact⟨⟨_,rfl⟩,hS.back (by omega) hp (by simp only[go_sem,seval,opLen]<;>omega) (λc hc hc2=>by
  simp only[go_sem,seval,opLen]
  repeat rw[if_neg (by omega)]) λz hz=>by
  simp only[List.mem_append,List.mem_cons,List.not_mem_nil,or_false,false_or]at hz
  grind⟩
theorem does5{U:St}{B:PB}{S:PV}{m:Nat}{rate0:Int}(H:PI U B S m rate0)(hm:m<=40)(id flow size rate room:Int):
  callN Tryz.prog 26 [.pointer (some ⟨B.p,0,none⟩),.agg ⟨zpL nilS⟩,.agg ⟨[.int .i64 5,.int .i64 id,.int .i64 flow,.int .i64 size,.int .i64 rate,.int .i64 room]⟩] U (DoR U B S m rate0):=by
 have hp:∀c,PFoot B S.Q c->c<U.next:=λc hc=>H.at'.in_lt hc
 refine enterS (p:=w11) Tryz.func26 rfl stat26 ?_
 simp only[go_sem,seval,opLen,callW,callNW,undef,zerosN,Tryz.f26]
 obtain⟨Ua,hUa⟩:∃Ua,Ua=((U.new (.cells (zpL nilS) false)).new (.cells [.int .i64 5,.int .i64 id,.int .i64 flow,.int .i64 size,.int .i64 rate,.int .i64 room] false)).new (.cells (zpL nilS) false):=⟨_,rfl⟩
 have na:Ua.next=U.next+3:=by rw[hUa];rfl
 have a0:Ua.get U.next=some (.cells (zpL nilS) false):=by rw[hUa];simp only[go_sem,seval,opLen]
 have a1:Ua.get (U.next+1)=some (.cells ([.int .i64 5,.int .i64 id,.int .i64 flow,.int .i64 size,.int .i64 rate,.int .i64 room]) false):=by rw[hUa];simp only[go_sem,seval,opLen]
 have a2:Ua.get (U.next+2)=some (.cells (zpL nilS) false):=by rw[hUa];simp only[go_sem,seval,opLen]
 have ao:∀c,c<U.next->Ua.get c=U.get c:=λc hc=>by rw[hUa,St.get_new,if_neg (by simp only[St.next_new];omega),St.get_new,if_neg (by simp only[St.next_new];omega),St.get_new,if_neg (by omega)]
 simp only[zpL,nilS]at hUa
 rw[<-hUa]
 clear hUa
 refine callN.d (zput id flow size _) ?_
 have w0:U.next<Ua.next:=by omega
 have w1:U.next+1<Ua.next:=by omega
 have w2:U.next+2<Ua.next:=by omega
 have m0:¬U.next=U.next+1:=by omega
 simp only[go_sem,seval,opLen,callW,callNW,undef,zerosN,Tryz.f26,a0,a1,a2,w0,w1,w2,m0]
 obtain⟨Uz,hUz⟩:∃Uz,Uz=Ua.set U.next (.cells (zpL nilS) false):=⟨_,rfl⟩
 have zn:Uz.next=Ua.next:=by rw[hUz];rfl
 have y0:Uz.get U.next=some (.cells (zpL nilS) false):=by rw[hUz,St.get_set,if_pos rfl]
 have yg:∀c,c≠U.next->Uz.get c=Ua.get c:=λc hc=>by rw[hUz,St.get_set,if_neg (Ne.symm hc)]
 have y2:=(yg (U.next+2) (by omega)).trans a2
 have yo:∀c,c<U.next->Uz.get c=U.get c:=λc hc=>(yg c (by omega)).trans (ao c hc)
 simp only[zpL,nilS]at hUz
 rw[<-hUz]
 clear hUz
 refine callN.one (pput_any (H.keep (by omega) yo) hm id flow size) ?_
 intro e U2 lg2 hlg2 hA
 obtain⟨⟨n2,rfl⟩,hS⟩:=hA
 have n2':=hlg2.1
 have x0:=hS.get hlg2 hp (Nat.le_refl _) (by omega) y0
 have x2:=hS.get hlg2 hp (by omega) (by omega) y2
 have v0:U.next<U2.next:=by omega
 have v2:U.next+2<U2.next:=by omega
 refine⟨?_⟩
 simp only[go_sem,seval,opLen,callW,callNW,undef,zerosN,Tryz.f26,x0,x2,v0,v2]
 exact⟨⟨_,rfl⟩,hS.back (by omega) hp (by simp only[go_sem,seval,opLen]<;>omega) (λc hc hc2=>by
  simp only[go_sem,seval,opLen]
  repeat rw[if_neg (by omega)]) λz hz=>by
  simp only[List.mem_append,List.mem_cons,List.not_mem_nil,or_false,false_or]at hz
  grind⟩
theorem doesZ{U:St}{B:PB}{S:PV}{m:Nat}{rate0:Int}(H:PI U B S m rate0)(hm:m<=40)(kind id flow size rate room:Int)(h1:kind≠1)(h2:kind≠2)(h3:kind≠3)(h4:kind≠4)(h5:kind≠5)(h6:kind≠6):
  callN Tryz.prog 26 [.pointer (some ⟨B.p,0,none⟩),.agg ⟨zpL nilS⟩,.agg ⟨[.int .i64 kind,.int .i64 id,.int .i64 flow,.int .i64 size,.int .i64 rate,.int .i64 room]⟩] U (DoR U B S m rate0):=by
 have hp:∀c,PFoot B S.Q c->c<U.next:=λc hc=>H.at'.in_lt hc
 refine enterS (p:=w11) Tryz.func26 rfl stat26 ?_
 have e1:(kind==1)=false:=by simpa using h1
 have e2:(kind==2)=false:=by simpa using h2
 have e3:(kind==3)=false:=by simpa using h3
 have e4:(kind==4)=false:=by simpa using h4
 have e5:(kind==5)=false:=by simpa using h5
 have e6:(kind==6)=false:=by simpa using h6
 simp only[go_sem,seval,opLen,callW,callNW,undef,zerosN,Tryz.f26,e1,e2,e3,e4,e5,e6]
 refine⟨⟨_,rfl⟩,H.same.back (Nat.le_refl _) hp (by simp only[go_sem,seval,opLen]<;>omega) (λc hc hc2=>?_) λz hz=>.inr ?_⟩
 ·simp only[go_sem,seval,opLen]
  rw[if_neg (by omega),if_neg (by omega),if_neg (by omega),if_neg (by omega)]
 ·simp only[List.mem_append,List.mem_cons,List.not_mem_nil,or_false,false_or]at hz
  omega
theorem does_call{U:St}{B:PB}{S:PV}{m:Nat}{rate0:Int}(H:PI U B S m rate0)(hm:m<=40)(kind id flow size rate room:Int)(h6:kind≠6):
  callN Tryz.prog 26 [.pointer (some ⟨B.p,0,none⟩),.agg ⟨zpL nilS⟩,.agg ⟨[.int .i64 kind,.int .i64 id,.int .i64 flow,.int .i64 size,.int .i64 rate,.int .i64 room]⟩] U (DoR U B S m rate0):=by
 by_cases h1:kind=1
 ·subst h1;exact does1 H hm id flow size rate room
 by_cases h2:kind=2
 ·subst h2;exact does2 H hm id flow size rate room
 by_cases h3:kind=3
 ·subst h3;exact does3 H hm id flow size rate room
 by_cases h4:kind=4
 ·subst h4;exact does4 H hm id flow size rate room
 by_cases h5:kind=5
 ·subst h5;exact does5 H hm id flow size rate room
 exact doesZ H hm kind id flow size rate room h1 h2 h3 h4 h5 h6
theorem cellsO_end:∀{L:List OnV} {i:Nat} {x:OnV},L[i]?=some x->lget? (cellsO L) (i*7+6)=some (.int .i64 x.fin)
 |[],i,x,h=>by simp at h
 |y :: L,0,x,h=>by
  simp only[List.getElem?_cons_zero,Option.some.injEq]at h
  subst h
  rfl
 |y :: L,i+1,x,h=>by
  have:=cellsO_end (L:=L) (i:=i) (x:=x) (by simpa using h)
  rw[lget?_eq]at this ⊢
  have e:(i+1)*7+6=y.sent.length+(i*7+6):=by
   show(i+1)*7+6=7+(i*7+6)
   omega
  show(y.sent++cellsO L)[_]?=_
  rw[e,List.getElem?_append_right (by omega)]
  simpa using this
theorem small16_call(n:Int)(U:St):DCall Tryz.prog 15 [.int .i64 n] U (.ret (.bool (decide (1<=n)&&decide (n<=3000)))) U []:=by
 refine pure_call (enter (p:=q8) Tryz.func15 rfl stat15 ?_) rfl
 by_cases h:1<=n
 ·simp only[go_sem,seval,opLen,undef,Tryz.f15,h]
 ·simp only[go_sem,seval,opLen,undef,Tryz.f15,h]
structure FW(ts:List Value)(sa:Option Addr)(len cap:Nat)(p:Nat)(rate:Int)(i:Nat):Prop where
 size:ts.length=85
 t0:lget ts 0=.int .i64 rate
 t1:lget ts 1=.slice sa len cap
 t5:lget ts 5=.pointer (some ⟨p,0,none⟩)
 t7:lget ts 7=.int .i64 i
noncomputable def pwB:Code:=loopOf (Tryz.f5.body.getD .skip)
theorem pwS:statAll (btAll 5) pwB=true:=by kernel_rfl
noncomputable def pwI:Code:=loopOf pwB
theorem pwIS:statAll (btAll 5) pwI=true:=by kernel_rfl
structure FWi(ts:List Value)(sa:Option Addr)(len cap:Nat)(p:Nat)(rate:Int)(i:Nat)(v:Value)(j:Nat):Prop where
 f:FW ts sa len cap p rate i
 t9:lget ts 9=v
 t12:lget ts 12=.int .i64 j
def IWi(sa:Option Addr)(len cap:Nat)(p:Nat)(rate:Int)(i:Nat)(v:Value)(out:List OnV)(U0:St)(m:Nat)(fr:Fr)(U:St):Prop:=
 ∃ts,∃j:Nat,fr=⟨ts,[]⟩/\FWi ts sa len cap p rate i v j/\m+j=out.length/\U=U0
def EWi(sa:Option Addr)(len cap:Nat)(p:Nat)(rate:Int)(i:Nat)(U0:St)(x:AX)(fr:Fr)(U:St):Prop:=
 x=.exit 2/\∃ts,fr=⟨ts,[]⟩/\FW ts sa len cap p rate i/\U=U0
theorem pw_inner{U0:St}{B:PB}{S:PV}{lo:Nat}(H:PAt U0 B S){sa:Option Addr}{len cap:Nat}{rate:Int}{i:Nat}{v:Value}{out:List OnV}(hv:SoS lo U0 v out)(hl:out.length<=2000)(hf:∀o∈out,o.fin=S.now):
  ∀m fr U,IWi sa len cap B.p rate i v out U0 m fr U->loopS Tryz.prog false pwI fr U (endL (EWi sa len cap B.p rate i U0) λ_=>False):=by
 refine loop_indS q8 5 pwIS _ _ _ ?_
 rintro m fr U ⟨ts,j,rfl,F,hmi,rfl⟩
 have e0:=F.f.t0
 have e1:=F.f.t1
 have e5:=F.f.t5
 have e7:=F.f.t7
 have e9:=F.t9
 have e12:=F.t12
 have el:=F.f.size
 by_cases hi:j<out.length
 ·rcases hv with⟨_,rfl⟩|⟨a,rfl,ga,ha1,ha2,hne⟩
  ·simp at hi
  have c0:(j:Int)<(out.length:Int):=by omega
  have c1:(0:Int)<=(j:Int):=by omega
  have w1:IntKind.i64.wrap ((j:Int)+1)=((j+1:Nat):Int):=by
   have:(j:Int)+1=((j+1:Nat):Int):=by omega
   rw[this];exact wrapIN (by omega)
  have hx:out[j]?=some out[j]:=List.getElem?_eq_getElem hi
  have ez:=cellsO_end hx
  rw[hf _ (List.getElem_mem hi)]at ez
  simp only[go_sem,seval,opLen,undef,zerosN,pwI,pwB,loopOf,Tryz.f5,Option.getD,Int.toNat_natCast,e0,e1,e5,e7,e9,e12,el,c0,c1,ga,ha2,ez]
  refine .of (now_call H) ?_
  simp only[go_sem,seval,opLen,undef,zerosN,Int.toNat_natCast,e0,e1,e5,e7,e9,e12,el,c0,c1,ga,ha2,ez,w1]
  exact⟨m - 1,by omega,_,j+1,rfl,⟨⟨by simp only[List.length_set,el],by simp only[go_sem,seval,opLen,el,e0],by simp only[go_sem,seval,opLen,el,e1],by simp only[go_sem,seval,opLen,el,e5],by simp only[go_sem,seval,opLen,el,e7]⟩,by simp only[go_sem,seval,opLen,el,e9],by simp only[go_sem,seval,opLen,el]⟩,by omega,rfl⟩
 ·have c0:¬(j:Int)<(out.length:Int):=by omega
  obtain⟨sb,rfl,hlen⟩:∃sb,v=.slice sb out.length out.length/\∀U,opLen (cP Tryz.prog).T U 77 (.slice sb out.length out.length)=some (.val (.int .i64 out.length) []):=by
   rcases hv with⟨rfl,rfl⟩|⟨a,rfl,_⟩
   ·exact⟨none,rfl,λU=>by simp only[opLen,cx_und,Tryz.underlying77];rfl⟩
   ·exact⟨_,rfl,λU=>by simp only[opLen,cx_und,Tryz.underlying77]⟩
  simp only[go_sem,seval,undef,zerosN,pwI,pwB,loopOf,Tryz.f5,Option.getD,e0,e1,e5,e7,e9,e12,el,c0,hlen]
  exact⟨rfl,_,rfl,⟨by simp only[List.length_set,el],by simp only[go_sem,seval,el,e0],by simp only[go_sem,seval,el,e1],by simp only[go_sem,seval,el,e5],by simp only[go_sem,seval,el,e7]⟩,rfl⟩
theorem min_op(x y:Int):opMin (.int .i64 x) (.int .i64 y)=some (.val (.int .i64 (min x y)) []):=by
 by_cases h:x<y
 ·have e:min x y=x:=by omega
  rw[e];unfold opMin;simp;omega
 ·have e:min x y=y:=by omega
  rw[e];unfold opMin;simp;omega
def Acts6(sa:Option Addr)(len:Nat)(ab:Nat)(vs:List Value):Prop:=
 (0<len->∃s,sa=some ⟨ab,0,some s⟩)/\
 ∀i,i<len->∃kind id flow size rate room:Int,(vs.drop (i*6)).take 6=[.int .i64 kind,.int .i64 id,.int .i64 flow,.int .i64 size,.int .i64 rate,.int .i64 room]/\i*6+6<=vs.length
def IMw(U0:St)(sa:Option Addr)(len cap:Nat)(rate:Int)(m:Nat)(fr:Fr)(U:St):Prop:=
 ∃ts i B S,fr=⟨ts,[]⟩/\FW ts sa len cap B.p rate i/\m+i=len/\PI U B S i rate/\(∀z,z<U0.next->U.get z=U0.get z)/\(∀c,PFoot B S.Q c->U0.next<=c)/\U0.next<=U.next
def EMw(x:AX)(fr:Fr)(_:St):Prop:=x=.exit 0/\∃ts,fr=⟨ts,[]⟩/\ts.length=85
theorem lg_old{U U' U0:St}{B:PB}{S:PV}{lg:Log}(hl:Logged U U' lg)(h:∀z∈lg,PFoot B S.Q z\/U.next<=z)(hf:∀c,PFoot B S.Q c->U0.next<=c)(h0:U0.next<=U.next)(ho:∀z,z<U0.next->U.get z=U0.get z):∀z,z<U0.next->U'.get z=U0.get z:=λz hz=>(hl.2 z (by omega) λhm=>by
 rcases h z hm with h|h
 ·have:=hf z h;omega
 ·omega).trans (ho z hz)
theorem pw_loop{U0:St}{sa:Option Addr}{len cap ab:Nat}{vs:List Value}{ro:Bool}{rate:Int}(hol:∀U,opLen (cP Tryz.prog).T U 45 (.slice sa len cap)=some (.val (.int .i64 (len:Int)) []))(hlen:len<=40)(hr:1<=rate/\rate<=3000)(hA:Acts6 sa len ab vs)(hg:0<len->U0.get ab=some (.cells vs ro)/\ab<U0.next):
  ∀m fr U,IMw U0 sa len cap rate m fr U->loopS Tryz.prog false pwB fr U (endL EMw λz=>U0.next<=z):=by
 refine loop_indS w11 5 pwS _ _ _ ?_
 rintro m fr U ⟨ts,i,B,S,rfl,F,hmi,H,ho,hf,hn0⟩
 have e0:=F.t0
 have e1:=F.t1
 have e5:=F.t5
 have e7:=F.t7
 have el:=F.size
 by_cases hi:i<len
 ·have c0:(i:Int)<(len:Int):=by omega
  have c1:(0:Int)<=(i:Int):=by omega
  have w1:IntKind.i64.wrap ((i:Int)+1)=((i+1:Nat):Int):=by
   have:(i:Int)+1=((i+1:Nat):Int):=by omega
   rw[this];exact wrapIN (by omega)
  obtain⟨sp,rfl⟩:=hA.1 (by omega)
  obtain⟨ga0,hab⟩:=hg (by omega)
  have ga:=(ho ab hab).trans ga0
  have hab2:ab<U.next:=by omega
  obtain⟨kind,id,flow,size,rt,room,ex,lx⟩:=hA.2 i hi
  have ez:lget? vs (i*6)=some (.int .i64 kind):=by
   have e0:=congrArg (λl:List Value=>l[0]?) ex
   simp only[List.getElem?_take,List.getElem?_drop]at e0
   rw[lget?_eq]
   simpa using e0
  by_cases hk:kind=6
  ·subst hk
   have hOk:=H.ok (by omega)
   simp only[go_sem,seval,callW,callNW,undef,zerosN,pwB,loopOf,Tryz.f5,Option.getD,Int.toNat_natCast,e0,e1,e5,e7,el,c0,c1,ga,hab2,ez,hol]
   refine callN.hidE (bytes_n H.at' hOk) ?_
   intro e U1 lg1 hlg1 hA1
   obtain⟨rfl,hB1⟩:=hA1
   have n1:=hlg1.1
   have H1:PI U1 B S i rate:=H.keep n1 λz hz=>hlg1.2 z hz λhm=>by have:=hB1 z hm;omega
   have o1:=lg_old hlg1 (λz hz=>.inr (hB1 z hz)) hf hn0 ho
   refine⟨?_⟩
   simp only[go_sem,seval,callW,callNW,undef,zerosN,Option.getD,Int.toNat_natCast,e0,e1,e5,e7,el]
   refine callN.one (serve_any H1 (by omega) (by omega)) ?_
   intro e U2 lg2 hlg2 hA2
   obtain⟨v,out,B',S',rfl,D⟩:=hA2
   have n2:=hlg2.1
   have o2:=lg_old hlg2 D.lg hf (by omega) o1
   have hB':B'.p=B.p:=D.p
   refine⟨?_⟩
   simp only[go_sem,seval,callW,callNW,undef,zerosN,Option.getD,Int.toNat_natCast,e0,e1,e5,e7,el]
   have hb3:=bytes_n D.pi.at' (D.pi.ok (by omega))
   rw[hB']at hb3
   refine callN.hidE hb3 ?_
   intro e U3 lg3 hlg3 hA3
   obtain⟨rfl,hB3⟩:=hA3
   have n3:=hlg3.1
   have H3:PI U3 B' S' (i+1) rate:=D.pi.keep n3 λz hz=>hlg3.2 z hz λhm=>by have:=hB3 z hm;omega
   have hf':∀c,PFoot B' S'.Q c->U0.next<=c:=λc hc=>by
    rcases D.ft c hc with h|h
    ·exact hf c h
    ·omega
   have o3:=lg_old hlg3 (λz hz=>.inr (hB3 z hz)) hf' (by omega) o2
   have so3:SoS U1.next U3 v out:=D.so.keep n3 λa _ ha=>hlg3.2 a ha λhm=>by have:=hB3 a hm;omega
   have k1:=hOk.left
   have k2:=H.room (by omega)
   have k3:=D.by'
   have k4:0<=bytesS S/\bytesS S<=100000:=by unfold bytesS;omega
   have w2:IntKind.i64.wrap (bytesS S - bytesS S')=min rate (bytesS S):=by rw[k3];exact wrapI (by omega) (by omega)
   have hne:(min rate (bytesS S) != min rate (bytesS S))=false:=by simp
   refine⟨?_⟩
   simp only[go_sem,seval,callW,callNW,undef,zerosN,Option.getD,Int.toNat_natCast,e0,e1,e5,e7,el,w2,min_op,hne]
   refine loop_thenS (show loopS Tryz.prog false pwI _ _ _ from pw_inner (sa:=some ⟨ab,0,some sp⟩) (len:=len) (cap:=cap) (i:=i) (rate:=rate) H3.at' so3 D.len D.fin out.length _ _ ⟨_,0,rfl,⟨⟨by simp only[List.length_set,el],by simp only[go_sem,seval,el,e0],by simp only[go_sem,seval,el,e1],by rw[hB'];simp only[go_sem,seval,el,e5],by simp only[go_sem,seval,el,e7]⟩,by simp only[go_sem,seval,el],by simp only[go_sem,seval,el]⟩,rfl,rfl⟩) ?_
   intro x fr' U4 lg4 hlg4 hB4 h
   obtain⟨rfl,ts4,rfl,F4,rfl⟩:=h
   have hno:lg4=[]:=List.eq_nil_iff_forall_not_mem.2 hB4
   subst hno
   have f0:=F4.t0
   have f1:=F4.t1
   have f5:=F4.t5
   have f7:=F4.t7
   have fl:=F4.size
   simp only[go_sem,seval,callW,callNW,undef,zerosN,AX.inBlock,f0,f1,f5,f7,fl,w1]
   refine⟨λz hz=>?_,m - 1,by omega,_,i+1,B',S',rfl,⟨by simp only[List.length_set,fl],by simp only[go_sem,seval,fl,f0],by simp only[go_sem,seval,fl,f1],by simp only[go_sem,seval,fl,f5],by simp only[go_sem,seval,fl]⟩,by omega,H3,o3,hf',by omega⟩
   rcases hz with hz|hz|hz
   ·have:=hB1 z hz;omega
   ·rcases D.lg z hz with h|h
    ·exact hf z h
    ·omega
   ·have:=hB3 z hz;omega
  ·have hk':(kind != 6)=true:=by simpa using hk
   simp only[go_sem,seval,callW,callNW,undef,zerosN,pwB,loopOf,Tryz.f5,Option.getD,Int.toNat_natCast,e0,e1,e5,e7,el,c0,c1,ga,hab2,ez,ex,lx,hol,hk']
   refine callN.hidE (does_call H (by omega) kind id flow size rt room hk) ?_
   intro e U1 lg1 hlg1 hA1
   obtain⟨⟨v,rfl⟩,B',S',P',hl',hf',hp'⟩:=hA1
   have n1:=hlg1.1
   have o1:=lg_old hlg1 hl' hf hn0 ho
   refine⟨?_⟩
   simp only[go_sem,seval,callW,callNW,undef,zerosN,Option.getD,Int.toNat_natCast,e0,e1,e5,e7,el,w1]
   refine⟨λz hz=>?_,m - 1,by omega,_,i+1,B',S',rfl,⟨by simp only[List.length_set,el],by simp only[go_sem,seval,el,e0],by simp only[go_sem,seval,el,e1],by rw[hp'];simp only[go_sem,seval,el,e5],by simp only[go_sem,seval,el]⟩,by omega,P',o1,λc hc=>?_,by omega⟩
   ·rcases hl' z hz with h|h
    ·exact hf z h
    ·omega
   ·rcases hf' c hc with h|h
    ·exact hf c h
    ·omega
 ·have c0:¬(i:Int)<(len:Int):=by omega
  simp only[go_sem,seval,callW,callNW,undef,zerosN,pwB,loopOf,Tryz.f5,Option.getD,Int.toNat_natCast,e0,e1,e5,e7,el,c0,hol]
  exact⟨rfl,_,rfl,by simp only[List.length_set,el]⟩
def True5(U:St)(e:AE)(_:St)(lg:Log):Prop:=e=.ret (.bool true)/\∀c∈lg,U.next<=c
theorem PI.start{U:St}{B:PB}{rate:Int}(H:PAt U B (P0 rate 2000 7 100000)):PI U B (P0 rate 2000 7 100000) 0 rate where
 at':=H
 q:=QOk.nil
 nf:=Nat.le_refl _
 sz:=λx hx=>by simp [P0]at hx
 tot:=Nat.le_refl _
 on:=λx hx=>by simp [P0]at hx
 cfg:=⟨rfl,rfl,rfl⟩
 now:=⟨7,rfl,by omega,by omega⟩
theorem pw_out{rate:Int}{sa:Option Addr}{len cap:Nat}{U:St}(hol:∀U,opLen (cP Tryz.prog).T U 45 (.slice sa len cap)=some (.val (.int .i64 (len:Int)) []))(h:¬(len<=40/\1<=rate/\rate<=3000)):
  callN Tryz.prog 5 [.int .i64 rate,.slice sa len cap] U (True5 U):=by
 refine enterS (p:=q8) Tryz.func5 rfl stat5 ?_
 by_cases h1:1<=rate/\rate<=1000000
 ·simp only[go_sem,seval,callNW,undef,zerosN,Tryz.f5]
  refine callN.one (pnew_call h1 (by omega) (by omega) (by omega)) ?_
  intro e U1 lg1 hlg1 hA
  obtain⟨B,rfl,hB,_⟩:=hA
  refine⟨?_⟩
  by_cases c1:(40:Int)<(len:Int)
  ·simp only[go_sem,seval,callNW,undef,zerosN,hol,c1]
   refine callN.d (known33_call _) ?_
   simp only[go_sem,seval,callNW,undef]
   exact⟨rfl,hB⟩
  ·have hb:(decide (1<=rate)&&decide (rate<=3000))=false:=by
    rw[Bool.and_eq_false_iff,decide_eq_false_iff_not,decide_eq_false_iff_not]
    omega
   simp only[go_sem,seval,callNW,undef,zerosN,hol,c1]
   refine callN.d (small16_call _ _) ?_
   simp only[go_sem,seval,callNW,undef,zerosN,hol,c1,hb]
   refine callN.d (known33_call _) ?_
   simp only[go_sem,seval,callNW,undef]
   exact⟨rfl,hB⟩
 ·simp only[go_sem,seval,callNW,undef,zerosN,Tryz.f5]
  refine callN.one (pnew_not h1 (by omega)) ?_
  intro e U1 lg1 hlg1 hA
  obtain⟨rfl,hB⟩:=hA
  refine⟨?_⟩
  by_cases c1:(40:Int)<(len:Int)
  ·simp only[go_sem,seval,callNW,undef,zerosN,hol,c1]
   refine callN.d (known33_call _) ?_
   simp only[go_sem,seval,callNW,undef]
   exact⟨rfl,hB⟩
  ·have hb:(decide (1<=rate)&&decide (rate<=3000))=false:=by
    rw[Bool.and_eq_false_iff,decide_eq_false_iff_not,decide_eq_false_iff_not]
    omega
   simp only[go_sem,seval,callNW,undef,zerosN,hol,c1]
   refine callN.d (small16_call _ _) ?_
   simp only[go_sem,seval,callNW,undef,zerosN,hol,c1,hb]
   refine callN.d (known33_call _) ?_
   simp only[go_sem,seval,callNW,undef]
   exact⟨rfl,hB⟩
theorem pw_in{rate:Int}{sa:Option Addr}{len cap ab:Nat}{vs:List Value}{ro:Bool}{U:St}(hol:∀U,opLen (cP Tryz.prog).T U 45 (.slice sa len cap)=some (.val (.int .i64 (len:Int)) []))(hlen:len<=40)(hr:1<=rate/\rate<=3000)(hA:Acts6 sa len ab vs)(hg:0<len->U.get ab=some (.cells vs ro)/\ab<U.next):
  callN Tryz.prog 5 [.int .i64 rate,.slice sa len cap] U (True5 U):=by
 have c1:¬(40:Int)<(len:Int):=by omega
 have hb:(decide (1<=rate)&&decide (rate<=3000))=true:=by
  simp only[Bool.and_eq_true,decide_eq_true_eq];exact hr
 refine enterS (p:=q8) Tryz.func5 rfl stat5 ?_
 simp only[go_sem,seval,callNW,undef,zerosN,Tryz.f5]
 refine callN.one (pnew_call (by omega) (by omega) (by omega) (by omega)) ?_
 intro e U1 lg1 hlg1 hA1
 obtain⟨B,rfl,hB,P1,hf1⟩:=hA1
 have n1:=hlg1.1
 refine⟨?_⟩
 simp only[go_sem,seval,callNW,undef,zerosN,hol,c1]
 refine callN.d (small16_call _ _) ?_
 simp only[go_sem,seval,callNW,undef,zerosN,hol,c1,hb]
 refine loop_thenS (show loopS Tryz.prog false pwB _ _ _ from pw_loop (U0:=U) (sa:=sa) (len:=len) (cap:=cap) (ab:=ab) (vs:=vs) (ro:=ro) (rate:=rate) hol hlen hr hA hg len _ _ ⟨_,0,B,_,rfl,⟨rfl,rfl,rfl,rfl,rfl⟩,rfl,PI.start P1,λz hz=>hlg1.2 z hz λhm=>by have:=hB z hm;omega,λc hc=>hf1 c hc,n1⟩) ?_
 intro x fr' U4 lg4 hlg4 hB4 h
 obtain⟨rfl,ts4,rfl,fl⟩:=h
 simp only[go_sem,seval,callNW,undef,zerosN,AX.inBlock,fl]
 refine callN.d (known33_call _) ?_
 simp only[go_sem,seval,callNW,undef,fl]
 refine⟨rfl,λz hz=>?_⟩
 simp only[List.mem_append,List.mem_cons,List.not_mem_nil,or_false,false_or]at hz
 rcases hz with hz|hz
 ·exact hB z hz
 ·exact hB4 z hz
theorem pw_call{rate:Int}{sa:Option Addr}{len cap ab:Nat}{vs:List Value}{ro:Bool}{U:St}(hol:∀U,opLen (cP Tryz.prog).T U 45 (.slice sa len cap)=some (.val (.int .i64 (len:Int)) []))(hA:Acts6 sa len ab vs)(hg:0<len->U.get ab=some (.cells vs ro)/\ab<U.next):
  callN Tryz.prog 5 [.int .i64 rate,.slice sa len cap] U (True5 U):=by
 by_cases h:len<=40/\1<=rate/\rate<=3000
 ·exact pw_in hol h.1 h.2 hA hg
 ·exact pw_out hol h
open Go.RowKit
variable {P:Program}
theorem callsN_true{f:FuncId}{args:List Value}{U:St}(h:callN P f args U λe _ lg=>e=.ret (.bool true)/\∀c∈lg,U.next<=c){ρ:Ren}{w:World}{args':Array Value}(hw:WR ρ U w.heap)(ha:VRL ρ args args'.toList)(hro:ReadOnly ρ U w):
  Calls P f args' w λe w'=>e=.returned (.bool true)/\Below w.heap.size w w':=by
 refine((h ρ w args' hw ha).mono λe w' ⟨ae,U',lg,⟨hae,hlg⟩,hl,ρ',he,hA⟩=>?_).calls λk d hd=>(by simp [fence]at hd)
 refine⟨?_,below_of_aft hw hA hro λc hc=>hl.2 c hc λhm=>by have:=hlg c hm;omega⟩
 subst hae
 cases e with
 |returned v'=>
  have he':VR ρ' (.bool true) v':=he
  cases he'
  rfl
 |panicked c=>exact False.elim he
 |outgrown=>exact False.elim he
end Go.Ab
namespace Go.Proofs.YtphmndfjmoacfaaGreat.portWorks
open Go.ChangeShapes Go.WideShapes Go.ChangeAt Go.RowKit Go.Ab
theorem own:ownKnob Tryz.prog.godebug=none:=by kernel_rfl
theorem laidOut:laidOutB Tryz.prog=true:=by kernel_rfl
theorem flat_act:flatK Tryz.prog 5 53=some [.int .i64,.int .i64,.int .i64,.int .i64,.int .i64,.int .i64]:=by kernel_rfl
abbrev K6:List FK:=[.int .i64,.int .i64,.int .i64,.int .i64,.int .i64,.int .i64]
theorem act_cells{c:List Value}(h:oks K6 c):∃k i f s r m:Int,c=[.int .i64 k,.int .i64 i,.int .i64 f,.int .i64 s,.int .i64 r,.int .i64 m]:=by
 have hl:=oks_length h
 obtain⟨a,b,c1,d,e,f,rfl⟩:∃a b c1 d e f,c=[a,b,c1,d,e,f]:=by
  match c,hl with
  |[a,b,c1,d,e,f],_=>exact⟨a,b,c1,d,e,f,rfl⟩
 obtain⟨⟨k,rfl,_⟩,⟨i,rfl,_⟩,⟨f,rfl,_⟩,⟨s,rfl,_⟩,⟨r,rfl,_⟩,⟨m,rfl,_⟩,_⟩:=h
 exact⟨k,i,f,s,r,m,rfl⟩
theorem row_acts{w:World}{a:Option Addr}{len cap:Nat}{es:List (List Value)}(h:IsRow K6 w a len cap es)(i:Nat)(hi:i<es.length):∃kind id flow size rate room:Int,(es.flatten.drop (i*6)).take 6=[.int .i64 kind,.int .i64 id,.int .i64 flow,.int .i64 size,.int .i64 rate,.int .i64 room]/\i*6+6<=es.flatten.length:=by
 have hok:∀c∈es,oks K6 c:=by
  rcases h with⟨_,_,_,rfl⟩|⟨x,_,_,_,_,h,_⟩
  ·intro c hc;simp at hc
  ·exact h
 obtain⟨k,id,f,s,r,m,hc⟩:=act_cells (hok es[i] (List.getElem_mem hi))
 obtain⟨h3,h4⟩:=flatten_take (k:=6) (λc hc=>oks_length (hok c hc)) (List.getElem?_eq_getElem hi)
 rw[hc]at h3
 exact⟨k,id,f,s,r,m,h3,h4⟩
theorem walk(a0:Int)(a:Option Addr)(len cap:Nat)(es:List (List Value))(w:World)(h:IsRow K6 w a len cap es):
  Calls Tryz.prog 5 #[.int .i64 a0,.slice a len cap] w λe w'=>e=.returned (.bool true)/\Below w.heap.size w w':=by
 obtain⟨ρ,U,v,hw,hro,hv,hs⟩:=row_in h (by simp)
 rcases hs with⟨rfl,rfl,hv2⟩|⟨hl,rfl,rfl⟩
 ·have key:∀sa:Option Addr,v=.slice sa 0 0->(∀U,opLen (cP Tryz.prog).T U 45 (.slice sa 0 0)=some (.val (.int .i64 ((0:Nat):Int)) []))->Calls Tryz.prog 5 #[.int .i64 a0,.slice a 0 cap] w λe w'=>e=.returned (.bool true)/\Below w.heap.size w w':=λsa e hol=>by
   subst e
   exact callsN_true (pw_call (rate:=a0) (sa:=sa) (len:=0) (cap:=0) (ab:=0) (ro:=true) (vs:=[]) (U:=St.nil) hol ⟨λh=>absurd h (by omega),λi hi=>absurd hi (by omega)⟩ λh=>absurd h (by omega)) hw (.cons (.int _ _) (.cons hv .nil)) hro
  rcases hv2 with hv2|hv2
  ·exact key none hv2 λU=>by simp only[opLen,cx_und,Tryz.underlying45];rfl
  ·exact key _ hv2 λU=>by simp only[opLen,cx_und,Tryz.underlying45]
 ·exact callsN_true (pw_call (rate:=a0) (sa:=some ⟨0,0,some 0⟩) (len:=len) (cap:=cap) (ab:=0) (ro:=true) (vs:=es.flatten) (U:=St.nil.new (.cells es.flatten true)) (λU=>by simp only[opLen,cx_und,Tryz.underlying45])
   ⟨λ_=>⟨0,rfl⟩,λi hi=>row_acts h i (by omega)⟩ λ_=>⟨by rw[St.get_new];rfl,Nat.zero_lt_one⟩) hw (.cons (.int _ _) (.cons hv .nil)) hro
set_option maxRecDepth 100000 in
theorem lifted (os:Os) (started:os.Started) (H:Type) (enc:TypeId×Value->H):
  ReturnsInHanded {} Tryz.checked os 5 .any (Rows.portWorksSpec.pre6 enc Tryz.prog Tryz.f5 Rows.portWorksRow.domain false) (Rows.portWorksSpec.post enc Tryz.prog Tryz.f5 false true false false):=by
 refine returnsInHanded_of_change (C:=Tryz.checked) own started (by kernel_rfl) Tryz.func5
  (ChangeSpec.witness6 (enc:=enc) (C:=Tryz.checked) false ⟨#[],#[.int .i64 0,.slice none 0 0],[]⟩ 8 (by kernel_rfl) (by kernel_rfl) (by kernel_rfl) (by kernel_rfl)) ?_
 intro W base args ds gs before hval0 hW hcnd _
 have hval:∀(j:Nat) t v,Tryz.f5.params[j]?=some t->args[j]?=some v->Value.okWide Tryz.prog W .any base t v:=hval0
 have hW':=hW
 obtain⟨p,q,hA0,hV,rfl,hfz,hnd⟩:=hW
 have hA:DataW.TrodAll enc Tryz.prog W 0 (λ_=>true) true Tryz.f5.params.toList args.toList ds p:=hA0
 rw[Tryz.params5]at hA hval
 obtain⟨v0,vs0,d0,ds0,p0,q0,hargs,rfl,rfl,h0,r0⟩:=trodAll_cons hA
 obtain⟨v1,vs1,d1,ds1,p1,q1,rfl,rfl,rfl,h1,r1⟩:=trodAll_cons r0
 obtain⟨rfl,rfl,rfl⟩:=trodAll_nil r1
 obtain rfl:args=#[v0,v1]:=by cases args;simp_all
 obtain⟨rfl,rfl⟩:=trodVars_none hV
 obtain⟨a0,rfl,rfl,rfl,w0⟩:=open_int Tryz.underlying2 (hval 0 2 v0 rfl rfl) h0
 obtain⟨a1,len1,cap1,rfl⟩:=okWide_slice Tryz.underlying45 (hval 1 45 v1 rfl rfl)
 have k1:=h1
 have lt1:∀x∈p1,x.block<W.heap.size:=by obtain⟨m,hm⟩:=k1;exact DataW.trod_lt m _ _ _ hm
 obtain⟨es,w1⟩:∃es,IsRow K6 W a1 len1 cap1 es:=by
  obtain⟨fuel,hf⟩:=h1
  rcases open_flats Tryz.underlying45 flat_act (by kernel_rfl) hf with hcs|⟨x,l,c,es,hcs,_,hl,hm,hz,hok,hcell⟩
  ·simp [Value.cells]at hcs
   obtain⟨rfl,rfl,rfl⟩:=hcs
   exact⟨[],.inl ⟨rfl,rfl,rfl,rfl⟩⟩
  ·simp [Value.cells]at hcs
   obtain⟨rfl,rfl,rfl⟩:=hcs
   exact⟨es,.inr ⟨_,rfl,hl,hm,hz,hok,hcell⟩⟩
 clear hA0 hval0
 refine(walk a0 a1 len1 cap1 es W w1).mono λe W' ⟨he,bel⟩=>?_
 subst he
 exact⟨_,rfl,_,_,_,[],_,[],hW',trodAll_mk1 (shut_bool Tryz.underlying4 _),(trodAll_cons_mk (shut_int Tryz.underlying2 w0) (trodAll_cons_mk (Below.trod laidOut (by kernel_rfl) (of_decide_eq_true (by kernel_rfl)) k1 bel lt1) trodAll_mk0)),rfl,bel.frame _,λh=>by cases h⟩
theorem over:Rows.portWorksRow.holds Tryz.pinned (OpenSpec.ofChange Rows.portWorksSpec):=
 OpenClaim.holds_of_wide 5 Tryz.f5 rfl rfl rfl rfl rfl rfl rfl ⟨rfl,rfl,rfl,rfl,rfl⟩ rfl rfl rfl rfl rfl (by kernel_rfl) Tryz.func5 (by kernel_rfl)
  (of_decide_eq_true (by kernel_rfl)) (by unfold Func.isWrapper;first|(rw[if_pos (by decide +kernel)];kernel_rfl)|(rw[if_neg (by decide +kernel)];exact⟨rfl,rfl⟩))
  (λos started H enc _=>lifted os started H enc)
theorem proved:Rows.PortWorksSaid:=over
#print axioms proved
end Go.Proofs.YtphmndfjmoacfaaGreat.portWorks
