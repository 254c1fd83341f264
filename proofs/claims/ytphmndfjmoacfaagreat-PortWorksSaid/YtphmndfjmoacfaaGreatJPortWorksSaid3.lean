/- PortWorksSaid: part 4 of 8 of the proof that it returns true for every input and leaves its arguments as they were; no condition. -/
import Derived.Test.YtphmndfjmoacfaaGreatJPortWorksSaid2
import Derived.Test.YtphmndfjmoacfaaGreatJPortWorksSaid1
import Derived.Test.YtphmndfjmoacfaaGreatProg
import Derived.KernelRfl
import Derived.Maps.RangeRun
set_option maxHeartbeats 6400000
set_option maxRecDepth 20000
set_option linter.unusedSimpArgs false
set_option linter.unusedVariables false
namespace Go.Ab
open Go.Proofs
structure OnV where
 pk:Pk
 prom:Bool
 n:Int
 d:Int
 fin:Int
 left:Int
def lineOn(x:Pk):OnV:=⟨x,false,0,0,0,x.size⟩
inductive Serves(now:Int):Int->Option OnV->List OnV->List Pk->List OnV->Option OnV->List OnV->List Pk->Prop
 |zero {on:Option OnV} {qs:List OnV} {L:List Pk}:Serves now 0 on qs L [] on qs L
 |empty {b:Int} (h:0<b):Serves now b none [] [] [] none [] []
 |part {b:Int} {o:OnV} {qs:List OnV} {L:List Pk} (h:0<b) (h1:b<o.left):Serves now b (some o) qs L [] (some {o with left:=o.left - b}) qs L
 |full {b:Int} {o:OnV} {qs:List OnV} {L:List Pk} {out:List OnV} {on':Option OnV} {qs':List OnV} {L':List Pk} (h:0<b) (h1:o.left<=b) (k:Serves now (b - o.left) none qs L out on' qs' L'):Serves now b (some o) qs L ({o with fin:=now,left:=0} :: out) on' qs' L'
 |nextq {b:Int} {o:OnV} {qs:List OnV} {L:List Pk} {out:List OnV} {on':Option OnV} {qs':List OnV} {L':List Pk} (h:0<b) (k:Serves now b (some o) qs L out on' qs' L'):Serves now b none (o :: qs) L out on' qs' L'
 |nextl {b:Int} {x:Pk} {L:List Pk} {out:List OnV} {on':Option OnV} {qs':List OnV} {L':List Pk} (h:0<b) (k:Serves now b (some (lineOn x)) [] L out on' qs' L'):Serves now b none [] (x :: L) out on' qs' L'
def HV(U:St)(lo h m:Nat)(L:List Item)(t:Int):Prop:=
 lo<=h/\lo<=m/\lo<=U.next/\((L=[]/\HE U h m t)\/∃a cap,lo<=a/\HI U h a m L cap t)
def From(lo:Nat)(lg:Log):Prop:=∀c∈lg,lo<=c
theorem HI.pos{U:St}{h a m:Nat}{L:List Item}{cap:Nat}{t:Int}(H:HI U h a m L cap t):AllPos L:=λx hx=>Item.ok_pos (H.ok x hx)
theorem HI.dist{U:St}{h a m:Nat}{L:List Item}{cap:Nat}{t:Int}(H:HI U h a m L cap t):Dist L:=by
 obtain⟨f,_,hi⟩:=H.hs
 exact hi.dist
theorem HV.pos{U:St}{lo h m:Nat}{L:List Item}{t:Int}(H:HV U lo h m L t):AllPos L:=by
 rcases H.2.2.2 with⟨rfl,_⟩|⟨a,cap,_,H⟩
 ·exact λx hx=>by simp at hx
 ·exact H.pos
theorem len_hv{U:St}{lo h m:Nat}{L:List Item}{t:Int}(H:HV U lo h m L t):DCall Tryz.prog 58 [.pointer (some ⟨h,0,none⟩)] U (.ret (.int .i64 L.length)) U []:=by
 obtain⟨a1,a2,a3,H⟩:=H
 rcases H with⟨rfl,H⟩|⟨a,cap,a4,H⟩
 ·exact len_call0 H.gh
 ·obtain⟨f,H1,_⟩:=H.hs
  exact len_call H1.gh
theorem HV.dist{U:St}{lo h m:Nat}{L:List Item}{t:Int}(H:HV U lo h m L t):Dist L:=by
 rcases H.2.2.2 with⟨rfl,_⟩|⟨a,cap,_,H⟩
 ·exact λi j x y hx=>by simp at hx
 ·exact H.dist
theorem lget_put(ts:List Value)(i:Nat)(v:Value)(j:Nat):lget (ts.set i v) j=if i=j then(if i<ts.length then v else undef) else lget ts j:=by
 induction ts generalizing i j with
 |nil=>simp [lget]
 |cons x ts ih=>
  cases i with
  |zero=>cases j<;>simp [lget]
  |succ i=>
   cases j with
   |zero=>simp [lget]
   |succ j=>simp [lget,ih]
theorem lgetq_put(ts:List Value)(i:Nat)(v:Value)(j:Nat):lget? (ts.set i v) j=if i=j then(if i<ts.length then some v else none) else lget? ts j:=by
 rw[lget?_eq,lget?_eq,List.getElem?_set]
def nthC:Nat->Code->Code
 |0,.seq a _=>a
 |n+1,.seq _ b=>nthC n b
 |_,c=>c
theorem HI.drop{U:St}{h a m:Nat}{L:List Item}{cap:Nat}{t:Int}(H:HI U h a m L cap t){n:Nat}{x:Item}(hx:L[n]?=some x):
  ∃U',DCall Tryz.prog 89 [.pointer (some ⟨h,0,none⟩),.int .i64 x.id] U (.ret (.int .i64 0)) U' [h,a,m]/\HI U' h a m (outL L n) cap t:=by
 obtain⟨U',d,b3,b4,_⟩:=out_call H hx
 obtain⟨f,H1,hi⟩:=H.hs
 obtain⟨es,ck,gm,hkv,hlk⟩:=H1.gm
 have hno:=none_call H1.gh
 have hlo:=map_get (ok:=true) gm hkv hlk (hi.fwd n x hx)
 refine⟨U',calls (one_ok' (one_ok' Orc.none_ok d) hno) Tryz.func89 rfl 40 nobt (by kernel_rfl) ?_,b3⟩
 exact⟨_,by simp only[go_sem,seval,one_other,Orc.one_call,hlo,H1.gh,Tryz.f89,Tryz.underlying2,info2,Tryz.t2,Tryz.underlying3,info3,Tryz.t3,Tryz.underlying4,info4,Tryz.t4,Tryz.underlying38,info38,Tryz.t38,Tryz.underlying91,info91,Tryz.t91,Tryz.underlying47,info47,Tryz.t47,Tryz.underlying159,info159,Tryz.t159,Tryz.underlying162,info162,Tryz.t162,Tryz.underlying163,info163,Tryz.t163,Tryz.underlying164,info164,Tryz.t164,Tryz.underlying166,info166,Tryz.t166,Tryz.underlying167,info167,Tryz.t167,Tryz.underlying217,info217,Tryz.t217,body111,body135]<;>rfl,by simp only[go_sem,seval,Tryz.f89],rfl,rfl⟩
theorem HI.get{U:St}{h a m:Nat}{L:List Item}{cap:Nat}{t:Int}(H0:HI U h a m L cap t){n:Nat}{x:Item}(hx:L[n]?=some x):
  DCall Tryz.prog 88 [.pointer (some ⟨h,0,none⟩),.int .i64 x.id] U (.ret (.tuple ⟨[.agg ⟨x.cells⟩,.bool true]⟩)) U []:=by
 obtain⟨f,H1,hi⟩:=H0.hs
 obtain⟨es,ck,gm0,hkv,hlk⟩:=H1.gm
 obtain⟨G,ga0,hG⟩:=H1.ga
 have lt:=H1.lt
 let U1:=U.new (.cells [.int .i64 0,.int .i64 0,.int .i64 0,.int .i64 0] false)
 have gh:U1.get h=some (.cells [.map (some m),.slice (some ⟨a,0,some 6⟩) L.length cap,.int .i64 t] false):=by rw[St.get_new,if_neg (by omega)];exact H1.gh
 have gm:U1.get m=some (.map es ck):=by rw[St.get_new,if_neg (by omega)];exact gm0
 have ga:U1.get a=some (.cells (cellsL L++G) false):=by rw[St.get_new,if_neg (by omega)];exact ga0
 have hno:=none_call gh
 have hlo:=map_get (ok:=true) gm hkv hlk (hi.fwd n x hx)
 have hn:n<L.length:=(List.getElem?_eq_some_iff.1 hx).1
 have e1:=cells_at (G:=G) hx
 have l1:n*4+4<=(cellsL L++G).length:=by rw[List.length_append,cellsL_length];omega
 have c0:(0:Int)<=(n:Int):=by omega
 have c1:(n:Int)<(L.length:Int):=by omega
 simp only[Item.cells]at e1 ⊢
 refine DCall.forget (U':=U1.set U.next (.cells [.int .i64 x.id,.int .i64 x.n,.int .i64 x.d,.int .i64 x.turn] false)) ?_ rfl
 refine callsL (one_ok' p8_ok hno) Tryz.func88 rfl 40 nobt (by kernel_rfl) ?_
 exact⟨_,by simp only[go_sem,seval,U1,one_other,Orc.one_call,hlo,gh,ga,e1,l1,c0,c1,Int.toNat_natCast,Tryz.f88,Tryz.underlying2,info2,Tryz.t2,Tryz.underlying3,info3,Tryz.t3,Tryz.underlying4,info4,Tryz.t4,Tryz.underlying38,info38,Tryz.t38,Tryz.underlying91,info91,Tryz.t91,Tryz.underlying47,info47,Tryz.t47,Tryz.underlying158,info158,Tryz.t158,Tryz.underlying159,info159,Tryz.t159,Tryz.underlying165,info165,Tryz.t165,Tryz.underlying162,info162,Tryz.t162,Tryz.underlying163,info163,Tryz.t163,Tryz.underlying164,info164,Tryz.t164,Tryz.underlying166,info166,Tryz.t166,Tryz.underlying167,info167,Tryz.t167,Tryz.underlying217,info217,Tryz.t217,body111]<;>rfl,by simp only[go_sem,seval,Tryz.f88,Tryz.underlying158,info158,Tryz.t158,Tryz.underlying159,info159,Tryz.t159],rfl,λc hc=>by simp only[U1,St.get_set,St.get_new];rw[if_neg (by omega),if_neg (by omega)]⟩
variable {P:Program}
def callX(P:Program)(f:FuncId)(args:List Value)(U:St)(K:AE->St->Log->Prop):Prop:=∃e U' l,DCall P f args U e U' l/\K e U' l
def roundX(P:Program)(r:Nat)(args:List Value)(U:St)(K:AE->St->Log->Prop):Prop:=∃e U' l,DRound P r args U e U' l/\K e U' l
structure PureTab(P:Program) where
 get:FuncId->List Value->Option Value
 ok:∀f args v,get f args=some v->∀U,DCall P f args U (.ret v) U []
def callO(P:Program)(f:FuncId)(args:List Value)(U:St)(K:AE->St->Log->Prop):Option Value->Prop
 |some v=>K (.ret v) U []
 |none=>callX P f args U K
def callW(p:PureTab P)(f:FuncId)(args:List Value)(U:St)(K:AE->St->Log->Prop):Prop:=callO P f args U K (p.get f args)
theorem callW.sound{p:PureTab P}{f:FuncId}{args:List Value}{U:St}{K:AE->St->Log->Prop}(h:callW p f args U K):callX P f args U K:=by
 unfold callW at h
 cases hp:p.get f args with
 |some v=>rw[hp]at h;exact⟨_,_,_,p.ok f args v hp U,h⟩
 |none=>rw[hp]at h;exact h
theorem callX.of{f:FuncId}{args:List Value}{U U':St}{e:AE}{l:Log}{K:AE->St->Log->Prop}(d:DCall P f args U e U' l)(k:K e U' l):callX P f args U K:=⟨_,_,_,d,k⟩
theorem callX.use{f:FuncId}{args:List Value}{U:St}{K K':AE->St->Log->Prop}(d:callX P f args U K')(k:∀e U' l,Logged U U' l->K' e U' l->K e U' l):callX P f args U K:=
 let⟨e,U',l,h,h'⟩:=d
 ⟨e,U',l,h,k e U' l h.1 h'⟩
def retW(fr:Fr)(dst:Option Tmp)(lg:Log)(k:Fr->St->Log->Prop)(Q:RR->Prop):AE->St->Log->Prop
 |.ret v,U',l=>k (fr.put dst v) U' (lg++l)
 |.panic c,U',l=>Q ⟨.panic c,fr,U',lg++l⟩
def opsW(p:PureTab P)(rnd:Bool)(dst:Option Tmp)(fr:Fr)(U:St)(lg:Log)(k:Fr->St->Log->Prop)(Q:RR->Prop):Option ORes->Prop
 |some (.val v _)=>k (fr.put dst v) U lg
 |some (.new ob v _)=>k (fr.put dst v) (U.new ob) lg
 |some (.eff v U' l)=>k (fr.put dst v) U' (lg++l)
 |some (.panic v)=>Q ⟨.panic [{v,recovered:=false}],fr,U,lg⟩
 |some (.enter f args)=>callW p f args U (retW fr dst lg k Q)
 |some (.round r args)=>roundX P r args U (retW fr dst lg k Q)
 |some (.defer d)=>rnd=false/\k ({fr with ds:=d :: fr.ds}.put dst undef) U lg
 |_=>False
def wOps(C:Cx)(p:PureTab P)(rnd:Bool)(ops:List Oper)(Q:RR->Prop):List Oper->Fr->St->Log->Prop
 |[],fr,U,lg=>Q ⟨.norm,fr,U,lg⟩
 |o :: rest,fr,U,lg=>opsW p rnd o.dst fr U lg (wOps C p rnd ops Q rest) Q (wantK C.T C.bodies o fr.ts U (wantedA ops o fr.ts))
theorem wOps_sound{C:Cx}{p:PureTab P}{rnd:Bool}{ops:List Oper}{Q:RR->Prop}:∀(rest:List Oper) (fr:Fr) (U:St) (lg:Log),wOps C p rnd ops Q rest fr U lg->
  ∃x fr' U' l,OpsR P C rnd ops rest fr U x fr' U' l/\Q ⟨x,fr',U',lg++l⟩:=by
 intro rest
 induction rest with
 |nil=>intro fr U lg h;exact⟨_,_,_,_,.nil,by simpa [wOps]using h⟩
 |cons o rest ih=>
  intro fr U lg h
  simp only[wOps]at h
  cases hw:wantedA ops o fr.ts with
  |false=>
   rw[hw]at h
   obtain⟨x,fr',U',l,h1,h2⟩:=ih _ _ _ h
   exact⟨_,_,_,_,.skip hw h1,h2⟩
  |true=>
   rw[hw]at h
   simp only[wantK]at h
   unfold opsW at h
   split at h
   ·rename_i hs
    obtain⟨x,fr',U',l,h1,h2⟩:=ih _ _ _ h
    exact⟨_,_,_,_,.val hw hs h1,h2⟩
   ·rename_i hs
    obtain⟨x,fr',U',l,h1,h2⟩:=ih _ _ _ h
    exact⟨_,_,_,_,.new hw hs h1,h2⟩
   ·rename_i hs
    obtain⟨x,fr',U',l,h1,h2⟩:=ih _ _ _ h
    exact⟨_,_,_,_,.eff hw hs h1,by rw[<-List.append_assoc];exact h2⟩
   ·rename_i hs
    exact⟨_,_,_,_,.panic hw hs,by simpa using h⟩
   ·rename_i hs
    obtain⟨e,U₁,l₁,hc,hk⟩:=h.sound
    cases e with
    |ret v=>
     obtain⟨x,fr',U',l,h1,h2⟩:=ih _ _ _ hk
     exact⟨_,_,_,_,.call hw hs hc h1,by rw[<-List.append_assoc];exact h2⟩
    |panic c=>exact⟨_,_,_,_,.callP hw hs hc,hk⟩
   ·rename_i hs
    obtain⟨e,U₁,l₁,hc,hk⟩:=h
    cases e with
    |ret v=>
     obtain⟨x,fr',U',l,h1,h2⟩:=ih _ _ _ hk
     exact⟨_,_,_,_,.round hw hs hc h1,by rw[<-List.append_assoc];exact h2⟩
    |panic c=>exact⟨_,_,_,_,.roundP hw hs hc,hk⟩
   ·rename_i hs
    obtain⟨x,fr',U',l,h1,h2⟩:=ih _ _ _ h.2
    exact⟨_,_,_,_,.defer hw h.1 hs h1,h2⟩
   ·exact h.elim
abbrev Loud:=List (Nat×SK×Nat×Nat)
abbrev DK:=List Value->St->Log->Loud->Prop
def loudOne(k:Nat)(kd:SK)(lo hi:Nat):Loud:=if quietK kd then[] else[(k,kd,lo,hi)]
def retD(kn:Nat)(U:St)(dst:Option Tmp)(ts:List Value)(acc:Loud)(lg:Log)(k:DK):AE->St->Log->Prop
 |.ret v,U',l=>k (putL ts dst v) U' (lg++l) (acc++[(kn,.full l,U.next,U'.next)])
 |.panic _,_,_=>False
def drawnW(p:PureTab P)(kn:Nat)(dst:Option Tmp)(ts:List Value)(U:St)(acc:Loud)(lg:Log)(k:DK):Option ORes->Prop
 |some (.val v rd)=>k (putL ts dst v) U lg (acc++loudOne kn (.pure rd) U.next U.next)
 |some (.new ob v rd)=>k (putL ts dst v) (U.new ob) lg (acc++[(kn,.alloc ob rd,U.next,U.next+1)])
 |some (.eff v U' l)=>k (putL ts dst v) U' (lg++l) (acc++[(kn,.full l,U.next,U'.next)])
 |some (.enter f args)=>callW p f args U (retD kn U dst ts acc lg k)
 |_=>False
def wDrawn(C:Cx)(p:PureTab P)(ops:List Oper)(K:DK):List Oper->Nat->List Value->St->Log->Loud->Prop
 |[],_,ts,U,lg,acc=>K ts U lg acc
 |o :: rest,kn,ts,U,lg,acc=>drawnW p kn o.dst ts U acc lg (wDrawn C p ops K rest (kn+1)) (wantK C.T C.bodies o ts U (wantedA ops o ts))
theorem loud_cons{s:Stp}{r:Dr}{U':St}{k:Nat}(h:r.UAt 0=U'):loud (s :: r.st) r.U k=loudOne k s.kd s.U.next U'.next++loud r.st r.U (k+1):=by
 have hi:(match r.st with|[]=>r.U.next|s' :: _=>s'.U.next)=U'.next:=by
  rw[<-h]
  unfold Dr.UAt
  cases r.st with
  |nil=>rfl
  |cons s' l=>rfl
 have hu:loud (s :: r.st) r.U k=if quietK s.kd then loud r.st r.U (k+1) else(k,s.kd,s.U.next,(match r.st with|[]=>r.U.next|s' :: _=>s'.U.next)) :: loud r.st r.U (k+1):=rfl
 rw[hu,hi]
 unfold loudOne
 split<;>simp
theorem wDrawn_sound{C:Cx}{p:PureTab P}(hC:C.Ok P){ops:List Oper}{K:DK}:∀(rest:List Oper) (kn:Nat) (ts:List Value) (U:St) (lg:Log) (acc:Loud),wDrawn C p ops K rest kn ts U lg acc->
  ∃r:Dr,Chain P C ops rest ts U r/\K r.ts r.U (lg++r.lg) (acc++loud r.st r.U kn):=by
 intro rest
 induction rest with
 |nil=>
  intro kn ts U lg acc h
  exact⟨⟨[],ts,U,[]⟩,⟨rfl,rfl,rfl,λk o h=>by simp at h,logged_self _ _⟩,by simpa [loud,wDrawn]using h⟩
 |cons o rest ih=>
  intro kn ts U lg acc h
  simp only[wDrawn]at h
  cases hw:wantedA ops o ts with
  |false=>
   rw[hw]at h
   obtain⟨r,h1,h2⟩:=ih _ _ _ _ _ h
   refine⟨_,Chain.cons (s:=⟨ts,U,undef,.pure []⟩) (l:=[]) h1 rfl rfl (.skip hw rfl rfl rfl) (logged_self _ _),?_⟩
   show K r.ts r.U (lg++([]++r.lg)) (acc++loud (_ :: r.st) r.U kn)
   rw[loud_cons h1.U0,List.nil_append,<-List.append_assoc]
   exact h2
  |true=>
   rw[hw]at h
   simp only[wantK]at h
   unfold drawnW at h
   split at h
   ·rename_i v rd hs
    obtain⟨r,h1,h2⟩:=ih _ _ _ _ _ h
    refine⟨_,Chain.cons (s:=⟨ts,U,v,.pure rd⟩) (l:=[]) h1 rfl rfl (.val hw hs rfl rfl) (logged_self _ _),?_⟩
    show K r.ts r.U (lg++([]++r.lg)) (acc++loud (_ :: r.st) r.U kn)
    rw[loud_cons h1.U0,List.nil_append,<-List.append_assoc]
    exact h2
   ·rename_i ob v rd hs
    obtain⟨r,h1,h2⟩:=ih _ _ _ _ _ h
    refine⟨_,Chain.cons (s:=⟨ts,U,v,.alloc ob rd⟩) (l:=[]) h1 rfl rfl (.new hw hs rfl rfl) (logged_new _ _),?_⟩
    show K r.ts r.U (lg++([]++r.lg)) (acc++loud (_ :: r.st) r.U kn)
    rw[loud_cons h1.U0,List.nil_append,<-List.append_assoc]
    exact h2
   ·rename_i v U' l hs
    obtain⟨r,h1,h2⟩:=ih _ _ _ _ _ h
    refine⟨_,Chain.cons (s:=⟨ts,U,v,.full l⟩) h1 rfl rfl (.eff hw hs rfl) (stepOp_log hC hs),?_⟩
    show K r.ts r.U (lg++(l++r.lg)) (acc++loud (_ :: r.st) r.U kn)
    rw[loud_cons h1.U0,<-List.append_assoc,<-List.append_assoc]
    exact h2
   ·rename_i f args hs
    obtain⟨e,U',l,hc,hk⟩:=h.sound
    cases e with
    |ret v=>
     obtain⟨r,h1,h2⟩:=ih _ _ _ _ _ hk
     refine⟨_,Chain.cons (s:=⟨ts,U,v,.full l⟩) h1 rfl rfl (.call hw hs hc rfl) hc.1,?_⟩
     show K r.ts r.U (lg++(l++r.lg)) (acc++loud (_ :: r.st) r.U kn)
     rw[loud_cons h1.U0,<-List.append_assoc,<-List.append_assoc]
     exact h2
    |panic c=>exact hk.elim
   ·exact h.elim
def pairOk(bj i j:Nat)(ki kj:SK)(lo hi:Nat):Bool:=decide (j<=i) || bj.testBit i || !clash ki kj lo hi
def dynL(B:List Nat)(l:Loud):Bool:=
 match l with
 |[]=>true
 |[_]=>true
 |_=>l.all λ(j,kj,_,_)=>l.all λ(i,ki,lo,hi)=>pairOk (B.getD j 0) i j ki kj lo hi
def regW(C:Cx)(p:PureTab P)(rnd draw:Bool)(B:List Nat)(ops:Array Oper)(fr:Fr)(U:St)(Q:RR->Prop):Prop:=
 match draw with
 |false=>wOps C p rnd ops.toList Q ops.toList fr U []
 |true=>wDrawn C p ops.toList (λts U' lg acc=>dynL B acc=true/\Q ⟨.norm,{fr with ts:=ts},U',lg⟩) ops.toList 0 fr.ts U [] []
theorem regW_sound{C:Cx}{p:PureTab P}(hC:C.Ok P)(hm:P.follows .mixedOrders=true){bt:Nat->List Nat}{rnd draw:Bool}{id:Nat}{ops:Array Oper}{fr:Fr}{U:St}{Q:RR->Prop}(hs:statAll bt (.region id ops draw)=true)
  (h:regW C p rnd draw (bt id) ops fr U Q):∃r,DC P rnd (.region id ops draw) fr U r/\Q r:=by
 cases draw with
 |false=>
  obtain⟨x,fr',U',l,h1,h2⟩:=wOps_sound _ _ _ _ h
  exact⟨_,DC.ops hC h1,h2⟩
 |true=>
  obtain⟨r,h1,h2,h3⟩:=wDrawn_sound hC _ _ _ _ _ _ h
  exact⟨_,DC.chain hC hm (by simpa [statAll]using hs) h1 h2,h3⟩
def preW(lg:Log)(Q:RR->Prop)(r:RR):Prop:=Q (r.pre lg)
def blockW(id:Nat)(Q:RR->Prop)(r:RR):Prop:=Q {r with x:=r.x.inBlock id}
def preK(lg:Log)(K:AE->St->Log->Prop)(e:AE)(U:St)(l:Log):Prop:=K e U (lg++l)
def thenW(k:Fr->St->(RR->Prop)->Prop)(Q:RR->Prop)(r:RR):Prop:=
 match r.x with
 |.norm=>k r.fr r.U (preW r.lg Q)
 |_=>Q r
def condW(a b:Prop):Option Value->Prop
 |some (.bool t)=>if t then a else b
 |_=>False
def loopX(P:Program)(rnd:Bool)(b:Code)(fr:Fr)(U:St)(Q:RR->Prop):Prop:=∃r,DL P rnd b fr U r/\Q r
def scopeX(P:Program)(rnd:Bool)(body c:Code)(fr:Fr)(U:St)(Q:RR->Prop):Prop:=∃r,DS P rnd body c fr U r/\Q r
def rangeX(P:Program)(rnd:Bool)(g:Operand)(ps:Array Tmp)(a b:Code)(fr:Fr)(U:St)(Q:RR->Prop):Prop:=∃r,DC P rnd (.rangeFunc g ps a b) fr U r/\Q r
def wp(C:Cx)(p:PureTab P)(bt:Nat->List Nat)(rnd:Bool):Code->Fr->St->(RR->Prop)->Prop
 |.skip,fr,U,Q=>Q ⟨.norm,fr,U,[]⟩
 |.label _,fr,U,Q=>Q ⟨.norm,fr,U,[]⟩
 |.exit i,fr,U,Q=>Q ⟨.exit i,fr,U,[]⟩
 |.goto i,fr,U,Q=>Q ⟨.goto i,fr,U,[]⟩
 |.ret,fr,U,Q=>Q ⟨.ret,fr,U,[]⟩
 |.seq a b,fr,U,Q=>wp C p bt rnd a fr U (thenW (wp C p bt rnd b) Q)
 |.cond c a b,fr,U,Q=>condW (wp C p bt rnd a fr U Q) (wp C p bt rnd b fr U Q) (ev fr.ts c)
 |.block id b,fr,U,Q=>wp C p bt rnd b fr U (blockW id Q)
 |.region id ops draw,fr,U,Q=>regW C p rnd draw (bt id) ops fr U Q
 |.loop b,fr,U,Q=>loopX P rnd b fr U Q
 |.scope b,fr,U,Q=>scopeX P rnd b b fr U Q
 |.rangeFunc g ps a b,fr,U,Q=>rangeX P rnd g ps a b fr U Q
 |_,_,_,_=>False
theorem wp_sound{C:Cx}{p:PureTab P}(hC:C.Ok P)(hm:P.follows .mixedOrders=true){bt:Nat->List Nat}{rnd:Bool}:∀(c:Code) (fr:Fr) (U:St) (Q:RR->Prop),statAll bt c=true->wp C p bt rnd c fr U Q->∃r,DC P rnd c fr U r/\Q r:=by
 intro c
 induction c with
 |skip=>intro fr U Q _ h;exact⟨_,DC.skip _ _ _,h⟩
 |label l=>intro fr U Q _ h;exact⟨_,DC.label _ _ _ _,h⟩
 |exit i=>intro fr U Q _ h;exact⟨_,DC.exit _ _ _ _,h⟩
 |goto i=>intro fr U Q _ h;exact⟨_,DC.goto _ _ _ _,h⟩
 |ret=>intro fr U Q _ h;exact⟨_,DC.ret _ _ _,h⟩
 |seq a b iha ihb=>
  intro fr U Q hs h
  simp only[statAll,Bool.and_eq_true]at hs
  obtain⟨r,h1,h2⟩:=iha _ _ _ hs.1 h
  unfold thenW at h2
  cases hx:r.x with
  |norm=>
   rw[hx]at h2
   obtain⟨r',h3,h4⟩:=ihb _ _ _ hs.2 h2
   exact⟨_,DC.seq h1 hx h3,h4⟩
  |exit i=>rw[hx]at h2;exact⟨_,DC.seq_out h1 (by rw[hx];rfl),h2⟩
  |goto i=>rw[hx]at h2;exact⟨_,DC.seq_out h1 (by rw[hx];rfl),h2⟩
  |ret=>rw[hx]at h2;exact⟨_,DC.seq_out h1 (by rw[hx];rfl),h2⟩
  |panic ch=>rw[hx]at h2;exact⟨_,DC.seq_out h1 (by rw[hx];rfl),h2⟩
 |cond c a b iha ihb=>
  intro fr U Q hs h
  simp only[statAll,Bool.and_eq_true]at hs
  simp only[wp]at h
  unfold condW at h
  split at h
  ·rename_i t hc
   cases t with
   |true=>
    obtain⟨r,h1,h2⟩:=iha _ _ _ hs.1 (by simpa using h)
    exact⟨r,DC.cond (t:=true) hc h1,h2⟩
   |false=>
    obtain⟨r,h1,h2⟩:=ihb _ _ _ hs.2 (by simpa using h)
    exact⟨r,DC.cond (t:=false) hc h1,h2⟩
  ·exact h.elim
 |block id b ih=>
  intro fr U Q hs h
  obtain⟨r,h1,h2⟩:=ih _ _ _ hs h
  exact⟨_,DC.block h1,h2⟩
 |region id ops draw=>intro fr U Q hs h;exact regW_sound hC hm hs h
 |loop b=>intro fr U Q _ h;obtain⟨r,h1,h2⟩:=h;exact⟨r,DC.loop h1,h2⟩
 |scope b=>intro fr U Q _ h;obtain⟨r,h1,h2⟩:=h;exact⟨r,DC.scope h1,h2⟩
 |rangeFunc g ps a b=>intro fr U Q _ h;exact h
 |_=>intro fr U Q _ h;exact h.elim
theorem loopX.step{C:Cx}{p:PureTab P}(hC:C.Ok P)(hm:P.follows .mixedOrders=true){bt:Nat->List Nat}{rnd:Bool}{b:Code}{fr:Fr}{U:St}{Q:RR->Prop}(hs:statAll bt b=true)
  (h:wp C p bt rnd b fr U (thenW (loopX P rnd b) Q)):loopX P rnd b fr U Q:=by
 obtain⟨r,h1,h2⟩:=wp_sound hC hm b fr U _ hs h
 unfold thenW at h2
 cases hx:r.x with
 |norm=>
  rw[hx]at h2
  obtain⟨r',h3,h4⟩:=h2
  exact⟨_,DL.next h1 hx h3,h4⟩
 |exit i=>rw[hx]at h2;exact⟨_,DL.out h1 (by rw[hx];rfl),h2⟩
 |goto i=>rw[hx]at h2;exact⟨_,DL.out h1 (by rw[hx];rfl),h2⟩
 |ret=>rw[hx]at h2;exact⟨_,DL.out h1 (by rw[hx];rfl),h2⟩
 |panic ch=>rw[hx]at h2;exact⟨_,DL.out h1 (by rw[hx];rfl),h2⟩
theorem loopX.mono{rnd:Bool}{b:Code}{fr:Fr}{U:St}{Q Q':RR->Prop}(h:loopX P rnd b fr U Q)(k:∀r,Logged U r.U r.lg->Q r->Q' r):loopX P rnd b fr U Q':=
 let⟨r,h1,h2⟩:=h
 ⟨r,h1,k r h1.1 h2⟩
def scopeW(P:Program)(rnd:Bool)(body:Code)(Q:RR->Prop)(r:RR):Prop:=
 match r.x with
 |.goto l=>match findLabel body l with
  |some rest=>scopeX P rnd body rest r.fr r.U (preW r.lg Q)
  |none=>Q r
 |_=>Q r
theorem scopeX.step{C:Cx}{p:PureTab P}(hC:C.Ok P)(hm:P.follows .mixedOrders=true){bt:Nat->List Nat}{rnd:Bool}{body c:Code}{fr:Fr}{U:St}{Q:RR->Prop}(hs:statAll bt c=true)
  (h:wp C p bt rnd c fr U (scopeW P rnd body Q)):scopeX P rnd body c fr U Q:=by
 obtain⟨r,h1,h2⟩:=wp_sound hC hm c fr U _ hs h
 unfold scopeW at h2
 split at h2
 ·rename_i l hx
  split at h2
  ·rename_i rest hf
   obtain⟨r',h3,h4⟩:=h2
   exact⟨_,DS.jump h1 hx hf h3,h4⟩
  ·rename_i hf
   exact⟨_,DS.out h1 λl' hl=>by rw[hx]at hl;cases hl;exact hf,h2⟩
 ·rename_i hne
  exact⟨_,DS.out h1 λl hl=>(hne l hl).elim,h2⟩
def endW(C:Cx)(rs:List ResultVar)(K:AE->St->Log->Prop)(r:RR):Prop:=
 match endsA C.T rs r with
 |some e=>K e r.U r.lg
 |none=>False
theorem callX.enter{C:Cx}{p:PureTab P}(hC:C.Ok P)(hm:P.follows .mixedOrders=true){bt:Nat->List Nat}{f:FuncId}{fn:Func}{c:Code}{args:List Value}{U:St}{K:AE->St->Log->Prop}
  (hf:P.funcs[f]?=some fn) (hb:fn.body=some c) (hs:statAll bt c=true) (h:wp C p bt false c (start args fn.ntmps) U (endW C fn.results.toList K)):callX P f args U K:=by
 obtain⟨r,h1,h2⟩:=wp_sound hC hm c _ _ _ hs h
 unfold endW at h2
 split at h2
 ·rename_i e he
  exact⟨_,_,_,DCall.of_code hC.T ⟨hf,hb⟩ h1 he,h2⟩
 ·exact h2.elim
def deferX(P:Program)(f:FuncId)(args:List Value)(u:AM)(U:St)(K:AE->AM->St->Log->Prop):Prop:=∃e u' U' l,DDefer P f args u U e u' U' l/\K e u' U' l
def leaveX(P:Program)(fn:Func)(ts:List Value)(ds:List Deferred)(u:AM)(U:St)(K:AE->St->Log->Prop):Prop:=∃e U' l,DLeave P fn ts ds u U e U' l/\K e U' l
theorem deferX.recover{C:Cx}{p:PureTab P}(hC:C.Ok P)(hm:P.follows .mixedOrders=true){bt:Nat->List Nat}{f:FuncId}{fn:Func}{c:Code}{id:Nat}{o:Oper}{tys:Array TypeId}{args:List Value}{u:AM}{U:St}{K:AE->AM->St->Log->Prop}
  (hf:P.funcs[f]?=some fn) (hb:fn.body=some (.seq (.region id #[o] false) c)) (hop:o.op=.call {callee:=.builtin .recover,args:=#[],argTypes:=tys}) (hg:o.guard=none) (hs:statAll bt c=true)
  (h:wp C p bt false c ((start args fn.ntmps).put o.dst (recoverA u).1) U (endW C fn.results.toList λe U' l=>K e (recoverA u).2 U' l)):deferX P f args u U K:=by
 obtain⟨r,h1,h2⟩:=wp_sound hC hm c _ _ _ hs h
 unfold endW at h2
 split at h2
 ·rename_i e he
  exact⟨_,_,_,_,DDefer.of_recover hC.T ⟨hf,hb⟩ hop hg h1 he,h2⟩
 ·exact h2.elim
theorem leaveX.ret{C:Cx}(hC:C.Ok P){fn:Func}{ts:List Value}{U:St}{v:Value}{K:AE->St->Log->Prop}(h:resA C.T U ts fn.results.toList=some v)(k:K (.ret v) U []):leaveX P fn ts [] .returning U K:=⟨_,_,_,DLeave.returned hC.T h,k⟩
def leaveK(P:Program)(fn:Func)(ts:List Value)(ds:List Deferred)(K:AE->St->Log->Prop)(e:AE)(u:AM)(U:St)(l:Log):Prop:=
 match nextMode e u with
 |some u₂=>leaveX P fn ts ds u₂ U (preK l K)
 |none=>False
theorem leaveX.cons{fn:Func}{ts:List Value}{ds:List Deferred}{f:FuncId}{cap args:Array Value}{u:AM}{U:St}{K:AE->St->Log->Prop}(hb:HasBody P f)
  (h:deferX P f (args.toList++cap.toList) u U (leaveK P fn ts ds K)):leaveX P fn ts ({target:=.fn (.func f) cap,args:=args} :: ds) u U K:=by
 obtain⟨e,u',U',l,h1,h2⟩:=h
 unfold leaveK at h2
 split at h2
 ·rename_i u₂ hn
  obtain⟨e₂,U₂,l₂,h3,h4⟩:=h2
  exact⟨_,_,_,DLeave.cons rfl hb h1 hn h3,h4⟩
 ·exact h2.elim
def endD(P:Program)(C:Cx)(fn:Func)(K:AE->St->Log->Prop)(r:RR):Prop:=
 match modeOf r.x with
 |some u=>leaveX P fn r.fr.ts r.fr.ds u r.U (preK r.lg K)
 |none=>False
theorem callX.enterD{C:Cx}{p:PureTab P}(hC:C.Ok P)(hm:P.follows .mixedOrders=true){bt:Nat->List Nat}{f:FuncId}{fn:Func}{c:Code}{args:List Value}{U:St}{K:AE->St->Log->Prop}
  (hf:P.funcs[f]?=some fn) (hb:fn.body=some c) (hs:statAll bt c=true) (h:wp C p bt false c (start args fn.ntmps) U (endD P C fn K)):callX P f args U K:=by
 obtain⟨r,h1,h2⟩:=wp_sound hC hm c _ _ _ hs h
 unfold endD at h2
 split at h2
 ·rename_i u hu
  obtain⟨e,U',l,h3,h4⟩:=h2
  refine⟨_,_,_,DCall.of_code_defers ⟨hf,hb⟩ h1 ?_ h3,h4⟩
  unfold modeOf at hu
  split at hu<;>cases hu<;>simp_all
 ·exact h2.elim
section eqs
variable {C:Cx} {p:PureTab P} {bt:Nat->List Nat} {rnd:Bool} {fr:Fr} {U:St} {Q:RR->Prop}
theorem wp_skip:wp C p bt rnd .skip fr U Q=Q ⟨.norm,fr,U,[]⟩:=(rfl)
theorem wp_label{l:Nat}:wp C p bt rnd (.label l) fr U Q=Q ⟨.norm,fr,U,[]⟩:=(rfl)
theorem wp_exit{i:Nat}:wp C p bt rnd (.exit i) fr U Q=Q ⟨.exit i,fr,U,[]⟩:=(rfl)
theorem wp_goto{i:Nat}:wp C p bt rnd (.goto i) fr U Q=Q ⟨.goto i,fr,U,[]⟩:=(rfl)
theorem wp_ret:wp C p bt rnd .ret fr U Q=Q ⟨.ret,fr,U,[]⟩:=(rfl)
theorem wp_seq{a b:Code}:wp C p bt rnd (.seq a b) fr U Q=wp C p bt rnd a fr U (thenW (wp C p bt rnd b) Q):=(rfl)
theorem wp_cond{c:Operand}{a b:Code}:wp C p bt rnd (.cond c a b) fr U Q=condW (wp C p bt rnd a fr U Q) (wp C p bt rnd b fr U Q) (ev fr.ts c):=(rfl)
theorem wp_block{id:Nat}{b:Code}:wp C p bt rnd (.block id b) fr U Q=wp C p bt rnd b fr U (blockW id Q):=(rfl)
theorem wp_ops{id:Nat}{ops:List Oper}:wp C p bt rnd (.region id ⟨ops⟩ false) fr U Q=wOps C p rnd ops Q ops fr U []:=(rfl)
theorem wp_drawn{id:Nat}{ops:List Oper}:wp C p bt rnd (.region id ⟨ops⟩ true) fr U Q=wDrawn C p ops (λts U' lg acc=>dynL (bt id) acc=true/\Q ⟨.norm,{fr with ts:=ts},U',lg⟩) ops 0 fr.ts U [] []:=(rfl)
theorem wp_loop{b:Code}:wp C p bt rnd (.loop b) fr U Q=loopX P rnd b fr U Q:=(rfl)
theorem wp_scope{b:Code}:wp C p bt rnd (.scope b) fr U Q=scopeX P rnd b b fr U Q:=(rfl)
theorem wp_range{g:Operand}{ps:Array Tmp}{a b:Code}:wp C p bt rnd (.rangeFunc g ps a b) fr U Q=rangeX P rnd g ps a b fr U Q:=(rfl)
theorem wOps_nil{ops:List Oper}{lg:Log}:wOps C p rnd ops Q [] fr U lg=Q ⟨.norm,fr,U,lg⟩:=(rfl)
theorem wOps_cons{ops rest:List Oper}{o:Oper}{lg:Log}:wOps C p rnd ops Q (o :: rest) fr U lg=opsW p rnd o.dst fr U lg (wOps C p rnd ops Q rest) Q (wantK C.T C.bodies o fr.ts U (wantedA ops o fr.ts)):=(rfl)
theorem wDrawn_nil{ops:List Oper}{K:DK}{kn:Nat}{ts:List Value}{lg:Log}{acc:Loud}:wDrawn C p ops K [] kn ts U lg acc=K ts U lg acc:=(rfl)
theorem wDrawn_cons{ops rest:List Oper}{o:Oper}{K:DK}{kn:Nat}{ts:List Value}{lg:Log}{acc:Loud}:wDrawn C p ops K (o :: rest) kn ts U lg acc=drawnW p kn o.dst ts U acc lg (wDrawn C p ops K rest (kn+1)) (wantK C.T C.bodies o ts U (wantedA ops o ts)):=(rfl)
theorem wp_congr{c:Code}{fr':Fr}{U':St}(h:fr=fr')(h':U=U'):wp C p bt rnd c fr U Q=wp C p bt rnd c fr' U' Q:=by rw[h,h']
theorem wOps_congr{ops rest:List Oper}{fr':Fr}{U':St}{lg lg':Log}(h:fr=fr')(h':U=U')(h2:lg=lg'):wOps C p rnd ops Q rest fr U lg=wOps C p rnd ops Q rest fr' U' lg':=by rw[h,h',h2]
theorem opsW_congr{dst:Option Tmp}{lg:Log}{k:Fr->St->Log->Prop}{o o':Option ORes}(h:o=o'):opsW p rnd dst fr U lg k Q o=opsW p rnd dst fr U lg k Q o':=by rw[h]
theorem wDrawn_congr{ops rest:List Oper}{K:DK}{kn kn':Nat}{ts ts':List Value}{U':St}{lg lg':Log}{acc acc':Loud}(h0:kn=kn')(h:ts=ts')(h':U=U')(h2:lg=lg')(h3:acc=acc'):wDrawn C p ops K rest kn ts U lg acc=wDrawn C p ops K rest kn' ts' U' lg' acc':=by rw[h0,h,h',h2,h3]
theorem drawnW_congr{kn:Nat}{dst:Option Tmp}{ts:List Value}{acc:Loud}{lg:Log}{k:DK}{o o':Option ORes}(h:o=o'):drawnW p kn dst ts U acc lg k o=drawnW p kn dst ts U acc lg k o':=by rw[h]
theorem condW_congr{a b:Prop}{o o':Option Value}(h:o=o'):condW a b o=condW a b o':=by rw[h]
theorem condW_true{a b:Prop}:condW a b (some (.bool true))=a:=(rfl)
theorem condW_false{a b:Prop}:condW a b (some (.bool false))=b:=(rfl)
theorem condW_dec{a b c:Prop}[Decidable c]:condW a b (some (.bool (decide c)))=if c then a else b:=by
 by_cases h:c<;>simp [condW,h]
theorem thenW_norm{k:Fr->St->(RR->Prop)->Prop}{lg:Log}:thenW k Q ⟨.norm,fr,U,lg⟩=k fr U (preW lg Q):=(rfl)
theorem thenW_exit{k:Fr->St->(RR->Prop)->Prop}{lg:Log}{i:Nat}:thenW k Q ⟨.exit i,fr,U,lg⟩=Q ⟨.exit i,fr,U,lg⟩:=(rfl)
theorem thenW_goto{k:Fr->St->(RR->Prop)->Prop}{lg:Log}{i:Nat}:thenW k Q ⟨.goto i,fr,U,lg⟩=Q ⟨.goto i,fr,U,lg⟩:=(rfl)
theorem thenW_ret{k:Fr->St->(RR->Prop)->Prop}{lg:Log}:thenW k Q ⟨.ret,fr,U,lg⟩=Q ⟨.ret,fr,U,lg⟩:=(rfl)
theorem thenW_panic{k:Fr->St->(RR->Prop)->Prop}{lg:Log}{c:List PanicEntry}:thenW k Q ⟨.panic c,fr,U,lg⟩=Q ⟨.panic c,fr,U,lg⟩:=(rfl)
theorem retW_ret{dst:Option Tmp}{lg l:Log}{k:Fr->St->Log->Prop}{v:Value}:retW fr dst lg k Q (.ret v) U l=k (fr.put dst v) U (lg++l):=(rfl)
theorem retW_panic{dst:Option Tmp}{lg l:Log}{k:Fr->St->Log->Prop}{c:List PanicEntry}:retW fr dst lg k Q (.panic c) U l=Q ⟨.panic c,fr,U,lg++l⟩:=(rfl)
theorem opsW_val{dst:Option Tmp}{lg:Log}{k:Fr->St->Log->Prop}{v:Value}{rd:List Nat}:opsW p rnd dst fr U lg k Q (some (.val v rd))=k (fr.put dst v) U lg:=(rfl)
theorem opsW_new{dst:Option Tmp}{lg:Log}{k:Fr->St->Log->Prop}{v:Value}{ob:AObj}{rd:List Nat}:opsW p rnd dst fr U lg k Q (some (.new ob v rd))=k (fr.put dst v) (U.new ob) lg:=(rfl)
theorem opsW_eff{dst:Option Tmp}{lg l:Log}{k:Fr->St->Log->Prop}{v:Value}{U':St}:opsW p rnd dst fr U lg k Q (some (.eff v U' l))=k (fr.put dst v) U' (lg++l):=(rfl)
theorem opsW_panic{dst:Option Tmp}{lg:Log}{k:Fr->St->Log->Prop}{v:Value}:opsW p rnd dst fr U lg k Q (some (.panic v))=Q ⟨.panic [{v,recovered:=false}],fr,U,lg⟩:=(rfl)
theorem opsW_enter{dst:Option Tmp}{lg:Log}{k:Fr->St->Log->Prop}{f:FuncId}{args:List Value}:opsW p rnd dst fr U lg k Q (some (.enter f args))=callW p f args U (retW fr dst lg k Q):=(rfl)
theorem opsW_round{dst:Option Tmp}{lg:Log}{k:Fr->St->Log->Prop}{r:Nat}{args:List Value}:opsW p rnd dst fr U lg k Q (some (.round r args))=roundX P r args U (retW fr dst lg k Q):=(rfl)
theorem opsW_defer{dst:Option Tmp}{lg:Log}{k:Fr->St->Log->Prop}{d:Deferred}:opsW p false dst fr U lg k Q (some (.defer d))=k ({fr with ds:=d :: fr.ds}.put dst undef) U lg:=by simp [opsW]
theorem retD_ret{kn:Nat}{dst:Option Tmp}{ts:List Value}{acc:Loud}{lg l:Log}{k:DK}{v:Value}{U':St}:retD kn U dst ts acc lg k (.ret v) U' l=k (putL ts dst v) U' (lg++l) (acc++[(kn,.full l,U.next,U'.next)]):=(rfl)
theorem drawnW_val{kn:Nat}{dst:Option Tmp}{ts:List Value}{acc:Loud}{lg:Log}{k:DK}{v:Value}{rd:List Nat}:drawnW p kn dst ts U acc lg k (some (.val v rd))=k (putL ts dst v) U lg (acc++loudOne kn (.pure rd) U.next U.next):=(rfl)
theorem drawnW_new{kn:Nat}{dst:Option Tmp}{ts:List Value}{acc:Loud}{lg:Log}{k:DK}{v:Value}{ob:AObj}{rd:List Nat}:drawnW p kn dst ts U acc lg k (some (.new ob v rd))=k (putL ts dst v) (U.new ob) lg (acc++[(kn,.alloc ob rd,U.next,U.next+1)]):=(rfl)
theorem drawnW_eff{kn:Nat}{dst:Option Tmp}{ts:List Value}{acc:Loud}{lg l:Log}{k:DK}{v:Value}{U':St}:drawnW p kn dst ts U acc lg k (some (.eff v U' l))=k (putL ts dst v) U' (lg++l) (acc++[(kn,.full l,U.next,U'.next)]):=(rfl)
theorem drawnW_enter{kn:Nat}{dst:Option Tmp}{ts:List Value}{acc:Loud}{lg:Log}{k:DK}{f:FuncId}{args:List Value}:drawnW p kn dst ts U acc lg k (some (.enter f args))=callW p f args U (retD kn U dst ts acc lg k):=(rfl)
theorem loudOne_quiet{kn lo hi:Nat}:loudOne kn (.pure []) lo hi=[]:=(rfl)
theorem loudOne_pure{kn lo hi r:Nat}{rd:List Nat}:loudOne kn (.pure (r :: rd)) lo hi=[(kn,.pure (r :: rd),lo,hi)]:=(rfl)
theorem callW_congr{f:FuncId}{args args':List Value}{K:AE->St->Log->Prop}{U':St}(h:args=args')(h':U=U'):callW p f args U K=callW p f args' U' K:=by rw[h,h']
theorem callX_congr{f:FuncId}{args args':List Value}{K:AE->St->Log->Prop}{U':St}(h:args=args')(h':U=U'):callX P f args U K=callX P f args' U' K:=by rw[h,h']
theorem callO_congr{f:FuncId}{args args':List Value}{K:AE->St->Log->Prop}{U':St}{o o':Option Value}(h:args=args')(h':U=U')(h2:o=o'):callO P f args U K o=callO P f args' U' K o':=by rw[h,h',h2]
theorem callO_some{f:FuncId}{args:List Value}{K:AE->St->Log->Prop}{v:Value}:callO P f args U K (some v)=K (.ret v) U []:=(rfl)
theorem callO_none{f:FuncId}{args:List Value}{K:AE->St->Log->Prop}:callO P f args U K none=callX P f args U K:=(rfl)
theorem loopX_congr{b:Code}{fr':Fr}{U':St}(h:fr=fr')(h':U=U'):loopX P rnd b fr U Q=loopX P rnd b fr' U' Q:=by rw[h,h']
theorem scopeX_congr{b c:Code}{fr':Fr}{U':St}(h:fr=fr')(h':U=U'):scopeX P rnd b c fr U Q=scopeX P rnd b c fr' U' Q:=by rw[h,h']
theorem rangeX_congr{g:Operand}{ps:Array Tmp}{a b:Code}{fr':Fr}{U':St}(h:fr=fr')(h':U=U'):rangeX P rnd g ps a b fr U Q=rangeX P rnd g ps a b fr' U' Q:=by rw[h,h']
theorem thenW_congr{k:Fr->St->(RR->Prop)->Prop}{r r':RR}(h:r=r'):thenW k Q r=thenW k Q r':=by rw[h]
theorem retW_congr{dst:Option Tmp}{lg l l':Log}{k:Fr->St->Log->Prop}{e e':AE}{U':St}(h:e=e')(h':U=U')(h2:l=l'):retW fr dst lg k Q e U l=retW fr dst lg k Q e' U' l':=by rw[h,h',h2]
theorem retD_congr{kn:Nat}{dst:Option Tmp}{ts:List Value}{acc:Loud}{lg l l':Log}{k:DK}{e e':AE}{U₁ U₂:St}(h:e=e')(h':U₁=U₂)(h2:l=l'):retD kn U dst ts acc lg k e U₁ l=retD kn U dst ts acc lg k e' U₂ l':=by rw[h,h',h2]
def endK(K:AE->St->Log->Prop)(U:St)(lg:Log):Option AE->Prop
 |some e=>K e U lg
 |none=>False
theorem endK_some{K:AE->St->Log->Prop}{lg:Log}{e:AE}:endK K U lg (some e)=K e U lg:=(rfl)
theorem endK_congr{K:AE->St->Log->Prop}{lg lg':Log}{e e':Option AE}{U':St}(h:e=e')(h':U=U')(h2:lg=lg'):endK K U lg e=endK K U' lg' e':=by rw[h,h',h2]
theorem endW_mk{rs:List ResultVar}{K:AE->St->Log->Prop}{x:AX}{lg:Log}:endW C rs K ⟨x,fr,U,lg⟩=endK K U lg (endsA C.T rs ⟨x,fr,U,lg⟩):=by
 unfold endW endK
 cases endsA C.T rs ⟨x,fr,U,lg⟩<;>rfl
theorem endD_ret{fn:Func}{K:AE->St->Log->Prop}{lg:Log}{ts:List Value}{ds:List Deferred}:endD P C fn K ⟨.ret,⟨ts,ds⟩,U,lg⟩=leaveX P fn ts ds .returning U (preK lg K):=(rfl)
theorem endD_norm{fn:Func}{K:AE->St->Log->Prop}{lg:Log}{ts:List Value}{ds:List Deferred}:endD P C fn K ⟨.norm,⟨ts,ds⟩,U,lg⟩=leaveX P fn ts ds .returning U (preK lg K):=(rfl)
theorem endD_panic{fn:Func}{K:AE->St->Log->Prop}{lg:Log}{ts:List Value}{ds:List Deferred}{c:List PanicEntry}:endD P C fn K ⟨.panic c,⟨ts,ds⟩,U,lg⟩=leaveX P fn ts ds (.panicking c) U (preK lg K):=(rfl)
theorem leaveX_congr{fn:Func}{K:AE->St->Log->Prop}{ts ts':List Value}{ds ds':List Deferred}{u:AM}{U':St}(h:ts=ts')(h1:ds=ds')(h2:U=U'):leaveX P fn ts ds u U K=leaveX P fn ts' ds' u U' K:=by rw[h,h1,h2]
theorem leaveK_ret{fn:Func}{ts:List Value}{ds:List Deferred}{K:AE->St->Log->Prop}{v:Value}{l:Log}:leaveK P fn ts ds K (.ret v) .returning U l=leaveX P fn ts ds .returning U (preK l K):=(rfl)
theorem leaveK_done{fn:Func}{ts:List Value}{ds:List Deferred}{K:AE->St->Log->Prop}{v w:Value}{l:Log}:leaveK P fn ts ds K (.ret v) (.panicking [{v:=w,recovered:=true}]) U l=leaveX P fn ts ds .returning U (preK l K):=(rfl)
theorem preW_mk{x:AX}{l lg:Log}:preW l Q ⟨x,fr,U,lg⟩=Q ⟨x,fr,U,l++lg⟩:=(rfl)
theorem blockW_mk{id:Nat}{x:AX}{lg:Log}:blockW id Q ⟨x,fr,U,lg⟩=Q ⟨x.inBlock id,fr,U,lg⟩:=(rfl)
theorem preK_eq{K:AE->St->Log->Prop}{e:AE}{l lg:Log}:preK l K e U lg=K e U (l++lg):=(rfl)
theorem scopeW_goto{body:Code}{lg:Log}{l:Nat}:scopeW P rnd body Q ⟨.goto l,fr,U,lg⟩=match findLabel body l with|some rest=>scopeX P rnd body rest fr U (preW lg Q)|none=>Q ⟨.goto l,fr,U,lg⟩:=(rfl)
theorem scopeW_norm{body:Code}{lg:Log}:scopeW P rnd body Q ⟨.norm,fr,U,lg⟩=Q ⟨.norm,fr,U,lg⟩:=(rfl)
theorem scopeW_ret{body:Code}{lg:Log}:scopeW P rnd body Q ⟨.ret,fr,U,lg⟩=Q ⟨.ret,fr,U,lg⟩:=(rfl)
theorem scopeW_exit{body:Code}{lg:Log}{i:Nat}:scopeW P rnd body Q ⟨.exit i,fr,U,lg⟩=Q ⟨.exit i,fr,U,lg⟩:=(rfl)
theorem scopeW_panic{body:Code}{lg:Log}{c:List PanicEntry}:scopeW P rnd body Q ⟨.panic c,fr,U,lg⟩=Q ⟨.panic c,fr,U,lg⟩:=(rfl)
end eqs
def withExt(C:Cx)(e:FuncId->Option Ext):Cx:={T:={info:=C.T.info,flat:=C.T.flat,ext:=e},bodies:=C.bodies}
theorem withExt_ok{C:Cx}(hC:C.Ok P){e:FuncId->Option Ext}(he:∀g x,e g=some x->ExtIs P g x):(withExt C e).Ok P:=⟨⟨hC.T.info,hC.T.flat,he⟩,hC.bodies⟩
theorem withExt_und(C:Cx)(e:FuncId->Option Ext)(t:TypeId):(withExt C e).T.und t=C.T.und t:=rfl
theorem withExt_info(C:Cx)(e:FuncId->Option Ext)(t:TypeId):(withExt C e).T.info t=C.T.info t:=rfl
theorem withExt_flat(C:Cx)(e:FuncId->Option Ext)(t:TypeId):(withExt C e).T.flat t=C.T.flat t:=rfl
theorem withExt_ext(C:Cx)(e:FuncId->Option Ext)(t:TypeId):(withExt C e).T.ext t=e t:=rfl
theorem withExt_bodies(C:Cx)(e:FuncId->Option Ext)(g:FuncId):(withExt C e).bodies g=C.bodies g:=rfl
end Go.Ab
namespace Go.Ab
open Go.Proofs
def btTab:List (Nat×List (Nat×List Nat)):=[
 (5,[(17,[0,0,3,7,15,0,32,127])]),
 (19,[(3,[0,1,3,7,0,0,0,0,128,384,896,2047,4095])]),
 (20,[(10,[0,1,3,7,0,31,63])]),
 (21,[(3,[0,1,0,4,12,28,63,127]),(5,[0,1,3,7,0,0,32,96,224,511,1023,1023,4095,8191])]),
 (22,[(3,[0,1,0,4,12,28,63,127]),(5,[0,1,3,7,0,31,63])]),
 (26,[(13,[0,0,0,6,14,30,30,126,254,510,1022,1022,4094,8190,8191,32767]),(17,[0,0,0,6,14,30,30,126,254,31,1023]),(24,[0,0,0,6,14,30,30,126,254,255,1023])]),
 (28,[(14,[0,1,3,7,0,0,48,0,128,384,896,1920,3968,8064,0,32640,112,131071,262143,524287]),(16,[0,1,3,7,0,16,48,112,255,511,1023,2047])]),
 (32,[(9,[0,1,3,7,0,0,0,0,0,256,992,2016,4095])]),
 (33,[(3,[0,1,3,7,0,16,63,127]),(4,[0,1,3,7,0,16,63,127,255,255,0,1535,4095]),(11,[0,1,0,4,12,28,0,64,192,448,1020,2047,4095]),(15,[0,1,0,4,12,28,63,127,255,511,511,0,3071,8191]),(16,[0,1,0,4,12,28,63,127,255,255,0,1535,4095]),(20,[0,0,0,0,8,24,56,0,128,504,125,1149,3197,8191,16383,32767]),(21,[0,1,3,7,0,16,0,127]),(22,[0,1,3,7,0,16,0,127])]),
 (34,[(4,[0,1,3,7,0,16,63,0,255]),(5,[0,1,3,7,0,16,63]),(6,[0,1,3,7,0,16,63,127,255,511,0,1024,4095,8191,16383,32767]),(7,[0,0,2,1,15,31])]),
 (39,[(15,[0,1,3,7,0,16,63]),(16,[0,1,3,7,0,16,63])]),
 (40,[(12,[0,1,0,7,15,0,32,0,128,480,1023,2047,4095])]),
 (41,[(6,[0,0,3,7,0,0,48,112,255])]),
 (42,[(3,[0,0,1,7,15]),(6,[0,0,1,7,15]),(10,[0,1,0,7,15,31,63,0,128,511]),(11,[0,0,1,7,15]),(14,[0,0,1,7,15]),(16,[0,0,1,7,15]),(23,[0,0,0,1,11,31]),(24,[0,0,2,0,8,30,7,71,255,511]),(26,[0,1,3,0,0,24,56,127,255,511]),(27,[0,0,1,7,15])]),
 (43,[(9,[0,1,0,7,15,0,32,0,128,480,1023,2047,4095]),(10,[0,0,1,7,15])]),
 (53,[(5,[0,1,0,4,12,28,0,64,252,511,1023]),(7,[0,1,3,7,15,0,32,127,255,511,1023,2047]),(9,[0,1,3,7,0,16,48,112,240,511]),(10,[0,0,2,6,0,16,48,112,240,511]),(11,[0,1,3,7,0,0,32,96,224,496,0,2047,4095])]),
 (55,[(1,[0,1,3,7,0,16,48,127,255,0,512,2047,4095,0,8192,24576,65535,131071,262143,524287]),(2,[0,1,3,7,0,16,48,127,255,511]),(4,[0,0,3,0,8,24,0,127,255,255,1023,2047]),(6,[0,0,3,0,8,24,0,127,255,255,1023,2047])]),
 (56,[(1,[0,1,3,7,0,16,48,127,255,0,512,2047,4095,0,8192,24576,65535,131071,262143,524287])]),
 (57,[(3,[0,1,3,7,15,0,0,64,192,448,991,2047,4095,8191])]),
 (62,[(10,[0,1,0,0,12,28,63,127,255,255,0,1535,4095])]),
 (63,[(5,[0,0,0,1,11,31])]),
 (65,[(11,[0,0,2,0,8,30,1,65,255,511]),(14,[0,0,2,1,9,31,63])]),
 (66,[(6,[0,0,3,7,0,0,48,112,255])]),
 (67,[(3,[0,1,3,7,15,31,63,127,0,256,768,1792,3840,7936,16128,255,65535,131071])]),
 (79,[(11,[0,0,2,6,14,0,0,0,128,384,896,2016,4064,8190,16383,32767,65535])]),
 (83,[(7,[0,0,2,7,15,31,31,127,255,511,31,1055,4095,8191]),(9,[0,0,3,7,0,16,63,0,0,384,1023,2047,4095])]),
 (87,[(1,[0,1,3,7,0,16,63,127,255,255,0,1535,4095])]),
 (90,[(5,[0,1,3,7,15,7,63,127,255,7,519,7,3591,7687,15879,32767,65535,131071])]),
 (101,[(5,[0,0,2,6,14,0,0,96,254,510,1022,2047,4095])]),
 (102,[(1,[0,1,3,7,0,31,0,64,192,448,960,2047,4095])]),
 (106,[(11,[0,0,0,6,14,30,0,0,192,448,960,2046,4095,8191])]),
 (108,[(6,[0,0,3,7,0,0,48,112,255]),(7,[0,0,3,7,0,0,48,112,255,511])]),
 (110,[(3,[0,1,3,7,15,31,63,0,128,384,896,1983,0,4096,12288,28672,65535,131071,262143])]),
 (113,[(3,[0,1,0,4,15,0,32,127]),(4,[0,1,3,0,8,0,32,120,31,287,1023,2047]),(6,[0,1,3,0,8,31,63,127])]),
 (114,[(5,[0,0,1,7,15])]),
 (115,[(4,[0,0,0,6,15,31])]),
 (120,[(3,[0,0,0,4,0,16,48,112,240,253,765,1789,4095,8191,16383])]),
 (124,[(5,[0,1,3,0,8,24,63,0,128,511,0,1024,3072,8191,0,0,65535,131071]),(8,[0,0,3,0,8,24,63,127])]),
 (126,[(2,[0,1,0,4,0,16,60,127,255,511,1023,0,2303,8191,16383])]),
 (128,[(2,[0,0,3,0,0,0,48,127,255])]),
 (131,[(2,[0,1,3,0,8,24,0,120,255,0,512,2047,0,4096,12288,0,61440,131071,0,0,1048575,2097151]),(3,[0,0,3,0,8,24,0,71,255]),(7,[0,0,3,0,8,24,7,127]),(10,[0,1,3,0,15,0,32,96,0,480,1023,0,4095])]),
 (132,[(1,[0,1,3,7,15,31,63,127,255,511,1023,2047,511,4607,12799,32767,65535,131071])]),
 (133,[(0,[0,1,3,7,15,0,32,96,224,0,992,2016,4064,0,16383])]),
 (134,[(2,[0,1,3,7,0,31,63,0,128,384,896,0,3968,8064,16383,32767])]),
 (135,[(1,[0,1,3,7,0,31,63,0,128,384,896,1920,3968,0,8319,32767]),(4,[0,1,3,7,15,0,32,127])]),
 (138,[(1,[0,0,3,0,0,31,63,127])]),
 (145,[(1,[0,0,3,0,0,31,63,127])]),
 (149,[(10,[0,0,2,0,0,16,56,120,0,256,768,2040,4095,8191])]),
 (156,[(3,[0,1,3,7,0,16,48,112,255,511,1023,2047])]),
 (161,[(8,[0,0,2,1,15])]),
 (162,[(2,[0,0,0,6,3,31])]),
 (185,[(6,[0,0,3,0,0,24,7,127])]),
 (188,[(0,[0,0,0,0,0,0,48,112,0,0,768,1792,4083,8179,16383,32767])]),
 (189,[(4,[0,0,2,6,14,30,63,127,255,511,1023,2047,255,8191,16383,255,33023,98559,229631,255,1016063,2064639,4194303,8388607,16777215])]),
 (190,[(17,[0,1,3,7,7,7,39,119,247,7,7,1543,3591,8191,16383,32767,65535])]),
 (195,[(17,[0,1,3,7,7,7,39,119,247,7,7,1543,3591,8191,16383,32767,65535])]),
 (199,[(4,[0,0,3,7,15,15,15,111,239,15,15,1039,3599,7695,16383,32767,65535]),(6,[0,0,0,0,8,0,0,64,224,480,0,0,3072,7168,16355,32739,65535,131071])]),
 (200,[(10,[0,0,0,0,0,24,0,0,0,384,960,1984,0,0,12288,28672,65475,131011,262143,524287])]),
 (201,[(10,[0,0,0,0,0,24,0,0,0,384,960,1984,0,0,12288,28672,65475,131011,262143,524287])]),
 (203,[(3,[0,0,0,0,0,0,48,112,0,0,768,1792,4083,8179,16383,32767])]),
 (204,[(5,[0,0,3,7,15,15,15,111,239,15,15,1039,3599,7695,16383,32767,65535,131071]),(11,[0,0,0,0,8,0,0,64,224,480,0,0,3072,7168,16355,32739,65535,131071]),(16,[0,0,0,6,14,0,0,64,224,480,1023,2047,4095]),(17,[0,0,0,0,8,0,0,64,224,480,0,0,3072,7168,16355,32739,65535,131071]),(22,[0,0,0,6,14,0,0,64,224,480,1023,2047,4095]),(23,[0,0,0,0,8,0,0,64,224,480,0,0,3072,7168,16355,32739,65535,131071])]),
 (205,[(1,[0,0,0,0,0,0,48,112,0,0,768,1792,4083,8179,16383,32767]),(3,[0,0,3,7,15,15,15,111,239,15,15,1551,3599,8191,16383,32767,65535]),(5,[0,0,3,7,15,15,15,111,239,15,15,1551,3599,8191,16383,32767]),(8,[0,0,0,0,0,0,48,112,0,0,768,1792,4083,8179,16383,32767])]),
 (206,[(1,[0,0,0,0,0,0,48,112,0,0,768,1792,4083,8179,16383,32767]),(3,[0,0,3,7,15,15,15,111,239,15,15,1551,3599,8191,16383,32767]),(5,[0,0,3,7,15,15,15,111,239,15,15,1551,3599,8191,16383,32767,65535]),(8,[0,0,0,0,0,0,48,112,0,0,768,1792,4083,8179,16383,32767]),(10,[0,0,0,0,0,0,48,112,0,0,768,1792,4083,8179,16383,32767]),(13,[0,0,3,7,15,15,15,111,239,15,15,1551,3599,8191,16383,32767]),(15,[0,0,3,7,15,15,15,111,239,15,15,1551,3599,8191,16383,32767,65535]),(18,[0,0,0,0,0,0,48,112,0,0,768,1792,4083,8179,16383,32767]),(21,[0,0,0,0,0,0,48,112,0,0,768,1792,4083,8179,16383,32767])]),
 (211,[(4,[0,0,3,7,15,15,15,111,239,15,15,1039,3599,7695,16383,32767,65535]),(6,[0,0,0,0,8,0,0,64,224,480,0,0,3072,7168,16355,32739,65535,131071])]),
 (212,[(10,[0,0,0,0,0,24,0,0,0,384,960,1984,0,0,12288,28672,65475,131011,262143,524287])]),
 (213,[(10,[0,0,0,0,0,24,0,0,0,384,960,1984,0,0,12288,28672,65475,131011,262143,524287])]),
 (215,[(3,[0,0,0,0,0,0,48,112,0,0,768,1792,4083,8179,16383,32767])]),
 (216,[(5,[0,0,3,7,15,15,15,111,239,15,15,1039,3599,7695,16383,32767,65535,131071]),(11,[0,0,0,0,8,0,0,64,224,480,0,0,3072,7168,16355,32739,65535,131071]),(16,[0,0,0,6,14,0,0,64,224,480,1023,2047,4095]),(17,[0,0,0,0,8,0,0,64,224,480,0,0,3072,7168,16355,32739,65535,131071]),(22,[0,0,0,6,14,0,0,64,224,480,1023,2047,4095]),(23,[0,0,0,0,8,0,0,64,224,480,0,0,3072,7168,16355,32739,65535,131071])]),
 (217,[(1,[0,0,0,0,0,0,48,112,0,0,768,1792,4083,8179,16383,32767]),(3,[0,0,3,7,15,15,15,111,239,15,15,1551,3599,8191,16383,32767,65535]),(5,[0,0,3,7,15,15,15,111,239,15,15,1551,3599,8191,16383,32767]),(8,[0,0,0,0,0,0,48,112,0,0,768,1792,4083,8179,16383,32767])]),
 (218,[(1,[0,0,0,0,0,0,48,112,0,0,768,1792,4083,8179,16383,32767]),(3,[0,0,3,7,15,15,15,111,239,15,15,1551,3599,8191,16383,32767]),(5,[0,0,3,7,15,15,15,111,239,15,15,1551,3599,8191,16383,32767,65535]),(8,[0,0,0,0,0,0,48,112,0,0,768,1792,4083,8179,16383,32767]),(10,[0,0,0,0,0,0,48,112,0,0,768,1792,4083,8179,16383,32767]),(13,[0,0,3,7,15,15,15,111,239,15,15,1551,3599,8191,16383,32767]),(15,[0,0,3,7,15,15,15,111,239,15,15,1551,3599,8191,16383,32767,65535]),(18,[0,0,0,0,0,0,48,112,0,0,768,1792,4083,8179,16383,32767]),(21,[0,0,0,0,0,0,48,112,0,0,768,1792,4083,8179,16383,32767])]),
 (219,[(8,[0,0,2,1,15])]),
 (220,[(3,[0,1,0,7,15,31,31,31,31,415,991,2015,31,31,31,24607,57375,127007,258079,524287,1048575,2097151]),(5,[0,0,0,0,12,30,62,0,0,0,768,1920,3968,8191,16383,32767]),(6,[0,0,0,6,0,0,0,96,0,0,0,1536,3840,7936,0,0,0,98304,245760,507904,1048335,2096911,4194303,8388607])]),
 (222,[(1,[0,1,3,0,8,24,56,127,255,511]),(2,[0,1,3,0,8,24,56,127,255,511]),(3,[0,1,3,0,8,24,56,127,255,511])]),
 (233,[(3,[0,1,0,7,15,31,31,31,31,415,991,2015,31,31,31,24607,57375,127007,258079,524287,1048575,2097151]),(5,[0,0,0,0,12,30,62,0,0,0,768,1920,3968,8191,16383,32767]),(6,[0,0,0,6,0,0,0,96,0,0,0,1536,3840,7936,0,0,0,98304,245760,507904,1048335,2096911,4194303,8388607])]),
 (236,[(1,[0,0,0,6,14,0,0,96,224,511,1023])]),
 (240,[(1,[0,0,0,6,14,0,0,96,224,511,1023])])]
def lookN{α:Type}(d:α):List (Nat×α)->Nat->α
 |[],_=>d
 |(k,v) :: r,n=>match Nat.beq k n with
  |true=>v
  |false=>lookN d r n
def btAll(f:FuncId)(r:Nat):List Nat:=
 match Nat.beq r 1000000 with
 |true=>[f]
 |false=>lookN [] (lookN [] btTab f) r
inductive BT(α:Type) where
 |leaf
 |node (l:BT α) (o:Option α) (r:BT α)
def BT.get{α:Type}:BT α->List Bool->Option α
 |.leaf,_=>none
 |.node _ o _,[]=>o
 |.node l _ r,b :: bs=>match b with|true=>r.get bs|false=>l.get bs
structure TyRow where
 num:TypeId
 info:TypeInfo
 at':Tryz.prog.info? num=some info
noncomputable def ty0:TyRow:=⟨0,Tryz.t0,by kernel_rfl⟩
noncomputable def ty1:TyRow:=⟨1,Tryz.t1,by kernel_rfl⟩
noncomputable def ty2:TyRow:=⟨2,Tryz.t2,by kernel_rfl⟩
noncomputable def ty3:TyRow:=⟨3,Tryz.t3,by kernel_rfl⟩
noncomputable def ty4:TyRow:=⟨4,Tryz.t4,by kernel_rfl⟩
noncomputable def ty5:TyRow:=⟨5,Tryz.t5,by kernel_rfl⟩
noncomputable def ty6:TyRow:=⟨6,Tryz.t6,by kernel_rfl⟩
noncomputable def ty7:TyRow:=⟨7,Tryz.t7,by kernel_rfl⟩
noncomputable def ty8:TyRow:=⟨8,Tryz.t8,by kernel_rfl⟩
noncomputable def ty9:TyRow:=⟨9,Tryz.t9,by kernel_rfl⟩
noncomputable def ty10:TyRow:=⟨10,Tryz.t10,by kernel_rfl⟩
noncomputable def ty11:TyRow:=⟨11,Tryz.t11,by kernel_rfl⟩
noncomputable def ty12:TyRow:=⟨12,Tryz.t12,by kernel_rfl⟩
noncomputable def ty13:TyRow:=⟨13,Tryz.t13,by kernel_rfl⟩
noncomputable def ty14:TyRow:=⟨14,Tryz.t14,by kernel_rfl⟩
noncomputable def ty15:TyRow:=⟨15,Tryz.t15,by kernel_rfl⟩
noncomputable def ty16:TyRow:=⟨16,Tryz.t16,by kernel_rfl⟩
noncomputable def ty17:TyRow:=⟨17,Tryz.t17,by kernel_rfl⟩
noncomputable def ty18:TyRow:=⟨18,Tryz.t18,by kernel_rfl⟩
noncomputable def ty19:TyRow:=⟨19,Tryz.t19,by kernel_rfl⟩
noncomputable def ty20:TyRow:=⟨20,Tryz.t20,by kernel_rfl⟩
noncomputable def ty21:TyRow:=⟨21,Tryz.t21,by kernel_rfl⟩
noncomputable def ty22:TyRow:=⟨22,Tryz.t22,by kernel_rfl⟩
noncomputable def ty23:TyRow:=⟨23,Tryz.t23,by kernel_rfl⟩
noncomputable def ty24:TyRow:=⟨24,Tryz.t24,by kernel_rfl⟩
noncomputable def ty25:TyRow:=⟨25,Tryz.t25,by kernel_rfl⟩
noncomputable def ty26:TyRow:=⟨26,Tryz.t26,by kernel_rfl⟩
noncomputable def ty27:TyRow:=⟨27,Tryz.t27,by kernel_rfl⟩
noncomputable def ty28:TyRow:=⟨28,Tryz.t28,by kernel_rfl⟩
noncomputable def ty29:TyRow:=⟨29,Tryz.t29,by kernel_rfl⟩
noncomputable def ty32:TyRow:=⟨32,Tryz.t32,by kernel_rfl⟩
noncomputable def ty33:TyRow:=⟨33,Tryz.t33,by kernel_rfl⟩
noncomputable def ty37:TyRow:=⟨37,Tryz.t37,by kernel_rfl⟩
noncomputable def ty38:TyRow:=⟨38,Tryz.t38,by kernel_rfl⟩
noncomputable def ty39:TyRow:=⟨39,Tryz.t39,by kernel_rfl⟩
noncomputable def ty40:TyRow:=⟨40,Tryz.t40,by kernel_rfl⟩
noncomputable def ty46:TyRow:=⟨46,Tryz.t46,by kernel_rfl⟩
noncomputable def ty47:TyRow:=⟨47,Tryz.t47,by kernel_rfl⟩
noncomputable def ty48:TyRow:=⟨48,Tryz.t48,by kernel_rfl⟩
noncomputable def ty59:TyRow:=⟨59,Tryz.t59,by kernel_rfl⟩
noncomputable def ty62:TyRow:=⟨62,Tryz.t62,by kernel_rfl⟩
noncomputable def ty66:TyRow:=⟨66,Tryz.t66,by kernel_rfl⟩
noncomputable def ty70:TyRow:=⟨70,Tryz.t70,by kernel_rfl⟩
noncomputable def ty71:TyRow:=⟨71,Tryz.t71,by kernel_rfl⟩
noncomputable def ty77:TyRow:=⟨77,Tryz.t77,by kernel_rfl⟩
noncomputable def ty78:TyRow:=⟨78,Tryz.t78,by kernel_rfl⟩
noncomputable def ty89:TyRow:=⟨89,Tryz.t89,by kernel_rfl⟩
noncomputable def ty91:TyRow:=⟨91,Tryz.t91,by kernel_rfl⟩
noncomputable def ty93:TyRow:=⟨93,Tryz.t93,by kernel_rfl⟩
noncomputable def ty94:TyRow:=⟨94,Tryz.t94,by kernel_rfl⟩
noncomputable def ty95:TyRow:=⟨95,Tryz.t95,by kernel_rfl⟩
noncomputable def ty96:TyRow:=⟨96,Tryz.t96,by kernel_rfl⟩
noncomputable def ty117:TyRow:=⟨117,Tryz.t117,by kernel_rfl⟩
noncomputable def ty118:TyRow:=⟨118,Tryz.t118,by kernel_rfl⟩
noncomputable def ty119:TyRow:=⟨119,Tryz.t119,by kernel_rfl⟩
noncomputable def ty122:TyRow:=⟨122,Tryz.t122,by kernel_rfl⟩
noncomputable def ty123:TyRow:=⟨123,Tryz.t123,by kernel_rfl⟩
noncomputable def ty124:TyRow:=⟨124,Tryz.t124,by kernel_rfl⟩
noncomputable def ty147:TyRow:=⟨147,Tryz.t147,by kernel_rfl⟩
noncomputable def ty148:TyRow:=⟨148,Tryz.t148,by kernel_rfl⟩
noncomputable def ty149:TyRow:=⟨149,Tryz.t149,by kernel_rfl⟩
noncomputable def ty150:TyRow:=⟨150,Tryz.t150,by kernel_rfl⟩
noncomputable def ty153:TyRow:=⟨153,Tryz.t153,by kernel_rfl⟩
noncomputable def ty158:TyRow:=⟨158,Tryz.t158,by kernel_rfl⟩
noncomputable def ty159:TyRow:=⟨159,Tryz.t159,by kernel_rfl⟩
noncomputable def ty160:TyRow:=⟨160,Tryz.t160,by kernel_rfl⟩
noncomputable def ty162:TyRow:=⟨162,Tryz.t162,by kernel_rfl⟩
noncomputable def ty163:TyRow:=⟨163,Tryz.t163,by kernel_rfl⟩
noncomputable def ty164:TyRow:=⟨164,Tryz.t164,by kernel_rfl⟩
noncomputable def ty165:TyRow:=⟨165,Tryz.t165,by kernel_rfl⟩
noncomputable def ty166:TyRow:=⟨166,Tryz.t166,by kernel_rfl⟩
noncomputable def ty167:TyRow:=⟨167,Tryz.t167,by kernel_rfl⟩
noncomputable def ty173:TyRow:=⟨173,Tryz.t173,by kernel_rfl⟩
noncomputable def ty182:TyRow:=⟨182,Tryz.t182,by kernel_rfl⟩
noncomputable def ty183:TyRow:=⟨183,Tryz.t183,by kernel_rfl⟩
noncomputable def ty184:TyRow:=⟨184,Tryz.t184,by kernel_rfl⟩
noncomputable def ty185:TyRow:=⟨185,Tryz.t185,by kernel_rfl⟩
noncomputable def ty188:TyRow:=⟨188,Tryz.t188,by kernel_rfl⟩
noncomputable def ty189:TyRow:=⟨189,Tryz.t189,by kernel_rfl⟩
noncomputable def ty191:TyRow:=⟨191,Tryz.t191,by kernel_rfl⟩
noncomputable def ty196:TyRow:=⟨196,Tryz.t196,by kernel_rfl⟩
noncomputable def ty208:TyRow:=⟨208,Tryz.t208,by kernel_rfl⟩
noncomputable def ty210:TyRow:=⟨210,Tryz.t210,by kernel_rfl⟩
noncomputable def ty214:TyRow:=⟨214,Tryz.t214,by kernel_rfl⟩
noncomputable def ty216:TyRow:=⟨216,Tryz.t216,by kernel_rfl⟩
noncomputable def ty217:TyRow:=⟨217,Tryz.t217,by kernel_rfl⟩
noncomputable def ty234:TyRow:=⟨234,Tryz.t234,by kernel_rfl⟩
noncomputable def ty239:TyRow:=⟨239,Tryz.t239,by kernel_rfl⟩
noncomputable def ty243:TyRow:=⟨243,Tryz.t243,by kernel_rfl⟩
noncomputable def ty245:TyRow:=⟨245,Tryz.t245,by kernel_rfl⟩
noncomputable def ty246:TyRow:=⟨246,Tryz.t246,by kernel_rfl⟩
noncomputable def ty249:TyRow:=⟨249,Tryz.t249,by kernel_rfl⟩
noncomputable def ty250:TyRow:=⟨250,Tryz.t250,by kernel_rfl⟩
noncomputable def ty254:TyRow:=⟨254,Tryz.t254,by kernel_rfl⟩
noncomputable def ty268:TyRow:=⟨268,Tryz.t268,by kernel_rfl⟩
noncomputable def ty272:TyRow:=⟨272,Tryz.t272,by kernel_rfl⟩
noncomputable def ty275:TyRow:=⟨275,Tryz.t275,by kernel_rfl⟩
noncomputable def ty280:TyRow:=⟨280,Tryz.t280,by kernel_rfl⟩
noncomputable def ty281:TyRow:=⟨281,Tryz.t281,by kernel_rfl⟩
noncomputable def ty284:TyRow:=⟨284,Tryz.t284,by kernel_rfl⟩
noncomputable def tyTree:BT TyRow:=(.node (.node (.node (.node (.node (.node .leaf none (.node (.node .leaf none (.node .leaf (some ty160) .leaf)) (some ty32) (.node .leaf (some ty96) .leaf))) none (.node (.node (.node (.node .leaf none (.node .leaf (some ty272) .leaf)) none .leaf) none (.node .leaf none (.node .leaf (some ty208) .leaf))) (some ty16) (.node .leaf (some ty48) .leaf))) none (.node (.node .leaf none (.node .leaf (some ty40) .leaf)) (some ty8) (.node (.node (.node (.node .leaf none (.node .leaf (some ty280) .leaf)) none .leaf) none (.node .leaf none (.node .leaf (some ty216) .leaf))) (some ty24) (.node (.node .leaf none (.node .leaf (some ty184) .leaf)) none .leaf)))) none (.node (.node (.node (.node .leaf none (.node .leaf none (.node .leaf (some ty196) .leaf))) none (.node (.node .leaf none (.node .leaf (some ty164) .leaf)) none .leaf)) none (.node (.node (.node .leaf none (.node .leaf (some ty148) .leaf)) none .leaf) (some ty20) .leaf)) (some ty4) (.node (.node (.node (.node (.node .leaf none (.node .leaf (some ty268) .leaf)) none .leaf) none .leaf) none .leaf) (some ty12) (.node (.node (.node (.node .leaf none (.node .leaf (some ty284) .leaf)) none .leaf) none .leaf) (some ty28) (.node (.node .leaf none (.node .leaf (some ty188) .leaf)) none (.node .leaf (some ty124) .leaf)))))) none (.node (.node (.node (.node (.node .leaf none (.node .leaf (some ty66) .leaf)) none (.node (.node .leaf none (.node .leaf (some ty162) .leaf)) none .leaf)) none (.node (.node .leaf none (.node .leaf none (.node .leaf (some ty210) .leaf))) (some ty18) .leaf)) none (.node (.node .leaf none (.node .leaf none (.node .leaf none (.node .leaf (some ty234) .leaf)))) (some ty10) (.node .leaf (some ty26) (.node .leaf none (.node .leaf (some ty122) (.node .leaf (some ty250) .leaf)))))) (some ty2) (.node (.node (.node (.node .leaf none (.node .leaf (some ty70) .leaf)) none (.node (.node .leaf none (.node .leaf (some ty166) .leaf)) (some ty38) .leaf)) none (.node (.node (.node .leaf none (.node .leaf (some ty150) .leaf)) none (.node .leaf none (.node .leaf (some ty214) .leaf))) (some ty22) (.node (.node .leaf none (.node .leaf (some ty182) .leaf)) none (.node .leaf (some ty118) (.node .leaf (some ty246) .leaf))))) (some ty6) (.node (.node (.node .leaf none (.node .leaf (some ty78) .leaf)) none (.node .leaf (some ty46) .leaf)) (some ty14) (.node (.node (.node .leaf none (.node .leaf (some ty158) .leaf)) none (.node .leaf (some ty94) .leaf)) none (.node .leaf (some ty62) (.node .leaf none (.node .leaf (some ty254) .leaf)))))))) (some ty0) (.node (.node (.node (.node (.node .leaf none (.node .leaf (some ty33) .leaf)) none (.node .leaf (some ty17) .leaf)) none (.node .leaf (some ty9) (.node (.node (.node (.node .leaf none (.node .leaf (some ty281) .leaf)) none (.node .leaf (some ty153) .leaf)) none (.node .leaf (some ty89) (.node .leaf (some ty217) .leaf))) (some ty25) (.node (.node .leaf none (.node .leaf (some ty185) .leaf)) none (.node .leaf none (.node .leaf (some ty249) .leaf)))))) none (.node (.node (.node .leaf none (.node (.node .leaf none (.node .leaf (some ty165) .leaf)) (some ty37) .leaf)) none (.node (.node (.node .leaf none (.node .leaf (some ty149) .leaf)) none .leaf) (some ty21) (.node .leaf none (.node .leaf (some ty117) (.node .leaf (some ty245) .leaf))))) (some ty5) (.node (.node (.node .leaf none (.node .leaf (some ty77) .leaf)) none (.node (.node .leaf none (.node .leaf (some ty173) .leaf)) none .leaf)) (some ty13) (.node (.node .leaf none (.node .leaf (some ty93) .leaf)) (some ty29) (.node (.node .leaf none (.node .leaf (some ty189) .leaf)) none .leaf))))) (some ty1) (.node (.node (.node (.node .leaf none (.node (.node .leaf none (.node .leaf (some ty163) .leaf)) none .leaf)) none (.node (.node (.node (.node .leaf none (.node .leaf (some ty275) .leaf)) none (.node .leaf (some ty147) .leaf)) none .leaf) (some ty19) (.node .leaf none (.node .leaf none (.node .leaf (some ty243) .leaf))))) none (.node .leaf (some ty11) (.node (.node .leaf none (.node .leaf (some ty91) .leaf)) (some ty27) (.node .leaf (some ty59) (.node .leaf (some ty123) .leaf))))) (some ty3) (.node (.node (.node (.node .leaf none (.node .leaf (some ty71) .leaf)) none (.node (.node .leaf none (.node .leaf (some ty167) .leaf)) (some ty39) .leaf)) none (.node .leaf (some ty23) (.node (.node .leaf none (.node .leaf (some ty183) .leaf)) none (.node .leaf (some ty119) .leaf)))) (some ty7) (.node (.node .leaf none (.node .leaf (some ty47) (.node .leaf none (.node .leaf (some ty239) .leaf)))) (some ty15) (.node (.node (.node .leaf none (.node .leaf (some ty159) .leaf)) none (.node .leaf (some ty95) .leaf)) none (.node (.node .leaf none (.node .leaf (some ty191) .leaf)) none .leaf)))))))
noncomputable def tyAt(t:TypeId):Option TypeInfo:=
 match tyTree.get (bits t t) with
 |some r=>match Nat.beq r.num t with
  |true=>some r.info
  |false=>none
 |none=>none
theorem tyAt_ok(t:TypeId)(i:TypeInfo)(h:tyAt t=some i):Tryz.prog.info? t=some i:=by
 unfold tyAt at h
 split at h
 ·rename_i r _
  split at h
  ·rename_i hb
   cases h
   rw[<-Nat.eq_of_beq_eq_true hb]
   exact r.at'
  ·cases h
 ·cases h
structure ExtRow where
 num:FuncId
 ext:Ext
 is:ExtIs Tryz.prog num ext
noncomputable def ext142:ExtRow:=⟨142,(.clone),⟨Tryz.f142,Tryz.func142,by kernel_rfl,by kernel_rfl,by kernel_rfl,by kernel_rfl⟩⟩
noncomputable def ext182:ExtRow:=⟨182,(.add64),⟨Tryz.f182,Tryz.func182,by kernel_rfl,by kernel_rfl,by kernel_rfl,by kernel_rfl⟩⟩
noncomputable def ext183:ExtRow:=⟨183,(.sub64),⟨Tryz.f183,Tryz.func183,by kernel_rfl,by kernel_rfl,by kernel_rfl,by kernel_rfl⟩⟩
noncomputable def extTree:BT ExtRow:=(.node (.node .leaf none (.node .leaf none (.node (.node .leaf none (.node .leaf none (.node (.node .leaf none (.node .leaf (some ext182) .leaf)) none .leaf))) none (.node (.node (.node (.node .leaf none (.node .leaf (some ext142) .leaf)) none .leaf) none .leaf) none .leaf)))) none (.node .leaf none (.node .leaf none (.node (.node .leaf none (.node .leaf none (.node (.node .leaf none (.node .leaf (some ext183) .leaf)) none .leaf))) none .leaf))))
noncomputable def extAt(f:FuncId):Option Ext:=
 match extTree.get (bits f f) with
 |some r=>match Nat.beq r.num f with
  |true=>some r.ext
  |false=>none
 |none=>none
theorem extAt_ok(f:FuncId)(x:Ext)(h:extAt f=some x):ExtIs Tryz.prog f x:=by
 unfold extAt at h
 split at h
 ·rename_i r _
  split at h
  ·rename_i hb
   cases h
   rw[<-Nat.eq_of_beq_eq_true hb]
   exact r.is
  ·cases h
 ·cases h
theorem stat5:statAll (btAll 5) (Tryz.f5.body.getD .skip)=true:=by kernel_rfl
theorem stat9:statAll (btAll 9) (Tryz.f9.body.getD .skip)=true:=by kernel_rfl
theorem stat12:statAll (btAll 12) (Tryz.f12.body.getD .skip)=true:=by kernel_rfl
theorem stat13:statAll (btAll 13) (Tryz.f13.body.getD .skip)=true:=by kernel_rfl
theorem stat14:statAll (btAll 14) (Tryz.f14.body.getD .skip)=true:=by kernel_rfl
theorem stat15:statAll (btAll 15) (Tryz.f15.body.getD .skip)=true:=by kernel_rfl
theorem stat16:statAll (btAll 16) (Tryz.f16.body.getD .skip)=true:=by kernel_rfl
theorem stat18:statAll (btAll 18) (Tryz.f18.body.getD .skip)=true:=by kernel_rfl
theorem stat19:statAll (btAll 19) (Tryz.f19.body.getD .skip)=true:=by kernel_rfl
theorem stat20:statAll (btAll 20) (Tryz.f20.body.getD .skip)=true:=by kernel_rfl
theorem stat21:statAll (btAll 21) (Tryz.f21.body.getD .skip)=true:=by kernel_rfl
theorem stat22:statAll (btAll 22) (Tryz.f22.body.getD .skip)=true:=by kernel_rfl
theorem stat24:statAll (btAll 24) (Tryz.f24.body.getD .skip)=true:=by kernel_rfl
theorem stat25:statAll (btAll 25) (Tryz.f25.body.getD .skip)=true:=by kernel_rfl
theorem stat26:statAll (btAll 26) (Tryz.f26.body.getD .skip)=true:=by kernel_rfl
theorem stat27:statAll (btAll 27) (Tryz.f27.body.getD .skip)=true:=by kernel_rfl
theorem stat28:statAll (btAll 28) (Tryz.f28.body.getD .skip)=true:=by kernel_rfl
theorem stat32:statAll (btAll 32) (Tryz.f32.body.getD .skip)=true:=by kernel_rfl
theorem stat33:statAll (btAll 33) (Tryz.f33.body.getD .skip)=true:=by kernel_rfl
theorem stat34:statAll (btAll 34) (Tryz.f34.body.getD .skip)=true:=by kernel_rfl
theorem stat35:statAll (btAll 35) (Tryz.f35.body.getD .skip)=true:=by kernel_rfl
theorem stat36:statAll (btAll 36) (Tryz.f36.body.getD .skip)=true:=by kernel_rfl
theorem stat37:statAll (btAll 37) (Tryz.f37.body.getD .skip)=true:=by kernel_rfl
theorem stat38:statAll (btAll 38) (Tryz.f38.body.getD .skip)=true:=by kernel_rfl
theorem stat39:statAll (btAll 39) (Tryz.f39.body.getD .skip)=true:=by kernel_rfl
theorem stat40:statAll (btAll 40) (Tryz.f40.body.getD .skip)=true:=by kernel_rfl
theorem stat41:statAll (btAll 41) (Tryz.f41.body.getD .skip)=true:=by kernel_rfl
theorem stat42:statAll (btAll 42) (Tryz.f42.body.getD .skip)=true:=by kernel_rfl
theorem stat47:statAll (btAll 47) (Tryz.f47.body.getD .skip)=true:=by kernel_rfl
theorem stat48:statAll (btAll 48) (Tryz.f48.body.getD .skip)=true:=by kernel_rfl
theorem stat49:statAll (btAll 49) (Tryz.f49.body.getD .skip)=true:=by kernel_rfl
theorem stat50:statAll (btAll 50) (Tryz.f50.body.getD .skip)=true:=by kernel_rfl
theorem stat51:statAll (btAll 51) (Tryz.f51.body.getD .skip)=true:=by kernel_rfl
theorem stat52:statAll (btAll 52) (Tryz.f52.body.getD .skip)=true:=by kernel_rfl
theorem stat53:statAll (btAll 53) (Tryz.f53.body.getD .skip)=true:=by kernel_rfl
theorem stat57:statAll (btAll 57) (Tryz.f57.body.getD .skip)=true:=by kernel_rfl
theorem stat58:statAll (btAll 58) (Tryz.f58.body.getD .skip)=true:=by kernel_rfl
theorem stat59:statAll (btAll 59) (Tryz.f59.body.getD .skip)=true:=by kernel_rfl
theorem stat60:statAll (btAll 60) (Tryz.f60.body.getD .skip)=true:=by kernel_rfl
theorem stat61:statAll (btAll 61) (Tryz.f61.body.getD .skip)=true:=by kernel_rfl
theorem stat62:statAll (btAll 62) (Tryz.f62.body.getD .skip)=true:=by kernel_rfl
theorem stat63:statAll (btAll 63) (Tryz.f63.body.getD .skip)=true:=by kernel_rfl
theorem stat64:statAll (btAll 64) (Tryz.f64.body.getD .skip)=true:=by kernel_rfl
theorem stat67:statAll (btAll 67) (Tryz.f67.body.getD .skip)=true:=by kernel_rfl
theorem stat68:statAll (btAll 68) (Tryz.f68.body.getD .skip)=true:=by kernel_rfl
theorem stat69:statAll (btAll 69) (Tryz.f69.body.getD .skip)=true:=by kernel_rfl
theorem stat70:statAll (btAll 70) (Tryz.f70.body.getD .skip)=true:=by kernel_rfl
theorem stat72:statAll (btAll 72) (Tryz.f72.body.getD .skip)=true:=by kernel_rfl
theorem stat73:statAll (btAll 73) (Tryz.f73.body.getD .skip)=true:=by kernel_rfl
theorem stat74:statAll (btAll 74) (Tryz.f74.body.getD .skip)=true:=by kernel_rfl
theorem stat75:statAll (btAll 75) (Tryz.f75.body.getD .skip)=true:=by kernel_rfl
theorem stat76:statAll (btAll 76) (Tryz.f76.body.getD .skip)=true:=by kernel_rfl
theorem stat77:statAll (btAll 77) (Tryz.f77.body.getD .skip)=true:=by kernel_rfl
theorem stat78:statAll (btAll 78) (Tryz.f78.body.getD .skip)=true:=by kernel_rfl
theorem stat79:statAll (btAll 79) (Tryz.f79.body.getD .skip)=true:=by kernel_rfl
theorem stat80:statAll (btAll 80) (Tryz.f80.body.getD .skip)=true:=by kernel_rfl
theorem stat81:statAll (btAll 81) (Tryz.f81.body.getD .skip)=true:=by kernel_rfl
theorem stat82:statAll (btAll 82) (Tryz.f82.body.getD .skip)=true:=by kernel_rfl
theorem stat83:statAll (btAll 83) (Tryz.f83.body.getD .skip)=true:=by kernel_rfl
theorem stat85:statAll (btAll 85) (Tryz.f85.body.getD .skip)=true:=by kernel_rfl
theorem stat86:statAll (btAll 86) (Tryz.f86.body.getD .skip)=true:=by kernel_rfl
theorem stat87:statAll (btAll 87) (Tryz.f87.body.getD .skip)=true:=by kernel_rfl
theorem stat93:statAll (btAll 93) (Tryz.f93.body.getD .skip)=true:=by kernel_rfl
theorem stat95:statAll (btAll 95) (Tryz.f95.body.getD .skip)=true:=by kernel_rfl
theorem stat96:statAll (btAll 96) (Tryz.f96.body.getD .skip)=true:=by kernel_rfl
theorem stat97:statAll (btAll 97) (Tryz.f97.body.getD .skip)=true:=by kernel_rfl
theorem stat98:statAll (btAll 98) (Tryz.f98.body.getD .skip)=true:=by kernel_rfl
theorem stat99:statAll (btAll 99) (Tryz.f99.body.getD .skip)=true:=by kernel_rfl
theorem stat100:statAll (btAll 100) (Tryz.f100.body.getD .skip)=true:=by kernel_rfl
theorem stat101:statAll (btAll 101) (Tryz.f101.body.getD .skip)=true:=by kernel_rfl
theorem stat102:statAll (btAll 102) (Tryz.f102.body.getD .skip)=true:=by kernel_rfl
theorem stat110:statAll (btAll 110) (Tryz.f110.body.getD .skip)=true:=by kernel_rfl
theorem stat111:statAll (btAll 111) (Tryz.f111.body.getD .skip)=true:=by kernel_rfl
theorem stat112:statAll (btAll 112) (Tryz.f112.body.getD .skip)=true:=by kernel_rfl
theorem stat113:statAll (btAll 113) (Tryz.f113.body.getD .skip)=true:=by kernel_rfl
theorem stat115:statAll (btAll 115) (Tryz.f115.body.getD .skip)=true:=by kernel_rfl
theorem stat116:statAll (btAll 116) (Tryz.f116.body.getD .skip)=true:=by kernel_rfl
theorem stat117:statAll (btAll 117) (Tryz.f117.body.getD .skip)=true:=by kernel_rfl
theorem stat118:statAll (btAll 118) (Tryz.f118.body.getD .skip)=true:=by kernel_rfl
theorem stat119:statAll (btAll 119) (Tryz.f119.body.getD .skip)=true:=by kernel_rfl
theorem stat120:statAll (btAll 120) (Tryz.f120.body.getD .skip)=true:=by kernel_rfl
theorem stat121:statAll (btAll 121) (Tryz.f121.body.getD .skip)=true:=by kernel_rfl
theorem stat122:statAll (btAll 122) (Tryz.f122.body.getD .skip)=true:=by kernel_rfl
theorem stat123:statAll (btAll 123) (Tryz.f123.body.getD .skip)=true:=by kernel_rfl
theorem stat124:statAll (btAll 124) (Tryz.f124.body.getD .skip)=true:=by kernel_rfl
theorem stat125:statAll (btAll 125) (Tryz.f125.body.getD .skip)=true:=by kernel_rfl
theorem stat126:statAll (btAll 126) (Tryz.f126.body.getD .skip)=true:=by kernel_rfl
theorem stat127:statAll (btAll 127) (Tryz.f127.body.getD .skip)=true:=by kernel_rfl
theorem stat128:statAll (btAll 128) (Tryz.f128.body.getD .skip)=true:=by kernel_rfl
theorem stat129:statAll (btAll 129) (Tryz.f129.body.getD .skip)=true:=by kernel_rfl
theorem stat130:statAll (btAll 130) (Tryz.f130.body.getD .skip)=true:=by kernel_rfl
theorem stat131:statAll (btAll 131) (Tryz.f131.body.getD .skip)=true:=by kernel_rfl
theorem stat132:statAll (btAll 132) (Tryz.f132.body.getD .skip)=true:=by kernel_rfl
theorem stat133:statAll (btAll 133) (Tryz.f133.body.getD .skip)=true:=by kernel_rfl
theorem stat134:statAll (btAll 134) (Tryz.f134.body.getD .skip)=true:=by kernel_rfl
theorem stat135:statAll (btAll 135) (Tryz.f135.body.getD .skip)=true:=by kernel_rfl
theorem stat136:statAll (btAll 136) (Tryz.f136.body.getD .skip)=true:=by kernel_rfl
theorem stat137:statAll (btAll 137) (Tryz.f137.body.getD .skip)=true:=by kernel_rfl
theorem stat138:statAll (btAll 138) (Tryz.f138.body.getD .skip)=true:=by kernel_rfl
theorem stat139:statAll (btAll 139) (Tryz.f139.body.getD .skip)=true:=by kernel_rfl
theorem stat143:statAll (btAll 143) (Tryz.f143.body.getD .skip)=true:=by kernel_rfl
theorem stat144:statAll (btAll 144) (Tryz.f144.body.getD .skip)=true:=by kernel_rfl
theorem stat145:statAll (btAll 145) (Tryz.f145.body.getD .skip)=true:=by kernel_rfl
theorem stat146:statAll (btAll 146) (Tryz.f146.body.getD .skip)=true:=by kernel_rfl
theorem stat147:statAll (btAll 147) (Tryz.f147.body.getD .skip)=true:=by kernel_rfl
theorem stat152:statAll (btAll 152) (Tryz.f152.body.getD .skip)=true:=by kernel_rfl
theorem stat153:statAll (btAll 153) (Tryz.f153.body.getD .skip)=true:=by kernel_rfl
theorem stat154:statAll (btAll 154) (Tryz.f154.body.getD .skip)=true:=by kernel_rfl
theorem stat156:statAll (btAll 156) (Tryz.f156.body.getD .skip)=true:=by kernel_rfl
theorem stat157:statAll (btAll 157) (Tryz.f157.body.getD .skip)=true:=by kernel_rfl
theorem stat158:statAll (btAll 158) (Tryz.f158.body.getD .skip)=true:=by kernel_rfl
theorem stat159:statAll (btAll 159) (Tryz.f159.body.getD .skip)=true:=by kernel_rfl
theorem stat160:statAll (btAll 160) (Tryz.f160.body.getD .skip)=true:=by kernel_rfl
theorem stat161:statAll (btAll 161) (Tryz.f161.body.getD .skip)=true:=by kernel_rfl
theorem stat162:statAll (btAll 162) (Tryz.f162.body.getD .skip)=true:=by kernel_rfl
theorem stat163:statAll (btAll 163) (Tryz.f163.body.getD .skip)=true:=by kernel_rfl
theorem stat164:statAll (btAll 164) (Tryz.f164.body.getD .skip)=true:=by kernel_rfl
theorem stat165:statAll (btAll 165) (Tryz.f165.body.getD .skip)=true:=by kernel_rfl
theorem stat166:statAll (btAll 166) (Tryz.f166.body.getD .skip)=true:=by kernel_rfl
theorem stat167:statAll (btAll 167) (Tryz.f167.body.getD .skip)=true:=by kernel_rfl
theorem stat168:statAll (btAll 168) (Tryz.f168.body.getD .skip)=true:=by kernel_rfl
theorem stat169:statAll (btAll 169) (Tryz.f169.body.getD .skip)=true:=by kernel_rfl
theorem stat170:statAll (btAll 170) (Tryz.f170.body.getD .skip)=true:=by kernel_rfl
theorem stat171:statAll (btAll 171) (Tryz.f171.body.getD .skip)=true:=by kernel_rfl
theorem stat173:statAll (btAll 173) (Tryz.f173.body.getD .skip)=true:=by kernel_rfl
theorem stat174:statAll (btAll 174) (Tryz.f174.body.getD .skip)=true:=by kernel_rfl
theorem stat177:statAll (btAll 177) (Tryz.f177.body.getD .skip)=true:=by kernel_rfl
theorem stat179:statAll (btAll 179) (Tryz.f179.body.getD .skip)=true:=by kernel_rfl
theorem stat180:statAll (btAll 180) (Tryz.f180.body.getD .skip)=true:=by kernel_rfl
theorem stat181:statAll (btAll 181) (Tryz.f181.body.getD .skip)=true:=by kernel_rfl
theorem stat184:statAll (btAll 184) (Tryz.f184.body.getD .skip)=true:=by kernel_rfl
theorem stat185:statAll (btAll 185) (Tryz.f185.body.getD .skip)=true:=by kernel_rfl
theorem stat186:statAll (btAll 186) (Tryz.f186.body.getD .skip)=true:=by kernel_rfl
theorem stat187:statAll (btAll 187) (Tryz.f187.body.getD .skip)=true:=by kernel_rfl
theorem stat188:statAll (btAll 188) (Tryz.f188.body.getD .skip)=true:=by kernel_rfl
theorem stat189:statAll (btAll 189) (Tryz.f189.body.getD .skip)=true:=by kernel_rfl
theorem stat191:statAll (btAll 191) (Tryz.f191.body.getD .skip)=true:=by kernel_rfl
theorem stat194:statAll (btAll 194) (Tryz.f194.body.getD .skip)=true:=by kernel_rfl
theorem stat196:statAll (btAll 196) (Tryz.f196.body.getD .skip)=true:=by kernel_rfl
theorem stat197:statAll (btAll 197) (Tryz.f197.body.getD .skip)=true:=by kernel_rfl
theorem stat198:statAll (btAll 198) (Tryz.f198.body.getD .skip)=true:=by kernel_rfl
theorem stat207:statAll (btAll 207) (Tryz.f207.body.getD .skip)=true:=by kernel_rfl
theorem stat208:statAll (btAll 208) (Tryz.f208.body.getD .skip)=true:=by kernel_rfl
theorem stat219:statAll (btAll 219) (Tryz.f219.body.getD .skip)=true:=by kernel_rfl
theorem stat221:statAll (btAll 221) (Tryz.f221.body.getD .skip)=true:=by kernel_rfl
theorem stat222:statAll (btAll 222) (Tryz.f222.body.getD .skip)=true:=by kernel_rfl
theorem has9:HasBody Tryz.prog 9:=cP_ok.bodies 9 (cx_bodies Tryz.func9 (by kernel_rfl))
theorem has14:HasBody Tryz.prog 14:=cP_ok.bodies 14 (cx_bodies Tryz.func14 (by kernel_rfl))
theorem has16:HasBody Tryz.prog 16:=cP_ok.bodies 16 (cx_bodies Tryz.func16 (by kernel_rfl))
theorem has18:HasBody Tryz.prog 18:=cP_ok.bodies 18 (cx_bodies Tryz.func18 (by kernel_rfl))
theorem has19:HasBody Tryz.prog 19:=cP_ok.bodies 19 (cx_bodies Tryz.func19 (by kernel_rfl))
theorem has21:HasBody Tryz.prog 21:=cP_ok.bodies 21 (cx_bodies Tryz.func21 (by kernel_rfl))
theorem has22:HasBody Tryz.prog 22:=cP_ok.bodies 22 (cx_bodies Tryz.func22 (by kernel_rfl))
theorem has25:HasBody Tryz.prog 25:=cP_ok.bodies 25 (cx_bodies Tryz.func25 (by kernel_rfl))
theorem has28:HasBody Tryz.prog 28:=cP_ok.bodies 28 (cx_bodies Tryz.func28 (by kernel_rfl))
theorem has32:HasBody Tryz.prog 32:=cP_ok.bodies 32 (cx_bodies Tryz.func32 (by kernel_rfl))
theorem has33:HasBody Tryz.prog 33:=cP_ok.bodies 33 (cx_bodies Tryz.func33 (by kernel_rfl))
theorem has34:HasBody Tryz.prog 34:=cP_ok.bodies 34 (cx_bodies Tryz.func34 (by kernel_rfl))
theorem has35:HasBody Tryz.prog 35:=cP_ok.bodies 35 (cx_bodies Tryz.func35 (by kernel_rfl))
theorem has48:HasBody Tryz.prog 48:=cP_ok.bodies 48 (cx_bodies Tryz.func48 (by kernel_rfl))
theorem has49:HasBody Tryz.prog 49:=cP_ok.bodies 49 (cx_bodies Tryz.func49 (by kernel_rfl))
theorem has50:HasBody Tryz.prog 50:=cP_ok.bodies 50 (cx_bodies Tryz.func50 (by kernel_rfl))
theorem has51:HasBody Tryz.prog 51:=cP_ok.bodies 51 (cx_bodies Tryz.func51 (by kernel_rfl))
theorem has53:HasBody Tryz.prog 53:=cP_ok.bodies 53 (cx_bodies Tryz.func53 (by kernel_rfl))
theorem has58:HasBody Tryz.prog 58:=cP_ok.bodies 58 (cx_bodies Tryz.func58 (by kernel_rfl))
theorem has69:HasBody Tryz.prog 69:=cP_ok.bodies 69 (cx_bodies Tryz.func69 (by kernel_rfl))
theorem has70:HasBody Tryz.prog 70:=cP_ok.bodies 70 (cx_bodies Tryz.func70 (by kernel_rfl))
theorem has73:HasBody Tryz.prog 73:=cP_ok.bodies 73 (cx_bodies Tryz.func73 (by kernel_rfl))
theorem has74:HasBody Tryz.prog 74:=cP_ok.bodies 74 (cx_bodies Tryz.func74 (by kernel_rfl))
theorem has75:HasBody Tryz.prog 75:=cP_ok.bodies 75 (cx_bodies Tryz.func75 (by kernel_rfl))
theorem has76:HasBody Tryz.prog 76:=cP_ok.bodies 76 (cx_bodies Tryz.func76 (by kernel_rfl))
theorem has77:HasBody Tryz.prog 77:=cP_ok.bodies 77 (cx_bodies Tryz.func77 (by kernel_rfl))
theorem has78:HasBody Tryz.prog 78:=cP_ok.bodies 78 (cx_bodies Tryz.func78 (by kernel_rfl))
theorem has79:HasBody Tryz.prog 79:=cP_ok.bodies 79 (cx_bodies Tryz.func79 (by kernel_rfl))
theorem has80:HasBody Tryz.prog 80:=cP_ok.bodies 80 (cx_bodies Tryz.func80 (by kernel_rfl))
theorem has97:HasBody Tryz.prog 97:=cP_ok.bodies 97 (cx_bodies Tryz.func97 (by kernel_rfl))
theorem has98:HasBody Tryz.prog 98:=cP_ok.bodies 98 (cx_bodies Tryz.func98 (by kernel_rfl))
theorem has99:HasBody Tryz.prog 99:=cP_ok.bodies 99 (cx_bodies Tryz.func99 (by kernel_rfl))
theorem has100:HasBody Tryz.prog 100:=cP_ok.bodies 100 (cx_bodies Tryz.func100 (by kernel_rfl))
theorem has101:HasBody Tryz.prog 101:=cP_ok.bodies 101 (cx_bodies Tryz.func101 (by kernel_rfl))
theorem has102:HasBody Tryz.prog 102:=cP_ok.bodies 102 (cx_bodies Tryz.func102 (by kernel_rfl))
theorem has111:HasBody Tryz.prog 111:=cP_ok.bodies 111 (cx_bodies Tryz.func111 (by kernel_rfl))
theorem has115:HasBody Tryz.prog 115:=cP_ok.bodies 115 (cx_bodies Tryz.func115 (by kernel_rfl))
theorem has116:HasBody Tryz.prog 116:=cP_ok.bodies 116 (cx_bodies Tryz.func116 (by kernel_rfl))
theorem has117:HasBody Tryz.prog 117:=cP_ok.bodies 117 (cx_bodies Tryz.func117 (by kernel_rfl))
theorem has118:HasBody Tryz.prog 118:=cP_ok.bodies 118 (cx_bodies Tryz.func118 (by kernel_rfl))
theorem has119:HasBody Tryz.prog 119:=cP_ok.bodies 119 (cx_bodies Tryz.func119 (by kernel_rfl))
theorem has120:HasBody Tryz.prog 120:=cP_ok.bodies 120 (cx_bodies Tryz.func120 (by kernel_rfl))
theorem has122:HasBody Tryz.prog 122:=cP_ok.bodies 122 (cx_bodies Tryz.func122 (by kernel_rfl))
theorem has123:HasBody Tryz.prog 123:=cP_ok.bodies 123 (cx_bodies Tryz.func123 (by kernel_rfl))
theorem has124:HasBody Tryz.prog 124:=cP_ok.bodies 124 (cx_bodies Tryz.func124 (by kernel_rfl))
theorem has125:HasBody Tryz.prog 125:=cP_ok.bodies 125 (cx_bodies Tryz.func125 (by kernel_rfl))
theorem has126:HasBody Tryz.prog 126:=cP_ok.bodies 126 (cx_bodies Tryz.func126 (by kernel_rfl))
theorem has127:HasBody Tryz.prog 127:=cP_ok.bodies 127 (cx_bodies Tryz.func127 (by kernel_rfl))
theorem has128:HasBody Tryz.prog 128:=cP_ok.bodies 128 (cx_bodies Tryz.func128 (by kernel_rfl))
theorem has129:HasBody Tryz.prog 129:=cP_ok.bodies 129 (cx_bodies Tryz.func129 (by kernel_rfl))
theorem has130:HasBody Tryz.prog 130:=cP_ok.bodies 130 (cx_bodies Tryz.func130 (by kernel_rfl))
theorem has131:HasBody Tryz.prog 131:=cP_ok.bodies 131 (cx_bodies Tryz.func131 (by kernel_rfl))
theorem has132:HasBody Tryz.prog 132:=cP_ok.bodies 132 (cx_bodies Tryz.func132 (by kernel_rfl))
theorem has133:HasBody Tryz.prog 133:=cP_ok.bodies 133 (cx_bodies Tryz.func133 (by kernel_rfl))
theorem has134:HasBody Tryz.prog 134:=cP_ok.bodies 134 (cx_bodies Tryz.func134 (by kernel_rfl))
theorem has135:HasBody Tryz.prog 135:=cP_ok.bodies 135 (cx_bodies Tryz.func135 (by kernel_rfl))
theorem has139:HasBody Tryz.prog 139:=cP_ok.bodies 139 (cx_bodies Tryz.func139 (by kernel_rfl))
theorem has146:HasBody Tryz.prog 146:=cP_ok.bodies 146 (cx_bodies Tryz.func146 (by kernel_rfl))
theorem has147:HasBody Tryz.prog 147:=cP_ok.bodies 147 (cx_bodies Tryz.func147 (by kernel_rfl))
theorem has156:HasBody Tryz.prog 156:=cP_ok.bodies 156 (cx_bodies Tryz.func156 (by kernel_rfl))
theorem has157:HasBody Tryz.prog 157:=cP_ok.bodies 157 (cx_bodies Tryz.func157 (by kernel_rfl))
theorem has158:HasBody Tryz.prog 158:=cP_ok.bodies 158 (cx_bodies Tryz.func158 (by kernel_rfl))
theorem has159:HasBody Tryz.prog 159:=cP_ok.bodies 159 (cx_bodies Tryz.func159 (by kernel_rfl))
theorem has160:HasBody Tryz.prog 160:=cP_ok.bodies 160 (cx_bodies Tryz.func160 (by kernel_rfl))
theorem has161:HasBody Tryz.prog 161:=cP_ok.bodies 161 (cx_bodies Tryz.func161 (by kernel_rfl))
theorem has162:HasBody Tryz.prog 162:=cP_ok.bodies 162 (cx_bodies Tryz.func162 (by kernel_rfl))
theorem has163:HasBody Tryz.prog 163:=cP_ok.bodies 163 (cx_bodies Tryz.func163 (by kernel_rfl))
theorem has164:HasBody Tryz.prog 164:=cP_ok.bodies 164 (cx_bodies Tryz.func164 (by kernel_rfl))
theorem has165:HasBody Tryz.prog 165:=cP_ok.bodies 165 (cx_bodies Tryz.func165 (by kernel_rfl))
theorem has166:HasBody Tryz.prog 166:=cP_ok.bodies 166 (cx_bodies Tryz.func166 (by kernel_rfl))
theorem has167:HasBody Tryz.prog 167:=cP_ok.bodies 167 (cx_bodies Tryz.func167 (by kernel_rfl))
theorem has168:HasBody Tryz.prog 168:=cP_ok.bodies 168 (cx_bodies Tryz.func168 (by kernel_rfl))
theorem has169:HasBody Tryz.prog 169:=cP_ok.bodies 169 (cx_bodies Tryz.func169 (by kernel_rfl))
theorem has170:HasBody Tryz.prog 170:=cP_ok.bodies 170 (cx_bodies Tryz.func170 (by kernel_rfl))
theorem has171:HasBody Tryz.prog 171:=cP_ok.bodies 171 (cx_bodies Tryz.func171 (by kernel_rfl))
theorem has174:HasBody Tryz.prog 174:=cP_ok.bodies 174 (cx_bodies Tryz.func174 (by kernel_rfl))
theorem has180:HasBody Tryz.prog 180:=cP_ok.bodies 180 (cx_bodies Tryz.func180 (by kernel_rfl))
theorem has181:HasBody Tryz.prog 181:=cP_ok.bodies 181 (cx_bodies Tryz.func181 (by kernel_rfl))
theorem has184:HasBody Tryz.prog 184:=cP_ok.bodies 184 (cx_bodies Tryz.func184 (by kernel_rfl))
theorem has185:HasBody Tryz.prog 185:=cP_ok.bodies 185 (cx_bodies Tryz.func185 (by kernel_rfl))
theorem has186:HasBody Tryz.prog 186:=cP_ok.bodies 186 (cx_bodies Tryz.func186 (by kernel_rfl))
theorem has187:HasBody Tryz.prog 187:=cP_ok.bodies 187 (cx_bodies Tryz.func187 (by kernel_rfl))
theorem has188:HasBody Tryz.prog 188:=cP_ok.bodies 188 (cx_bodies Tryz.func188 (by kernel_rfl))
theorem has189:HasBody Tryz.prog 189:=cP_ok.bodies 189 (cx_bodies Tryz.func189 (by kernel_rfl))
theorem has191:HasBody Tryz.prog 191:=cP_ok.bodies 191 (cx_bodies Tryz.func191 (by kernel_rfl))
theorem has196:HasBody Tryz.prog 196:=cP_ok.bodies 196 (cx_bodies Tryz.func196 (by kernel_rfl))
theorem has197:HasBody Tryz.prog 197:=cP_ok.bodies 197 (cx_bodies Tryz.func197 (by kernel_rfl))
theorem has198:HasBody Tryz.prog 198:=cP_ok.bodies 198 (cx_bodies Tryz.func198 (by kernel_rfl))
theorem has207:HasBody Tryz.prog 207:=cP_ok.bodies 207 (cx_bodies Tryz.func207 (by kernel_rfl))
theorem has208:HasBody Tryz.prog 208:=cP_ok.bodies 208 (cx_bodies Tryz.func208 (by kernel_rfl))
theorem has219:HasBody Tryz.prog 219:=cP_ok.bodies 219 (cx_bodies Tryz.func219 (by kernel_rfl))
theorem has221:HasBody Tryz.prog 221:=cP_ok.bodies 221 (cx_bodies Tryz.func221 (by kernel_rfl))
noncomputable def row9:FnRow Tryz.prog btAll:=⟨9,Tryz.f9,Tryz.f9.body.getD .skip,Tryz.func9,by kernel_rfl,stat9,has9⟩
noncomputable def row14:FnRow Tryz.prog btAll:=⟨14,Tryz.f14,Tryz.f14.body.getD .skip,Tryz.func14,by kernel_rfl,stat14,has14⟩
noncomputable def row16:FnRow Tryz.prog btAll:=⟨16,Tryz.f16,Tryz.f16.body.getD .skip,Tryz.func16,by kernel_rfl,stat16,has16⟩
noncomputable def row18:FnRow Tryz.prog btAll:=⟨18,Tryz.f18,Tryz.f18.body.getD .skip,Tryz.func18,by kernel_rfl,stat18,has18⟩
noncomputable def row19:FnRow Tryz.prog btAll:=⟨19,Tryz.f19,Tryz.f19.body.getD .skip,Tryz.func19,by kernel_rfl,stat19,has19⟩
noncomputable def row21:FnRow Tryz.prog btAll:=⟨21,Tryz.f21,Tryz.f21.body.getD .skip,Tryz.func21,by kernel_rfl,stat21,has21⟩
noncomputable def row22:FnRow Tryz.prog btAll:=⟨22,Tryz.f22,Tryz.f22.body.getD .skip,Tryz.func22,by kernel_rfl,stat22,has22⟩
noncomputable def row25:FnRow Tryz.prog btAll:=⟨25,Tryz.f25,Tryz.f25.body.getD .skip,Tryz.func25,by kernel_rfl,stat25,has25⟩
noncomputable def row28:FnRow Tryz.prog btAll:=⟨28,Tryz.f28,Tryz.f28.body.getD .skip,Tryz.func28,by kernel_rfl,stat28,has28⟩
noncomputable def row32:FnRow Tryz.prog btAll:=⟨32,Tryz.f32,Tryz.f32.body.getD .skip,Tryz.func32,by kernel_rfl,stat32,has32⟩
noncomputable def row33:FnRow Tryz.prog btAll:=⟨33,Tryz.f33,Tryz.f33.body.getD .skip,Tryz.func33,by kernel_rfl,stat33,has33⟩
noncomputable def row34:FnRow Tryz.prog btAll:=⟨34,Tryz.f34,Tryz.f34.body.getD .skip,Tryz.func34,by kernel_rfl,stat34,has34⟩
noncomputable def row35:FnRow Tryz.prog btAll:=⟨35,Tryz.f35,Tryz.f35.body.getD .skip,Tryz.func35,by kernel_rfl,stat35,has35⟩
noncomputable def row48:FnRow Tryz.prog btAll:=⟨48,Tryz.f48,Tryz.f48.body.getD .skip,Tryz.func48,by kernel_rfl,stat48,has48⟩
noncomputable def row49:FnRow Tryz.prog btAll:=⟨49,Tryz.f49,Tryz.f49.body.getD .skip,Tryz.func49,by kernel_rfl,stat49,has49⟩
noncomputable def row50:FnRow Tryz.prog btAll:=⟨50,Tryz.f50,Tryz.f50.body.getD .skip,Tryz.func50,by kernel_rfl,stat50,has50⟩
noncomputable def row51:FnRow Tryz.prog btAll:=⟨51,Tryz.f51,Tryz.f51.body.getD .skip,Tryz.func51,by kernel_rfl,stat51,has51⟩
noncomputable def row53:FnRow Tryz.prog btAll:=⟨53,Tryz.f53,Tryz.f53.body.getD .skip,Tryz.func53,by kernel_rfl,stat53,has53⟩
noncomputable def row58:FnRow Tryz.prog btAll:=⟨58,Tryz.f58,Tryz.f58.body.getD .skip,Tryz.func58,by kernel_rfl,stat58,has58⟩
noncomputable def row69:FnRow Tryz.prog btAll:=⟨69,Tryz.f69,Tryz.f69.body.getD .skip,Tryz.func69,by kernel_rfl,stat69,has69⟩
noncomputable def row70:FnRow Tryz.prog btAll:=⟨70,Tryz.f70,Tryz.f70.body.getD .skip,Tryz.func70,by kernel_rfl,stat70,has70⟩
noncomputable def row73:FnRow Tryz.prog btAll:=⟨73,Tryz.f73,Tryz.f73.body.getD .skip,Tryz.func73,by kernel_rfl,stat73,has73⟩
noncomputable def row74:FnRow Tryz.prog btAll:=⟨74,Tryz.f74,Tryz.f74.body.getD .skip,Tryz.func74,by kernel_rfl,stat74,has74⟩
noncomputable def row75:FnRow Tryz.prog btAll:=⟨75,Tryz.f75,Tryz.f75.body.getD .skip,Tryz.func75,by kernel_rfl,stat75,has75⟩
noncomputable def row76:FnRow Tryz.prog btAll:=⟨76,Tryz.f76,Tryz.f76.body.getD .skip,Tryz.func76,by kernel_rfl,stat76,has76⟩
noncomputable def row77:FnRow Tryz.prog btAll:=⟨77,Tryz.f77,Tryz.f77.body.getD .skip,Tryz.func77,by kernel_rfl,stat77,has77⟩
noncomputable def row78:FnRow Tryz.prog btAll:=⟨78,Tryz.f78,Tryz.f78.body.getD .skip,Tryz.func78,by kernel_rfl,stat78,has78⟩
noncomputable def row79:FnRow Tryz.prog btAll:=⟨79,Tryz.f79,Tryz.f79.body.getD .skip,Tryz.func79,by kernel_rfl,stat79,has79⟩
noncomputable def row80:FnRow Tryz.prog btAll:=⟨80,Tryz.f80,Tryz.f80.body.getD .skip,Tryz.func80,by kernel_rfl,stat80,has80⟩
noncomputable def row97:FnRow Tryz.prog btAll:=⟨97,Tryz.f97,Tryz.f97.body.getD .skip,Tryz.func97,by kernel_rfl,stat97,has97⟩
noncomputable def row98:FnRow Tryz.prog btAll:=⟨98,Tryz.f98,Tryz.f98.body.getD .skip,Tryz.func98,by kernel_rfl,stat98,has98⟩
noncomputable def row99:FnRow Tryz.prog btAll:=⟨99,Tryz.f99,Tryz.f99.body.getD .skip,Tryz.func99,by kernel_rfl,stat99,has99⟩
noncomputable def row100:FnRow Tryz.prog btAll:=⟨100,Tryz.f100,Tryz.f100.body.getD .skip,Tryz.func100,by kernel_rfl,stat100,has100⟩
noncomputable def row101:FnRow Tryz.prog btAll:=⟨101,Tryz.f101,Tryz.f101.body.getD .skip,Tryz.func101,by kernel_rfl,stat101,has101⟩
noncomputable def row102:FnRow Tryz.prog btAll:=⟨102,Tryz.f102,Tryz.f102.body.getD .skip,Tryz.func102,by kernel_rfl,stat102,has102⟩
noncomputable def row111:FnRow Tryz.prog btAll:=⟨111,Tryz.f111,Tryz.f111.body.getD .skip,Tryz.func111,by kernel_rfl,stat111,has111⟩
noncomputable def row115:FnRow Tryz.prog btAll:=⟨115,Tryz.f115,Tryz.f115.body.getD .skip,Tryz.func115,by kernel_rfl,stat115,has115⟩
noncomputable def row116:FnRow Tryz.prog btAll:=⟨116,Tryz.f116,Tryz.f116.body.getD .skip,Tryz.func116,by kernel_rfl,stat116,has116⟩
noncomputable def row117:FnRow Tryz.prog btAll:=⟨117,Tryz.f117,Tryz.f117.body.getD .skip,Tryz.func117,by kernel_rfl,stat117,has117⟩
noncomputable def row118:FnRow Tryz.prog btAll:=⟨118,Tryz.f118,Tryz.f118.body.getD .skip,Tryz.func118,by kernel_rfl,stat118,has118⟩
noncomputable def row119:FnRow Tryz.prog btAll:=⟨119,Tryz.f119,Tryz.f119.body.getD .skip,Tryz.func119,by kernel_rfl,stat119,has119⟩
noncomputable def row120:FnRow Tryz.prog btAll:=⟨120,Tryz.f120,Tryz.f120.body.getD .skip,Tryz.func120,by kernel_rfl,stat120,has120⟩
noncomputable def row122:FnRow Tryz.prog btAll:=⟨122,Tryz.f122,Tryz.f122.body.getD .skip,Tryz.func122,by kernel_rfl,stat122,has122⟩
noncomputable def row123:FnRow Tryz.prog btAll:=⟨123,Tryz.f123,Tryz.f123.body.getD .skip,Tryz.func123,by kernel_rfl,stat123,has123⟩
noncomputable def row124:FnRow Tryz.prog btAll:=⟨124,Tryz.f124,Tryz.f124.body.getD .skip,Tryz.func124,by kernel_rfl,stat124,has124⟩
noncomputable def row125:FnRow Tryz.prog btAll:=⟨125,Tryz.f125,Tryz.f125.body.getD .skip,Tryz.func125,by kernel_rfl,stat125,has125⟩
noncomputable def row126:FnRow Tryz.prog btAll:=⟨126,Tryz.f126,Tryz.f126.body.getD .skip,Tryz.func126,by kernel_rfl,stat126,has126⟩
noncomputable def row127:FnRow Tryz.prog btAll:=⟨127,Tryz.f127,Tryz.f127.body.getD .skip,Tryz.func127,by kernel_rfl,stat127,has127⟩
noncomputable def row128:FnRow Tryz.prog btAll:=⟨128,Tryz.f128,Tryz.f128.body.getD .skip,Tryz.func128,by kernel_rfl,stat128,has128⟩
noncomputable def row129:FnRow Tryz.prog btAll:=⟨129,Tryz.f129,Tryz.f129.body.getD .skip,Tryz.func129,by kernel_rfl,stat129,has129⟩
noncomputable def row130:FnRow Tryz.prog btAll:=⟨130,Tryz.f130,Tryz.f130.body.getD .skip,Tryz.func130,by kernel_rfl,stat130,has130⟩
noncomputable def row131:FnRow Tryz.prog btAll:=⟨131,Tryz.f131,Tryz.f131.body.getD .skip,Tryz.func131,by kernel_rfl,stat131,has131⟩
noncomputable def row132:FnRow Tryz.prog btAll:=⟨132,Tryz.f132,Tryz.f132.body.getD .skip,Tryz.func132,by kernel_rfl,stat132,has132⟩
noncomputable def row133:FnRow Tryz.prog btAll:=⟨133,Tryz.f133,Tryz.f133.body.getD .skip,Tryz.func133,by kernel_rfl,stat133,has133⟩
noncomputable def row134:FnRow Tryz.prog btAll:=⟨134,Tryz.f134,Tryz.f134.body.getD .skip,Tryz.func134,by kernel_rfl,stat134,has134⟩
noncomputable def row135:FnRow Tryz.prog btAll:=⟨135,Tryz.f135,Tryz.f135.body.getD .skip,Tryz.func135,by kernel_rfl,stat135,has135⟩
noncomputable def row139:FnRow Tryz.prog btAll:=⟨139,Tryz.f139,Tryz.f139.body.getD .skip,Tryz.func139,by kernel_rfl,stat139,has139⟩
noncomputable def row146:FnRow Tryz.prog btAll:=⟨146,Tryz.f146,Tryz.f146.body.getD .skip,Tryz.func146,by kernel_rfl,stat146,has146⟩
noncomputable def row147:FnRow Tryz.prog btAll:=⟨147,Tryz.f147,Tryz.f147.body.getD .skip,Tryz.func147,by kernel_rfl,stat147,has147⟩
noncomputable def row156:FnRow Tryz.prog btAll:=⟨156,Tryz.f156,Tryz.f156.body.getD .skip,Tryz.func156,by kernel_rfl,stat156,has156⟩
noncomputable def row157:FnRow Tryz.prog btAll:=⟨157,Tryz.f157,Tryz.f157.body.getD .skip,Tryz.func157,by kernel_rfl,stat157,has157⟩
noncomputable def row158:FnRow Tryz.prog btAll:=⟨158,Tryz.f158,Tryz.f158.body.getD .skip,Tryz.func158,by kernel_rfl,stat158,has158⟩
noncomputable def row159:FnRow Tryz.prog btAll:=⟨159,Tryz.f159,Tryz.f159.body.getD .skip,Tryz.func159,by kernel_rfl,stat159,has159⟩
noncomputable def row160:FnRow Tryz.prog btAll:=⟨160,Tryz.f160,Tryz.f160.body.getD .skip,Tryz.func160,by kernel_rfl,stat160,has160⟩
noncomputable def row161:FnRow Tryz.prog btAll:=⟨161,Tryz.f161,Tryz.f161.body.getD .skip,Tryz.func161,by kernel_rfl,stat161,has161⟩
noncomputable def row162:FnRow Tryz.prog btAll:=⟨162,Tryz.f162,Tryz.f162.body.getD .skip,Tryz.func162,by kernel_rfl,stat162,has162⟩
noncomputable def row163:FnRow Tryz.prog btAll:=⟨163,Tryz.f163,Tryz.f163.body.getD .skip,Tryz.func163,by kernel_rfl,stat163,has163⟩
noncomputable def row164:FnRow Tryz.prog btAll:=⟨164,Tryz.f164,Tryz.f164.body.getD .skip,Tryz.func164,by kernel_rfl,stat164,has164⟩
noncomputable def row165:FnRow Tryz.prog btAll:=⟨165,Tryz.f165,Tryz.f165.body.getD .skip,Tryz.func165,by kernel_rfl,stat165,has165⟩
noncomputable def row166:FnRow Tryz.prog btAll:=⟨166,Tryz.f166,Tryz.f166.body.getD .skip,Tryz.func166,by kernel_rfl,stat166,has166⟩
noncomputable def row167:FnRow Tryz.prog btAll:=⟨167,Tryz.f167,Tryz.f167.body.getD .skip,Tryz.func167,by kernel_rfl,stat167,has167⟩
noncomputable def row168:FnRow Tryz.prog btAll:=⟨168,Tryz.f168,Tryz.f168.body.getD .skip,Tryz.func168,by kernel_rfl,stat168,has168⟩
noncomputable def row169:FnRow Tryz.prog btAll:=⟨169,Tryz.f169,Tryz.f169.body.getD .skip,Tryz.func169,by kernel_rfl,stat169,has169⟩
noncomputable def row170:FnRow Tryz.prog btAll:=⟨170,Tryz.f170,Tryz.f170.body.getD .skip,Tryz.func170,by kernel_rfl,stat170,has170⟩
noncomputable def row171:FnRow Tryz.prog btAll:=⟨171,Tryz.f171,Tryz.f171.body.getD .skip,Tryz.func171,by kernel_rfl,stat171,has171⟩
noncomputable def row174:FnRow Tryz.prog btAll:=⟨174,Tryz.f174,Tryz.f174.body.getD .skip,Tryz.func174,by kernel_rfl,stat174,has174⟩
noncomputable def row180:FnRow Tryz.prog btAll:=⟨180,Tryz.f180,Tryz.f180.body.getD .skip,Tryz.func180,by kernel_rfl,stat180,has180⟩
noncomputable def row181:FnRow Tryz.prog btAll:=⟨181,Tryz.f181,Tryz.f181.body.getD .skip,Tryz.func181,by kernel_rfl,stat181,has181⟩
noncomputable def row184:FnRow Tryz.prog btAll:=⟨184,Tryz.f184,Tryz.f184.body.getD .skip,Tryz.func184,by kernel_rfl,stat184,has184⟩
noncomputable def row185:FnRow Tryz.prog btAll:=⟨185,Tryz.f185,Tryz.f185.body.getD .skip,Tryz.func185,by kernel_rfl,stat185,has185⟩
noncomputable def row186:FnRow Tryz.prog btAll:=⟨186,Tryz.f186,Tryz.f186.body.getD .skip,Tryz.func186,by kernel_rfl,stat186,has186⟩
noncomputable def row187:FnRow Tryz.prog btAll:=⟨187,Tryz.f187,Tryz.f187.body.getD .skip,Tryz.func187,by kernel_rfl,stat187,has187⟩
noncomputable def row188:FnRow Tryz.prog btAll:=⟨188,Tryz.f188,Tryz.f188.body.getD .skip,Tryz.func188,by kernel_rfl,stat188,has188⟩
noncomputable def row189:FnRow Tryz.prog btAll:=⟨189,Tryz.f189,Tryz.f189.body.getD .skip,Tryz.func189,by kernel_rfl,stat189,has189⟩
noncomputable def row191:FnRow Tryz.prog btAll:=⟨191,Tryz.f191,Tryz.f191.body.getD .skip,Tryz.func191,by kernel_rfl,stat191,has191⟩
noncomputable def row196:FnRow Tryz.prog btAll:=⟨196,Tryz.f196,Tryz.f196.body.getD .skip,Tryz.func196,by kernel_rfl,stat196,has196⟩
noncomputable def row197:FnRow Tryz.prog btAll:=⟨197,Tryz.f197,Tryz.f197.body.getD .skip,Tryz.func197,by kernel_rfl,stat197,has197⟩
noncomputable def row198:FnRow Tryz.prog btAll:=⟨198,Tryz.f198,Tryz.f198.body.getD .skip,Tryz.func198,by kernel_rfl,stat198,has198⟩
noncomputable def row207:FnRow Tryz.prog btAll:=⟨207,Tryz.f207,Tryz.f207.body.getD .skip,Tryz.func207,by kernel_rfl,stat207,has207⟩
noncomputable def row208:FnRow Tryz.prog btAll:=⟨208,Tryz.f208,Tryz.f208.body.getD .skip,Tryz.func208,by kernel_rfl,stat208,has208⟩
noncomputable def row219:FnRow Tryz.prog btAll:=⟨219,Tryz.f219,Tryz.f219.body.getD .skip,Tryz.func219,by kernel_rfl,stat219,has219⟩
noncomputable def row221:FnRow Tryz.prog btAll:=⟨221,Tryz.f221,Tryz.f221.body.getD .skip,Tryz.func221,by kernel_rfl,stat221,has221⟩
noncomputable def fnTree:BT (FnRow Tryz.prog btAll):=(.node (.node (.node (.node (.node (.node (.node (.node .leaf none (.node .leaf (some row128) .leaf)) none .leaf) none (.node (.node .leaf none (.node .leaf (some row160) .leaf)) (some row32) .leaf)) none (.node (.node .leaf none (.node .leaf (some row80) (.node .leaf (some row208) .leaf))) (some row16) (.node .leaf (some row48) .leaf))) none (.node (.node .leaf none (.node (.node .leaf none (.node .leaf (some row168) .leaf)) none .leaf)) none (.node .leaf none (.node (.node .leaf none (.node .leaf (some row184) .leaf)) none (.node .leaf (some row120) .leaf))))) none (.node (.node (.node (.node (.node .leaf none (.node .leaf (some row132) .leaf)) none (.node .leaf none (.node .leaf (some row196) .leaf))) none (.node (.node .leaf none (.node .leaf (some row164) .leaf)) none (.node .leaf (some row100) .leaf))) none (.node .leaf none (.node (.node .leaf none (.node .leaf (some row180) .leaf)) none (.node .leaf (some row116) .leaf)))) none (.node (.node (.node .leaf none (.node .leaf (some row76) .leaf)) none .leaf) none (.node (.node (.node .leaf none (.node .leaf (some row156) .leaf)) none .leaf) (some row28) (.node (.node .leaf none (.node .leaf (some row188) .leaf)) none (.node .leaf (some row124) .leaf)))))) none (.node (.node (.node (.node (.node (.node .leaf none (.node .leaf (some row130) .leaf)) none .leaf) none (.node (.node .leaf none (.node .leaf (some row162) .leaf)) (some row34) (.node .leaf (some row98) .leaf))) none (.node (.node (.node .leaf none (.node .leaf (some row146) .leaf)) none .leaf) (some row18) (.node .leaf (some row50) .leaf))) none (.node (.node (.node .leaf none (.node .leaf (some row74) .leaf)) none (.node (.node .leaf none (.node .leaf (some row170) .leaf)) none .leaf)) none (.node .leaf none (.node (.node .leaf none (.node .leaf (some row186) .leaf)) (some row58) (.node .leaf (some row122) .leaf))))) none (.node (.node (.node (.node (.node .leaf none (.node .leaf (some row134) .leaf)) none (.node .leaf (some row70) (.node .leaf (some row198) .leaf))) none (.node (.node .leaf none (.node .leaf (some row166) .leaf)) none (.node .leaf (some row102) .leaf))) none (.node .leaf (some row22) (.node .leaf none (.node .leaf (some row118) .leaf)))) none (.node (.node (.node .leaf none (.node .leaf (some row78) .leaf)) none (.node (.node .leaf none (.node .leaf (some row174) .leaf)) none .leaf)) (some row14) (.node (.node (.node .leaf none (.node .leaf (some row158) .leaf)) none .leaf) none (.node .leaf none (.node .leaf (some row126) .leaf))))))) none (.node (.node (.node (.node (.node (.node (.node .leaf none (.node .leaf (some row129) .leaf)) none .leaf) none (.node (.node .leaf none (.node .leaf (some row161) .leaf)) (some row33) (.node .leaf (some row97) .leaf))) none (.node .leaf none (.node .leaf (some row49) .leaf))) none (.node (.node (.node .leaf none (.node .leaf (some row73) .leaf)) none (.node (.node .leaf none (.node .leaf (some row169) .leaf)) none .leaf)) (some row9) (.node .leaf (some row25) (.node (.node .leaf none (.node .leaf (some row185) .leaf)) none .leaf)))) none (.node (.node (.node (.node (.node .leaf none (.node .leaf (some row133) .leaf)) none (.node .leaf (some row69) (.node .leaf (some row197) .leaf))) none (.node (.node .leaf none (.node .leaf (some row165) .leaf)) none (.node .leaf (some row101) .leaf))) none (.node .leaf (some row21) (.node (.node .leaf none (.node .leaf (some row181) .leaf)) (some row53) (.node .leaf (some row117) .leaf)))) none (.node (.node (.node .leaf none (.node .leaf (some row77) .leaf)) none .leaf) none (.node (.node (.node .leaf none (.node .leaf (some row157) .leaf)) none (.node .leaf none (.node .leaf (some row221) .leaf))) none (.node (.node .leaf none (.node .leaf (some row189) .leaf)) none (.node .leaf (some row125) .leaf)))))) none (.node (.node (.node (.node (.node (.node .leaf none (.node .leaf (some row131) .leaf)) none .leaf) none (.node (.node .leaf none (.node .leaf (some row163) .leaf)) (some row35) (.node .leaf (some row99) .leaf))) none (.node (.node (.node .leaf none (.node .leaf (some row147) .leaf)) none .leaf) (some row19) (.node .leaf (some row51) (.node .leaf (some row115) .leaf)))) none (.node (.node (.node (.node .leaf none (.node .leaf (some row139) .leaf)) none (.node .leaf (some row75) .leaf)) none (.node (.node .leaf none (.node .leaf (some row171) .leaf)) none .leaf)) none (.node (.node .leaf none (.node .leaf none (.node .leaf (some row219) .leaf))) none (.node (.node .leaf none (.node .leaf (some row187) .leaf)) none (.node .leaf (some row123) .leaf))))) none (.node (.node (.node (.node (.node .leaf none (.node .leaf (some row135) .leaf)) none .leaf) none (.node (.node .leaf none (.node .leaf (some row167) .leaf)) none .leaf)) none (.node .leaf none (.node .leaf none (.node .leaf (some row119) .leaf)))) none (.node (.node (.node .leaf none (.node .leaf (some row79) (.node .leaf (some row207) .leaf))) none (.node .leaf none (.node .leaf (some row111) .leaf))) none (.node (.node (.node .leaf none (.node .leaf (some row159) .leaf)) none .leaf) none (.node (.node .leaf none (.node .leaf (some row191) .leaf)) none (.node .leaf (some row127) .leaf))))))))
noncomputable def fnAt(f:FuncId):Option (FnRow Tryz.prog btAll):=fnTree.get (bits f f)
noncomputable def fnIs(f:FuncId):Bool:=
 match fnAt f with
 |some r=>Nat.beq r.num f
 |none=>false
theorem fnIs_ok(f:FuncId)(h:fnIs f=true):HasBody Tryz.prog f:=by
 unfold fnIs at h
 split at h
 ·rename_i r _
  rw[<-Nat.eq_of_beq_eq_true h]
  exact r.has
 ·cases h
theorem drawnMixed:Tryz.prog.follows .mixedOrders=true:=by kernel_rfl
noncomputable def cT:Cx:={T:={info:=tyAt,flat:=flats Tryz.prog,ext:=extAt},bodies:=fnIs}
theorem cT_ok:cT.Ok Tryz.prog:=⟨⟨tyAt_ok,cP_ok.T.flat,extAt_ok⟩,fnIs_ok⟩
noncomputable def whole(n d:Nat)(f:FuncId)(args:List Value):Option (AE×St×Log):=(orcN cT btAll fnAt n d).call f args St.nil
def answers:Option (AE×St×Log)->Option Value
 |some (.ret v,_,_)=>some v
 |_=>none
theorem whole_call{n d:Nat}{f:FuncId}{args:List Value}{v:Value}(h:answers (whole n d f args)=some v)(ha:plainL args=true)(hv:plain v=true)(U:St):DCall Tryz.prog f args U (.ret v) U []:=by
 unfold answers at h
 split at h
 ·rename_i v' U' lg hw
  cases h
  exact((orcN_ok cT_ok drawnMixed d).call f args St.nil _ U' lg hw).alone ha hv U
 ·cases h
theorem btAt5_17:btAll 5 17=[0,0,3,7,15,0,32,127]:=by kernel_rfl
theorem btAt19_3:btAll 19 3=[0,1,3,7,0,0,0,0,128,384,896,2047,4095]:=by kernel_rfl
theorem btAt20_10:btAll 20 10=[0,1,3,7,0,31,63]:=by kernel_rfl
theorem btAt21_3:btAll 21 3=[0,1,0,4,12,28,63,127]:=by kernel_rfl
theorem btAt21_5:btAll 21 5=[0,1,3,7,0,0,32,96,224,511,1023,1023,4095,8191]:=by kernel_rfl
theorem btAt22_3:btAll 22 3=[0,1,0,4,12,28,63,127]:=by kernel_rfl
theorem btAt22_5:btAll 22 5=[0,1,3,7,0,31,63]:=by kernel_rfl
theorem btAt26_13:btAll 26 13=[0,0,0,6,14,30,30,126,254,510,1022,1022,4094,8190,8191,32767]:=by kernel_rfl
theorem btAt26_17:btAll 26 17=[0,0,0,6,14,30,30,126,254,31,1023]:=by kernel_rfl
theorem btAt26_24:btAll 26 24=[0,0,0,6,14,30,30,126,254,255,1023]:=by kernel_rfl
theorem btAt28_14:btAll 28 14=[0,1,3,7,0,0,48,0,128,384,896,1920,3968,8064,0,32640,112,131071,262143,524287]:=by kernel_rfl
theorem btAt28_16:btAll 28 16=[0,1,3,7,0,16,48,112,255,511,1023,2047]:=by kernel_rfl
theorem btAt32_9:btAll 32 9=[0,1,3,7,0,0,0,0,0,256,992,2016,4095]:=by kernel_rfl
theorem btAt33_3:btAll 33 3=[0,1,3,7,0,16,63,127]:=by kernel_rfl
theorem btAt33_4:btAll 33 4=[0,1,3,7,0,16,63,127,255,255,0,1535,4095]:=by kernel_rfl
theorem btAt33_11:btAll 33 11=[0,1,0,4,12,28,0,64,192,448,1020,2047,4095]:=by kernel_rfl
theorem btAt33_15:btAll 33 15=[0,1,0,4,12,28,63,127,255,511,511,0,3071,8191]:=by kernel_rfl
theorem btAt33_16:btAll 33 16=[0,1,0,4,12,28,63,127,255,255,0,1535,4095]:=by kernel_rfl
theorem btAt33_20:btAll 33 20=[0,0,0,0,8,24,56,0,128,504,125,1149,3197,8191,16383,32767]:=by kernel_rfl
theorem btAt33_21:btAll 33 21=[0,1,3,7,0,16,0,127]:=by kernel_rfl
theorem btAt33_22:btAll 33 22=[0,1,3,7,0,16,0,127]:=by kernel_rfl
theorem btAt34_4:btAll 34 4=[0,1,3,7,0,16,63,0,255]:=by kernel_rfl
theorem btAt34_5:btAll 34 5=[0,1,3,7,0,16,63]:=by kernel_rfl
theorem btAt34_6:btAll 34 6=[0,1,3,7,0,16,63,127,255,511,0,1024,4095,8191,16383,32767]:=by kernel_rfl
theorem btAt34_7:btAll 34 7=[0,0,2,1,15,31]:=by kernel_rfl
theorem btAt39_15:btAll 39 15=[0,1,3,7,0,16,63]:=by kernel_rfl
theorem btAt39_16:btAll 39 16=[0,1,3,7,0,16,63]:=by kernel_rfl
theorem btAt40_12:btAll 40 12=[0,1,0,7,15,0,32,0,128,480,1023,2047,4095]:=by kernel_rfl
theorem btAt41_6:btAll 41 6=[0,0,3,7,0,0,48,112,255]:=by kernel_rfl
theorem btAt42_3:btAll 42 3=[0,0,1,7,15]:=by kernel_rfl
theorem btAt42_6:btAll 42 6=[0,0,1,7,15]:=by kernel_rfl
theorem btAt42_10:btAll 42 10=[0,1,0,7,15,31,63,0,128,511]:=by kernel_rfl
theorem btAt42_11:btAll 42 11=[0,0,1,7,15]:=by kernel_rfl
theorem btAt42_14:btAll 42 14=[0,0,1,7,15]:=by kernel_rfl
theorem btAt42_16:btAll 42 16=[0,0,1,7,15]:=by kernel_rfl
theorem btAt42_23:btAll 42 23=[0,0,0,1,11,31]:=by kernel_rfl
theorem btAt42_24:btAll 42 24=[0,0,2,0,8,30,7,71,255,511]:=by kernel_rfl
theorem btAt42_26:btAll 42 26=[0,1,3,0,0,24,56,127,255,511]:=by kernel_rfl
theorem btAt42_27:btAll 42 27=[0,0,1,7,15]:=by kernel_rfl
theorem btAt43_9:btAll 43 9=[0,1,0,7,15,0,32,0,128,480,1023,2047,4095]:=by kernel_rfl
theorem btAt43_10:btAll 43 10=[0,0,1,7,15]:=by kernel_rfl
theorem btAt53_5:btAll 53 5=[0,1,0,4,12,28,0,64,252,511,1023]:=by kernel_rfl
theorem btAt53_7:btAll 53 7=[0,1,3,7,15,0,32,127,255,511,1023,2047]:=by kernel_rfl
theorem btAt53_9:btAll 53 9=[0,1,3,7,0,16,48,112,240,511]:=by kernel_rfl
theorem btAt53_10:btAll 53 10=[0,0,2,6,0,16,48,112,240,511]:=by kernel_rfl
theorem btAt53_11:btAll 53 11=[0,1,3,7,0,0,32,96,224,496,0,2047,4095]:=by kernel_rfl
theorem btAt55_1:btAll 55 1=[0,1,3,7,0,16,48,127,255,0,512,2047,4095,0,8192,24576,65535,131071,262143,524287]:=by kernel_rfl
theorem btAt55_2:btAll 55 2=[0,1,3,7,0,16,48,127,255,511]:=by kernel_rfl
theorem btAt55_4:btAll 55 4=[0,0,3,0,8,24,0,127,255,255,1023,2047]:=by kernel_rfl
theorem btAt55_6:btAll 55 6=[0,0,3,0,8,24,0,127,255,255,1023,2047]:=by kernel_rfl
theorem btAt56_1:btAll 56 1=[0,1,3,7,0,16,48,127,255,0,512,2047,4095,0,8192,24576,65535,131071,262143,524287]:=by kernel_rfl
theorem btAt57_3:btAll 57 3=[0,1,3,7,15,0,0,64,192,448,991,2047,4095,8191]:=by kernel_rfl
theorem btAt62_10:btAll 62 10=[0,1,0,0,12,28,63,127,255,255,0,1535,4095]:=by kernel_rfl
theorem btAt63_5:btAll 63 5=[0,0,0,1,11,31]:=by kernel_rfl
theorem btAt65_11:btAll 65 11=[0,0,2,0,8,30,1,65,255,511]:=by kernel_rfl
theorem btAt65_14:btAll 65 14=[0,0,2,1,9,31,63]:=by kernel_rfl
theorem btAt66_6:btAll 66 6=[0,0,3,7,0,0,48,112,255]:=by kernel_rfl
theorem btAt67_3:btAll 67 3=[0,1,3,7,15,31,63,127,0,256,768,1792,3840,7936,16128,255,65535,131071]:=by kernel_rfl
theorem btAt79_11:btAll 79 11=[0,0,2,6,14,0,0,0,128,384,896,2016,4064,8190,16383,32767,65535]:=by kernel_rfl
theorem btAt83_7:btAll 83 7=[0,0,2,7,15,31,31,127,255,511,31,1055,4095,8191]:=by kernel_rfl
theorem btAt83_9:btAll 83 9=[0,0,3,7,0,16,63,0,0,384,1023,2047,4095]:=by kernel_rfl
theorem btAt87_1:btAll 87 1=[0,1,3,7,0,16,63,127,255,255,0,1535,4095]:=by kernel_rfl
theorem btAt90_5:btAll 90 5=[0,1,3,7,15,7,63,127,255,7,519,7,3591,7687,15879,32767,65535,131071]:=by kernel_rfl
theorem btAt101_5:btAll 101 5=[0,0,2,6,14,0,0,96,254,510,1022,2047,4095]:=by kernel_rfl
theorem btAt102_1:btAll 102 1=[0,1,3,7,0,31,0,64,192,448,960,2047,4095]:=by kernel_rfl
theorem btAt106_11:btAll 106 11=[0,0,0,6,14,30,0,0,192,448,960,2046,4095,8191]:=by kernel_rfl
theorem btAt108_6:btAll 108 6=[0,0,3,7,0,0,48,112,255]:=by kernel_rfl
theorem btAt108_7:btAll 108 7=[0,0,3,7,0,0,48,112,255,511]:=by kernel_rfl
theorem btAt110_3:btAll 110 3=[0,1,3,7,15,31,63,0,128,384,896,1983,0,4096,12288,28672,65535,131071,262143]:=by kernel_rfl
theorem btAt113_3:btAll 113 3=[0,1,0,4,15,0,32,127]:=by kernel_rfl
theorem btAt113_4:btAll 113 4=[0,1,3,0,8,0,32,120,31,287,1023,2047]:=by kernel_rfl
theorem btAt113_6:btAll 113 6=[0,1,3,0,8,31,63,127]:=by kernel_rfl
theorem btAt114_5:btAll 114 5=[0,0,1,7,15]:=by kernel_rfl
theorem btAt115_4:btAll 115 4=[0,0,0,6,15,31]:=by kernel_rfl
theorem btAt120_3:btAll 120 3=[0,0,0,4,0,16,48,112,240,253,765,1789,4095,8191,16383]:=by kernel_rfl
theorem btAt124_5:btAll 124 5=[0,1,3,0,8,24,63,0,128,511,0,1024,3072,8191,0,0,65535,131071]:=by kernel_rfl
theorem btAt124_8:btAll 124 8=[0,0,3,0,8,24,63,127]:=by kernel_rfl
theorem btAt126_2:btAll 126 2=[0,1,0,4,0,16,60,127,255,511,1023,0,2303,8191,16383]:=by kernel_rfl
theorem btAt128_2:btAll 128 2=[0,0,3,0,0,0,48,127,255]:=by kernel_rfl
theorem btAt131_2:btAll 131 2=[0,1,3,0,8,24,0,120,255,0,512,2047,0,4096,12288,0,61440,131071,0,0,1048575,2097151]:=by kernel_rfl
theorem btAt131_3:btAll 131 3=[0,0,3,0,8,24,0,71,255]:=by kernel_rfl
theorem btAt131_7:btAll 131 7=[0,0,3,0,8,24,7,127]:=by kernel_rfl
theorem btAt131_10:btAll 131 10=[0,1,3,0,15,0,32,96,0,480,1023,0,4095]:=by kernel_rfl
theorem btAt132_1:btAll 132 1=[0,1,3,7,15,31,63,127,255,511,1023,2047,511,4607,12799,32767,65535,131071]:=by kernel_rfl
theorem btAt133_0:btAll 133 0=[0,1,3,7,15,0,32,96,224,0,992,2016,4064,0,16383]:=by kernel_rfl
theorem btAt134_2:btAll 134 2=[0,1,3,7,0,31,63,0,128,384,896,0,3968,8064,16383,32767]:=by kernel_rfl
theorem btAt135_1:btAll 135 1=[0,1,3,7,0,31,63,0,128,384,896,1920,3968,0,8319,32767]:=by kernel_rfl
theorem btAt135_4:btAll 135 4=[0,1,3,7,15,0,32,127]:=by kernel_rfl
theorem btAt138_1:btAll 138 1=[0,0,3,0,0,31,63,127]:=by kernel_rfl
theorem btAt145_1:btAll 145 1=[0,0,3,0,0,31,63,127]:=by kernel_rfl
theorem btAt149_10:btAll 149 10=[0,0,2,0,0,16,56,120,0,256,768,2040,4095,8191]:=by kernel_rfl
theorem btAt156_3:btAll 156 3=[0,1,3,7,0,16,48,112,255,511,1023,2047]:=by kernel_rfl
theorem btAt161_8:btAll 161 8=[0,0,2,1,15]:=by kernel_rfl
theorem btAt162_2:btAll 162 2=[0,0,0,6,3,31]:=by kernel_rfl
theorem btAt185_6:btAll 185 6=[0,0,3,0,0,24,7,127]:=by kernel_rfl
theorem btAt188_0:btAll 188 0=[0,0,0,0,0,0,48,112,0,0,768,1792,4083,8179,16383,32767]:=by kernel_rfl
theorem btAt189_4:btAll 189 4=[0,0,2,6,14,30,63,127,255,511,1023,2047,255,8191,16383,255,33023,98559,229631,255,1016063,2064639,4194303,8388607,16777215]:=by kernel_rfl
theorem btAt190_17:btAll 190 17=[0,1,3,7,7,7,39,119,247,7,7,1543,3591,8191,16383,32767,65535]:=by kernel_rfl
theorem btAt195_17:btAll 195 17=[0,1,3,7,7,7,39,119,247,7,7,1543,3591,8191,16383,32767,65535]:=by kernel_rfl
theorem btAt199_4:btAll 199 4=[0,0,3,7,15,15,15,111,239,15,15,1039,3599,7695,16383,32767,65535]:=by kernel_rfl
theorem btAt199_6:btAll 199 6=[0,0,0,0,8,0,0,64,224,480,0,0,3072,7168,16355,32739,65535,131071]:=by kernel_rfl
theorem btAt200_10:btAll 200 10=[0,0,0,0,0,24,0,0,0,384,960,1984,0,0,12288,28672,65475,131011,262143,524287]:=by kernel_rfl
theorem btAt201_10:btAll 201 10=[0,0,0,0,0,24,0,0,0,384,960,1984,0,0,12288,28672,65475,131011,262143,524287]:=by kernel_rfl
theorem btAt203_3:btAll 203 3=[0,0,0,0,0,0,48,112,0,0,768,1792,4083,8179,16383,32767]:=by kernel_rfl
theorem btAt204_5:btAll 204 5=[0,0,3,7,15,15,15,111,239,15,15,1039,3599,7695,16383,32767,65535,131071]:=by kernel_rfl
theorem btAt204_11:btAll 204 11=[0,0,0,0,8,0,0,64,224,480,0,0,3072,7168,16355,32739,65535,131071]:=by kernel_rfl
theorem btAt204_16:btAll 204 16=[0,0,0,6,14,0,0,64,224,480,1023,2047,4095]:=by kernel_rfl
theorem btAt204_17:btAll 204 17=[0,0,0,0,8,0,0,64,224,480,0,0,3072,7168,16355,32739,65535,131071]:=by kernel_rfl
theorem btAt204_22:btAll 204 22=[0,0,0,6,14,0,0,64,224,480,1023,2047,4095]:=by kernel_rfl
theorem btAt204_23:btAll 204 23=[0,0,0,0,8,0,0,64,224,480,0,0,3072,7168,16355,32739,65535,131071]:=by kernel_rfl
theorem btAt205_1:btAll 205 1=[0,0,0,0,0,0,48,112,0,0,768,1792,4083,8179,16383,32767]:=by kernel_rfl
theorem btAt205_3:btAll 205 3=[0,0,3,7,15,15,15,111,239,15,15,1551,3599,8191,16383,32767,65535]:=by kernel_rfl
theorem btAt205_5:btAll 205 5=[0,0,3,7,15,15,15,111,239,15,15,1551,3599,8191,16383,32767]:=by kernel_rfl
theorem btAt205_8:btAll 205 8=[0,0,0,0,0,0,48,112,0,0,768,1792,4083,8179,16383,32767]:=by kernel_rfl
theorem btAt206_1:btAll 206 1=[0,0,0,0,0,0,48,112,0,0,768,1792,4083,8179,16383,32767]:=by kernel_rfl
theorem btAt206_3:btAll 206 3=[0,0,3,7,15,15,15,111,239,15,15,1551,3599,8191,16383,32767]:=by kernel_rfl
theorem btAt206_5:btAll 206 5=[0,0,3,7,15,15,15,111,239,15,15,1551,3599,8191,16383,32767,65535]:=by kernel_rfl
theorem btAt206_8:btAll 206 8=[0,0,0,0,0,0,48,112,0,0,768,1792,4083,8179,16383,32767]:=by kernel_rfl
theorem btAt206_10:btAll 206 10=[0,0,0,0,0,0,48,112,0,0,768,1792,4083,8179,16383,32767]:=by kernel_rfl
theorem btAt206_13:btAll 206 13=[0,0,3,7,15,15,15,111,239,15,15,1551,3599,8191,16383,32767]:=by kernel_rfl
theorem btAt206_15:btAll 206 15=[0,0,3,7,15,15,15,111,239,15,15,1551,3599,8191,16383,32767,65535]:=by kernel_rfl
theorem btAt206_18:btAll 206 18=[0,0,0,0,0,0,48,112,0,0,768,1792,4083,8179,16383,32767]:=by kernel_rfl
theorem btAt206_21:btAll 206 21=[0,0,0,0,0,0,48,112,0,0,768,1792,4083,8179,16383,32767]:=by kernel_rfl
theorem btAt211_4:btAll 211 4=[0,0,3,7,15,15,15,111,239,15,15,1039,3599,7695,16383,32767,65535]:=by kernel_rfl
theorem btAt211_6:btAll 211 6=[0,0,0,0,8,0,0,64,224,480,0,0,3072,7168,16355,32739,65535,131071]:=by kernel_rfl
theorem btAt212_10:btAll 212 10=[0,0,0,0,0,24,0,0,0,384,960,1984,0,0,12288,28672,65475,131011,262143,524287]:=by kernel_rfl
theorem btAt213_10:btAll 213 10=[0,0,0,0,0,24,0,0,0,384,960,1984,0,0,12288,28672,65475,131011,262143,524287]:=by kernel_rfl
theorem btAt215_3:btAll 215 3=[0,0,0,0,0,0,48,112,0,0,768,1792,4083,8179,16383,32767]:=by kernel_rfl
theorem btAt216_5:btAll 216 5=[0,0,3,7,15,15,15,111,239,15,15,1039,3599,7695,16383,32767,65535,131071]:=by kernel_rfl
theorem btAt216_11:btAll 216 11=[0,0,0,0,8,0,0,64,224,480,0,0,3072,7168,16355,32739,65535,131071]:=by kernel_rfl
theorem btAt216_16:btAll 216 16=[0,0,0,6,14,0,0,64,224,480,1023,2047,4095]:=by kernel_rfl
theorem btAt216_17:btAll 216 17=[0,0,0,0,8,0,0,64,224,480,0,0,3072,7168,16355,32739,65535,131071]:=by kernel_rfl
theorem btAt216_22:btAll 216 22=[0,0,0,6,14,0,0,64,224,480,1023,2047,4095]:=by kernel_rfl
theorem btAt216_23:btAll 216 23=[0,0,0,0,8,0,0,64,224,480,0,0,3072,7168,16355,32739,65535,131071]:=by kernel_rfl
theorem btAt217_1:btAll 217 1=[0,0,0,0,0,0,48,112,0,0,768,1792,4083,8179,16383,32767]:=by kernel_rfl
theorem btAt217_3:btAll 217 3=[0,0,3,7,15,15,15,111,239,15,15,1551,3599,8191,16383,32767,65535]:=by kernel_rfl
theorem btAt217_5:btAll 217 5=[0,0,3,7,15,15,15,111,239,15,15,1551,3599,8191,16383,32767]:=by kernel_rfl
theorem btAt217_8:btAll 217 8=[0,0,0,0,0,0,48,112,0,0,768,1792,4083,8179,16383,32767]:=by kernel_rfl
theorem btAt218_1:btAll 218 1=[0,0,0,0,0,0,48,112,0,0,768,1792,4083,8179,16383,32767]:=by kernel_rfl
theorem btAt218_3:btAll 218 3=[0,0,3,7,15,15,15,111,239,15,15,1551,3599,8191,16383,32767]:=by kernel_rfl
theorem btAt218_5:btAll 218 5=[0,0,3,7,15,15,15,111,239,15,15,1551,3599,8191,16383,32767,65535]:=by kernel_rfl
theorem btAt218_8:btAll 218 8=[0,0,0,0,0,0,48,112,0,0,768,1792,4083,8179,16383,32767]:=by kernel_rfl
theorem btAt218_10:btAll 218 10=[0,0,0,0,0,0,48,112,0,0,768,1792,4083,8179,16383,32767]:=by kernel_rfl
theorem btAt218_13:btAll 218 13=[0,0,3,7,15,15,15,111,239,15,15,1551,3599,8191,16383,32767]:=by kernel_rfl
theorem btAt218_15:btAll 218 15=[0,0,3,7,15,15,15,111,239,15,15,1551,3599,8191,16383,32767,65535]:=by kernel_rfl
theorem btAt218_18:btAll 218 18=[0,0,0,0,0,0,48,112,0,0,768,1792,4083,8179,16383,32767]:=by kernel_rfl
theorem btAt218_21:btAll 218 21=[0,0,0,0,0,0,48,112,0,0,768,1792,4083,8179,16383,32767]:=by kernel_rfl
theorem btAt219_8:btAll 219 8=[0,0,2,1,15]:=by kernel_rfl
theorem btAt220_3:btAll 220 3=[0,1,0,7,15,31,31,31,31,415,991,2015,31,31,31,24607,57375,127007,258079,524287,1048575,2097151]:=by kernel_rfl
theorem btAt220_5:btAll 220 5=[0,0,0,0,12,30,62,0,0,0,768,1920,3968,8191,16383,32767]:=by kernel_rfl
theorem btAt220_6:btAll 220 6=[0,0,0,6,0,0,0,96,0,0,0,1536,3840,7936,0,0,0,98304,245760,507904,1048335,2096911,4194303,8388607]:=by kernel_rfl
theorem btAt222_1:btAll 222 1=[0,1,3,0,8,24,56,127,255,511]:=by kernel_rfl
theorem btAt222_2:btAll 222 2=[0,1,3,0,8,24,56,127,255,511]:=by kernel_rfl
theorem btAt222_3:btAll 222 3=[0,1,3,0,8,24,56,127,255,511]:=by kernel_rfl
theorem btAt233_3:btAll 233 3=[0,1,0,7,15,31,31,31,31,415,991,2015,31,31,31,24607,57375,127007,258079,524287,1048575,2097151]:=by kernel_rfl
theorem btAt233_5:btAll 233 5=[0,0,0,0,12,30,62,0,0,0,768,1920,3968,8191,16383,32767]:=by kernel_rfl
theorem btAt233_6:btAll 233 6=[0,0,0,6,0,0,0,96,0,0,0,1536,3840,7936,0,0,0,98304,245760,507904,1048335,2096911,4194303,8388607]:=by kernel_rfl
theorem btAt236_1:btAll 236 1=[0,0,0,6,14,0,0,96,224,511,1023]:=by kernel_rfl
theorem btAt240_1:btAll 240 1=[0,0,0,6,14,0,0,96,224,511,1023]:=by kernel_rfl
attribute [go_sem] btAt5_17 btAt19_3 btAt20_10 btAt21_3 btAt21_5 btAt22_3 btAt22_5 btAt26_13 btAt26_17 btAt26_24 btAt28_14 btAt28_16 btAt32_9 btAt33_3 btAt33_4 btAt33_11 btAt33_15 btAt33_16 btAt33_20 btAt33_21 btAt33_22 btAt34_4 btAt34_5 btAt34_6 btAt34_7 btAt39_15 btAt39_16 btAt40_12 btAt41_6 btAt42_3 btAt42_6 btAt42_10 btAt42_11 btAt42_14 btAt42_16 btAt42_23 btAt42_24 btAt42_26 btAt42_27 btAt43_9 btAt43_10 btAt53_5 btAt53_7 btAt53_9 btAt53_10 btAt53_11 btAt55_1 btAt55_2 btAt55_4 btAt55_6 btAt56_1 btAt57_3 btAt62_10 btAt63_5 btAt65_11 btAt65_14 btAt66_6 btAt67_3 btAt79_11 btAt83_7 btAt83_9 btAt87_1 btAt90_5 btAt101_5 btAt102_1 btAt106_11 btAt108_6 btAt108_7 btAt110_3 btAt113_3 btAt113_4 btAt113_6 btAt114_5 btAt115_4 btAt120_3 btAt124_5 btAt124_8 btAt126_2 btAt128_2 btAt131_2 btAt131_3 btAt131_7 btAt131_10 btAt132_1 btAt133_0 btAt134_2 btAt135_1 btAt135_4 btAt138_1 btAt145_1 btAt149_10 btAt156_3 btAt161_8 btAt162_2 btAt185_6 btAt188_0 btAt189_4 btAt190_17 btAt195_17 btAt199_4 btAt199_6 btAt200_10 btAt201_10 btAt203_3 btAt204_5 btAt204_11 btAt204_16 btAt204_17 btAt204_22 btAt204_23 btAt205_1 btAt205_3 btAt205_5 btAt205_8 btAt206_1 btAt206_3 btAt206_5 btAt206_8 btAt206_10 btAt206_13 btAt206_15 btAt206_18 btAt206_21 btAt211_4 btAt211_6 btAt212_10 btAt213_10 btAt215_3 btAt216_5 btAt216_11 btAt216_16 btAt216_17 btAt216_22 btAt216_23 btAt217_1 btAt217_3 btAt217_5 btAt217_8 btAt218_1 btAt218_3 btAt218_5 btAt218_8 btAt218_10 btAt218_13 btAt218_15 btAt218_18 btAt218_21 btAt219_8 btAt220_3 btAt220_5 btAt220_6 btAt222_1 btAt222_2 btAt222_3 btAt233_3 btAt233_5 btAt233_6 btAt236_1 btAt240_1
attribute [go_sem] info0 info1 info2 info3 info4 info5 info6 info7 info8 info9 info10 info11 info12 info13 info14 info15 info16 info17 info18 info19 info20 info21 info22 info23 info24 info25 info26 info27 info28 info29 info32 info33 info37 info38 info39 info40 info41 info45 info46 info47 info48 info52 info53 info59
attribute [go_sem] Tryz.underlying0 Tryz.underlying1 Tryz.underlying2 Tryz.underlying3 Tryz.underlying4 Tryz.underlying5 Tryz.underlying6 Tryz.underlying7 Tryz.underlying8 Tryz.underlying9 Tryz.underlying10 Tryz.underlying11 Tryz.underlying12 Tryz.underlying13 Tryz.underlying14 Tryz.underlying15 Tryz.underlying16 Tryz.underlying17 Tryz.underlying18 Tryz.underlying19 Tryz.underlying20 Tryz.underlying21 Tryz.underlying22 Tryz.underlying23 Tryz.underlying24 Tryz.underlying25 Tryz.underlying26 Tryz.underlying27 Tryz.underlying28 Tryz.underlying29 Tryz.underlying32 Tryz.underlying33 Tryz.underlying37 Tryz.underlying38 Tryz.underlying39 Tryz.underlying40 Tryz.underlying41 Tryz.underlying45 Tryz.underlying46 Tryz.underlying47 Tryz.underlying48 Tryz.underlying52 Tryz.underlying53 Tryz.underlying59
attribute [go_sem] Tryz.t0 Tryz.t1 Tryz.t2 Tryz.t3 Tryz.t4 Tryz.t5 Tryz.t6 Tryz.t7 Tryz.t8 Tryz.t9 Tryz.t10 Tryz.t11 Tryz.t12 Tryz.t13 Tryz.t14 Tryz.t15 Tryz.t16 Tryz.t17 Tryz.t18 Tryz.t19 Tryz.t20 Tryz.t21 Tryz.t22 Tryz.t23 Tryz.t24 Tryz.t25 Tryz.t26 Tryz.t27 Tryz.t28 Tryz.t29 Tryz.t32 Tryz.t33 Tryz.t37 Tryz.t38 Tryz.t39 Tryz.t40 Tryz.t41 Tryz.t45 Tryz.t46 Tryz.t47 Tryz.t48 Tryz.t52 Tryz.t53 Tryz.t59
attribute [go_sem] info60 info62 info66 info68 info69 info70 info71 info72 info73 info74 info77 info78 info89 info91 info93 info94 info95 info96 info97 info100 info102 info105 info107 info108 info109 info117 info118 info119
attribute [go_sem] Tryz.underlying60 Tryz.underlying62 Tryz.underlying66 Tryz.underlying68 Tryz.underlying69 Tryz.underlying70 Tryz.underlying71 Tryz.underlying72 Tryz.underlying73 Tryz.underlying74 Tryz.underlying77 Tryz.underlying78 Tryz.underlying89 Tryz.underlying91 Tryz.underlying93 Tryz.underlying94 Tryz.underlying95 Tryz.underlying96 Tryz.underlying97 Tryz.underlying100 Tryz.underlying102 Tryz.underlying105 Tryz.underlying107 Tryz.underlying108 Tryz.underlying109 Tryz.underlying117 Tryz.underlying118 Tryz.underlying119
attribute [go_sem] Tryz.t60 Tryz.t62 Tryz.t66 Tryz.t68 Tryz.t69 Tryz.t70 Tryz.t71 Tryz.t72 Tryz.t73 Tryz.t74 Tryz.t77 Tryz.t78 Tryz.t89 Tryz.t91 Tryz.t93 Tryz.t94 Tryz.t95 Tryz.t96 Tryz.t97 Tryz.t100 Tryz.t102 Tryz.t105 Tryz.t107 Tryz.t108 Tryz.t109 Tryz.t117 Tryz.t118 Tryz.t119
attribute [go_sem] info122 info123 info124 info126 info130 info132 info134 info136 info138 info141 info144 info147 info148 info149 info150 info153 info158 info159 info160 info162 info163 info164 info165 info166 info167 info173
attribute [go_sem] Tryz.underlying122 Tryz.underlying123 Tryz.underlying124 Tryz.underlying126 Tryz.underlying130 Tryz.underlying132 Tryz.underlying134 Tryz.underlying136 Tryz.underlying138 Tryz.underlying141 Tryz.underlying144 Tryz.underlying147 Tryz.underlying148 Tryz.underlying149 Tryz.underlying150 Tryz.underlying153 Tryz.underlying158 Tryz.underlying159 Tryz.underlying160 Tryz.underlying162 Tryz.underlying163 Tryz.underlying164 Tryz.underlying165 Tryz.underlying166 Tryz.underlying167 Tryz.underlying173
attribute [go_sem] Tryz.t122 Tryz.t123 Tryz.t124 Tryz.t126 Tryz.t130 Tryz.t132 Tryz.t134 Tryz.t136 Tryz.t138 Tryz.t141 Tryz.t144 Tryz.t147 Tryz.t148 Tryz.t149 Tryz.t150 Tryz.t153 Tryz.t158 Tryz.t159 Tryz.t160 Tryz.t162 Tryz.t163 Tryz.t164 Tryz.t165 Tryz.t166 Tryz.t167 Tryz.t173
attribute [go_sem] info181 info182 info183 info184 info185 info188 info189 info191 info193 info194 info196 info200 info202 info208 info210 info214 info216 info217 info224 info229 info230 info232 info234 info235 info237 info239
attribute [go_sem] Tryz.underlying181 Tryz.underlying182 Tryz.underlying183 Tryz.underlying184 Tryz.underlying185 Tryz.underlying188 Tryz.underlying189 Tryz.underlying191 Tryz.underlying193 Tryz.underlying194 Tryz.underlying196 Tryz.underlying200 Tryz.underlying202 Tryz.underlying208 Tryz.underlying210 Tryz.underlying214 Tryz.underlying216 Tryz.underlying217 Tryz.underlying224 Tryz.underlying229 Tryz.underlying230 Tryz.underlying232 Tryz.underlying234 Tryz.underlying235 Tryz.underlying237 Tryz.underlying239
attribute [go_sem] Tryz.t181 Tryz.t182 Tryz.t183 Tryz.t184 Tryz.t185 Tryz.t188 Tryz.t189 Tryz.t191 Tryz.t193 Tryz.t194 Tryz.t196 Tryz.t200 Tryz.t202 Tryz.t208 Tryz.t210 Tryz.t214 Tryz.t216 Tryz.t217 Tryz.t224 Tryz.t229 Tryz.t230 Tryz.t232 Tryz.t234 Tryz.t235 Tryz.t237 Tryz.t239
attribute [go_sem] info243 info245 info246 info249 info250 info254 info263 info268 info272 info275 info280 info281 info284 info286 info287
attribute [go_sem] Tryz.underlying243 Tryz.underlying245 Tryz.underlying246 Tryz.underlying249 Tryz.underlying250 Tryz.underlying254 Tryz.underlying263 Tryz.underlying268 Tryz.underlying272 Tryz.underlying275 Tryz.underlying280 Tryz.underlying281 Tryz.underlying284 Tryz.underlying286 Tryz.underlying287
attribute [go_sem] Tryz.t243 Tryz.t245 Tryz.t246 Tryz.t249 Tryz.t250 Tryz.t254 Tryz.t263 Tryz.t268 Tryz.t272 Tryz.t275 Tryz.t280 Tryz.t281 Tryz.t284 Tryz.t286 Tryz.t287
attribute [go_sem] info300 info304 info313 info314
attribute [go_sem] Tryz.underlying300 Tryz.underlying304 Tryz.underlying313 Tryz.underlying314
attribute [go_sem] Tryz.t300 Tryz.t304 Tryz.t313 Tryz.t314
attribute [go_sem] body5 body9 body12 body13 body14 body15 body16 body18 body19 body20 body21 body22 body24 body25 body26 body27 body28 body32 body33 body34 body35 body36 body37 body38 body39 body40 body41 body42 body43 body47 body48 body49 body50 body51 body52 body53 body54 body55 body56 body57 body58 body59 body60 body61 body62 body63 body64 body65 body66 body67 body68 body69 body70 body72 body73 body74 body75 body76 body77 body78 body79 body80 body81
attribute [go_sem] body82 body83 body84 body85 body86 body87 body88 body89 body90 body93 body95 body96 body97 body98 body99 body100 body101 body102 body103 body104 body105 body106 body107 body108 body109 body110 body111 body112 body113 body114 body115 body116 body117 body118 body119 body120 body121 body122 body123 body124 body125 body126 body127 body128 body129 body130 body131 body132 body133 body134 body135 body136 body137 body138 body139 body143 body144 body145 body146 body147 body148 body149 body150 body151 body152 body153 body154 body155 body156 body157 body158 body159 body160 body161 body162
attribute [go_sem] body163 body164 body165 body166 body167 body168 body169 body170 body171 body172 body173 body174 body177 body178 body179 body180 body181 body184 body185 body186 body187 body188 body189 body190 body191 body194 body195 body196 body197 body198 body199 body200 body201 body202 body203 body204 body205 body206 body207 body208 body211 body212 body213 body214 body215 body216 body217 body218 body219 body220 body221 body222 body223 body224 body233 body234 body235 body236 body240
attribute [go_sem] wp_skip wp_label wp_exit wp_goto wp_ret wp_seq wp_cond wp_block wp_ops wp_drawn wp_loop wp_scope wp_range wOps_nil wOps_cons wDrawn_nil wDrawn_cons condW_true condW_false condW_dec thenW_norm thenW_exit thenW_goto thenW_ret thenW_panic retW_ret retW_panic opsW_val opsW_new opsW_eff opsW_panic opsW_enter opsW_round opsW_defer retD_ret drawnW_val drawnW_new drawnW_eff drawnW_enter loudOne_quiet loudOne_pure callO_some callO_none dynL pairOk preW_mk blockW_mk preK_eq scopeW_goto scopeW_norm scopeW_ret scopeW_exit scopeW_panic List.isEmpty_toArray Array.isEmpty_empty endW_mk endK_some endD_ret endD_norm endD_panic leaveK_ret leaveK_done recoverA List.mem_cons List.mem_append List.not_mem_nil false_implies implies_true forall_const List.singleton_append List.mem_singleton false_or or_false forall_eq forall_eq_or_imp
section near
variable {p n k:Nat}
theorem lt_ne(h:p<n):(n=p)=False:=eq_false (by omega)
theorem lt_ne'(h:p<n):(p=n)=False:=eq_false (by omega)
theorem lt_ne_add(h:p<n):(n+k=p)=False:=eq_false (by omega)
theorem lt_ne_add'(h:p<n):(p=n+k)=False:=eq_false (by omega)
theorem lt_le(h:p<n):(n<=p)=False:=eq_false (by omega)
theorem lt_le_add(h:p<n):(n+k<=p)=False:=eq_false (by omega)
theorem lt_lt_add(h:p<n):(p<n+k)=True:=eq_true (by omega)
theorem lt_le'(h:p<n):(p<=n)=True:=eq_true (by omega)
theorem lt_le_add'(h:p<n):(p<=n+k)=True:=eq_true (by omega)
theorem lt_beq(h:p<n):(n==p)=false:=by simp;omega
theorem lt_beq'(h:p<n):(p==n)=false:=by simp;omega
theorem lt_beq_add(h:p<n):(n+k==p)=false:=by simp;omega
theorem lt_beq_add'(h:p<n):(p==n+k)=false:=by simp;omega
theorem beq_ne(h:¬p=n):(p==n)=false:=by simp;omega
end near
attribute [go_sem] lt_ne lt_ne' lt_ne_add lt_ne_add' lt_le lt_le_add lt_lt_add lt_le' lt_le_add' lt_beq lt_beq' lt_beq_add lt_beq_add' beq_ne
theorem wrapI{n:Int}(h1:-9223372036854775808<=n)(h2:n<9223372036854775808):IntKind.i64.wrap n=n:=by rw[IntKind.wrap_i64];omega
theorem wrapU{n:Int}(h1:0<=n)(h2:n<18446744073709551616):IntKind.u64.wrap n=n:=by rw[IntKind.wrap_u64];omega
theorem wrapIN{k:Nat}(h:k<9223372036854775808):IntKind.i64.wrap (k:Int)=k:=wrapI (by omega) (by omega)
theorem wrapUN{k:Nat}(h:k<18446744073709551616):IntKind.u64.wrap (k:Int)=k:=wrapU (by omega) (by omega)
theorem toNat_one:Int.toNat 1=1:=rfl
theorem toNat_zero:Int.toNat 0=0:=rfl
theorem sbA_none{len cap:Nat}:sbA len cap none none none=some (0,len,cap):=rfl
theorem sbA_lo{len cap:Nat}{k:IntKind}{n:Int}:sbA len cap (some (.int k n)) none none=if 0<=n/\n<=len then some (n.toNat,len,cap) else none:=by
 delta sbA
 simp only[bnd]
 by_cases h:0<=n/\n<=(len:Int)<;>simp [h]
theorem sbA_hi{len cap:Nat}{k:IntKind}{n:Int}:sbA len cap none (some (.int k n)) none=if 0<=n/\n<=cap then some (0,n.toNat,cap) else none:=by
 delta sbA
 simp only[bnd]
 by_cases h:0<=n/\n<=(cap:Int)<;>simp [h]
theorem sbA_both{len cap:Nat}{k k':IntKind}{a n:Int}:sbA len cap (some (.int k a)) (some (.int k' n)) none=if 0<=n/\n<=cap then(if 0<=a/\a<=n.toNat then some (a.toNat,n.toNat,cap) else none) else none:=by
 delta sbA
 simp only[bnd]
 by_cases h:0<=n/\n<=(cap:Int)
 ·simp only[h,and_self,if_true]
  by_cases h2:0<=a/\a<=(n.toNat:Int)
  ·simp only[h2,and_self,if_true]
  ·simp only[h2,if_false]
 ·simp [h]
attribute [go_sem] wrapIN wrapUN wrapI wrapU toNat_one toNat_zero sbA_none sbA_lo sbA_hi sbA_both opSlice opLookup opMapUpdate opDelete keyOk opMakeMap isMapD
attribute [congr] endK_congr leaveX_congr thenW_congr retW_congr retD_congr callW_congr wp_congr wOps_congr opsW_congr wDrawn_congr drawnW_congr condW_congr callX_congr callO_congr loopX_congr scopeX_congr rangeX_congr
theorem enter{p:PureTab Tryz.prog}{f:FuncId}{fn:Func}{c:Code}{args:List Value}{U:St}{K:AE->St->Log->Prop}(hf:Tryz.prog.funcs[f]?=some fn)(hb:fn.body=some c)(hs:statAll (btAll f) c=true)
  (h:wp (cP Tryz.prog) p (btAll f) false c (start args fn.ntmps) U (endW (cP Tryz.prog) fn.results.toList K)):callX Tryz.prog f args U K:=
 callX.enter cP_ok mixed hf hb hs h
theorem turn(p:PureTab Tryz.prog)(f:FuncId){rnd:Bool}{b:Code}{fr:Fr}{U:St}{Q:RR->Prop}(hs:statAll (btAll f) b=true)
  (h:wp (cP Tryz.prog) p (btAll f) rnd b fr U (thenW (loopX Tryz.prog rnd b) Q)):loopX Tryz.prog rnd b fr U Q:=loopX.step cP_ok mixed hs h
theorem enscope(p:PureTab Tryz.prog)(f:FuncId){rnd:Bool}{body c:Code}{fr:Fr}{U:St}{Q:RR->Prop}(hs:statAll (btAll f) c=true)
  (h:wp (cP Tryz.prog) p (btAll f) rnd c fr U (scopeW Tryz.prog rnd body Q)):scopeX Tryz.prog rnd body c fr U Q:=scopeX.step cP_ok mixed hs h
def q0:PureTab Tryz.prog:=⟨λ_ _=>none,λ_ _ _ h=>by cases h⟩
theorem pure_call{f:FuncId}{args:List Value}{U:St}{v:Value}(h:callX Tryz.prog f args U λe U' l=>e=.ret v/\∀c∈l,U.next<=c)(hv:plain v=true):DCall Tryz.prog f args U (.ret v) U []:=by
 obtain⟨e,U',l,d,rfl,hl⟩:=h
 have h2:DCall Tryz.prog f args U (.ret v) U' []:=⟨⟨d.1.1,λc hc _=>d.1.2 c hc λhm=>by have:=hl c hm;omega⟩,d.2⟩
 exact DCall.forget h2 hv
end Go.Ab
namespace Go.Ab
variable {P:Program}
def afterS(ρ:Ren)(U:St)(w:World)(S:RR->Prop):Exit->Act->World->Prop:=λe a' w'=>∃r,S r/\Logged U r.U r.lg/\after ρ U w r e a' w'
def GS(W:WT)(rnd:Bool)(fr:Fr)(U:St)(S:RR->Prop):Prop:=∀(ro:Option Nat),(rnd=false->ro=none)->∀(ρ:Ren) (w:World) (a:Act),WR ρ U w.heap->FR ρ fr a->W (fence ro) (afterS ρ U w S) a w
def codeS(P:Program)(rnd:Bool)(c:Code)(fr:Fr)(U:St)(S:RR->Prop):Prop:=GS (λF Q=>c.wpIn F 0 P Q) rnd fr U S
def loopS(P:Program)(rnd:Bool)(c:Code)(fr:Fr)(U:St)(S:RR->Prop):Prop:=GS (λF Q=>LoopIn F 0 P c Q) rnd fr U S
theorem GS.of{W:WT}(hW:WT.Mono W){rnd:Bool}{fr:Fr}{U:St}{r:RR}{S:RR->Prop}(h:DG W rnd fr U r)(k:S r):GS W rnd fr U S:=
 λro hro ρ w a hw hf=>hW _ _ _ _ _ (h.2 ro hro ρ w a hw hf) λ_ _ _ q=>⟨r,k,h.1,q⟩
theorem GS.mono{W:WT}(hW:WT.Mono W){rnd:Bool}{fr:Fr}{U:St}{S S':RR->Prop}(h:GS W rnd fr U S)(k:∀r,Logged U r.U r.lg->S r->S' r):GS W rnd fr U S':=
 λro hro ρ w a hw hf=>hW _ _ _ _ _ (h ro hro ρ w a hw hf) λ_ _ _ ⟨r,h1,h2,h3⟩=>⟨r,k r h2 h1,h2,h3⟩
theorem GS.bind{V W W':WT}(hV:WT.Mono V)(hW':WT.Mono W'){rnd:Bool}{fr:Fr}{U:St}{S:RR->Prop}(h:GS V rnd fr U (thenW (λfr U Q=>GS W' rnd fr U Q) S))
  (hW:∀F Q a w,V F (Exit.then (W' F Q) Q) a w->W F Q a w):GS W rnd fr U S:=λro hro ρ w a hw hf=>by
 refine hW _ _ _ _ (hV _ _ _ _ _ (h ro hro ρ w a hw hf) ?_)
 rintro e a' w' ⟨r,hr,hl,ρ',h1,h2,h3⟩
 unfold thenW at hr
 cases hx:r.x with
 |norm=>
  rw[hx]at hr h1
  obtain rfl:=XR.norm_iff h1
  exact hW' _ _ _ _ _ (hr ro hro ρ' w' a' h3.wr h2) λe2 a2 w2 ⟨q,hq,hlq,hA⟩=>⟨q.pre r.lg,hq,hl.trans hlq,after_trans h3 hA⟩
 |exit i=>rw[hx]at hr;exact then_of_not (h1.not_norm (by rw[hx];rfl)) ⟨r,hr,hl,ρ',h1,h2,h3⟩
 |goto i=>rw[hx]at hr;exact then_of_not (h1.not_norm (by rw[hx];rfl)) ⟨r,hr,hl,ρ',h1,h2,h3⟩
 |ret=>rw[hx]at hr;exact then_of_not (h1.not_norm (by rw[hx];rfl)) ⟨r,hr,hl,ρ',h1,h2,h3⟩
 |panic ch=>rw[hx]at hr;exact then_of_not (h1.not_norm (by rw[hx];rfl)) ⟨r,hr,hl,ρ',h1,h2,h3⟩
section code
variable {c d:Code} {rnd:Bool} {fr:Fr} {U:St} {S S':RR->Prop}
theorem codeS.mono(h:codeS P rnd c fr U S)(k:∀r,Logged U r.U r.lg->S r->S' r):codeS P rnd c fr U S':=GS.mono (code_mono c) h k
theorem codeS.seq(h:codeS P rnd c fr U (thenW (codeS P rnd d) S)):codeS P rnd (.seq c d) fr U S:=
 GS.bind (code_mono c) (code_mono d) h λ_ _ _ _ h=>wpIn_seq h
theorem loopS.step(h:codeS P rnd c fr U (thenW (loopS P rnd c) S)):loopS P rnd c fr U S:=
 GS.bind (code_mono c) (loop_mono c) h λ_ _ _ _ h=>loopIn_step h
theorem codeS.loop(h:loopS P rnd c fr U S):codeS P rnd (.loop c) fr U S:=λro hro ρ w a hw hf=>wpIn_of_loopIn (h ro hro ρ w a hw hf)
theorem codeS.cond{o:Operand}{t:Bool}(hc:ev fr.ts o=some (.bool t))(h:codeS P rnd (if t then c else d) fr U S):codeS P rnd (.cond o c d) fr U S:=λro hro ρ w a hw hf=>by
 have hv:=ev_VR hf.ts hc
 generalize he:a.eval o=v at hv
 cases hv
 exact wpIn_cond he (h ro hro ρ w a hw hf)
theorem codeS.of_wp{C:Cx}{p:PureTab P}(hC:C.Ok P)(hm:P.follows .mixedOrders=true){bt:Nat->List Nat}(hs:statAll bt c=true)(h:wp C p bt rnd c fr U S):codeS P rnd c fr U S:=
 let⟨_,h1,h2⟩:=wp_sound hC hm c fr U S hs h
 GS.of (code_mono c) h1 h2
theorem codeS.block{id:Nat}(h:codeS P rnd c fr U (blockW id S)):codeS P rnd (.block id c) fr U S:=λro hro ρ w a hw hf=>wpIn_block (wpIn_mono (h ro hro ρ w a hw hf) λe a' w' ⟨r,hr,hl,ρ',h1,h2⟩=>by
 have fin:∀e,XR ρ' (r.x.inBlock id) e->afterS ρ U w S e a' w':=λe hx=>⟨_,hr,hl,ρ',hx,h2⟩
 cases e with
 |exit i=>
  simp only[Exit.inBlock]
  generalize hq:r.x=x at h1
  cases x<;>try exact h1.elim
  rename_i j
  have:j=i:=h1
  subst this
  rw[hq]at fin
  by_cases hj:j=id
  ·rw[if_pos hj];exact fin _ (by simp only[AX.inBlock,if_pos hj];trivial)
  ·rw[if_neg hj];exact fin _ (by simp only[AX.inBlock,if_neg hj];rfl)
 |normal=>refine fin _ ?_;generalize r.x=x at h1;cases x<;>first|exact h1.elim|exact h1
 |goto l=>refine fin _ ?_;generalize r.x=x at h1;cases x<;>first|exact h1.elim|exact h1
 |ret=>refine fin _ ?_;generalize r.x=x at h1;cases x<;>first|exact h1.elim|exact h1
 |panic ch=>refine fin _ ?_;generalize r.x=x at h1;cases x<;>first|exact h1.elim|exact h1
 |outgrown=>generalize r.x=x at h1;cases x<;>exact h1.elim)
end code
theorem thenW_mono{k k':Fr->St->(RR->Prop)->Prop}{S:RR->Prop}{r:RR}(hk:∀fr U Q,k fr U Q->k' fr U Q)(h:thenW k S r):thenW k' S r:=by
 unfold thenW at h ⊢
 cases hx:r.x with
 |norm=>rw[hx]at h;exact hk _ _ _ h
 |exit i=>rw[hx]at h;exact h
 |goto i=>rw[hx]at h;exact h
 |ret=>rw[hx]at h;exact h
 |panic ch=>rw[hx]at h;exact h
theorem codeS.pre{c X:Code}{rnd:Bool}{fr:Fr}{U:St}{S:RR->Prop}{C:Cx}{p:PureTab P}(hC:C.Ok P)(hm:P.follows .mixedOrders=true){bt:Nat->List Nat}(hs:statAll bt c=true)(k:Fr->St->(RR->Prop)->Prop)(h:wp C p bt rnd c fr U (thenW k S))
  (hk:∀fr U Q,k fr U Q->codeS P rnd X fr U Q):codeS P rnd (.seq c X) fr U S:=
 codeS.seq ((codeS.of_wp hC hm hs h).mono λ_ _ hr=>thenW_mono hk hr)
def callN(P:Program)(f:FuncId)(args:List Value)(U:St)(K:AE->St->Log->Prop):Prop:=
 ∀(ρ:Ren) (w:World) (args':Array Value),WR ρ U w.heap->VRL ρ args args'.toList->CallsIn (fence none) 0 P f args' w λe' w'=>∃e U' l,K e U' l/\Logged U U' l/\∃ρ',ER ρ' e e'/\Aft ρ U w ρ' U' w'
theorem callsIn_mono{F:Fence}{n:Nat}{f:FuncId}{args':Array Value}{w:World}{R R':Ending->World->Prop}(hc:CallsIn F n P f args' w R)(hr:∀e w,R e w->R' e w):CallsIn F n P f args' w R':=
 ⟨hc.1,λcs hroom=>let⟨e,w',fr,r,rest⟩:=hc.2 cs hroom;⟨e,w',fr,hr _ _ r,rest⟩⟩
theorem callN.of{f:FuncId}{args:List Value}{U:St}{K:AE->St->Log->Prop}(h:callX P f args U K):callN P f args U K:=
 let⟨e,U',l,h1,h2⟩:=h
 λρ w args' hw ha=>callsIn_mono (h1.2 ρ w args' hw ha) λ_ _ q=>⟨e,U',l,h2,h1.1,q⟩
theorem callN.use{f:FuncId}{args:List Value}{U:St}{K K':AE->St->Log->Prop}(h:callN P f args U K')(k:∀e U' l,Logged U U' l->K' e U' l->K e U' l):callN P f args U K:=
 λρ w args' hw ha=>callsIn_mono (h ρ w args' hw ha) λ_ _ ⟨e,U',l,h1,h2,h3⟩=>⟨e,U',l,k e U' l h2 h1,h2,h3⟩
theorem callN.enter{C:Cx}(hC:C.Ok P){f:FuncId}{fn:Func}{c:Code}{args:List Value}{U:St}{K:AE->St->Log->Prop}(hf:P.funcs[f]?=some fn)(hb:fn.body=some c)
  (h:codeS P false c (start args fn.ntmps) U (endW C fn.results.toList K)):callN P f args U K:=λρ w args' hw ha=>by
 refine callsIn_of_wp hf hb trivial (wpIn_mono (h none (λ_=>rfl) ρ w _ hw (start_FR ha _)) λe a' w' ⟨r,h1,h2,h3⟩=>?_)
 unfold endW at h1
 split at h1
 ·rename_i ae he
  have hp:=endsA_post hC.T he h3
  exact bodyPost_mono hp λe' w' q=>⟨ae,r.U,r.lg,h1,h2,q⟩
 ·exact h1.elim
where
 bodyPost_mono {fn:Func} {R R':Ending->World->Prop} {e:Exit} {a:Act} {w:World} (h:bodyPost P fn R e a w) (k:∀e w,R e w->R' e w):bodyPost P fn R' e a w:=by
  unfold bodyPost at h ⊢
  revert h
  cases e<;>intro h<;>first|exact h.elim|skip
  all_goals first
   |exact⟨h.1,let⟨v,a,b⟩:=h.2;⟨v,a,k _ _ b⟩⟩
   |exact⟨h.1,k _ _ h.2⟩
   |exact k _ _ h
def callNO(P:Program)(f:FuncId)(args:List Value)(U:St)(K:AE->St->Log->Prop):Option Value->Prop
 |some v=>K (.ret v) U []
 |none=>callN P f args U K
def callNW(p:PureTab P)(f:FuncId)(args:List Value)(U:St)(K:AE->St->Log->Prop):Prop:=callNO P f args U K (p.get f args)
theorem callNW.sound{p:PureTab P}{f:FuncId}{args:List Value}{U:St}{K:AE->St->Log->Prop}(h:callNW p f args U K):callN P f args U K:=by
 unfold callNW at h
 cases hp:p.get f args with
 |some v=>rw[hp]at h;exact callN.of ⟨_,_,_,p.ok f args v hp U,h⟩
 |none=>rw[hp]at h;exact h
def opsS(p:PureTab P)(dst:Option Tmp)(fr:Fr)(U:St)(lg:Log)(k:Fr->St->Log->Prop)(Q:RR->Prop):Option ORes->Prop
 |some (.val v _)=>k (fr.put dst v) U lg
 |some (.new ob v _)=>k (fr.put dst v) (U.new ob) lg
 |some (.eff v U' l)=>k (fr.put dst v) U' (lg++l)
 |some (.enter f args)=>callNW p f args U (retW fr dst lg k Q)
 |_=>False
def wOpsS(C:Cx)(p:PureTab P)(ops:List Oper)(Q:RR->Prop):List Oper->Fr->St->Log->Prop
 |[],fr,U,lg=>Q ⟨.norm,fr,U,lg⟩
 |o :: rest,fr,U,lg=>opsS p o.dst fr U lg (wOpsS C p ops Q rest) Q (wantK C.T C.bodies o fr.ts U (wantedA ops o fr.ts))
theorem wOpsS_sound{C:Cx}(hC:C.Ok P){p:PureTab P}{ops:Array Oper}{Q:RR->Prop}{ro:Option Nat}{ρ₀:Ren}{U₀:St}{w₀:World}:∀(rest:List Oper) (fr:Fr) (U:St) (lg:Log),wOpsS C p ops.toList Q rest fr U lg->Logged U₀ U lg->
  ∀(k:Nat),ops.toList.drop k=rest->∀(ρ:Ren) (w:World) (a:Act),Aft ρ₀ U₀ w₀ ρ U w->FR ρ fr a->
   wpOpsIn (fence ro) 0 P ops (λe a' w'=>∃r,Q r/\Logged U₀ r.U r.lg/\∃ρ',XR ρ' r.x e/\FR ρ' r.fr a'/\Aft ρ₀ U₀ w₀ ρ' r.U w') (List.range' k rest.length) a w:=by
 have two:∀{o:Oper} {rest:List Oper} {k:Nat},ops.toList.drop k=o :: rest->ops[k]?=some o/\ops.toList.drop (k+1)=rest:=λ{o rest k} hk=>by
  refine⟨?_,?_⟩
  ·have:=congrArg (·[0]?) hk
   simpa using this
  ·have:=congrArg (List.drop 1) hk
   simpa [List.drop_drop,Nat.add_comm]using this
 intro rest
 induction rest with
 |nil=>intro fr U lg h hl k hk ρ w a hA hF;exact⟨_,h,hl,ρ,trivial,hF,hA⟩
 |cons o rest ih=>
  intro fr U lg h hl k hk ρ w a hA hF
  obtain⟨hko,hrest⟩:=two hk
  have eff:∀{U₁:St} {v:Value} {l:Log},wantedA ops.toList o fr.ts=true->SimEff P o fr.ts U v U₁->(∀c,o.op≠.defer c)->wOpsS C p ops.toList Q rest (fr.put o.dst v) U₁ (lg++l)->Logged U U₁ l->
    wpOpsIn (fence ro) 0 P ops (λe a' w'=>∃r,Q r/\Logged U₀ r.U r.lg/\∃ρ',XR ρ' r.x e/\FR ρ' r.fr a'/\Aft ρ₀ U₀ w₀ ρ' r.U w') (List.range' k (o :: rest).length) a w:=λ{U₁ v l} hw hs hd hn hlg=>by
   rw[List.length_cons,List.range'_succ]
   simp only[wpOpsIn,hko,wanted_VR hF,hw]
   rw[if_pos trivial]
   exact⟨λ_ _=>trivial,Sound.quiet_next hs hA.wr hF.ts ro hd λρ' v' w' hv hA'=>ih _ _ _ hn (hl.trans hlg) (k+1) hrest ρ' w' _ (hA.trans hA') ((hF.mono (hA'.le hA.wr)).put o.dst hv)⟩
  simp only[wOpsS]at h
  cases hw:wantedA ops.toList o fr.ts with
  |false=>
   rw[hw]at h
   rw[List.length_cons,List.range'_succ]
   simp only[wpOpsIn,hko,wanted_VR hF,hw]
   rw[if_neg (by simp)]
   exact⟨λ_ _=>trivial,ih _ _ _ h hl (k+1) hrest ρ w _ hA (hF.put _ (undef_VR ρ))⟩
  |true=>
   rw[hw]at h
   simp only[wantK]at h
   unfold opsS at h
   split at h
   ·rename_i hs
    exact eff hw (SimVal.eff (stepOp_sound hC.T hC.bodies hs)) (not_defer hs (λ_=>by simp)) (l:=[]) (by rw[List.append_nil];exact h) (logged_self _ _)
   ·rename_i hs
    exact eff hw (SimNew.eff (stepOp_sound hC.T hC.bodies hs)) (not_defer hs (λ_=>by simp)) (l:=[]) (by rw[List.append_nil];exact h) (logged_new _ _)
   ·rename_i v U' l hs
    exact eff hw (stepOp_sound hC.T hC.bodies hs:SimEff P o fr.ts U v U'/\Logged U U' l).1 (not_defer hs (λ_=>by simp)) h (stepOp_log hC hs)
   ·rename_i f args hs
    rw[List.length_cons,List.range'_succ]
    simp only[wpOpsIn,hko,wanted_VR hF,hw]
    rw[if_pos trivial]
    refine⟨λ_ _=>trivial,?_⟩
    obtain⟨args',h1,h2⟩:=stepOp_sound hC.T hC.bodies hs ρ w a hF.ts
    have hd:=not_defer hs (λ_=>by simp)
    show o.uponIn (fence ro) 0 P a _ _ ((o.semAt ro a.eval).run P w)
    rw[Oper.semAt_eq ro a.eval o hd,h1]
    refine⟨λhdp=>by simp [fence]at hdp,?_⟩
    have hc:=h.sound ρ w args' hA.wr h2
    refine⟨trivial,λcs hroom=>?_⟩
    obtain⟨e,w',fr',⟨ae,U₁,l₁,hk1,hlg,ρ',he,hA'⟩,rest'⟩:=hc.2 cs (room_fence _ _)
    refine⟨e,w',fr',?_,rest'⟩
    cases ae with
    |ret v=>
     cases e with
     |returned v'=>exact ih _ _ _ hk1 (hl.trans hlg) (k+1) hrest ρ' w' _ (hA.trans hA') ((hF.mono (hA'.le hA.wr)).put o.dst he)
     |panicked c=>exact he.elim
     |outgrown=>exact he.elim
    |panic c=>
     cases e with
     |returned v'=>exact he.elim
     |panicked c'=>exact⟨_,hk1,hl.trans hlg,ρ',he,hF.mono (hA'.le hA.wr),hA.trans hA'⟩
     |outgrown=>exact he.elim
   ·exact h.elim
section eqs
variable {C:Cx} {p:PureTab P} {dst:Option Tmp} {fr:Fr} {U U':St} {lg l:Log} {k:Fr->St->Log->Prop} {Q:RR->Prop} {v:Value} {rd:List Nat} {ob:AObj} {f:FuncId} {args:List Value} {ops rest:List Oper} {o:Oper} {K:AE->St->Log->Prop}
theorem wOpsS_nil:wOpsS C p ops Q [] fr U lg=Q ⟨.norm,fr,U,lg⟩:=rfl
theorem wOpsS_cons:wOpsS C p ops Q (o :: rest) fr U lg=opsS p o.dst fr U lg (wOpsS C p ops Q rest) Q (wantK C.T C.bodies o fr.ts U (wantedA ops o fr.ts)):=rfl
theorem opsS_val:opsS p dst fr U lg k Q (some (.val v rd))=k (fr.put dst v) U lg:=rfl
theorem opsS_new:opsS p dst fr U lg k Q (some (.new ob v rd))=k (fr.put dst v) (U.new ob) lg:=rfl
theorem opsS_eff:opsS p dst fr U lg k Q (some (.eff v U' l))=k (fr.put dst v) U' (lg++l):=rfl
theorem opsS_enter:opsS p dst fr U lg k Q (some (.enter f args))=callNW p f args U (retW fr dst lg k Q):=rfl
theorem callNO_some:callNO P f args U K (some v)=K (.ret v) U []:=rfl
theorem callNO_none:callNO P f args U K none=callN P f args U K:=rfl
theorem opsS_congr{r r':Option ORes}(h:r=r'):opsS p dst fr U lg k Q r=opsS p dst fr U lg k Q r':=by rw[h]
theorem wOpsS_congr{fr':Fr}{lg':Log}(h:fr=fr')(h1:U=U')(h2:lg=lg'):wOpsS C p ops Q rest fr U lg=wOpsS C p ops Q rest fr' U' lg':=by rw[h,h1,h2]
theorem callNO_congr{x x':Option Value}(h:x=x'):callNO P f args U K x=callNO P f args U K x':=by rw[h]
theorem callNW_congr{args':List Value}(h:args=args')(h1:U=U'):callNW p f args U K=callNW p f args' U' K:=by rw[h,h1]
theorem callN_congr{args':List Value}(h:args=args')(h1:U=U'):callN P f args U K=callN P f args' U' K:=by rw[h,h1]
end eqs
theorem codeS.region{C:Cx}(hC:C.Ok P){p:PureTab P}{rnd:Bool}{id:Nat}{ops:Array Oper}{fr:Fr}{U:St}{Q:RR->Prop}(h:wOpsS C p ops.toList Q ops.toList fr U []):codeS P rnd (.region id ops false) fr U Q:=
 λro hro ρ w a hw hf=>wpIn_region (by
  have:=wOpsS_sound hC (ro:=ro) ops.toList fr U [] h (logged_self _ _) 0 rfl ρ w a (Aft.refl hw) hf
  rw[List.range_eq_range']
  rw[Array.length_toList]at this
  exact this)
attribute [go_sem] wOpsS_nil wOpsS_cons opsS_val opsS_new opsS_eff opsS_enter callNO_some callNO_none
attribute [congr] opsS_congr wOpsS_congr callNO_congr callNW_congr callN_congr
end Go.Ab
namespace Go.Ab
variable {P:Program}
theorem ME.back{ρ:Ren}:∀{a b:List MapEntry},ME ρ a b->∀y∈b,∃x∈a,VR ρ x.key y.key/\VR ρ x.val y.val/\x.born=y.born
 |[],[],_,y,hy=>by cases hy
 |x :: a,z :: b,h,y,hy=>by
  rcases List.mem_cons.1 hy with rfl|hy
  ·exact⟨x,by simp,h.1⟩
  ·obtain⟨x',h1,h2⟩:=ME.back h.2 y hy
   exact⟨x',List.mem_cons_of_mem _ h1,h2⟩
 |[],_ :: _,h,_,_=>h.elim
 |_ :: _,[],h,_,_=>h.elim
def allOld(since:Nat):List MapEntry->Bool
 |[]=>true
 |e :: es=>Nat.blt e.born since&&allOld since es
theorem ME.old{ρ:Ren}{since:Nat}:∀{a b:List MapEntry},ME ρ a b->allOld since a=true->∀y∈b,y.born<since
 |[],[],_,_,y,hy=>by cases hy
 |x :: a,z :: b,h,ho,y,hy=>by
  simp only[allOld,Bool.and_eq_true,Nat.blt_eq]at ho
  rcases List.mem_cons.1 hy with rfl|hy
  ·rw[<-h.1.2.2];exact ho.1
  ·exact ME.old h.2 ho.2 y hy
 |[],_ :: _,h,_,_,_=>h.elim
 |_ :: _,[],h,_,_,_=>h.elim
def stepTup(e:MapEntry):Value:=.tuple ⟨[.bool true,e.key,e.val]⟩
def stepSt(U:St)(b m since:Nat)(seen:List Nat)(clock:Nat)(e:MapEntry):St:=U.set b (.mapIter (some m) since ⟨seen++[e.born]⟩ clock)
theorem next_any{o:Oper}{ts:List Value}{U:St}{it:Operand}{b m since last clock:Nat}{seen:List Nat}{es:List MapEntry}(ho:o.op=.next it false)(hx:ev ts it=some (.pointer (some ⟨b,0,none⟩)))
  (hb:U.get b=some (.mapIter (some m) since ⟨seen⟩ last)) (hm:U.get m=some (.map es clock)) (hold:allOld since es=true) (hsc:since<=last) (hne:leftE seen es≠[]) {ρ:Ren} {w:World} {a:Act} (hw:WR ρ U w.heap) (hts:VRL ρ ts a.tmps.toList):
  ∃e∈leftE seen es,∃v' w',(execOp a.eval o).run P w=.ok (.value v') w'/\VR ρ (stepTup e) v'/\Aft ρ U w ρ (stepSt U b m since seen clock e) w':=by
 have hv:=ev_VR hts hx
 generalize he:a.eval it=xv at hv
 cases hv with
 |ptr hl=>
  rename_i l
  obtain⟨h0,m',h1,h2⟩:=hw.obj b l _ hl hb
  cases h2 with
  |map hlm=>
   rename_i lm
   obtain⟨es',h3,h4⟩:=hw.obj m lm _ hlm hm
   have hL:=ME.left (seen:=seen) h4
   have hlive:U.get b≠none:=by rw[hb];simp
   have hlt:l.block<w.heap.size:=(hw.dom b l hl).2
   rcases run_next_at (P:=P) w o.type l.block lm.block since last ⟨seen⟩ es' clock h1 h3 (h4.old hold) hsc with⟨hz,_⟩|⟨e',he',w1,hw1,hrun⟩
   ·exfalso
    apply hne
    have:(leftOf es' ⟨seen⟩).toList=[]:=by
     have:=hz
     rw[<-Array.length_toList]at this
     exact List.eq_nil_of_length_eq_zero this
    unfold leftOf at this
    rw[Array.toList_filter]at this
    have h5:List.filter (λe=>!(seen.contains e.born)) es'.toList=[]:=by simpa using this
    rw[h5]at hL
    cases hq:leftE seen es with
    |nil=>rfl
    |cons x xs=>rw[hq]at hL;exact hL.elim
   ·unfold leftOf at he'
    rw[Array.toList_filter]at he'
    have h5:e'∈List.filter (λe=>!(seen.contains e.born)) es'.toList:=by simpa using he'
    obtain⟨e,hel,hk,hvv,hbn⟩:=hL.back e' h5
    have hw1h:w1.heap=w.heap/\w1.tape=w.tape/\w1.os=w.os/\w1.output=w.output:=by rcases hw1 with rfl|rfl<;>exact⟨rfl,rfl,rfl,rfl⟩
    let ob:Obj:=.mapIter (some lm.block) since ((⟨seen⟩:Array Nat).push e'.born) clock
    have hex:(execOp a.eval o).run P w=.ok (.value (.tuple ⟨[.bool true,e'.key,e'.val]⟩)) (ChangeMaps.setBlock w1 l.block ob):=by
     simp [execOp,ho,he,h0,hrun,ob]
    refine⟨e,hel,.tuple ⟨[.bool true,e'.key,e'.val]⟩,ChangeMaps.setBlock w1 l.block ob,hex,.tuple (.cons (.bool _) (.cons hk (.cons hvv .nil))),?_⟩
    refine Aft.put (o':=ob) hw hl hlive (hw.nofix hl hb (by simp)) ?_ ?_ ?_ ?_ ⟨h0,some lm.block,?_,.map hlm⟩
    ·unfold ChangeMaps.setBlock;simp only[hw1h.1]
    ·unfold ChangeMaps.setBlock;exact hw1h.2.1
    ·unfold ChangeMaps.setBlock;exact hw1h.2.2.1
    ·unfold ChangeMaps.setBlock;exact hw1h.2.2.2
    ·unfold ChangeMaps.setBlock
     simp [hw1h.1,hlt,hbn,ob]
theorem codeS.next{C:Cx}(hC:C.Ok P)(p:PureTab P){rnd:Bool}{id:Nat}{ops:Array Oper}{o:Oper}{rest:List Oper}{fr:Fr}{U:St}{Q:RR->Prop}{it:Operand}{b m since last clock:Nat}{seen:List Nat}{es:List MapEntry}
  (hops:ops=⟨o :: rest⟩) (hop:o.op=.next it false) (hg:o.guard=none) (hev:ev fr.ts it=some (.pointer (some ⟨b,0,none⟩))) (hb:U.get b=some (.mapIter (some m) since ⟨seen⟩ last)) (hm:U.get m=some (.map es clock)) (hold:allOld since es=true) (hsc:since<=last) (hne:leftE seen es≠[])
  (h:∀e∈leftE seen es,wOpsS C p (o :: rest) Q rest (fr.put o.dst (stepTup e)) (stepSt U b m since seen clock e) [b]):codeS P rnd (.region id ops false) fr U Q:=
 λro hro ρ w a hw hf=>wpIn_region (by
  subst hops
  obtain⟨e,he,v',w',hx,hv,hA⟩:=next_any (P:=P) hop hev hb hm hold hsc hne hw hf.ts
  have h3:=wOpsS_sound hC (ops:=⟨o :: rest⟩) (ro:=ro) rest _ _ _ (h e he) (logged_put _ _ _) 1 rfl ρ w' (a.put o.dst v') hA (hf.put o.dst hv)
  rw[List.range_eq_range']
  show wpOpsIn (fence ro) 0 P ⟨o :: rest⟩ _ (List.range' 0 (rest.length+1)) a w
  rw[List.range'_succ]
  have hwant:wantedA (o :: rest) o fr.ts=true:=by unfold wantedA;rw[hg]
  have hko:(⟨o :: rest⟩:Array Oper)[0]?=some o:=rfl
  simp only[wpOpsIn,hko,wanted_VR hf,hwant]
  rw[if_pos trivial]
  refine⟨λ_ _=>trivial,?_⟩
  show o.uponIn (fence ro) 0 P a _ _ ((o.semAt ro a.eval).run P w)
  rw[Oper.semAt_eq ro a.eval o (λc=>by rw[hop];simp),hx]
  exact h3)
theorem opNext_done{U:St}{b m since last clock:Nat}{seen:List Nat}{es:List MapEntry}(hb:U.get b=some (.mapIter (some m) since ⟨seen⟩ last))(hm:U.get m=some (.map es clock))(hl:leftE seen es=[])(hlt:∀e∈es,e.born<last):
  opNext U false (.pointer (some ⟨b,0,none⟩))=some (.val (.tuple ⟨[.bool false]⟩) [b,m]):=by
 have he:(!seen.isEmpty&&!es.isEmpty&&elderE last es)=false:=by
  cases es with
  |nil=>simp
  |cons e es=>
   have:=hlt e (by simp)
   have h2:Nat.ble last e.born=false:=by
    cases hq:Nat.ble last e.born with
    |false=>rfl
    |true=>have:=Nat.le_of_ble_eq_true hq;omega
   simp [elderE,h2]
 simp only[opNext,hb,hm,nextMap,he,hl,oneLeft]
theorem codeS.next_end{C:Cx}(hC:C.Ok P)(p:PureTab P){rnd:Bool}{id:Nat}{ops:Array Oper}{o:Oper}{rest:List Oper}{fr:Fr}{U:St}{Q:RR->Prop}{it:Operand}{b m since last clock:Nat}{seen:List Nat}{es:List MapEntry}
  (hops:ops=⟨o :: rest⟩) (hop:o.op=.next it false) (hg:o.guard=none) (hev:ev fr.ts it=some (.pointer (some ⟨b,0,none⟩))) (hb:U.get b=some (.mapIter (some m) since ⟨seen⟩ last)) (hm:U.get m=some (.map es clock)) (hl:leftE seen es=[]) (hlt:∀e∈es,e.born<last)
  (h:wOpsS C p (o :: rest) Q rest (fr.put o.dst (.tuple ⟨[.bool false]⟩)) U []):codeS P rnd (.region id ops false) fr U Q:=by
 subst hops
 refine codeS.region hC (p:=p) ?_
 show opsS p o.dst fr U [] (wOpsS C p (o :: rest) Q rest) Q (wantK C.T C.bodies o fr.ts U (wantedA (o :: rest) o fr.ts))
 have hwant:wantedA (o :: rest) o fr.ts=true:=by unfold wantedA;rw[hg]
 rw[hwant]
 have hs:stepOp C.T C.bodies o fr.ts U=some (.val (.tuple ⟨[.bool false]⟩) [b,m]):=by
  unfold stepOp
  rw[hop]
  simp only[hev]
  exact opNext_done hb hm hl hlt
 show opsS p o.dst fr U [] _ Q (stepOp C.T C.bodies o fr.ts U)
 rw[hs]
 exact h
theorem hasN_append(seen:List Nat)(b n:Nat):hasN (seen++[b]) n=(hasN seen n || Nat.beq n b):=by
 rw[hasN_eq,hasN_eq,Bool.eq_iff_iff]
 simp only[List.contains_iff_mem,List.mem_append,List.mem_singleton,Bool.or_eq_true,Nat.beq_eq]
theorem leftE_mem{seen:List Nat}{e:MapEntry}:∀{es:List MapEntry},e∈leftE seen es->e∈es/\hasN seen e.born=false
 |[],h=>by cases h
 |x :: es,h=>by
  unfold leftE at h
  split at h
  ·obtain⟨a,b⟩:=leftE_mem h;exact⟨List.mem_cons_of_mem _ a,b⟩
  ·rename_i hn
   rcases List.mem_cons.1 h with rfl|h
   ·exact⟨by simp,hn⟩
   ·obtain⟨a,b⟩:=leftE_mem h;exact⟨List.mem_cons_of_mem _ a,b⟩
theorem leftE_same{seen:List Nat}{b:Nat}:∀{es:List MapEntry},(∀x∈es,x.born≠b)->leftE (seen++[b]) es=leftE seen es
 |[],_=>rfl
 |x :: es,h=>by
  have h1:Nat.beq x.born b=false:=by
   cases hq:Nat.beq x.born b with
   |false=>rfl
   |true=>exact absurd (Nat.eq_of_beq_eq_true hq) (h x (by simp))
  unfold leftE
  rw[hasN_append,h1,Bool.or_false,leftE_same λy hy=>h y (List.mem_cons_of_mem _ hy)]
theorem leftE_step{seen:List Nat}{e:MapEntry}:∀{es:List MapEntry},es.Pairwise (λa b=>a.born<b.born)->e∈leftE seen es->(leftE seen es).Perm (e :: leftE (seen++[e.born]) es)
 |[],_,h=>by cases h
 |x :: es,hp,h=>by
  obtain⟨hx,hp'⟩:=List.pairwise_cons.1 hp
  by_cases hxe:x=e
  ·subst hxe
   have hn:=(leftE_mem h).2
   have e1:leftE seen (x :: es)=x :: leftE seen es:=by
    show(match hasN seen x.born with|true=>leftE seen es|false=>x :: leftE seen es)=_
    rw[hn]
   have e2:leftE (seen++[x.born]) (x :: es)=leftE seen es:=by
    show(match hasN (seen++[x.born]) x.born with|true=>leftE (seen++[x.born]) es|false=>x :: leftE (seen++[x.born]) es)=_
    rw[hasN_append,hn]
    have:Nat.beq x.born x.born=true:=Nat.beq_refl _
    rw[this]
    exact leftE_same λy hy=>by have:=hx y hy;omega
   rw[e1,e2]
  ·have hem:e∈leftE seen es:=by
    unfold leftE at h
    split at h
    ·exact h
    ·rcases List.mem_cons.1 h with h|h
     ·exact absurd h.symm hxe
     ·exact h
   have hne:Nat.beq x.born e.born=false:=by
    have:=hx e (leftE_mem hem).1
    cases hq:Nat.beq x.born e.born with
    |false=>rfl
    |true=>have:=Nat.eq_of_beq_eq_true hq;omega
   have ih:=leftE_step hp' hem
   unfold leftE
   rw[hasN_append,hne,Bool.or_false]
   cases hasN seen x.born with
   |true=>exact ih
   |false=>exact(List.Perm.cons x ih).trans (List.Perm.swap e x _)
theorem findE_is{e:MapEntry}:∀{es:List MapEntry},es.Pairwise (λa b=>a.born<b.born)->e∈es->findE e.born es=some e
 |[],_,h=>by cases h
 |x :: es,hp,h=>by
  obtain⟨hx,hp'⟩:=List.pairwise_cons.1 hp
  unfold findE
  rcases List.mem_cons.1 h with rfl|h
  ·rw[Nat.beq_refl]
  ·have:Nat.beq x.born e.born=false:=by
    have:=hx e h
    cases hq:Nat.beq x.born e.born with
    |false=>rfl
    |true=>have:=Nat.eq_of_beq_eq_true hq;omega
   rw[this]
   exact findE_is hp' h
theorem opEntry_is{U:St}{b m since clock:Nat}{seen:List Nat}{es:List MapEntry}{e:MapEntry}(hb:U.get b=some (.mapIter (some m) since ⟨seen++[e.born]⟩ clock))(hm:U.get m=some (.map es clock))(hp:es.Pairwise (λa b=>a.born<b.born))(he:e∈es):
  opEntry U (.pointer (some ⟨b,0,none⟩))=some (.val (.tuple ⟨[e.key,e.val]⟩) [b,m]):=by
 have h1:lastN (seen++[e.born])=some e.born:=by rw[lastN_eq];simp
 have h2:Nat.beq clock clock=true:=Nat.beq_refl _
 simp only[opEntry,hb,hm,h1,h2,findE_is hp he]
end Go.Ab
namespace Go.Ab
open Go.Proofs
def stepW(I:Nat->Fr->St->Prop)(E:AX->Fr->St->Prop)(B:Nat->Prop)(n:Nat)(r:RR):Prop:=
 (∀c∈r.lg,B c)/\match r.x with
  |.norm=>∃m,m<n/\I m r.fr r.U
  |x=>E x r.fr r.U
def endL(E:AX->Fr->St->Prop)(B:Nat->Prop)(r:RR):Prop:=(∀c∈r.lg,B c)/\E r.x r.fr r.U
section eqs
variable {I:Nat->Fr->St->Prop} {E:AX->Fr->St->Prop} {B:Nat->Prop} {n:Nat} {fr:Fr} {U:St} {lg:Log}
theorem stepW_norm:stepW I E B n ⟨.norm,fr,U,lg⟩=((∀c∈lg,B c)/\∃m,m<n/\I m fr U):=(rfl)
theorem stepW_exit{i:Nat}:stepW I E B n ⟨.exit i,fr,U,lg⟩=((∀c∈lg,B c)/\E (.exit i) fr U):=(rfl)
theorem stepW_ret:stepW I E B n ⟨.ret,fr,U,lg⟩=((∀c∈lg,B c)/\E .ret fr U):=(rfl)
end eqs
theorem loop_ind(p:PureTab Tryz.prog)(f:FuncId){rnd:Bool}{b:Code}(hs:statAll (btAll f) b=true)(I:Nat->Fr->St->Prop)(E:AX->Fr->St->Prop)(B:Nat->Prop)
  (step:∀n fr U,I n fr U->wp (cP Tryz.prog) p (btAll f) rnd b fr U (stepW I E B n)):∀n fr U,I n fr U->loopX Tryz.prog rnd b fr U (endL E B):=by
 intro n
 induction n using Nat.strongRecOn with
 |_ n ih=>
  intro fr U hI
  obtain⟨r,h1,h2,h3⟩:=wp_sound cP_ok mixed b fr U _ hs (step n fr U hI)
  cases hx:r.x with
  |norm=>
   rw[hx]at h3
   obtain⟨m,hm,hI'⟩:=h3
   obtain⟨r',h4,h5,h6⟩:=ih m hm _ _ hI'
   refine⟨_,DL.next h1 hx h4,λc hc=>?_,h6⟩
   rcases List.mem_append.1 hc with h|h
   ·exact h2 c h
   ·exact h5 c h
  |exit i=>rw[hx]at h3;exact⟨_,DL.out h1 (by rw[hx];rfl),h2,by rw[hx];exact h3⟩
  |goto i=>rw[hx]at h3;exact⟨_,DL.out h1 (by rw[hx];rfl),h2,by rw[hx];exact h3⟩
  |ret=>rw[hx]at h3;exact⟨_,DL.out h1 (by rw[hx];rfl),h2,by rw[hx];exact h3⟩
  |panic ch=>rw[hx]at h3;exact⟨_,DL.out h1 (by rw[hx];rfl),h2,by rw[hx];exact h3⟩
theorem loop_then{rnd:Bool}{b:Code}{fr:Fr}{U:St}{E:AX->Fr->St->Prop}{B:Nat->Prop}{Q:RR->Prop}(h:loopX Tryz.prog rnd b fr U (endL E B))
  (k:∀x fr' U' lg,Logged U U' lg->(∀c∈lg,B c)->E x fr' U'->Q ⟨x,fr',U',lg⟩):loopX Tryz.prog rnd b fr U Q:=
 h.mono λr hl ⟨h1,h2⟩=>k r.x r.fr r.U r.lg hl h1 h2
attribute [go_sem] stepW_norm stepW_exit stepW_ret
end Go.Ab
namespace Go.Ab
open Go.Proofs
def q8:PureTab Tryz.prog:=⟨p8,p8_is⟩
def Ans(U:St)(v:Value)(e:AE)(U':St)(l:Log):Prop:=e=.ret v/\(∀c∈l,U.next<=c)/\U.next<=U'.next/\∀c,c<U.next->U'.get c=U.get c
theorem Ans.of{f:FuncId}{args:List Value}{U:St}{v:Value}(h:callX Tryz.prog f args U λe _ l=>e=.ret v/\∀c∈l,U.next<=c):callX Tryz.prog f args U (Ans U v):=
 h.use λ_ _ _ hl ⟨a,b⟩=>⟨a,b,hl.1,λc hc=>hl.2 c hc λhm=>by have:=b c hm;omega⟩
theorem callX.ret{f:FuncId}{args:List Value}{U:St}{v:Value}{R:St->Log->Prop}{K:AE->St->Log->Prop}(h:callX Tryz.prog f args U λe U' l=>e=.ret v/\R U' l)(k:∀U' l,Logged U U' l->R U' l->K (.ret v) U' l):callX Tryz.prog f args U K:=
 h.use λ_ U' l hl ⟨a,b⟩=>a▸k U' l hl b
theorem within_call(n a b:Int)(U:St):DCall Tryz.prog 74 [.int .i64 n,.int .i64 a,.int .i64 b] U (.ret (.bool (decide (a<=n)&&decide (n<=b)))) U []:=by
 refine pure_call (enter (p:=q8) Tryz.func74 rfl stat74 ?_) rfl
 by_cases h:a<=n
 ·simp only[go_sem,seval,opLen,Tryz.f74,Tryz.underlying2,info2,Tryz.t2,h]
 ·simp only[go_sem,seval,opLen,Tryz.f74,Tryz.underlying2,info2,Tryz.t2,h]
theorem whole_call'(n:Int)(U:St):DCall Tryz.prog 75 [.int .i64 n] U (.ret (.agg ⟨[.int .i64 n,.int .i64 1]⟩)) U []:=by
 refine pure_call (enter (p:=q8) Tryz.func75 rfl stat75 ?_) rfl
 simp only[go_sem,seval,opLen,Tryz.f75,Tryz.underlying2,info2,Tryz.t2,Tryz.underlying38,info38,Tryz.t38]
theorem told_call(n d:Int)(b:Bool)(U:St)(h1:0<=n)(h2:n<=9223372036854775807)(h3:0<=d)(h4:d<=9223372036854775807):DCall Tryz.prog 163 [.int .u64 n,.bool b,.int .u64 d] U (.ret (.agg ⟨[.int .i64 (if b then -n else n),.int .i64 d]⟩)) U []:=by
 have w1:IntKind.i64.wrap n=n:=by rw[IntKind.wrap_i64];omega
 have w2:IntKind.i64.wrap d=d:=by rw[IntKind.wrap_i64];omega
 have w3:IntKind.i64.wrap (0 - n)=-n:=by rw[IntKind.wrap_i64];omega
 refine pure_call (enter (p:=q8) Tryz.func163 rfl stat163 ?_) rfl
 simp only[go_sem,seval,opLen,callW,q8,p8,p7,p6,p5,p4,p3,p2,p1,Tryz.f163,h2,h4,Tryz.underlying2,info2,Tryz.t2,Tryz.underlying38,info38,Tryz.t38,Tryz.underlying47,info47,Tryz.t47,Tryz.underlying196,info196,Tryz.t196,body127,body181]
 refine enter (p:=q8) Tryz.func181 rfl stat181 ?_
 cases b
 ·simp only[go_sem,seval,opLen,callW,q8,p8,p7,p6,p5,p4,p3,p2,p1,Tryz.f181,h2,h4,w1,w2,w3,Tryz.underlying2,info2,Tryz.t2,Tryz.underlying4,info4,Tryz.t4,Tryz.underlying38,info38,Tryz.t38,Tryz.underlying47,info47,Tryz.t47,Tryz.underlying196,info196,Tryz.t196,body127,body181]
 ·simp only[go_sem,seval,opLen,callW,q8,p8,p7,p6,p5,p4,p3,p2,p1,Tryz.f181,h2,h4,w1,w2,w3,Tryz.underlying2,info2,Tryz.t2,Tryz.underlying4,info4,Tryz.t4,Tryz.underlying38,info38,Tryz.t38,Tryz.underlying47,info47,Tryz.t47,Tryz.underlying196,info196,Tryz.t196,body127,body181]
theorem gcd_div{n d:Int}(hn:0<=n)(hd:0<d):0<(Int.gcd n d:Int)/\0<=n / (Int.gcd n d:Int)/\n / (Int.gcd n d:Int)<=n/\0<=d / (Int.gcd n d:Int)/\d / (Int.gcd n d:Int)<=d:=by
 have hg:0<(Int.gcd n d:Int):=by
  have:=Int.gcd_pos_of_ne_zero_right n (show d≠0 by omega)
  omega
 refine⟨hg,Int.ediv_nonneg hn (by omega),Int.ediv_le_self _ hn,Int.ediv_nonneg (by omega) (by omega),Int.ediv_le_self _ (by omega)⟩
theorem made_call(n d:Int)(b:Bool)(U:St)(h1:0<=n)(h2:n<=9223372036854775807)(h3:0<d)(h4:d<=9223372036854775807):
  DCall Tryz.prog 128 [.int .u64 n,.bool b,.int .u64 d] U (.ret (.agg ⟨[.int .i64 (if b then -(n / (Int.gcd n d:Int)) else n / (Int.gcd n d:Int)),.int .i64 (d / (Int.gcd n d:Int))]⟩)) U []:=by
 obtain⟨g0,a1,a2,a3,a4⟩:=gcd_div h1 h3
 have o1:okU n=true:=by simp [okU];omega
 have o2:okU d=true:=by simp [okU];omega
 have gne:¬(Int.gcd n d:Int)=0:=by omega
 have t1:n.tdiv (Int.gcd n d:Int)=n / (Int.gcd n d:Int):=Int.tdiv_eq_ediv_of_nonneg h1
 have t2:d.tdiv (Int.gcd n d:Int)=d / (Int.gcd n d:Int):=Int.tdiv_eq_ediv_of_nonneg (by omega)
 have w1:IntKind.u64.wrap (n / (Int.gcd n d:Int))=n / (Int.gcd n d:Int):=by rw[IntKind.wrap_u64];omega
 have w2:IntKind.u64.wrap (d / (Int.gcd n d:Int))=d / (Int.gcd n d:Int):=by rw[IntKind.wrap_u64];omega
 refine pure_call (enter (p:=q8) Tryz.func128 rfl stat128 ?_) rfl
 simp only[go_sem,seval,opLen,callW,q8,p8,p7,p6,p5,p4,p3,p2,p1,Tryz.f128,o1,o2,gne,t1,t2,w1,w2,Tryz.underlying2,info2,Tryz.t2,Tryz.underlying4,info4,Tryz.t4,Tryz.underlying38,info38,Tryz.t38,Tryz.underlying47,info47,Tryz.t47,Tryz.underlying196,info196,Tryz.t196,body162,body163]
 refine .of (told_call _ _ _ _ a1 (by omega) a3 (by omega)) ?_
 simp only[go_sem,seval,opLen,Tryz.f128,Tryz.underlying2,info2,Tryz.t2,Tryz.underlying4,info4,Tryz.t4,Tryz.underlying38,info38,Tryz.t38,Tryz.underlying47,info47,Tryz.t47,Tryz.underlying196,info196,Tryz.t196]
theorem try_rat{g:FuncId}{ys:List Value}{n d:Int}{U:St}(hg:(cP Tryz.prog).bodies g=true)
  (H:callX Tryz.prog g ys ((U.new (.cells [.int .i64 0,.int .i64 0] false)).new (.cells [.int .i64 0] false)) (Ans ((U.new (.cells [.int .i64 0,.int .i64 0] false)).new (.cells [.int .i64 0] false)) (.agg ⟨[.int .i64 n,.int .i64 d]⟩))):
  DCall Tryz.prog 125 [.func (.func g) ⟨[]⟩ ⟨ys⟩] U (.ret (.tuple ⟨[.agg ⟨[.int .i64 n,.int .i64 d]⟩,.int .i64 0]⟩)) U []:=by
 refine pure_call (callX.enterD (p:=q0) cP_ok mixed Tryz.func125 rfl stat125 ?_) rfl
 simp only[go_sem,seval,opLen,callW,q0,Tryz.f125,hg,Tryz.underlying1,info1,Tryz.t1,Tryz.underlying3,info3,Tryz.t3,Tryz.underlying38,info38,Tryz.t38,Tryz.underlying47,info47,Tryz.t47,Tryz.underlying214,info214,Tryz.t214,body161]
 refine callX.ret H ?_
 intro U' l hl ⟨h1,h2,h3⟩
 simp only[St.next_new]at h1 h2 h3
 have g0:=h3 U.next (by omega)
 have g1:=h3 (U.next+1) (by omega)
 simp only[go_sem,seval,opLen,Tryz.f125,Tryz.underlying1,info1,Tryz.t1,Tryz.underlying3,info3,Tryz.t3,Tryz.underlying38,info38,Tryz.t38,Tryz.underlying47,info47,Tryz.t47,Tryz.underlying214,info214,Tryz.t214]at g0 g1
 simp only[go_sem,seval,opLen,Tryz.f125,g0,g1,Tryz.underlying1,info1,Tryz.t1,Tryz.underlying3,info3,Tryz.t3,Tryz.underlying38,info38,Tryz.t38,Tryz.underlying47,info47,Tryz.t47,Tryz.underlying214,info214,Tryz.t214]
 refine .cons has161 (.recover (p:=q0) (bt:=btAll 161) cP_ok mixed Tryz.func161 rfl rfl rfl (by kernel_rfl) ?_)
 simp only[go_sem,seval,opLen,Tryz.f161,Tryz.underlying1,info1,Tryz.t1,Tryz.underlying3,info3,Tryz.t3,Tryz.underlying20,info20,Tryz.t20,Tryz.underlying38,info38,Tryz.t38,Tryz.underlying47,info47,Tryz.t47,Tryz.underlying214,info214,Tryz.t214]
 refine .ret cP_ok (by simp only[go_sem,seval,opLen,Tryz.underlying1,info1,Tryz.t1,Tryz.underlying3,info3,Tryz.t3,Tryz.underlying20,info20,Tryz.t20,Tryz.underlying38,info38,Tryz.t38,Tryz.underlying47,info47,Tryz.t47,Tryz.underlying214,info214,Tryz.t214]<;>rfl) ?_
 simp only[go_sem,seval,opLen]
 intro c hc
 rcases hc with(hc|hc)|hc
 ·have:=h1 c hc;omega
 ·omega
 ·omega
variable {P:Program}
def blockOf:Code->Code
 |.block _ b=>b
 |c=>c
def dropC:Nat->Code->Code
 |n+1,.seq _ b=>dropC n b
 |_,c=>c
def loopOb(st:LoopState)(j:Option Code)(ts:List Value)(ps:Array Tmp)(a b:Code)(d:Nat):AObj:=.loop {state:=st,pending:=j,fn:=0,tmps:=⟨ts⟩,params:=ps,assign:=a,body:=b,defers:=d}
def endRW(l:Nat)(ts:List Value)(ps:Array Tmp)(a b:Code)(d:Nat)(K:AE->St->Log->Prop)(lg:Log)(r:RR):Prop:=
 r.U.get l=some (loopOb .busy none ts ps a b d)/\match jumpOf r.x with
  |some j=>K (.ret (.bool j.isNone)) (r.U.set l (loopOb (readyIf j) j ts ps a b d)) (lg++([l]++(r.lg++[l])))
  |none=>False
def midRW(C:Cx)(p:PureTab P)(bt:Nat->List Nat)(l:Nat)(ts:List Value)(ps:Array Tmp)(a b:Code)(d:Nat)(K:AE->St->Log->Prop)(r:RR):Prop:=
 match r.x with
 |.norm=>r.U.get l=some (loopOb .ready none ts ps a b d)/\wp C p bt true b r.fr (r.U.set l (loopOb .busy none ts ps a b d)) (endRW l ts ps a b d K r.lg)
 |_=>False
theorem roundX.enter{C:Cx}{p:PureTab P}(hC:C.Ok P)(hm:P.follows .mixedOrders=true){bt:Nat->List Nat}{l:Nat}{ts:List Value}{ps:Array Tmp}{a b:Code}{d:Nat}{args:List Value}{U:St}{K:AE->St->Log->Prop}
  (hg:U.get l=some (loopOb .ready none ts ps a b d)) (hn:args.length=ps.size) (ha:statAll bt a=true) (hb:statAll bt b=true)
  (h:wp C p bt true a ⟨roundTs ts ps.toList args,[]⟩ U (midRW C p bt l ts ps a b d K)):roundX P l args U K:=by
 obtain⟨r,h1,h2⟩:=wp_sound hC hm a _ _ _ ha h
 unfold midRW at h2
 split at h2
 ·rename_i hx
  obtain⟨h3,h4⟩:=h2
  obtain⟨r',h5,h6,h7⟩:=wp_sound hC hm b _ _ _ hb h4
  split at h7
  ·rename_i j hj
   obtain⟨x,fr₁,U₁,lg₁⟩:=r
   obtain⟨x',fr₃,U₃,lg₃⟩:=r'
   simp only at hx h3 h5 h6 h7 hj
   subst hx
   exact⟨_,_,_,DRound.of_code hg hn h1 h3 rfl h5 h6 hj,h7⟩
  ·exact h7.elim
 ·exact h2.elim
theorem midRW.mk{C:Cx}{p:PureTab P}{bt:Nat->List Nat}{l:Nat}{ts:List Value}{ps:Array Tmp}{a b:Code}{d:Nat}{K:AE->St->Log->Prop}{fr:Fr}{U:St}{lg:Log}(h1:U.get l=some (loopOb .ready none ts ps a b d))
  (h2:wp C p bt true b fr (U.set l (loopOb .busy none ts ps a b d)) (endRW l ts ps a b d K lg)):midRW C p bt l ts ps a b d K ⟨.norm,fr,U,lg⟩:=⟨h1,h2⟩
theorem endRW_norm{l:Nat}{ts:List Value}{ps:Array Tmp}{a b:Code}{d:Nat}{K:AE->St->Log->Prop}{fr:Fr}{U:St}{lg lg':Log}:
  endRW l ts ps a b d K lg ⟨.norm,fr,U,lg'⟩=(U.get l=some (loopOb .busy none ts ps a b d)/\K (.ret (.bool true)) (U.set l (loopOb .ready none ts ps a b d)) (lg++([l]++(lg'++[l])))):=(rfl)
def rangeK(fr:Fr)(m:Nat)(ps:Array Tmp)(a b:Code)(Q:RR->Prop)(e:AE)(U':St)(lg:Log):Prop:=
 match e with
 |.ret _=>∃st j x,U'.get (m+1)=some (loopOb st j fr.ts ps a b m)/\isBusy st=false/\pendingX j=some x/\Q ⟨x,{fr with ds:=markOf m :: fr.ds},U'.set (m+1) (loopOb .exhausted j fr.ts ps a b m),lg++[m+1]⟩
 |.panic c=>Q ⟨.panic c,{fr with ds:=markOf m :: fr.ds},U',lg⟩
theorem rangeX.of{C:Cx}(hC:C.Ok P){g:Operand}{ps:Array Tmp}{a b:Code}{fr:Fr}{U:St}{Q:RR->Prop}{f:FuncId}{xs ys:List Value}(hev:ev fr.ts g=some (.func (.func f) ⟨xs⟩ ⟨ys⟩))(hb:C.bodies f=true)
  (h:callX P f (xs++[.func (.yield (U.next+1)) #[] #[]]++ys) ((U.new (.deferred false)).new (loopOb .ready none fr.ts ps a b U.next)) (rangeK fr U.next ps a b Q)):rangeX P false g ps a b fr U Q:=by
 obtain⟨e,U',lg,hd,hk⟩:=h
 have hone:=Orc.one_call Orc.none f (xs++[.func (.yield (U.next+1)) #[] #[]]++ys) (rangeSt 0 ps a b fr.ts U) (e,U',lg)
 have hok:(Orc.none.one f (xs++[.func (.yield (U.next+1)) #[] #[]]++ys) (rangeSt 0 ps a b fr.ts U) (e,U',lg)).Ok P:=Orc.one_ok Orc.none_ok hd
 cases e with
 |ret v=>
  obtain⟨st,j,x,h1,h2,h3,h4⟩:=hk
  refine⟨_,DC.rangeFunc hC hok (me:=0) (r:=_) ?_,h4⟩
  unfold rangeR
  rw[hev]
  simp only[hb,hone,rangeEnd,h1,loopOb,rangeFin,h2,h3]
 |panic c=>
  refine⟨_,DC.rangeFunc hC hok (me:=0) (r:=_) ?_,hk⟩
  unfold rangeR
  rw[hev]
  simp only[hb,hone,rangeEnd]
theorem leaveX.collected{fn:Func}{ts:List Value}{ds:List Deferred}{r:Nat}{u:AM}{U:St}{K:AE->St->Log->Prop}(hr:U.get r=some (.deferred false))(h:leaveX P fn ts ds u (U.set r (.deferred true)) (preK [r] K)):leaveX P fn ts (markOf r :: ds) u U K:=by
 obtain⟨e,U',l,h1,h2⟩:=h
 exact⟨_,_,_,DLeave.collected hr h1,h2⟩
structure Hide(p:Prop):Prop where
 out:p
theorem callX.hid{f:FuncId}{args:List Value}{U:St}{v:Value}{R:St->Log->Prop}{K:AE->St->Log->Prop}(h:callX Tryz.prog f args U λe U' l=>e=.ret v/\R U' l)(k:∀U' l,Logged U U' l->R U' l->Hide (K (.ret v) U' l)):callX Tryz.prog f args U K:=
 callX.ret h λU' l h1 h2=>(k U' l h1 h2).out
theorem roundX.hid{y:Nat}{args:List Value}{U:St}{v:Value}{R:St->Log->Prop}{K:AE->St->Log->Prop}(h:roundX Tryz.prog y args U λe U' l=>e=.ret v/\R U' l)(k:∀U' l,Logged U U' l->R U' l->Hide (K (.ret v) U' l)):roundX Tryz.prog y args U K:=by
 obtain⟨e,U',l,d,rfl,hr⟩:=h
 exact⟨_,_,_,d,(k U' l d.1 hr).out⟩
theorem callX.hidE{f:FuncId}{args:List Value}{U:St}{R:AE->St->Log->Prop}{K:AE->St->Log->Prop}(h:callX Tryz.prog f args U R)(k:∀e U' l,Logged U U' l->R e U' l->Hide (K e U' l)):callX Tryz.prog f args U K:=
 callX.use h λe U' l h1 h2=>(k e U' l h1 h2).out
attribute [go_sem] endRW_norm
end Go.Ab
namespace Go.Ab
open Go.Proofs
variable {P:Program}
def wpS(C:Cx)(p:PureTab P)(bt:Nat->List Nat)(rnd:Bool):Code->Fr->St->(RR->Prop)->Prop
 |.skip,fr,U,Q=>Q ⟨.norm,fr,U,[]⟩
 |.label _,fr,U,Q=>Q ⟨.norm,fr,U,[]⟩
 |.exit i,fr,U,Q=>Q ⟨.exit i,fr,U,[]⟩
 |.ret,fr,U,Q=>Q ⟨.ret,fr,U,[]⟩
 |.seq a b,fr,U,Q=>wpS C p bt rnd a fr U (thenW (wpS C p bt rnd b) Q)
 |.cond c a b,fr,U,Q=>condW (wpS C p bt rnd a fr U Q) (wpS C p bt rnd b fr U Q) (ev fr.ts c)
 |.block id b,fr,U,Q=>wpS C p bt rnd b fr U (blockW id Q)
 |.region _ ops false,fr,U,Q=>wOpsS C p ops.toList Q ops.toList fr U []
 |.region id ops true,fr,U,Q=>regW C p rnd true (bt id) ops fr U Q
 |.loop b,fr,U,Q=>loopS P rnd b fr U Q
 |_,_,_,_=>False
theorem wpS_sound{C:Cx}{p:PureTab P}(hC:C.Ok P)(hm:P.follows .mixedOrders=true){bt:Nat->List Nat}{rnd:Bool}:∀(c:Code) (fr:Fr) (U:St) (Q:RR->Prop),statAll bt c=true->wpS C p bt rnd c fr U Q->codeS P rnd c fr U Q:=by
 intro c
 induction c with
 |skip=>intro fr U Q hs h;exact codeS.of_wp hC hm (p:=p) hs h
 |label l=>intro fr U Q hs h;exact codeS.of_wp hC hm (p:=p) hs h
 |exit i=>intro fr U Q hs h;exact codeS.of_wp hC hm (p:=p) hs h
 |ret=>intro fr U Q hs h;exact codeS.of_wp hC hm (p:=p) hs h
 |seq a b iha ihb=>
  intro fr U Q hs h
  simp only[statAll,Bool.and_eq_true]at hs
  exact codeS.seq ((iha _ _ _ hs.1 h).mono λr _ hr=>thenW_mono (λfr U Q h=>ihb fr U Q hs.2 h) hr)
 |cond c a b iha ihb=>
  intro fr U Q hs h
  simp only[statAll,Bool.and_eq_true]at hs
  simp only[wpS]at h
  unfold condW at h
  split at h
  ·rename_i t hc
   refine codeS.cond hc ?_
   cases t with
   |true=>exact iha _ _ _ hs.1 (by simpa using h)
   |false=>exact ihb _ _ _ hs.2 (by simpa using h)
  ·exact h.elim
 |block id b ih=>intro fr U Q hs h;exact codeS.block (ih _ _ _ hs h)
 |region id ops draw=>
  intro fr U Q hs h
  cases draw with
  |false=>exact codeS.region hC h
  |true=>exact codeS.of_wp hC hm (p:=p) hs h
 |loop b=>intro fr U Q _ h;exact codeS.loop h
 |_=>intro fr U Q _ h;exact h.elim
section eqs
variable {C:Cx} {p:PureTab P} {bt:Nat->List Nat} {rnd:Bool} {fr:Fr} {U:St} {Q:RR->Prop}
theorem wpS_skip:wpS C p bt rnd .skip fr U Q=Q ⟨.norm,fr,U,[]⟩:=(rfl)
theorem wpS_exit{i:Nat}:wpS C p bt rnd (.exit i) fr U Q=Q ⟨.exit i,fr,U,[]⟩:=(rfl)
theorem wpS_ret:wpS C p bt rnd .ret fr U Q=Q ⟨.ret,fr,U,[]⟩:=(rfl)
theorem wpS_seq{a b:Code}:wpS C p bt rnd (.seq a b) fr U Q=wpS C p bt rnd a fr U (thenW (wpS C p bt rnd b) Q):=(rfl)
theorem wpS_cond{c:Operand}{a b:Code}:wpS C p bt rnd (.cond c a b) fr U Q=condW (wpS C p bt rnd a fr U Q) (wpS C p bt rnd b fr U Q) (ev fr.ts c):=(rfl)
theorem wpS_block{id:Nat}{b:Code}:wpS C p bt rnd (.block id b) fr U Q=wpS C p bt rnd b fr U (blockW id Q):=(rfl)
theorem wpS_ops{id:Nat}{ops:List Oper}:wpS C p bt rnd (.region id ⟨ops⟩ false) fr U Q=wOpsS C p ops Q ops fr U []:=(rfl)
theorem wpS_drawn{id:Nat}{ops:List Oper}:wpS C p bt rnd (.region id ⟨ops⟩ true) fr U Q=wDrawn C p ops (λts U' lg acc=>dynL (bt id) acc=true/\Q ⟨.norm,{fr with ts:=ts},U',lg⟩) ops 0 fr.ts U [] []:=(rfl)
theorem wpS_loop{b:Code}:wpS C p bt rnd (.loop b) fr U Q=loopS P rnd b fr U Q:=(rfl)
theorem wpS_congr{c:Code}{fr':Fr}{U':St}(h:fr=fr')(h':U=U'):wpS C p bt rnd c fr U Q=wpS C p bt rnd c fr' U' Q:=by rw[h,h']
theorem loopS_congr{b:Code}{fr':Fr}{U':St}(h:fr=fr')(h':U=U'):loopS P rnd b fr U Q=loopS P rnd b fr' U' Q:=by rw[h,h']
end eqs
attribute [go_sem] wpS_skip wpS_exit wpS_ret wpS_seq wpS_cond wpS_block wpS_ops wpS_drawn wpS_loop
attribute [congr] wpS_congr loopS_congr
theorem enterS{p:PureTab Tryz.prog}{f:FuncId}{fn:Func}{c:Code}{args:List Value}{U:St}{K:AE->St->Log->Prop}(hf:Tryz.prog.funcs[f]?=some fn)(hb:fn.body=some c)(hs:statAll (btAll f) c=true)
  (h:wpS (cP Tryz.prog) p (btAll f) false c (start args fn.ntmps) U (endW (cP Tryz.prog) fn.results.toList K)):callN Tryz.prog f args U K:=
 callN.enter cP_ok hf hb (wpS_sound cP_ok mixed c _ _ _ hs h)
theorem loopS.mono{c:Code}{rnd:Bool}{fr:Fr}{U:St}{S S':RR->Prop}(h:loopS P rnd c fr U S)(k:∀r,Logged U r.U r.lg->S r->S' r):loopS P rnd c fr U S':=GS.mono (loop_mono c) h k
theorem loop_indS(p:PureTab Tryz.prog)(f:FuncId){rnd:Bool}{b:Code}(hs:statAll (btAll f) b=true)(I:Nat->Fr->St->Prop)(E:AX->Fr->St->Prop)(B:Nat->Prop)
  (step:∀n fr U,I n fr U->wpS (cP Tryz.prog) p (btAll f) rnd b fr U (stepW I E B n)):∀n fr U,I n fr U->loopS Tryz.prog rnd b fr U (endL E B):=by
 intro n
 induction n using Nat.strongRecOn with
 |_ n ih=>
  intro fr U hI
  refine loopS.step ((wpS_sound cP_ok mixed b fr U _ hs (step n fr U hI)).mono λr _ hr=>?_)
  obtain⟨h2,h3⟩:=hr
  unfold thenW
  cases hx:r.x with
  |norm=>
   rw[hx]at h3
   obtain⟨m,hm,hI'⟩:=h3
   refine(ih m hm _ _ hI').mono λr' _ h=>⟨λc hc=>?_,h.2⟩
   rcases List.mem_append.1 hc with h4|h4
   ·exact h2 c h4
   ·exact h.1 c h4
  |exit i=>rw[hx]at h3;exact⟨h2,by rw[hx];exact h3⟩
  |goto i=>rw[hx]at h3;exact⟨h2,by rw[hx];exact h3⟩
  |ret=>rw[hx]at h3;exact⟨h2,by rw[hx];exact h3⟩
  |panic ch=>rw[hx]at h3;exact⟨h2,by rw[hx];exact h3⟩
theorem loop_thenS{rnd:Bool}{b:Code}{fr:Fr}{U:St}{E:AX->Fr->St->Prop}{B:Nat->Prop}{Q:RR->Prop}(h:loopS Tryz.prog rnd b fr U (endL E B))
  (k:∀x fr' U' lg,Logged U U' lg->(∀c∈lg,B c)->E x fr' U'->Q ⟨x,fr',U',lg⟩):loopS Tryz.prog rnd b fr U Q:=
 h.mono λr hl ⟨h1,h2⟩=>k r.x r.fr r.U r.lg hl h1 h2
theorem callN.hidE{f:FuncId}{args:List Value}{U:St}{R K:AE->St->Log->Prop}(h:callN Tryz.prog f args U R)(k:∀e U' l,Logged U U' l->R e U' l->Hide (K e U' l)):callN Tryz.prog f args U K:=
 callN.use h λe U' l h1 h2=>(k e U' l h1 h2).out
theorem callN.one{f:FuncId}{args:List Value}{U:St}{R K:AE->St->Log->Prop}(h:callX Tryz.prog f args U R)(k:∀e U' l,Logged U U' l->R e U' l->Hide (K e U' l)):callN Tryz.prog f args U K:=
 callN.hidE (callN.of h) k
theorem callN.d{f:FuncId}{args:List Value}{U U':St}{e:AE}{l:Log}{K:AE->St->Log->Prop}(d:DCall Tryz.prog f args U e U' l)(k:K e U' l):callN Tryz.prog f args U K:=callN.of (.of d k)
end Go.Ab
namespace Go.Ab
open Go.Proofs
def lkV:List MapEntry->Int->Option Value
 |[],_=>none
 |e :: es,k=>match e.key with
  |.int .i64 k'=>if k'=k then some e.val else lkV es k
  |_=>lkV es k
structure KI(es:List MapEntry):Prop where
 ints:∀e∈es,∃k,e.key=.int .i64 k
 nodup:es.Pairwise λa b=>a.key≠b.key
theorem KI.nil:KI []:=⟨λ_ h=>by simp at h,List.Pairwise.nil⟩
theorem KI.tail{e:MapEntry}{es:List MapEntry}(h:KI (e :: es)):KI es:=⟨λx hx=>h.ints x (by simp [hx]),(List.pairwise_cons.1 h.nodup).2⟩
theorem findV_none{T:TT}{kt:TypeId}{kk:IntKind}(hu:T.und kt=some (.int kk)){k:Int}:∀{es:List MapEntry} {i:Nat},KI es->lkV es k=none->findA T kt (.int .i64 k) es i=some none
 |[],_,_,_=>rfl
 |e :: es,i,h,hk=>by
  obtain⟨k',h1⟩:=h.ints e (by simp)
  simp only[lkV,h1]at hk
  split at hk
  ·cases hk
  ·rename_i hne
   have:(k==k')=false:=by
    simp only[beq_eq_false_iff_ne];rintro rfl;exact hne rfl
   simp only[findA,keyEq,h1,hu,if_true,this]
   exact findV_none hu h.tail hk
theorem findV_some{T:TT}{kt:TypeId}{kk:IntKind}(hu:T.und kt=some (.int kk)){k:Int}{v:Value}:∀{es:List MapEntry} {i:Nat},KI es->lkV es k=some v->∃j e,findA T kt (.int .i64 k) es i=some (some (i+j,e))/\e.val=v/\es[j]?=some e/\e.key=.int .i64 k
 |[],_,_,h=>by cases h
 |e :: es,i,h,hk=>by
  obtain⟨k',h1⟩:=h.ints e (by simp)
  simp only[lkV,h1]at hk
  split at hk
  ·rename_i he
   subst he
   cases hk
   refine⟨0,e,?_,rfl,rfl,h1⟩
   simp [findA,keyEq,h1,hu]
  ·rename_i hne
   have:(k==k')=false:=by
    simp only[beq_eq_false_iff_ne];rintro rfl;exact hne rfl
   obtain⟨j,e',a1,a2,a3,a4⟩:=findV_some hu (i:=i+1) h.tail hk
   refine⟨j+1,e',?_,a2,by simpa using a3,a4⟩
   simp only[findA,keyEq,h1,hu,if_true,this,a1]
   congr 3
   omega
theorem lkV_none_key{k:Int}:∀{es:List MapEntry},KI es->lkV es k=none->∀e∈es,e.key≠.int .i64 k
 |[],_,_,_,h=>by cases h
 |x :: es,h,hk,e,he=>by
  obtain⟨k',h1⟩:=h.ints x (by simp)
  simp only[lkV,h1]at hk
  split at hk
  ·cases hk
  ·rename_i hne
   rcases List.mem_cons.1 he with rfl|he
   ·rw[h1];intro e';simp only[Value.int.injEq,true_and]at e';exact hne e'
   ·exact lkV_none_key h.tail hk e he
theorem lkV_of_key{k:Int}:∀{es:List MapEntry},KI es->∀e∈es,e.key=.int .i64 k->lkV es k=some e.val
 |[],_,_,h,_=>by cases h
 |x :: es,h,e,he,hk=>by
  obtain⟨k',h1⟩:=h.ints x (by simp)
  simp only[lkV,h1]
  rcases List.mem_cons.1 he with rfl|he
  ·rw[h1]at hk;cases hk;rw[if_pos rfl]
  ·have hne:k'≠k:=λe'=>(List.pairwise_cons.1 h.nodup).1 e he (by rw[h1,hk,e'])
   rw[if_neg hne]
   exact lkV_of_key h.tail e he hk
theorem pushV_KI{es:List MapEntry}{k:Int}{v:Value}{c:Nat}(h:KI es)(hk:lkV es k=none):KI (pushE es ⟨.int .i64 k,v,c⟩):=by
 rw[pushE_eq]
 refine⟨λe he=>?_,?_⟩
 ·rcases List.mem_append.1 he with he|he
  ·exact h.ints e he
  ·simp only[List.mem_singleton]at he;subst he;exact⟨k,rfl⟩
 ·rw[List.pairwise_append]
  exact⟨h.nodup,by simp,λa ha b hb=>by simp only[List.mem_singleton]at hb;subst hb;exact lkV_none_key h hk a ha⟩
theorem pushV_lk{k:Int}{v:Value}{c:Nat}:∀{es:List MapEntry},KI es->lkV es k=none->∀k',lkV (pushE es ⟨.int .i64 k,v,c⟩) k'=if k'=k then some v else lkV es k'
 |[],_,_,k'=>by
  simp only[pushE,lkV]
  by_cases e:k=k'
  ·subst e;simp
  ·rw[if_neg e,if_neg (Ne.symm e)]
 |x :: es,h,hk,k'=>by
  obtain⟨kx,h1⟩:=h.ints x (by simp)
  have hne:kx≠k:=λe=>lkV_none_key h hk x (by simp) (by rw[h1,e])
  have hk':lkV es k=none:=by
   simp only[lkV,h1,if_neg hne]at hk;exact hk
  simp only[pushE,lkV,h1]
  rw[pushV_lk h.tail hk' k']
  by_cases e:kx=k'
  ·subst e;rw[if_pos rfl,if_neg hne,if_pos rfl]
  ·rw[if_neg e,if_neg e]
theorem pushV_length{es:List MapEntry}{x:MapEntry}:(pushE es x).length=es.length+1:=by rw[pushE_eq];simp
theorem modV_keys{k:Int}{v:Value}{l:List MapEntry}:∀{i:Nat} {z:MapEntry},l[i]?=some z->z.key=.int .i64 k->∀y∈modE l i (.int .i64 k) v,∃z∈l,z.key=y.key:=by
 induction l with
 |nil=>intro i z h;simp at h
 |cons w l ih=>
  intro i z hz hzk y hy
  cases i with
  |zero=>
   simp only[List.getElem?_cons_zero,Option.some.injEq]at hz
   subst hz
   simp only[modE,List.mem_cons]at hy
   rcases hy with rfl|hy
   ·exact⟨w,by simp,hzk⟩
   ·exact⟨y,by simp [hy],rfl⟩
  |succ i=>
   simp only[List.getElem?_cons_succ]at hz
   simp only[modE,List.mem_cons]at hy
   rcases hy with rfl|hy
   ·exact⟨y,by simp,rfl⟩
   ·obtain⟨z',a1,a2⟩:=ih hz hzk y hy
    exact⟨z',by simp [a1],a2⟩
theorem modV_KI{k:Int}{v:Value}:∀{es:List MapEntry} {j:Nat} {e:MapEntry},KI es->es[j]?=some e->e.key=.int .i64 k->
  KI (modE es j (.int .i64 k) v)/\∀k',lkV (modE es j (.int .i64 k) v) k'=if k'=k then some v else lkV es k'
 |[],_,_,_,h,_=>by simp at h
 |x :: es,0,e,h,he,hk=>by
  simp only[List.getElem?_cons_zero,Option.some.injEq]at he
  subst he
  simp only[modE]
  refine⟨⟨λy hy=>?_,?_⟩,λk'=>?_⟩
  ·rcases List.mem_cons.1 hy with rfl|hy
   ·exact⟨k,rfl⟩
   ·exact h.ints y (by simp [hy])
  ·have:=List.pairwise_cons.1 h.nodup
   refine List.pairwise_cons.2 ⟨λy hy=>?_,this.2⟩
   have:=this.1 y hy
   rw[hk]at this;exact this
  ·simp only[lkV,hk]
   by_cases e:k=k'
   ·subst e;simp
   ·rw[if_neg e,if_neg (Ne.symm e),if_neg e]
 |x :: es,j+1,e,h,he,hk=>by
  simp only[List.getElem?_cons_succ]at he
  obtain⟨a,b⟩:=modV_KI h.tail he hk (v:=v)
  obtain⟨kx,h1⟩:=h.ints x (by simp)
  have hm:e∈es:=List.mem_of_getElem? he
  have hne:kx≠k:=λe'=>(List.pairwise_cons.1 h.nodup).1 e hm (by rw[h1,hk,e'])
  simp only[modE]
  refine⟨⟨λy hy=>?_,List.pairwise_cons.2 ⟨λy hy hkey=>?_,a.nodup⟩⟩,λk'=>?_⟩
  ·rcases List.mem_cons.1 hy with rfl|hy
   ·exact⟨kx,h1⟩
   ·exact a.ints y hy
  ·obtain⟨z,hz,hzk⟩:=modV_keys he hk y hy
   exact(List.pairwise_cons.1 h.nodup).1 z hz (by rw[hzk];exact hkey)
  ·simp only[lkV,h1,b k']
   by_cases e:kx=k'
   ·subst e;rw[if_pos rfl,if_neg hne,if_pos rfl]
   ·rw[if_neg e,if_neg e]
theorem delE_sub:∀{l:List MapEntry} {i:Nat},∀y∈delE l i,y∈l:=by
 intro l
 induction l with
 |nil=>intro i y hy;cases hy
 |cons w l ih=>
  intro i y hy
  cases i with
  |zero=>simp only[delE]at hy;simp [hy]
  |succ i=>
   simp only[delE,List.mem_cons]at hy
   rcases hy with rfl|hy
   ·simp
   ·simp [ih y hy]
theorem delV_KI{k:Int}:∀{es:List MapEntry} {j:Nat} {e:MapEntry},KI es->es[j]?=some e->e.key=.int .i64 k->
  KI (delE es j)/\∀k',lkV (delE es j) k'=if k'=k then none else lkV es k'
 |[],_,_,_,h,_=>by simp at h
 |x :: es,0,e,h,he,hk=>by
  simp only[List.getElem?_cons_zero,Option.some.injEq]at he
  subst he
  simp only[delE]
  refine⟨h.tail,λk'=>?_⟩
  simp only[lkV,hk]
  by_cases e:k=k'
  ·subst e
   rw[if_pos rfl]
   cases hl:lkV es k with
   |none=>rfl
   |some v=>
    obtain⟨j,y,_,_,hy,hyk⟩:=findV_some (T:=⟨λ_=>some {(default:TypeInfo) with desc:=.int .i64},λ_=>none,λ_=>none⟩) (kt:=0) (kk:=.i64) rfl (i:=0) h.tail hl
    exact absurd (hk.trans hyk.symm) ((List.pairwise_cons.1 h.nodup).1 y (List.mem_of_getElem? hy))
  ·rw[if_neg (Ne.symm e),if_neg e]
 |x :: es,j+1,e,h,he,hk=>by
  simp only[List.getElem?_cons_succ]at he
  obtain⟨a,b⟩:=delV_KI h.tail he hk
  obtain⟨kx,h1⟩:=h.ints x (by simp)
  have hm:e∈es:=List.mem_of_getElem? he
  have hne:kx≠k:=λe'=>(List.pairwise_cons.1 h.nodup).1 e hm (by rw[h1,hk,e'])
  simp only[delE]
  refine⟨⟨λy hy=>?_,List.pairwise_cons.2 ⟨λy hy=>(List.pairwise_cons.1 h.nodup).1 y (delE_sub y hy),a.nodup⟩⟩,λk'=>?_⟩
  ·rcases List.mem_cons.1 hy with rfl|hy
   ·exact⟨kx,h1⟩
   ·exact a.ints y hy
  ·simp only[lkV,h1,b k']
   by_cases e:kx=k'
   ·subst e;rw[if_pos rfl,if_neg hne,if_pos rfl]
   ·rw[if_neg e,if_neg e]
theorem delV_length{es:List MapEntry}:∀{j:Nat} {e:MapEntry},es[j]?=some e->(delE es j).length+1=es.length:=by
 induction es with
 |nil=>intro j e h;simp at h
 |cons x es ih=>
  intro j e h
  cases j with
  |zero=>simp [delE]
  |succ j=>simp only[List.getElem?_cons_succ]at h;simp [delE,ih h]
def Br(es:List MapEntry)(ck:Nat):Prop:=es.Pairwise (λa b=>a.born<b.born)/\∀e∈es,e.born<ck
theorem Br.nil(ck:Nat):Br [] ck:=⟨List.Pairwise.nil,λ_ h=>by simp at h⟩
theorem Br.push{es:List MapEntry}{ck:Nat}(h:Br es ck)(k v:Value):Br (pushE es ⟨k,v,ck⟩) (ck+1):=by
 rw[pushE_eq]
 refine⟨List.pairwise_append.2 ⟨h.1,by simp,λa ha b hb=>?_⟩,λe he=>?_⟩
 ·simp only[List.mem_singleton]at hb;subst hb;exact h.2 a ha
 ·rcases List.mem_append.1 he with he|he
  ·have:=h.2 e he;omega
  ·simp only[List.mem_singleton]at he;subst he;exact Nat.lt_succ_self _
theorem Br.delP:∀{es:List MapEntry} {j:Nat},es.Pairwise (λa b=>a.born<b.born)->(delE es j).Pairwise λa b=>a.born<b.born
 |[],_,_=>List.Pairwise.nil
 |_ :: _,0,h=>(List.pairwise_cons.1 h).2
 |_ :: _,_+1,h=>List.pairwise_cons.2 ⟨λy hy=>(List.pairwise_cons.1 h).1 y (delE_sub y hy),Br.delP (List.pairwise_cons.1 h).2⟩
theorem Br.del{es:List MapEntry}{ck j:Nat}(h:Br es ck):Br (delE es j) ck:=⟨Br.delP h.1,λe he=>h.2 e (delE_sub e he)⟩
def MapAt(U:St)(m:Nat)(f:Int->Option Value)(n:Nat):Prop:=∃es ck,U.get m=some (.map es ck)/\KI es/\(∀k,lkV es k=f k)/\es.length=n/\Br es ck
theorem MapAt.keep{U U':St}{m:Nat}{f:Int->Option Value}{n:Nat}(h:MapAt U m f n)(hg:U'.get m=U.get m):MapAt U' m f n:=
 let⟨es,ck,a,b⟩:=h
 ⟨es,ck,hg.trans a,b⟩
theorem loop_indC{rnd:Bool}{b:Code}(I:Nat->Fr->St->Prop)(E:AX->Fr->St->Prop)(B:Nat->Prop)
  (step:∀n fr U,I n fr U->codeS Tryz.prog rnd b fr U (stepW I E B n)):∀n fr U,I n fr U->loopS Tryz.prog rnd b fr U (endL E B):=by
 intro n
 induction n using Nat.strongRecOn with
 |_ n ih=>
  intro fr U hI
  refine loopS.step ((step n fr U hI).mono λr _ hr=>?_)
  obtain⟨h2,h3⟩:=hr
  unfold thenW
  cases hx:r.x with
  |norm=>
   rw[hx]at h3
   obtain⟨m,hm,hI'⟩:=h3
   refine(ih m hm _ _ hI').mono λr' _ h=>⟨λc hc=>?_,h.2⟩
   rcases List.mem_append.1 hc with h4|h4
   ·exact h2 c h4
   ·exact h.1 c h4
  |exit i=>rw[hx]at h3;exact⟨h2,by rw[hx];exact h3⟩
  |goto i=>rw[hx]at h3;exact⟨h2,by rw[hx];exact h3⟩
  |ret=>rw[hx]at h3;exact⟨h2,by rw[hx];exact h3⟩
  |panic ch=>rw[hx]at h3;exact⟨h2,by rw[hx];exact h3⟩
theorem allOld_of{es:List MapEntry}{ck:Nat}(h:∀e∈es,e.born<ck):allOld ck es=true:=by
 induction es with
 |nil=>rfl
 |cons x l ih=>
  simp only[allOld,Bool.and_eq_true,Nat.blt_eq]
  exact⟨h x (by simp),ih λy hy=>h y (by simp [hy])⟩
def mapW(es:List MapEntry)(I:List Nat->List Value->St->Prop)(E:AX->Fr->St->Prop)(B:Nat->Prop)(seen:List Nat)(r:RR):Prop:=
 (∀c∈r.lg,B c)/\match r.x with
  |.norm=>∃ts,∃e∈leftE seen es,r.fr=⟨ts,[]⟩/\I (seen++[e.born]) ts r.U
  |x=>E x r.fr r.U
def mapF(E:AX->Fr->St->Prop)(B:Nat->Prop)(r:RR):Prop:=
 (∀c∈r.lg,B c)/\match r.x with
  |.norm=>False
  |x=>E x r.fr r.U
section eqs
variable {es:List MapEntry} {I:List Nat->List Value->St->Prop} {E:AX->Fr->St->Prop} {B:Nat->Prop} {seen:List Nat} {fr:Fr} {U:St} {lg:Log}
theorem mapW_norm:mapW es I E B seen ⟨.norm,fr,U,lg⟩=((∀c∈lg,B c)/\∃ts,∃e∈leftE seen es,fr=⟨ts,[]⟩/\I (seen++[e.born]) ts U):=(rfl)
theorem mapW_exit{i:Nat}:mapW es I E B seen ⟨.exit i,fr,U,lg⟩=((∀c∈lg,B c)/\E (.exit i) fr U):=(rfl)
theorem mapW_ret:mapW es I E B seen ⟨.ret,fr,U,lg⟩=((∀c∈lg,B c)/\E .ret fr U):=(rfl)
theorem mapF_exit{i:Nat}:mapF E B ⟨.exit i,fr,U,lg⟩=((∀c∈lg,B c)/\E (.exit i) fr U):=(rfl)
end eqs
attribute [go_sem] mapW_norm mapW_exit mapW_ret mapF_exit
theorem thenC{p:PureTab Tryz.prog}{f:FuncId}{X:Code}(hs:statAll (btAll f) X=true){S S':RR->Prop}(k:∀r,S r->S' r){r:RR}(h:thenW (wpS (cP Tryz.prog) p (btAll f) false X) S r):thenW (codeS Tryz.prog false X) S' r:=by
 unfold thenW at h ⊢
 cases hx:r.x with
 |norm=>rw[hx]at h;exact(wpS_sound cP_ok mixed X _ _ _ hs h).mono λr' _ h'=>k _ h'
 |exit i=>rw[hx]at h;exact k _ h
 |goto i=>rw[hx]at h;exact k _ h
 |ret=>rw[hx]at h;exact k _ h
 |panic ch=>rw[hx]at h;exact k _ h
theorem loop_map(p:PureTab Tryz.prog)(f:FuncId){b X:Code}{id:Nat}{o:Oper}{rs:List Oper}{it:Operand}(hb:b=.seq (.region id ⟨o :: rs⟩ false) X)(hop:o.op=.next it false)(hg:o.guard=none)(hs:statAll (btAll f) X=true)
  {m itb ck:Nat} {es:List MapEntry} (hbr:Br es ck) (I:List Nat->List Value->St->Prop) (E:AX->Fr->St->Prop) (B:Nat->Prop)
  (hI:∀seen ts U,I seen ts U->ev ts it=some (.pointer (some ⟨itb,0,none⟩))/\U.get itb=some (.mapIter (some m) ck ⟨seen⟩ ck)/\U.get m=some (.map es ck))
  (step:∀seen ts U e,I seen ts U->e∈leftE seen es->wOpsS (cP Tryz.prog) p (o :: rs) (thenW (wpS (cP Tryz.prog) p (btAll f) false X) (mapW es I E B seen)) rs ((Fr.mk ts []).put o.dst (stepTup e)) (stepSt U itb m ck seen ck e) [itb])
  (fin:∀seen ts U,I seen ts U->leftE seen es=[]->wOpsS (cP Tryz.prog) p (o :: rs) (thenW (wpS (cP Tryz.prog) p (btAll f) false X) (mapF E B)) rs ((Fr.mk ts []).put o.dst (.tuple ⟨[.bool false]⟩)) U []):
  ∀seen ts U,I seen ts U->loopS Tryz.prog false b ⟨ts,[]⟩ U (endL E B):=by
 subst hb
 intro seen ts U h
 refine loop_indC (λn fr U=>∃seen ts,fr=⟨ts,[]⟩/\(leftE seen es).length=n/\I seen ts U) E B ?_ _ _ _ ⟨seen,ts,rfl,rfl,h⟩
 rintro n fr U ⟨seen,ts,rfl,hn,h⟩
 obtain⟨h1,h2,h3⟩:=hI _ _ _ h
 by_cases hl:leftE seen es=[]
 ·refine codeS.seq ((codeS.next_end cP_ok p rfl hop hg h1 h2 h3 hl hbr.2 (fin seen ts U h hl)).mono λr _ hr=>thenC hs (λr ⟨a,c⟩=>?_) hr)
  refine⟨a,?_⟩
  cases hx:r.x with
  |norm=>rw[hx]at c;exact c.elim
  |exit i=>rw[hx]at c;exact c
  |goto i=>rw[hx]at c;exact c
  |ret=>rw[hx]at c;exact c
  |panic ch=>rw[hx]at c;exact c
 ·refine codeS.seq ((codeS.next cP_ok p rfl hop hg h1 h2 h3 (allOld_of hbr.2) (Nat.le_refl _) hl λe he=>step seen ts U e h he).mono λr _ hr=>thenC hs (λr ⟨a,c⟩=>?_) hr)
  refine⟨a,?_⟩
  cases hx:r.x with
  |norm=>
   rw[hx]at c
   obtain⟨ts',e,he,hf,hI'⟩:=c
   have:=(leftE_step hbr.1 he).length_eq
   simp only[List.length_cons]at this
   exact⟨_,by omega,_,ts',hf,rfl,hI'⟩
  |exit i=>rw[hx]at c;exact c
  |goto i=>rw[hx]at c;exact c
  |ret=>rw[hx]at c;exact c
  |panic ch=>rw[hx]at c;exact c
end Go.Ab
namespace Go.Ab
open Go.Proofs
theorem make1_call{p q:Nat}{n d:Int}{U:St}(hp:p<U.next)(hq:q<U.next)(gp:U.get p=some (.cells [.int .i64 d] false))(gq:U.get q=some (.cells [.int .i64 n] false))(h1:0<=n)(h2:n<=9223372036854775807)(h3:0<d)(h4:d<=9223372036854775807):
  callX Tryz.prog 126 [.pointer (some ⟨p,0,none⟩),.pointer (some ⟨q,0,none⟩)] U (Ans U (.agg ⟨[.int .i64 (n / (Int.gcd n d:Int)),.int .i64 (d / (Int.gcd n d:Int))]⟩)):=by
 have o1:okI n=true:=by simp [okI];omega
 have o2:okI d=true:=by simp [okI];omega
 have n1:(n.natAbs:Int)=n:=by omega
 have n2:(d.natAbs:Int)=d:=by omega
 have e1:(d != 0)=true:=by simp;omega
 have e2:¬n<0:=by omega
 have e3:¬d<0:=by omega
 refine Ans.of (enter (p:=q8) Tryz.func126 rfl stat126 ?_)
 simp only[go_sem,seval,opLen,callW,q8,p8,p7,p6,p5,p4,p3,p2,p1,Tryz.f126,gp,gq,hp,hq,o1,o2,n1,n2,e1,e2,e3,Tryz.underlying2,info2,Tryz.t2,Tryz.underlying4,info4,Tryz.t4,Tryz.underlying38,info38,Tryz.t38,Tryz.underlying47,info47,Tryz.t47,Tryz.underlying196,info196,Tryz.t196,body129,body127,body128]
 refine .of (made_call n d false _ h1 h2 h3 h4) ?_
 simp only[go_sem,seval,opLen,hp,hq,Tryz.underlying2,info2,Tryz.t2,Tryz.underlying4,info4,Tryz.t4,Tryz.underlying38,info38,Tryz.t38,Tryz.underlying47,info47,Tryz.t47,Tryz.underlying196,info196,Tryz.t196]
theorem make_call(n d:Int)(U:St)(h1:0<=n)(h2:n<=9223372036854775807)(h3:0<d)(h4:d<=9223372036854775807):
  DCall Tryz.prog 77 [.int .i64 n,.int .i64 d] U (.ret (.tuple ⟨[.agg ⟨[.int .i64 (n / (Int.gcd n d:Int)),.int .i64 (d / (Int.gcd n d:Int))]⟩,.int .i64 0]⟩)) U []:=by
 refine pure_call (enter (p:=q8) Tryz.func77 rfl stat77 ?_) rfl
 simp only[go_sem,seval,opLen,callW,q8,p8,p7,p6,p5,p4,p3,p2,p1,Tryz.f77,Tryz.underlying2,info2,Tryz.t2,Tryz.underlying4,info4,Tryz.t4,Tryz.underlying38,info38,Tryz.t38,Tryz.underlying47,info47,Tryz.t47,Tryz.underlying62,info62,Tryz.t62,Tryz.underlying196,info196,Tryz.t196,Tryz.underlying214,info214,Tryz.t214,body125,body126]
 refine .of (try_rat body126 (make1_call (n:=n) (d:=d) ?_ ?_ ?_ ?_ h1 h2 h3 h4)) ?_
 ·simp only[go_sem,seval,opLen]
 ·simp only[go_sem,seval,opLen]
 ·simp only[go_sem,seval,opLen]
 ·simp only[go_sem,seval,opLen]
 ·simp only[go_sem,seval,opLen,Tryz.underlying2,info2,Tryz.t2,Tryz.underlying4,info4,Tryz.t4,Tryz.underlying38,info38,Tryz.t38,Tryz.underlying47,info47,Tryz.t47,Tryz.underlying62,info62,Tryz.t62,Tryz.underlying196,info196,Tryz.t196,Tryz.underlying214,info214,Tryz.t214]
theorem first1_call{p q b:Nat}{n₁ d₁ n₂ d₂:Int}{U:St}(hp:p<U.next)(hq:q<U.next)(hb:b<U.next)(gp:U.get p=some (.cells [.slice (some ⟨b,0,some 0⟩) 2 2] false))(gq:U.get q=some (.cells [.func (.func 123) ⟨[]⟩ ⟨[]⟩] false))
  (gb:U.get b=some (.cells [.int .i64 n₁,.int .i64 d₁,.int .i64 n₂,.int .i64 d₂] false)) (h1:okR n₁ d₁=true) (h2:okR n₂ d₂=true):
  callX Tryz.prog 157 [.pointer (some ⟨p,0,none⟩),.pointer (some ⟨q,0,none⟩)] U (Ans U (.agg ⟨if 0<cmpR n₂ d₂ n₁ d₁ then[.int .i64 n₂,.int .i64 d₂] else[.int .i64 n₁,.int .i64 d₁]⟩)):=by
 have k1:=h1
 have k2:=h2
 simp only[okR,Bool.and_eq_true,decide_eq_true_eq]at k1 k2
 refine Ans.of (enter (p:=q8) Tryz.func157 rfl stat157 ?_)
 simp only[go_sem,seval,opLen,callW,q8,p8,p7,p6,p5,p4,p3,p2,p1,opLen,Tryz.f157,gp,gq,gb,hp,hq,hb,h1,h2,Tryz.underlying2,info2,Tryz.t2,Tryz.underlying3,info3,Tryz.t3,Tryz.underlying4,info4,Tryz.t4,Tryz.underlying208,info208,Tryz.t208,Tryz.underlying38,info38,Tryz.t38,Tryz.underlying47,info47,Tryz.t47,Tryz.underlying210,info210,Tryz.t210,body129,body127,body128,body158]
 refine .of (both_call b n₁ d₁ n₂ d₂ _ ?_ ?_ k1.1.1 k1.1.2 k2.1.1 k2.1.2 k1.2 k2.2) ?_
 ·simp only[go_sem,seval,opLen,hb]
 ·simp only[go_sem,seval,opLen,gb,hb]
 simp only[go_sem,seval,opLen,callW,q8,p8,p7,p6,p5,p4,p3,p2,p1,gp,gq,gb,hp,hq,hb,h1,h2,Tryz.underlying2,info2,Tryz.t2,Tryz.underlying3,info3,Tryz.t3,Tryz.underlying4,info4,Tryz.t4,Tryz.underlying208,info208,Tryz.t208,Tryz.underlying38,info38,Tryz.t38,Tryz.underlying47,info47,Tryz.t47,Tryz.underlying210,info210,Tryz.t210,body129,body127,body128,body158]
 refine turn q8 157 (by kernel_rfl) ?_
 have n1:Int.toNat 1=1:=rfl
 have n2:Int.toNat 0=0:=rfl
 simp only[go_sem,seval,opLen,callW,q8,p8,p7,p6,p5,p4,p3,p2,p1,n1,n2,gp,gq,gb,hp,hq,hb,h1,h2,Tryz.underlying2,info2,Tryz.t2,Tryz.underlying3,info3,Tryz.t3,Tryz.underlying4,info4,Tryz.t4,Tryz.underlying208,info208,Tryz.t208,Tryz.underlying38,info38,Tryz.t38,Tryz.underlying47,info47,Tryz.t47,Tryz.underlying210,info210,Tryz.t210,body123,body127,body128,body158]
 refine enter (p:=q8) Tryz.func123 rfl stat123 ?_
 simp only[go_sem,seval,opLen,callW,q8,p8,p7,p6,p5,p4,p3,p2,p1,Tryz.f123,gp,gq,gb,hp,hq,hb,h1,h2,Tryz.underlying2,info2,Tryz.t2,Tryz.underlying3,info3,Tryz.t3,Tryz.underlying4,info4,Tryz.t4,Tryz.underlying208,info208,Tryz.t208,Tryz.underlying38,info38,Tryz.t38,Tryz.underlying47,info47,Tryz.t47,Tryz.underlying210,info210,Tryz.t210,body123,body124,body127,body128,body158]
 split<;>rename_i hc
 ·refine turn q8 157 (by kernel_rfl) ?_
  simp only[go_sem,seval,opLen,callW,q8,p8,p7,p6,p5,p4,p3,p2,p1,gp,gq,gb,hp,hq,hb,h1,h2,hc,Tryz.underlying2,info2,Tryz.t2,Tryz.underlying3,info3,Tryz.t3,Tryz.underlying4,info4,Tryz.t4,Tryz.underlying208,info208,Tryz.t208,Tryz.underlying38,info38,Tryz.t38,Tryz.underlying47,info47,Tryz.t47,Tryz.underlying210,info210,Tryz.t210,body123,body127,body128,body158]
 ·refine turn q8 157 (by kernel_rfl) ?_
  simp only[go_sem,seval,opLen,callW,q8,p8,p7,p6,p5,p4,p3,p2,p1,gp,gq,gb,hp,hq,hb,h1,h2,hc,Tryz.underlying2,info2,Tryz.t2,Tryz.underlying3,info3,Tryz.t3,Tryz.underlying4,info4,Tryz.t4,Tryz.underlying208,info208,Tryz.t208,Tryz.underlying38,info38,Tryz.t38,Tryz.underlying47,info47,Tryz.t47,Tryz.underlying210,info210,Tryz.t210,body123,body127,body128,body158]
theorem greatest_call{b:Nat}{n₁ d₁ n₂ d₂:Int}{U:St}(hb:b<U.next)(gb:U.get b=some (.cells [.int .i64 n₁,.int .i64 d₁,.int .i64 n₂,.int .i64 d₂] false))(h1:okR n₁ d₁=true)(h2:okR n₂ d₂=true):
  DCall Tryz.prog 76 [.slice (some ⟨b,0,some 0⟩) 2 2] U (.ret (.tuple ⟨[if 0<cmpR n₂ d₂ n₁ d₁ then .agg ⟨[.int .i64 n₂,.int .i64 d₂]⟩ else .agg ⟨[.int .i64 n₁,.int .i64 d₁]⟩,.int .i64 0]⟩)) U []:=by
 refine pure_call (enter (p:=q8) Tryz.func76 rfl stat76 ?_) (by split<;>rfl)
 simp only[go_sem,seval,opLen,callW,q8,p8,p7,p6,p5,p4,p3,p2,p1,Tryz.f76,gb,hb,Tryz.underlying2,info2,Tryz.t2,Tryz.underlying4,info4,Tryz.t4,Tryz.underlying208,info208,Tryz.t208,Tryz.underlying38,info38,Tryz.t38,Tryz.underlying47,info47,Tryz.t47,Tryz.underlying62,info62,Tryz.t62,Tryz.underlying196,info196,Tryz.t196,Tryz.underlying210,info210,Tryz.t210,body122,body123]
 refine enter (p:=q8) Tryz.func122 rfl stat122 ?_
 simp only[go_sem,seval,opLen,callW,q8,p8,p7,p6,p5,p4,p3,p2,p1,Tryz.f122,gb,hb,Tryz.underlying2,info2,Tryz.t2,Tryz.underlying4,info4,Tryz.t4,Tryz.underlying208,info208,Tryz.t208,Tryz.underlying38,info38,Tryz.t38,Tryz.underlying47,info47,Tryz.t47,Tryz.underlying62,info62,Tryz.t62,Tryz.underlying196,info196,Tryz.t196,Tryz.underlying210,info210,Tryz.t210,Tryz.underlying214,info214,Tryz.t214,body125,body157]
 by_cases hc:0<cmpR n₂ d₂ n₁ d₁
 ·refine .of (try_rat (n:=n₂) (d:=d₂) body157 ?_) ?_
  ·have key:=first1_call (U:=((((((U.new (.cells [.int .i64 0,.int .i64 0] false)).new (.cells [.slice (some ⟨b,0,some 0⟩) 2 2] false)).new (.cells [.func (.func 123) ⟨[]⟩ ⟨[]⟩] false)).new (.cells [.int .i64 0,.int .i64 0] false)).new (.cells [.int .i64 0,.int .i64 0] false)).new (.cells [.int .i64 0] false))) (p:=U.next+1) (q:=U.next+2) (b:=b)
    (by simp only[go_sem,seval,opLen]) (by simp only[go_sem,seval,opLen]) (by simp only[go_sem,seval,opLen,hb]) (by simp only[go_sem,seval,opLen]) (by simp only[go_sem,seval,opLen]) (by simp only[go_sem,seval,opLen,hb,gb]) h1 h2
   rw[if_pos hc]at key
   exact key
  ·simp only[go_sem,seval,opLen,hc,Tryz.underlying2,info2,Tryz.t2,Tryz.underlying4,info4,Tryz.t4,Tryz.underlying208,info208,Tryz.t208,Tryz.underlying38,info38,Tryz.t38,Tryz.underlying47,info47,Tryz.t47,Tryz.underlying62,info62,Tryz.t62,Tryz.underlying196,info196,Tryz.t196,Tryz.underlying210,info210,Tryz.t210,Tryz.underlying214,info214,Tryz.t214]
 ·refine .of (try_rat (n:=n₁) (d:=d₁) body157 ?_) ?_
  ·have key:=first1_call (U:=((((((U.new (.cells [.int .i64 0,.int .i64 0] false)).new (.cells [.slice (some ⟨b,0,some 0⟩) 2 2] false)).new (.cells [.func (.func 123) ⟨[]⟩ ⟨[]⟩] false)).new (.cells [.int .i64 0,.int .i64 0] false)).new (.cells [.int .i64 0,.int .i64 0] false)).new (.cells [.int .i64 0] false))) (p:=U.next+1) (q:=U.next+2) (b:=b)
    (by simp only[go_sem,seval,opLen]) (by simp only[go_sem,seval,opLen]) (by simp only[go_sem,seval,opLen,hb]) (by simp only[go_sem,seval,opLen]) (by simp only[go_sem,seval,opLen]) (by simp only[go_sem,seval,opLen,hb,gb]) h1 h2
   rw[if_neg hc]at key
   exact key
  ·simp only[go_sem,seval,opLen,hc,Tryz.underlying2,info2,Tryz.t2,Tryz.underlying4,info4,Tryz.t4,Tryz.underlying208,info208,Tryz.t208,Tryz.underlying38,info38,Tryz.t38,Tryz.underlying47,info47,Tryz.t47,Tryz.underlying62,info62,Tryz.t62,Tryz.underlying196,info196,Tryz.t196,Tryz.underlying210,info210,Tryz.t210,Tryz.underlying214,info214,Tryz.t214]
def HX(U:St)(h m:Nat)(A:List Nat)(L:List Item)(t:Int):Prop:=
 (L=[]/\A=[]/\HE U h m t)\/∃a cap,A=[a]/\HI U h a m L cap t
theorem HX.keep{U U':St}{h m:Nat}{A:List Nat}{L:List Item}{t:Int}(H:HX U h m A L t)(hn:U.next<=U'.next)(hg:∀c∈h :: m :: A,U'.get c=U.get c):HX U' h m A L t:=by
 rcases H with⟨rfl,rfl,H⟩|⟨a,cap,rfl,H⟩
 ·obtain⟨ck,gm⟩:=H.gm
  exact .inl ⟨rfl,rfl,⟨(hg _ (by simp)).trans H.gh,⟨ck,(hg _ (by simp)).trans gm⟩,H.ne,by have:=H.lt;omega⟩⟩
 ·obtain⟨f,H1,hi⟩:=H.hs
  obtain⟨G,ga,hG⟩:=H1.ga
  obtain⟨es,ck,gm,hkv⟩:=H1.gm
  exact .inr ⟨a,cap,rfl,⟨⟨f,⟨(hg _ (by simp)).trans H1.gh,⟨G,(hg _ (by simp)).trans ga,hG⟩,⟨es,ck,(hg _ (by simp)).trans gm,hkv⟩,H1.ne,by have:=H1.lt;omega⟩,hi⟩,H.ok,H.small⟩⟩
theorem HX.toV{U:St}{h m:Nat}{A:List Nat}{L:List Item}{t:Int}(H:HX U h m A L t):HV U 0 h m L t:=by
 refine⟨Nat.zero_le _,Nat.zero_le _,Nat.zero_le _,?_⟩
 rcases H with⟨rfl,rfl,H⟩|⟨a,cap,rfl,H⟩
 ·exact .inl ⟨rfl,H⟩
 ·exact .inr ⟨a,cap,Nat.zero_le _,H⟩
theorem HX.lt{U:St}{h m:Nat}{A:List Nat}{L:List Item}{t:Int}(H:HX U h m A L t):∀c∈h :: m :: A,c<U.next:=by
 rcases H with⟨rfl,rfl,H⟩|⟨a,cap,rfl,H⟩
 ·have:=H.lt
  intro c hc;simp at hc;omega
 ·obtain⟨f,H1,hi⟩:=H.hs
  have:=H1.lt
  intro c hc;simp at hc;omega
theorem HX.nodup{U:St}{h m:Nat}{A:List Nat}{L:List Item}{t:Int}(H:HX U h m A L t):A.Nodup:=by
 rcases H with⟨_,rfl,_⟩|⟨a,cap,rfl,_⟩<;>simp
theorem HX.put{U:St}{h m:Nat}{A:List Nat}{L:List Item}{t:Int}(H:HX U h m A L t)(id kn kd:Int)(h0:0<=id)(h1:id<=4611686018427387904)(hk:okR kn kd=true)(ht:0<=t)(ht1:t<1000000)(hnew:∀y∈L,y.id≠id)(hsm:L.length<1000):
  callX Tryz.prog 79 [.pointer (some ⟨h,0,none⟩),.int .i64 id,.agg ⟨[.int .i64 kn,.int .i64 kd]⟩] U λe U' l=>e=.ret (.int .i64 0)/\((∀c∈l,c∈h :: m :: A\/U.next<=c)/\
   ∃A',(∀c∈A',c∈A\/U.next<=c)/\HX U' h m A' (riseL (L.length+1) (L++[⟨id,kn,kd,t+1⟩]) L.length) (t+1)):=by
 rcases H with⟨rfl,rfl,H⟩|⟨a,cap,rfl,H⟩
 ·obtain⟨U',a,d,H',ha⟩:=put_first H id kn kd h0 h1 hk ht ht1
  exact .of d ⟨rfl,λc hc=>.inl hc,[a],λc hc=>by simp at hc;omega,.inr ⟨a,1,rfl,by simpa [riseL]using H'⟩⟩
 ·have hcap:L.length<=cap:=by
   obtain⟨f,H1,_⟩:=H.hs
   obtain⟨G,_,hG⟩:=H1.ga
   omega
  by_cases hc:L.length+1<=cap
  ·obtain⟨U',d,H',nx,_⟩:=put_in H id kn kd h0 h1 hk ht ht1 hnew hsm hc
   exact .of d ⟨rfl,λc hc=>.inl (by simp at hc ⊢;omega),[a],λc hc=>.inl hc,.inr ⟨a,cap,rfl,H'⟩⟩
  ·obtain⟨U',d,H',nx,_⟩:=put_move H id kn kd h0 h1 hk ht ht1 hnew hsm (by omega)
   exact .of d ⟨rfl,λc hc=>.inl (by simp at hc ⊢;omega),[U.next+2],λc hc=>by simp at hc;omega,.inr ⟨_,_,rfl,H'⟩⟩
theorem HX.take{U:St}{h m:Nat}{A:List Nat}{L:List Item}{t:Int}(H:HX U h m A L t){x:Item}(hx:L[0]?=some x):
  callX Tryz.prog 80 [.pointer (some ⟨h,0,none⟩)] U λe U' l=>e=.ret (.tuple ⟨[.agg ⟨[.int .i64 x.id,.int .i64 x.n,.int .i64 x.d,.int .i64 x.turn]⟩,.bool true]⟩)/\((∀c∈l,c∈h :: m :: A\/U.next<=c)/\HX U' h m A (outL L 0) t):=by
 rcases H with⟨rfl,rfl,H⟩|⟨a,cap,rfl,H⟩
 ·simp at hx
 ·obtain⟨U',d,b3,b4,_⟩:=take_call H hx
  exact .of d ⟨rfl,λc hc=>.inl (by simp at hc ⊢;omega),.inr ⟨a,cap,rfl,b3⟩⟩
structure FlowV where
 blk:Nat
 rate:Int
 room:Int
 bytes:Int
 n:Int
 d:Int
def FlowV.cells(x:FlowV)(k:Int):List Value:=[.int .i64 k,.int .i64 x.rate,.int .i64 x.room,.int .i64 x.bytes,.int .i64 x.n,.int .i64 x.d]
def ptrOf(x:FlowV):Value:=.pointer (some ⟨x.blk,0,none⟩)
def packOf(k:Int)(x:Int×Int):Value:=.agg ⟨[.int .i64 k,.int .i64 x.1,.int .i64 x.2]⟩
def updF{α:Type}(F:Int->Option α)(k:Int)(x:Option α):Int->Option α:=λk'=>if k'=k then x else F k'
structure QB where
 q:Nat
 fm:Nat
 pm:Nat
 h:Nat
 m:Nat
 A:List Nat
def QB.core(b:QB):List Nat:=b.q :: b.fm :: b.pm :: b.h :: b.m :: b.A
structure QV where
 F:Int->Option FlowV
 nf:Nat
 P:Int->Option (Int×Int)
 np:Nat
 L:List Item
 t:Int
structure QAt(U:St)(b:QB)(Q:QV):Prop where
 gq:U.get b.q=some (.cells [.pointer (some ⟨b.h,0,none⟩),.map (some b.fm),.map (some b.pm)] false)
 hx:HX U b.h b.m b.A Q.L Q.t
 mf:MapAt U b.fm (λk=>(Q.F k).map ptrOf) Q.nf
 mp:MapAt U b.pm (λk=>(Q.P k).map (packOf k)) Q.np
 fl:∀k x,Q.F k=some x->U.get x.blk=some (.cells (x.cells k) false)/\x.blk<U.next/\x.blk∉b.core
 inj:∀k k' x x',Q.F k=some x->Q.F k'=some x'->x.blk=x'.blk->k=k'
 nodup:b.core.Nodup
 lt:∀c∈b.core,c<U.next
def Foot(b:QB)(Q:QV)(c:Nat):Prop:=c∈b.core\/∃k x,Q.F k=some x/\x.blk=c
theorem QAt.keep {U U' : St} {b : QB} {Q : QV} (h : QAt U b Q) (hn : U.next ≤ U'.next) (hg : ∀ c, Foot b Q c → U'.get c = U.get c) : QAt U' b Q := by
  have hc : ∀ c ∈ b.core, U'.get c = U.get c := fun c hc => hg c (.inl hc)
  exact { gq := (hc _ (by simp [QB.core])).trans h.gq
          hx := h.hx.keep hn fun c hm => hc c (by simp [QB.core] at hm ⊢; rcases hm with h | h | h <;> simp [h])
          mf := h.mf.keep (hc _ (by simp [QB.core]))
          mp := h.mp.keep (hc _ (by simp [QB.core]))
          fl := fun k x hx => ⟨(hg _ (.inr ⟨k, x, hx, rfl⟩)).trans (h.fl k x hx).1, by have := (h.fl k x hx).2.1; omega, (h.fl k x hx).2.2⟩
          inj := h.inj
          nodup := h.nodup
          lt := fun c hc => by have := h.lt c hc; omega }
structure QNe(b:QB):Prop where
 q_fm:b.q≠b.fm
 q_pm:b.q≠b.pm
 q_h:b.q≠b.h
 q_m:b.q≠b.m
 fm_pm:b.fm≠b.pm
 fm_h:b.fm≠b.h
 fm_m:b.fm≠b.m
 pm_h:b.pm≠b.h
 pm_m:b.pm≠b.m
 h_m:b.h≠b.m
 A:∀c∈b.A,c≠b.q/\c≠b.fm/\c≠b.pm/\c≠b.h/\c≠b.m
theorem QAt.ne{U:St}{b:QB}{Q:QV}(H:QAt U b Q):QNe b:=by
 have n:=H.nodup
 simp only[QB.core,List.nodup_cons,List.mem_cons,not_or]at n
 obtain⟨⟨a1,a2,a3,a4,a5⟩,⟨b1,b2,b3,b4⟩,⟨c1,c2,c3⟩,⟨d1,d2⟩,e1,_⟩:=n
 exact⟨a1,a2,a3,a4,b1,b2,b3,c1,c2,d1,λc hc=>⟨λe=>a5 (e▸hc),λe=>b4 (e▸hc),λe=>c3 (e▸hc),λe=>d2 (e▸hc),λe=>e1 (e▸hc)⟩⟩
theorem QNe.core{b:QB}(h:QNe b){A:List Nat}{n:Nat}(hA:∀c∈A,c∈b.A\/n<=c)(hlt:∀c∈b.core,c<n)(hn:A.Nodup):({b with A:=A}:QB).core.Nodup:=by
 have l1:=hlt b.q (by simp [QB.core])
 have l2:=hlt b.fm (by simp [QB.core])
 have l3:=hlt b.pm (by simp [QB.core])
 have l4:=hlt b.h (by simp [QB.core])
 have l5:=hlt b.m (by simp [QB.core])
 have nA:∀c∈A,c≠b.q/\c≠b.fm/\c≠b.pm/\c≠b.h/\c≠b.m:=λc hc=>by
  rcases hA c hc with h1|h1
  ·exact h.A c h1
  ·omega
 simp only[QB.core,List.nodup_cons,List.mem_cons,not_or]
 exact⟨⟨h.q_fm,h.q_pm,h.q_h,h.q_m,λhm=>(nA _ hm).1 rfl⟩,⟨h.fm_pm,h.fm_h,h.fm_m,λhm=>(nA _ hm).2.1 rfl⟩,⟨h.pm_h,h.pm_m,λhm=>(nA _ hm).2.2.1 rfl⟩,⟨h.h_m,λhm=>(nA _ hm).2.2.2.1 rfl⟩,λhm=>(nA _ hm).2.2.2.2 rfl,hn⟩
theorem updF_same{α:Type}(F:Int->Option α)(k:Int)(x:Option α):updF F k x k=x:=by simp [updF]
theorem updF_other{α:Type}(F:Int->Option α){k k':Int}(x:Option α)(h:k'≠k):updF F k x k'=F k':=by simp [updF,h]
end Go.Ab
