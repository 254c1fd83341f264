/- PortWorksSaid: part 2 of 8 of the proof that it returns true for every input and leaves its arguments as they were; no condition. -/
import Derived.Test.YtphmndfjmoacfaaGreatJPortWorksSaid0
import Derived.OrdersIn
import Derived.RangeFuncLeaves
import Derived.RangeFuncIn
import Derived.RangeFuncRecord
import Derived.WalkKit
import Derived.ProofKit
import Derived.OpenShut
import Derived.ShutString
import Derived.ChangeOld
import Derived.Below
set_option maxHeartbeats 6400000
set_option maxRecDepth 20000
set_option linter.unusedSimpArgs false
set_option linter.unusedVariables false
namespace Go.Ab
variable {P:Program} {T:TT}
abbrev Log:=List Nat
inductive AX where
 |norm
 |exit (id:Nat)
 |goto (l:Nat)
 |ret
 |panic (chain:List PanicEntry)
inductive AE where
 |ret (v:Value)
 |panic (chain:List PanicEntry)
inductive AM where
 |returning
 |panicking (chain:List PanicEntry)
structure Fr where
 ts:List Value
 ds:List Deferred
def Fr.put(fr:Fr)(dst:Option Tmp)(v:Value):Fr:=
 match dst with
 |some d=>{fr with ts:=fr.ts.set d v}
 |none=>fr
def CR(ρ:Ren):List PanicEntry->List PanicEntry->Prop
 |[],[]=>True
 |x :: xs,y :: ys=>(VR ρ x.v y.v/\x.recovered=y.recovered/\x.goexit=y.goexit)/\CR ρ xs ys
 |_,_=>False
theorem CR.mono{ρ ρ':Ren}(hl:ρ.le ρ'):∀{a b:List PanicEntry},CR ρ a b->CR ρ' a b
 |[],[],_=>trivial
 |_ :: _,_ :: _,h=>⟨⟨h.1.1.mono hl,h.1.2⟩,CR.mono hl h.2⟩
 |[],_ :: _,h=>h.elim
 |_ :: _,[],h=>h.elim
def XR(ρ:Ren):AX->Exit->Prop
 |.norm,.normal=>True
 |.exit i,.exit j=>i=j
 |.goto i,.goto j=>i=j
 |.ret,.ret=>True
 |.panic c,.panic c'=>CR ρ c c'
 |_,_=>False
def ER(ρ:Ren):AE->Ending->Prop
 |.ret v,.returned v'=>VR ρ v v'
 |.panic c,.panicked c'=>CR ρ c c'
 |_,_=>False
def MR(ρ:Ren):AM->FrameMode->Prop
 |.returning,.returning=>True
 |.panicking c,.panicking c'=>CR ρ c c'
 |_,_=>False
structure FR(ρ:Ren)(fr:Fr)(a:Act):Prop where
 ts:VRL ρ fr.ts a.tmps.toList
 ds:DRL ρ fr.ds a.defers
theorem FR.mono{ρ ρ':Ren}(hl:ρ.le ρ'){fr:Fr}{a:Act}(h:FR ρ fr a):FR ρ' fr a:=⟨h.ts.mono hl,h.ds.mono hl⟩
theorem FR.put{ρ:Ren}{fr:Fr}{a:Act}(h:FR ρ fr a)(dst:Option Tmp){v v':Value}(hv:VR ρ v v'):FR ρ (fr.put dst v) (a.put dst v'):=by
 cases dst with
 |none=>exact h
 |some d=>exact⟨by simpa [Fr.put,Act.put]using h.ts.set d hv,h.ds⟩
def fence(ro:Option Nat):Fence:={fn:=λ_=>True,depth:=none,alive:=false,round:=ro}
theorem room_fence(ro:Option Nat)(n:Nat):(fence ro).room n:=λ_ h=>by simp [fence]at h
def DCall(P:Program)(f:FuncId)(args:List Value)(U:St)(e:AE)(U':St)(lg:Log):Prop:=
 Logged U U' lg/\∀(ρ:Ren) (w:World) (args':Array Value),WR ρ U w.heap->VRL ρ args args'.toList->
  CallsIn (fence none) 0 P f args' w λe' w'=>∃ρ',ER ρ' e e'/\Aft ρ U w ρ' U' w'
def DRound(P:Program)(l:Nat)(args:List Value)(U:St)(e:AE)(U':St)(lg:Log):Prop:=
 Logged U U' lg/\∀(ρ:Ren) (w:World) (l':Loc) (args':Array Value),WR ρ U w.heap->ρ l=some l'->VRL ρ args args'.toList->
  ∃fn tmps assign body,(Instr.yield l'.block args').run P w=.ok (.round l'.block fn tmps assign body) w/\
   RoundIn (fence none) 0 P l'.block fn tmps assign body w λe' w'=>∃ρ',ER ρ' e e'/\Aft ρ U w ρ' U' w'
def DDefer(P:Program)(f:FuncId)(args:List Value)(u:AM)(U:St)(e:AE)(u':AM)(U':St)(lg:Log):Prop:=
 Logged U U' lg/\∀(ρ:Ren) (w:World) (args':Array Value) (um:FrameMode),WR ρ U w.heap->VRL ρ args args'.toList->MR ρ u um->
  CallsDIn (fence none) 0 P f args' um w λe' um' w'=>∃ρ',ER ρ' e e'/\MR ρ' u' um'/\Aft ρ U w ρ' U' w'
structure Orc where
 call:FuncId->List Value->St->Option (AE×St×Log)
 round:Nat->List Value->St->Option (AE×St×Log)
structure Orc.Ok(P:Program)(orc:Orc):Prop where
 call:∀f args U e U' lg,orc.call f args U=some (e,U',lg)->DCall P f args U e U' lg
 round:∀l args U e U' lg,orc.round l args U=some (e,U',lg)->DRound P l args U e U' lg
structure Cx where
 T:TT
 bodies:FuncId->Bool
structure Cx.Ok(P:Program)(C:Cx):Prop where
 T:C.T.Ok P
 bodies:∀g,C.bodies g=true->HasBody P g
theorem Logged.trans{U U₁ U₂:St}{a b:Log}(h:Logged U U₁ a)(k:Logged U₁ U₂ b):Logged U U₂ (a++b):=⟨Nat.le_trans h.1 k.1,λc hc hnot=>by
 simp only[List.mem_append,not_or]at hnot
 exact(k.2 c (by have:=h.1;omega) hnot.2).trans (h.2 c hc hnot.1)⟩
def yieldedA(ops:List Oper)(ts:List Value)(j:Nat):Option Bool:=
 match ops[j]? with
 |some o=>match o.dst with
  |some d=>match lget? ts d with
   |some (.bool b)=>some b
   |_=>none
  |none=>none
 |none=>none
def wantedA(ops:List Oper)(o:Oper)(ts:List Value):Bool:=
 match o.guard with
 |none=>true
 |some (j,want)=>match yieldedA ops ts j with
  |some b=>b==want
  |none=>false
abbrev OpsK:=Fr->St->Log->Option (AX×Fr×St×Log)
def callK(fr:Fr)(dst:Option Tmp)(lg:Log)(k:OpsK):Option (AE×St×Log)->Option (AX×Fr×St×Log)
 |some (.ret v,U',l)=>k (fr.put dst v) U' (lg++l)
 |some (.panic c,U',l)=>some (.panic c,fr,U',lg++l)
 |none=>none
def opsK(orc:Orc)(rnd:Bool)(dst:Option Tmp)(fr:Fr)(U:St)(lg:Log)(k:OpsK):Option ORes->Option (AX×Fr×St×Log)
 |some (.val v _)=>k (fr.put dst v) U lg
 |some (.new ob v _)=>k (fr.put dst v) (U.new ob) lg
 |some (.eff v U' l)=>k (fr.put dst v) U' (lg++l)
 |some (.panic v)=>some (.panic [{v,recovered:=false}],fr,U,lg)
 |some (.enter f args)=>callK fr dst lg k (orc.call f args U)
 |some (.round r args)=>callK fr dst lg k (orc.round r args U)
 |some (.defer d)=>if rnd then none else k ({fr with ds:=d :: fr.ds}.put dst undef) U lg
 |_=>none
def wantK(T:TT)(bodies:FuncId->Bool)(o:Oper)(ts:List Value)(U:St):Bool->Option ORes
 |true=>stepOp T bodies o ts U
 |false=>some (.val undef [])
def runOps(C:Cx)(orc:Orc)(rnd:Bool)(ops:List Oper):List Oper->Fr->St->Log->Option (AX×Fr×St×Log)
 |[],fr,U,lg=>some (.norm,fr,U,lg)
 |o :: rest,fr,U,lg=>opsK orc rnd o.dst fr U lg (runOps C orc rnd ops rest) (wantK C.T C.bodies o fr.ts U (wantedA ops o fr.ts))
theorem yielded_VR{ρ:Ren}{ops:Array Oper}{fr:Fr}{a:Act}(h:FR ρ fr a)(j:Nat):yielded ops a.tmps j=yieldedA ops.toList fr.ts j:=by
 unfold yielded yieldedA
 rw[show ops[j]?=ops.toList[j]? by simp]
 cases ho:ops.toList[j]? with
 |none=>rfl
 |some o=>
  simp only[Option.bind_some]
  cases hd:o.dst with
  |none=>rfl
  |some d=>
   simp only[Option.bind_some]
   rw[lget?_eq,show a.tmps[d]?=a.tmps.toList[d]? by simp]
   cases hv:fr.ts[d]? with
   |none=>
    have:a.tmps.toList[d]?=none:=by
     rw[List.getElem?_eq_none_iff]at hv ⊢
     rw[<-h.ts.length];exact hv
    rw[this]
   |some v=>
    obtain⟨v',h1,h2⟩:=h.ts.get d hv
    rw[h1]
    cases h2<;>rfl
theorem wanted_VR{ρ:Ren}{ops:Array Oper}{fr:Fr}{a:Act}(h:FR ρ fr a)(o:Oper):Region.wanted o (yielded ops a.tmps)=wantedA ops.toList o fr.ts:=by
 unfold Region.wanted wantedA
 split
 ·rename_i he;rw[he]
 ·rename_i j want he
  rw[he]
  simp only
  rw[yielded_VR h]
  cases yieldedA ops.toList fr.ts j with
  |none=>rfl
  |some b=>cases b<;>cases want<;>rfl
theorem Sound.quiet_next{o:Oper}{ts:List Value}{U U':St}{v:Value}(h:SimEff P o ts U v U'){ρ:Ren}{w:World}{a:Act}(hw:WR ρ U w.heap)(ht:VRL ρ ts a.tmps.toList)(ro:Option Nat)(hd:∀c,o.op≠.defer c)
  {next:Act->World->Prop} {Q:Exit->Act->World->Prop} (hn:∀ρ' v' w',VR ρ' v v'->Aft ρ U w ρ' U' w'->next (a.put o.dst v') w'):o.uponIn (fence ro) 0 P a next Q ((o.semAt ro a.eval).run P w):=by
 rw[Oper.semAt_eq ro a.eval o hd]
 obtain⟨ρ',v',w',h1,h2,h3⟩:=h ρ w a hw ht
 rcases h1 with h1|⟨h1,rfl⟩
 ·rw[h1];exact hn ρ' v' w' h2 h3
 ·rw[h1];exact hn ρ' undef w' h2 h3
theorem not_defer{C:Cx}{o:Oper}{ts:List Value}{U:St}{r:ORes}(h:stepOp C.T C.bodies o ts U=some r)(hr:∀d,r≠.defer d):∀c,o.op≠.defer c:=by
 intro c hc
 unfold stepOp at h
 rw[hc]at h
 simp only at h
 split at h
 ·split at h
  ·unfold opDefer at h
   split at h
   ·split at h
    ·cases h;exact hr _ rfl
    ·cases h
   ·cases h
  ·cases h
 ·cases h
theorem stepOp_log{C:Cx}(hC:C.Ok P){o:Oper}{ts:List Value}{U U':St}{v:Value}{l:Log}(h:stepOp C.T C.bodies o ts U=some (.eff v U' l)):Logged U U' l:=
 (stepOp_sound hC.T hC.bodies h:SimEff P o ts U v U'/\Logged U U' l).2
inductive OpsR(P:Program)(C:Cx)(rnd:Bool)(ops:List Oper):List Oper->Fr->St->AX->Fr->St->Log->Prop
 |nil {fr:Fr} {U:St}:OpsR P C rnd ops [] fr U .norm fr U []
 |skip {o:Oper} {rest:List Oper} {fr fr':Fr} {U U':St} {x:AX} {lg:Log} (hw:wantedA ops o fr.ts=false) (k:OpsR P C rnd ops rest (fr.put o.dst undef) U x fr' U' lg):OpsR P C rnd ops (o :: rest) fr U x fr' U' lg
 |val {o:Oper} {rest:List Oper} {fr fr':Fr} {U U':St} {x:AX} {lg:Log} {v:Value} {rd:List Nat} (hw:wantedA ops o fr.ts=true) (hs:stepOp C.T C.bodies o fr.ts U=some (.val v rd)) (k:OpsR P C rnd ops rest (fr.put o.dst v) U x fr' U' lg):OpsR P C rnd ops (o :: rest) fr U x fr' U' lg
 |new {o:Oper} {rest:List Oper} {fr fr':Fr} {U U':St} {x:AX} {lg:Log} {ob:AObj} {v:Value} {rd:List Nat} (hw:wantedA ops o fr.ts=true) (hs:stepOp C.T C.bodies o fr.ts U=some (.new ob v rd)) (k:OpsR P C rnd ops rest (fr.put o.dst v) (U.new ob) x fr' U' lg):OpsR P C rnd ops (o :: rest) fr U x fr' U' lg
 |eff {o:Oper} {rest:List Oper} {fr fr':Fr} {U U₁ U':St} {x:AX} {lg l:Log} {v:Value} (hw:wantedA ops o fr.ts=true) (hs:stepOp C.T C.bodies o fr.ts U=some (.eff v U₁ l)) (k:OpsR P C rnd ops rest (fr.put o.dst v) U₁ x fr' U' lg):OpsR P C rnd ops (o :: rest) fr U x fr' U' (l++lg)
 |panic {o:Oper} {rest:List Oper} {fr:Fr} {U:St} {v:Value} (hw:wantedA ops o fr.ts=true) (hs:stepOp C.T C.bodies o fr.ts U=some (.panic v)):OpsR P C rnd ops (o :: rest) fr U (.panic [{v,recovered:=false}]) fr U []
 |call {o:Oper} {rest:List Oper} {fr fr':Fr} {U U₁ U':St} {x:AX} {lg l:Log} {f:FuncId} {args:List Value} {v:Value} (hw:wantedA ops o fr.ts=true) (hs:stepOp C.T C.bodies o fr.ts U=some (.enter f args)) (hc:DCall P f args U (.ret v) U₁ l) (k:OpsR P C rnd ops rest (fr.put o.dst v) U₁ x fr' U' lg):OpsR P C rnd ops (o :: rest) fr U x fr' U' (l++lg)
 |callP {o:Oper} {rest:List Oper} {fr:Fr} {U U₁:St} {l:Log} {f:FuncId} {args:List Value} {c:List PanicEntry} (hw:wantedA ops o fr.ts=true) (hs:stepOp C.T C.bodies o fr.ts U=some (.enter f args)) (hc:DCall P f args U (.panic c) U₁ l):OpsR P C rnd ops (o :: rest) fr U (.panic c) fr U₁ l
 |round {o:Oper} {rest:List Oper} {fr fr':Fr} {U U₁ U':St} {x:AX} {lg l:Log} {r:Nat} {args:List Value} {v:Value} (hw:wantedA ops o fr.ts=true) (hs:stepOp C.T C.bodies o fr.ts U=some (.round r args)) (hc:DRound P r args U (.ret v) U₁ l) (k:OpsR P C rnd ops rest (fr.put o.dst v) U₁ x fr' U' lg):OpsR P C rnd ops (o :: rest) fr U x fr' U' (l++lg)
 |roundP {o:Oper} {rest:List Oper} {fr:Fr} {U U₁:St} {l:Log} {r:Nat} {args:List Value} {c:List PanicEntry} (hw:wantedA ops o fr.ts=true) (hs:stepOp C.T C.bodies o fr.ts U=some (.round r args)) (hc:DRound P r args U (.panic c) U₁ l):OpsR P C rnd ops (o :: rest) fr U (.panic c) fr U₁ l
 |defer {o:Oper} {rest:List Oper} {fr fr':Fr} {U U':St} {x:AX} {lg:Log} {d:Deferred} (hw:wantedA ops o fr.ts=true) (hr:rnd=false) (hs:stepOp C.T C.bodies o fr.ts U=some (.defer d)) (k:OpsR P C rnd ops rest ({fr with ds:=d :: fr.ds}.put o.dst undef) U x fr' U' lg):OpsR P C rnd ops (o :: rest) fr U x fr' U' lg
theorem OpsR.logged{C:Cx}(hC:C.Ok P){rnd:Bool}{ops rest:List Oper}{fr fr':Fr}{U U':St}{x:AX}{lg:Log}(h:OpsR P C rnd ops rest fr U x fr' U' lg):Logged U U' lg:=by
 induction h with
 |nil=>exact logged_self _ _
 |skip _ _ ih=>exact ih
 |val _ _ _ ih=>exact ih
 |new _ _ _ ih=>exact(logged_new _ _).trans ih
 |eff _ hs _ ih=>exact(stepOp_log hC hs).trans ih
 |panic _ _=>exact logged_self _ _
 |call _ _ hc _ ih=>exact hc.1.trans ih
 |callP _ _ hc=>exact hc.1
 |round _ _ hc _ ih=>exact hc.1.trans ih
 |roundP _ _ hc=>exact hc.1
 |defer _ _ _ _ ih=>exact ih
theorem runOps_ops{C:Cx}{orc:Orc}(hO:orc.Ok P){rnd:Bool}{ops:List Oper}:∀(rest:List Oper) (fr:Fr) (U:St) (lg:Log) (x:AX) (fr':Fr) (U':St) (lg':Log),runOps C orc rnd ops rest fr U lg=some (x,fr',U',lg')->
  ∃l2,lg'=lg++l2/\OpsR P C rnd ops rest fr U x fr' U' l2:=by
 intro rest
 induction rest with
 |nil=>
  intro fr U lg x fr' U' lg' h
  simp only[runOps,Option.some.injEq,Prod.mk.injEq]at h
  obtain⟨rfl,rfl,rfl,rfl⟩:=h
  exact⟨[],by simp,.nil⟩
 |cons o rest ih=>
  intro fr U lg x fr' U' lg' h
  simp only[runOps]at h
  cases hw:wantedA ops o fr.ts with
  |false=>
   rw[hw]at h
   obtain⟨l2,h1,h2⟩:=ih _ _ _ _ _ _ _ h
   exact⟨l2,h1,.skip hw h2⟩
  |true=>
   rw[hw]at h
   simp only[wantK]at h
   unfold opsK at h
   split at h
   ·rename_i hs
    obtain⟨l2,h1,h2⟩:=ih _ _ _ _ _ _ _ h
    exact⟨l2,h1,.val hw hs h2⟩
   ·rename_i hs
    obtain⟨l2,h1,h2⟩:=ih _ _ _ _ _ _ _ h
    exact⟨l2,h1,.new hw hs h2⟩
   ·rename_i hs
    obtain⟨l2,h1,h2⟩:=ih _ _ _ _ _ _ _ h
    exact⟨_,by rw[h1,List.append_assoc],.eff hw hs h2⟩
   ·rename_i hs
    simp only[Option.some.injEq,Prod.mk.injEq]at h
    obtain⟨rfl,rfl,rfl,rfl⟩:=h
    exact⟨[],by simp,.panic hw hs⟩
   ·rename_i hs
    unfold callK at h
    split at h
    ·rename_i hc
     obtain⟨l2,h1,h2⟩:=ih _ _ _ _ _ _ _ h
     exact⟨_,by rw[h1,List.append_assoc],.call hw hs (hO.call _ _ _ _ _ _ hc) h2⟩
    ·rename_i hc
     simp only[Option.some.injEq,Prod.mk.injEq]at h
     obtain⟨rfl,rfl,rfl,rfl⟩:=h
     exact⟨_,rfl,.callP hw hs (hO.call _ _ _ _ _ _ hc)⟩
    ·cases h
   ·rename_i hs
    unfold callK at h
    split at h
    ·rename_i hc
     obtain⟨l2,h1,h2⟩:=ih _ _ _ _ _ _ _ h
     exact⟨_,by rw[h1,List.append_assoc],.round hw hs (hO.round _ _ _ _ _ _ hc) h2⟩
    ·rename_i hc
     simp only[Option.some.injEq,Prod.mk.injEq]at h
     obtain⟨rfl,rfl,rfl,rfl⟩:=h
     exact⟨_,rfl,.roundP hw hs (hO.round _ _ _ _ _ _ hc)⟩
    ·cases h
   ·rename_i hs
    split at h
    ·cases h
    ·rename_i hrn
     obtain⟨l2,h1,h2⟩:=ih _ _ _ _ _ _ _ h
     exact⟨l2,h1,.defer hw (by simpa using hrn) hs h2⟩
   ·cases h
theorem OpsR.wp{C:Cx}(hC:C.Ok P){rnd:Bool}{ops:Array Oper}{ro:Option Nat}(hro:rnd=false->ro=none){ρ₀:Ren}{U₀:St}{w₀:World}{rest:List Oper}{fr fr':Fr}{U U':St}{x:AX}{lg:Log}(h:OpsR P C rnd ops.toList rest fr U x fr' U' lg):
  ∀(k:Nat),ops.toList.drop k=rest->∀(ρ:Ren) (w:World) (a:Act),Aft ρ₀ U₀ w₀ ρ U w->FR ρ fr a->
   wpOpsIn (fence ro) 0 P ops (λe a' w'=>∃ρ',XR ρ' x e/\FR ρ' fr' a'/\Aft ρ₀ U₀ w₀ ρ' U' w') (List.range' k rest.length) a w:=by
 have two:∀{o:Oper} {rest:List Oper} {k:Nat},ops.toList.drop k=o :: rest->ops[k]?=some o/\ops.toList.drop (k+1)=rest:=λ{o rest k} hk=>by
  refine⟨?_,?_⟩
  ·have:=congrArg (·[0]?) hk
   simpa using this
  ·have:=congrArg (List.drop 1) hk
   simpa [List.drop_drop,Nat.add_comm]using this
 have eff:∀{x:AX} {fr':Fr} {U':St} {o:Oper} {rest:List Oper} {fr:Fr} {U U₁:St} {v:Value} {k:Nat} {ρ:Ren} {w:World} {a:Act},ops[k]?=some o->wantedA ops.toList o fr.ts=true->SimEff P o fr.ts U v U₁->(∀c,o.op≠.defer c)->Aft ρ₀ U₀ w₀ ρ U w->FR ρ fr a->
   (∀(ρ:Ren) (w:World) (a:Act),Aft ρ₀ U₀ w₀ ρ U₁ w->FR ρ (fr.put o.dst v) a->wpOpsIn (fence ro) 0 P ops (λe a' w'=>∃ρ',XR ρ' x e/\FR ρ' fr' a'/\Aft ρ₀ U₀ w₀ ρ' U' w') (List.range' (k+1) rest.length) a w)->
   wpOpsIn (fence ro) 0 P ops (λe a' w'=>∃ρ',XR ρ' x e/\FR ρ' fr' a'/\Aft ρ₀ U₀ w₀ ρ' U' w') (List.range' k (o :: rest).length) a w:=λ{x fr' U' o rest fr U U₁ v k ρ w a} hko hw hs hd hA hF hn=>by
  rw[List.length_cons,List.range'_succ]
  simp only[wpOpsIn,hko,wanted_VR hF,hw]
  rw[if_pos trivial]
  exact⟨λ_ _=>trivial,Sound.quiet_next hs hA.wr hF.ts ro hd λρ' v' w' hv hA'=>hn ρ' w' _ (hA.trans hA') ((hF.mono (hA'.le hA.wr)).put o.dst hv)⟩
 have monoC:∀{f:FuncId} {args':Array Value} {w:World} {R R':Ending->World->Prop},CallsIn (fence none) 0 P f args' w R->(∀e w,R e w->R' e w)->CallsIn (fence ro) (0 - 1) P f args' w R':=λhc hr=>
  ⟨trivial,λcs hroom=>let⟨e,w',fr,r,rest⟩:=hc.2 cs (room_fence _ _);⟨e,w',fr,hr _ _ r,rest⟩⟩
 have monoR:∀{w:World} {l:Nat} {f:FuncId} {tmps:Array Value} {as body:Code} {R R':Ending->World->Prop},RoundIn (fence none) 0 P l f tmps as body w R->(∀e w,R e w->R' e w)->RoundIn (fence ro) (0 - 1) P l f tmps as body w R':=λhc hr=>
  ⟨trivial,λc cs hroom=>let⟨e,w',r,rest⟩:=hc.2 c cs (room_fence _ _);⟨e,w',hr _ _ r,rest⟩⟩
 induction h with
 |nil=>intro k hk ρ w a hA hF;exact⟨ρ,trivial,hF,hA⟩
 |skip hwant _ ih=>
  intro k hk ρ w a hA hF
  obtain⟨hko,hrest⟩:=two hk
  rw[List.length_cons,List.range'_succ]
  simp only[wpOpsIn,hko,wanted_VR hF,hwant]
  rw[if_neg (by simp)]
  exact⟨λ_ _=>trivial,ih (k+1) hrest ρ w _ hA (hF.put _ (undef_VR ρ))⟩
 |val hw hs _ ih=>
  intro k hk ρ w a hA hF
  obtain⟨hko,hrest⟩:=two hk
  exact eff hko hw (SimVal.eff (stepOp_sound hC.T hC.bodies hs)) (not_defer hs (λ_=>by simp)) hA hF (ih (k+1) hrest)
 |new hw hs _ ih=>
  intro k hk ρ w a hA hF
  obtain⟨hko,hrest⟩:=two hk
  exact eff hko hw (SimNew.eff (stepOp_sound hC.T hC.bodies hs)) (not_defer hs (λ_=>by simp)) hA hF (ih (k+1) hrest)
 |@eff o rest fr fr' U U₁ U' x lg l v hw hs _ ih=>
  intro k hk ρ w a hA hF
  obtain⟨hko,hrest⟩:=two hk
  exact eff hko hw (stepOp_sound hC.T hC.bodies hs:SimEff P o fr.ts U v U₁/\Logged U U₁ l).1 (not_defer hs (λ_=>by simp)) hA hF (ih (k+1) hrest)
 |@panic o rest fr U v hw hs=>
  intro k hk ρ w a hA hF
  obtain⟨hko,hrest⟩:=two hk
  rw[List.length_cons,List.range'_succ]
  simp only[wpOpsIn,hko,wanted_VR hF,hw]
  rw[if_pos trivial]
  refine⟨λ_ _=>trivial,?_⟩
  obtain⟨v',h1,h2⟩:=stepOp_sound hC.T hC.bodies hs ρ w a hF.ts
  have hd:=not_defer hs (λ_=>by simp)
  show o.uponIn (fence ro) 0 P a _ _ ((o.semAt ro a.eval).run P w)
  rw[Oper.semAt_eq ro a.eval o hd,h1]
  exact⟨ρ,⟨⟨h2,rfl,rfl⟩,trivial⟩,hF,hA⟩
 |@call o rest fr fr' U U₁ U' x lg l f args v hw hs hc _ ih=>
  intro k hk ρ w a hA hF
  obtain⟨hko,hrest⟩:=two hk
  rw[List.length_cons,List.range'_succ]
  simp only[wpOpsIn,hko,wanted_VR hF,hw]
  rw[if_pos trivial]
  refine⟨λ_ _=>trivial,?_⟩
  obtain⟨args',h1,h2⟩:=stepOp_sound hC.T hC.bodies hs ρ w a hF.ts
  have hd:=not_defer hs (λ_=>by simp)
  show o.uponIn (fence ro) 0 P a _ _ ((o.semAt ro a.eval).run P w)
  rw[Oper.semAt_eq ro a.eval o hd,h1]
  refine⟨λhdp=>by simp [fence]at hdp,?_⟩
  refine monoC (hc.2 ρ w args' hA.wr h2) ?_
  rintro e w' ⟨ρ',he,hA'⟩
  cases e with
  |returned v'=>exact ih (k+1) hrest ρ' w' _ (hA.trans hA') ((hF.mono (hA'.le hA.wr)).put o.dst he)
  |panicked c=>exact he.elim
  |outgrown=>exact he.elim
 |@callP o rest fr U U₁ l f args c hw hs hc=>
  intro k hk ρ w a hA hF
  obtain⟨hko,hrest⟩:=two hk
  rw[List.length_cons,List.range'_succ]
  simp only[wpOpsIn,hko,wanted_VR hF,hw]
  rw[if_pos trivial]
  refine⟨λ_ _=>trivial,?_⟩
  obtain⟨args',h1,h2⟩:=stepOp_sound hC.T hC.bodies hs ρ w a hF.ts
  have hd:=not_defer hs (λ_=>by simp)
  show o.uponIn (fence ro) 0 P a _ _ ((o.semAt ro a.eval).run P w)
  rw[Oper.semAt_eq ro a.eval o hd,h1]
  refine⟨λhdp=>by simp [fence]at hdp,?_⟩
  refine monoC (hc.2 ρ w args' hA.wr h2) ?_
  rintro e w' ⟨ρ',he,hA'⟩
  cases e with
  |returned v'=>exact he.elim
  |panicked c'=>exact⟨ρ',he,hF.mono (hA'.le hA.wr),hA.trans hA'⟩
  |outgrown=>exact he.elim
 |@round o rest fr fr' U U₁ U' x lg l r args v hw hs hc _ ih=>
  intro k hk ρ w a hA hF
  obtain⟨hko,hrest⟩:=two hk
  rw[List.length_cons,List.range'_succ]
  simp only[wpOpsIn,hko,wanted_VR hF,hw]
  rw[if_pos trivial]
  refine⟨λ_ _=>trivial,?_⟩
  have hd:=not_defer hs (λ_=>by simp)
  obtain⟨c,l',args',ho,hl,h1,h2⟩:=stepOp_sound hC.T hC.bodies hs ρ w a hF.ts
  show o.uponIn (fence ro) 0 P a _ _ ((o.semAt ro a.eval).run P w)
  rw[Oper.semAt_eq ro a.eval o hd,h1]
  obtain⟨fn,tmps,as,body,h3,h4⟩:=hc.2 ρ w l' args' hA.wr hl h2
  rw[h3]
  refine⟨λhdp=>by simp [fence]at hdp,monoR h4 ?_⟩
  rintro e w' ⟨ρ',he,hA'⟩
  cases e with
  |returned v'=>exact ih (k+1) hrest ρ' w' _ (hA.trans hA') ((hF.mono (hA'.le hA.wr)).put o.dst he)
  |panicked c=>exact he.elim
  |outgrown=>exact he.elim
 |@roundP o rest fr U U₁ l r args c' hw hs hc=>
  intro k hk ρ w a hA hF
  obtain⟨hko,hrest⟩:=two hk
  rw[List.length_cons,List.range'_succ]
  simp only[wpOpsIn,hko,wanted_VR hF,hw]
  rw[if_pos trivial]
  refine⟨λ_ _=>trivial,?_⟩
  have hd:=not_defer hs (λ_=>by simp)
  obtain⟨c,l',args',ho,hl,h1,h2⟩:=stepOp_sound hC.T hC.bodies hs ρ w a hF.ts
  show o.uponIn (fence ro) 0 P a _ _ ((o.semAt ro a.eval).run P w)
  rw[Oper.semAt_eq ro a.eval o hd,h1]
  obtain⟨fn,tmps,as,body,h3,h4⟩:=hc.2 ρ w l' args' hA.wr hl h2
  rw[h3]
  refine⟨λhdp=>by simp [fence]at hdp,monoR h4 ?_⟩
  rintro e w' ⟨ρ',he,hA'⟩
  cases e with
  |returned v'=>exact he.elim
  |panicked c=>exact⟨ρ',he,hF.mono (hA'.le hA.wr),hA.trans hA'⟩
  |outgrown=>exact he.elim
 |@defer o rest fr fr' U U' x lg d hw hrn hs _ ih=>
  intro k hk ρ w a hA hF
  obtain⟨hko,hrest⟩:=two hk
  rw[List.length_cons,List.range'_succ]
  simp only[wpOpsIn,hko,wanted_VR hF,hw]
  rw[if_pos trivial]
  refine⟨λ_ _=>trivial,?_⟩
  have hro0:ro=none:=hro hrn
  subst hro0
  obtain⟨c,d',ho,h1,h2⟩:=stepOp_sound hC.T hC.bodies hs ρ w a hF.ts
  show o.uponIn (fence none) 0 P a _ _ ((o.semAt none a.eval).run P w)
  rw[Oper.semAt_none]
  have hrun:(execOp a.eval o).run P w=.ok (.defer d') w:=by simp [execOp,ho,h1]
  rw[hrun]
  have hF':FR ρ {fr with ds:=d :: fr.ds} {a with defers:=d' :: a.defers}:=⟨hF.ts,h2,hF.ds⟩
  exact ih (k+1) hrest ρ w _ hA (hF'.put o.dst (undef_VR ρ))
end Go.Ab
namespace Go.Ab
variable {P:Program}
def Ren.on(ρ ρ₁:Ren):Ren:=λb=>if ρ₁ b=none then none else ρ b
def Ren.below(ρ:Ren)(n:Nat):Ren:=λb=>if b<n then ρ b else none
theorem Ren.on_some{ρ ρ₁:Ren}{b:Nat}{l l₁:Loc}(h:ρ b=some l)(h₁:ρ₁ b=some l₁):ρ.on ρ₁ b=some l:=by simp [Ren.on,h₁,h]
theorem Ren.below_some{ρ:Ren}{n b:Nat}{l:Loc}:ρ.below n b=some l↔b<n/\ρ b=some l:=by
 unfold Ren.below;split<;>simp [*]
theorem Ren.below_le(ρ:Ren)(n:Nat):(ρ.below n).le ρ:=λ_ _ h=>(Ren.below_some.1 h).2
theorem Ren.below_mono{ρ ρ':Ren}(h:ρ.le ρ'){n m:Nat}(hn:n<=m):(ρ.below n).le (ρ'.below m):=λb l hb=>by
 rw[Ren.below_some]at hb ⊢;exact⟨by omega,h _ _ hb.2⟩
mutual
theorem VR.meet{ρ₁ ρ:Ren}{v:Value}:∀{v₁ v':Value},VR ρ₁ v v₁->VR ρ v v'->VR (ρ.on ρ₁) v v':=λ{v₁ v'} h k=>by
 cases k with
 |bool b=>exact .bool b
 |int k n=>exact .int k n
 |string s=>exact .string s
 |nilFunc=>exact .nilFunc
 |nilIface=>exact .nilIface
 |ptrNil=>exact .ptrNil
 |ptr hb=>cases h with
  |ptr h₁=>exact .ptr (Ren.on_some hb h₁)
 |sliceNil=>exact .sliceNil
 |sliceX hb=>cases h with
  |sliceX h₁=>exact .sliceX (Ren.on_some hb h₁)
 |sliceG hb hc hg=>cases h with
  |sliceG h₁ _ _=>exact .sliceG (Ren.on_some hb h₁) hc hg
 |sliceE=>exact .sliceE
 |mapNil=>exact .mapNil
 |map hb=>cases h with
  |map h₁=>exact .map (Ren.on_some hb h₁)
 |func ha hb=>cases h with
  |func h₁ h₂=>exact .func (VRL.meet h₁ ha) (VRL.meet h₂ hb)
 |yield hb=>cases h with
  |yield h₁=>exact .yield (Ren.on_some hb h₁)
 |iface hb=>cases h with
  |iface h₁=>exact .iface (VR.meet h₁ hb)
 |agg hb=>cases h with
  |agg h₁=>exact .agg (VRL.meet h₁ hb)
 |tuple hb=>cases h with
  |tuple h₁=>exact .tuple (VRL.meet h₁ hb)
theorem VRL.meet{ρ₁ ρ:Ren}{v:List Value}:∀{v₁ v':List Value},VRL ρ₁ v v₁->VRL ρ v v'->VRL (ρ.on ρ₁) v v':=λ{v₁ v'} h k=>by
 cases k with
 |nil=>exact .nil
 |cons k ks=>cases h with
  |cons h hs=>exact .cons (VR.meet h k) (VRL.meet hs ks)
end
theorem ME.meet{ρ₁ ρ:Ren}:∀{v v₁ v':List MapEntry},ME ρ₁ v v₁->ME ρ v v'->ME (ρ.on ρ₁) v v'
 |[],[],[],_,_=>trivial
 |_ :: _,_ :: _,_ :: _,h,k=>⟨⟨h.1.1.meet k.1.1,h.1.2.1.meet k.1.2.1,k.1.2.2⟩,ME.meet h.2 k.2⟩
 |[],_ :: _,_,h,_=>h.elim
 |_ :: _,[],_,h,_=>h.elim
 |[],[],_ :: _,_,k=>k.elim
 |_ :: _,_ :: _,[],_,k=>k.elim
theorem OR.meet{ρ₁ ρ:Ren}{l₁ l:Loc}{H₁ H:Array Obj}{o:AObj}(h:OR ρ₁ l₁ H₁ o)(k:OR ρ l H o):OR (ρ.on ρ₁) l H o:=by
 cases o with
 |cells vs ro=>
  obtain⟨c,e,fz,h1,h2,h3,h4,h6⟩:=k
  obtain⟨_,_,_,_,_,_,_,g6⟩:=h
  exact⟨c,e,fz,h1,h2,h3,h4,g6.meet h6⟩
 |map es clock=>obtain⟨es',h1,h2⟩:=k;obtain⟨_,_,g2⟩:=h;exact⟨es',h1,g2.meet h2⟩
 |mapIter m a b c=>obtain⟨h0,m',h1,h2⟩:=k;obtain⟨_,_,_,g2⟩:=h;exact⟨h0,m',h1,g2.meet h2⟩
 |stringIter s pos=>exact k
 |loop r=>obtain⟨ts,d,ld,g,h1,h2,h3,h4⟩:=k;obtain⟨_,_,_,_,_,g2,g3,_⟩:=h;exact⟨ts,d,ld,g,h1,g2.meet h2,Ren.on_some h3 g3,h4⟩
 |deferred n=>exact k
theorem lget_eq(vs:List Value)(n:Nat):lget vs n=(vs[n]?).getD undef:=by
 induction vs generalizing n with
 |nil=>simp [lget]
 |cons v vs ih=>cases n with
  |zero=>simp [lget]
  |succ n=>simp [lget,ih]
theorem lget_set(vs:List Value)(d t:Nat)(v:Value):lget (vs.set d v) t=if d=t/\d<vs.length then v else lget vs t:=by
 rw[lget_eq,lget_eq]
 by_cases e:d=t
 ·subst e
  by_cases h:d<vs.length
  ·simp [h]
  ·simp [h]
 ·simp [List.getElem?_set_ne e,e]
inductive SK where
 |pure (rd:List Nat)
 |alloc (ob:AObj) (rd:List Nat)
 |full (lg:List Nat)
def SK.lg:SK->List Nat
 |.full lg=>lg
 |_=>[]
def SK.rd:SK->List Nat
 |.full _=>[]
 |.pure rd=>rd
 |.alloc _ rd=>rd
def SK.isFull:SK->Bool
 |.full _=>true
 |_=>false
structure Tab where
 n:Nat
 ts:Nat->List Value
 U:Nat->St
 v:Nat->Value
 kd:Nat->SK
 dst:Nat->Option Tmp
 lk:Nat->List Tmp
 bf:Nat->Nat->Bool
def Tab.tch(X:Tab)(c k:Nat):Prop:=(X.U k).next<=c/\c<(X.U (k+1)).next\/c<(X.U k).next/\c∈(X.kd k).lg
def SlotR(ρ:Ren)(ts:List Value)(a:Act)(t:Nat):Prop:=VR ρ (lget ts t) (lget a.tmps.toList t)
def Tab.sem(X:Tab)(F:Fence)(P:Program)(ops:Array Oper)(Q:Exit->Act->World->Prop)(i:Nat):Prop:=
 ∀(ρ:Ren) (w:World) (a:Act) (K:Act->World->Prop),a.tmps.size=(X.ts i).length->(∀t∈X.lk i,SlotR ρ (X.ts i) a t)->
  match X.kd i with
  |.pure rd=>Reads ρ (X.U i) w.heap rd->(∀v',VR ρ (X.v i) v'->K (a.put (X.dst i) v') w)->wpOpIn F 0 P ops Q i K a w
  |.alloc ob rd=>Reads ρ (X.U i) w.heap rd->
    (∀v' w' obj sz,w'.heap=w.heap.push obj->w'.tape=w.tape->w'.os=w.os->w'.output=w.output->
     (∀ρ':Ren,ρ.le ρ'->ρ' (X.U i).next=some ⟨w.heap.size,0,sz,none⟩->VR ρ' (X.v i) v'/\OR ρ' ⟨w.heap.size,0,sz,none⟩ w'.heap ob)->K (a.put (X.dst i) v') w')->wpOpIn F 0 P ops Q i K a w
  |.full _=>WR ρ (X.U i) w.heap->(∀ρ' v' w',VR ρ' (X.v i) v'->Aft ρ (X.U i) w ρ' (X.U (i+1)) w'->K (a.put (X.dst i) v') w')->wpOpIn F 0 P ops Q i K a w
structure Tab.Ok(X:Tab)(F:Fence)(P:Program)(ops:Array Oper)(Q:Exit->Act->World->Prop):Prop where
 size:ops.size=X.n
 sem:∀i,i<X.n->X.sem F P ops Q i
 nxt:∀i,i<X.n->match X.kd i with
  |.pure _=>X.U (i+1)=X.U i
  |.alloc ob _=>X.U (i+1)=(X.U i).new ob
  |.full lg=>Logged (X.U i) (X.U (i+1)) lg
 put:∀i,i<X.n->X.ts (i+1)=match X.dst i with
  |some d=>(X.ts i).set d (X.v i)
  |none=>X.ts i
 slots:∀i j t,i<j->j<X.n->X.dst i=some t/\(t∈X.lk j\/X.dst j=some t)\/t∈X.lk i/\X.dst j=some t->X.bf i j=true
 effs:∀i j,i<j->j<X.n->(X.kd i).isFull=true->(X.kd j).isFull=true->(X.kd i).lg≠[]\/(X.kd j).lg≠[]->X.bf i j=true
 makes:∀i j c,i<j->j<X.n->(X.U i).next<=c->c<(X.U (i+1)).next->c∈(X.kd j).lg\/c∈(X.kd j).rd->X.bf i j=true
 reads:∀i j c,i<j->j<X.n->c∈(X.kd i).rd/\c∈(X.kd j).lg\/c∈(X.kd i).lg/\c∈(X.kd j).rd->X.bf i j=true
 ready:∀(listed:Array Bool) i,(∀j k,k<X.n->listed.getD k false=true->X.bf j k=true->listed.getD j false=true)->
  i∈Region.ready .any ops listed->∀j,X.bf j i=true->listed.getD j false=true
 done:∀(listed:Array Bool),listed.size=X.n->Region.ready .any ops listed=[]->∀i,i<X.n->listed.getD i false=true
variable {X:Tab} {F:Fence} {ops:Array Oper} {Q:Exit->Act->World->Prop}
theorem Tab.Ok.next_le(hX:X.Ok F P ops Q){i:Nat}(hi:i<X.n):(X.U i).next<=(X.U (i+1)).next:=by
 have:=hX.nxt i hi
 cases hk:X.kd i with
 |pure rd=>rw[hk]at this;simp only at this;rw[this];omega
 |alloc ob rd=>rw[hk]at this;simp only at this;rw[this];simp
 |full lg=>rw[hk]at this;exact this.1
theorem Tab.Ok.next_mono (hX : X.Ok F P ops Q) {i j : Nat} (hij : i ≤ j) (hj : j ≤ X.n) : (X.U i).next ≤ (X.U j).next := by
  induction j with
  | zero => have : i = 0 := by omega
            subst this; omega
  | succ j ih =>
    by_cases e : i = j + 1
    · subst e; omega
    · exact Nat.le_trans (ih (by omega) (by omega)) (hX.next_le (by omega))
theorem Tab.Ok.calm(hX:X.Ok F P ops Q){i c:Nat}(hi:i<X.n)(hc:c<(X.U i).next)(ht:¬X.tch c i):(X.U (i+1)).get c=(X.U i).get c:=by
 have:=hX.nxt i hi
 cases hk:X.kd i with
 |pure rd=>rw[hk]at this;simp only at this;rw[this]
 |alloc ob rd=>rw[hk]at this;simp only at this;rw[this,St.get_new,if_neg (by omega)]
 |full lg=>
  rw[hk]at this
  exact this.2 c hc λh=>ht (.inr ⟨hc,by rw[hk];exact h⟩)
theorem Tab.Ok.between (hX : X.Ok F P ops Q) {c p m : Nat} (hpm : p ≤ m) (hm : m ≤ X.n) (hc : c < (X.U p).next) (ht : ∀ k, p ≤ k → k < m → ¬ X.tch c k) : (X.U m).get c = (X.U p).get c := by
  induction m with
  | zero => have : p = 0 := by omega
            subst this; rfl
  | succ m ih =>
    by_cases e : p = m + 1
    · subst e; rfl
    · have hpm' : p ≤ m := by omega
      have := hX.next_mono hpm' (by omega : m ≤ X.n)
      rw [hX.calm (by omega) (by omega) (ht m hpm' (by omega)), ih hpm' (by omega) fun k h1 h2 => ht k h1 (by omega)]
theorem Tab.Ok.between_slot (hX : X.Ok F P ops Q) {t p m : Nat} (hpm : p ≤ m) (hm : m ≤ X.n) (ht : ∀ k, p ≤ k → k < m → X.dst k ≠ some t) : lget (X.ts m) t = lget (X.ts p) t := by
  induction m with
  | zero => have : p = 0 := by omega
            subst this; rfl
  | succ m ih =>
    by_cases e : p = m + 1
    · subst e; rfl
    · have hpm' : p ≤ m := by omega
      rw [← ih hpm' (by omega) fun k h1 h2 => ht k h1 (by omega), hX.put m (by omega)]
      have := ht m hpm' (by omega)
      cases hd : X.dst m with
      | none => rfl
      | some d =>
        rw [hd] at this
        rw [lget_set, if_neg (by rintro ⟨e, _⟩; subst e; exact this rfl)]
theorem Tab.Ok.ts_len(hX:X.Ok F P ops Q){m:Nat}(hm:m<=X.n):(X.ts m).length=(X.ts 0).length:=by
 induction m with
 |zero=>rfl
 |succ m ih=>
  rw[hX.put m (by omega)]
  cases X.dst m<;>simp [ih (by omega)]
def Tab.at(X:Tab)(S tc:Nat->Prop)(m:Nat):Prop:=m<=X.n/\(∀k,k<m->tc k->S k)/\(∀k,m<=k->k<X.n->tc k->¬S k)
structure Inv(X:Tab)(ρ₀:Ren)(w₀:World)(ds:List Deferred)(S:Nat->Prop)(g:Nat->Option AObj)(ρ:Ren)(w:World)(a:Act):Prop where
 len:a.tmps.size=(X.ts 0).length
 slot:∀t m,X.at S (λk=>X.dst k=some t) m->VR (ρ.below (X.U m).next) (lget (X.ts m) t) (lget a.tmps.toList t)
 ds:DRL (ρ.below (X.U 0).next) ds a.defers
 cont:∀c m,X.at S (X.tch c) m->c<(X.U m).next->g c=(X.U m).get c
 dom:∀c l,ρ c=some l->l.block<w.heap.size/\(c<(X.U 0).next\/∃k,k<X.n/\S k/\(X.U k).next<=c/\c<(X.U (k+1)).next)
 obj:∀c m l o,X.at S (X.tch c) m->c<(X.U m).next->ρ c=some l->g c=some o->OR (ρ.below (X.U m).next) l w.heap o
 inj:∀b b' l l',ρ b=some l->ρ b'=some l'->g b≠none->g b'≠none->l.block=l'.block->l.fix=none\/l'.fix=none->b=b'
 fixd:∀b l,ρ b=some l->l.fix≠none->g b≠none->∃vs,g b=some (.cells vs true)
 nofix:∀b l,(X.U 0).next<=b->ρ b=some l->l.fix=none
 ext:∀b,b<(X.U 0).next->ρ b=ρ₀ b
 size:w₀.heap.size<=w.heap.size
 fr:∀k,k<w₀.heap.size->(∀b l,ρ₀ b=some l->(X.U 0).get b≠none->l.block≠k)->w.heap[k]?=w₀.heap[k]?
 kept:∀b,b<(X.U 0).next->ρ₀ b=none->g b=(X.U 0).get b
 dead:∀b,b<(X.U 0).next->(X.U 0).get b=none->g b=none
 fresh:∀b l,(X.U 0).next<=b->ρ b=some l->w₀.heap.size<=l.block\/∃b₀ l₀,ρ₀ b₀=some l₀/\(X.U 0).get b₀≠none/\l₀.block=l.block
 tape:w.tape=w₀.tape
 os:w.os=w₀.os
 out:w.output=w₀.output
section
variable {ρ₀:Ren} {w₀:World} {ds:List Deferred} {S:Nat->Prop} {g:Nat->Option AObj} {ρ:Ren} {w:World} {a:Act} {i:Nat}
structure Turn(X:Tab)(S:Nat->Prop)(i:Nat):Prop where
 lt:i<X.n
 new:¬S i
 pre:∀j,X.bf j i=true->S j
 closed:∀j k,k<X.n->S k->X.bf j k=true->S j
theorem Turn.at{tc:Nat->Prop}(hi:Turn X S i)(h:∀k,k<i->tc k->X.bf k i=true\/S k)(k:∀k,i<k->k<X.n->tc k->X.bf i k=true):X.at S tc i:=
 ⟨Nat.le_of_lt hi.lt,λj hj ht=>(h j hj ht).elim (hi.pre j) id,λj hj hjn ht hs=>by
  by_cases e:j=i
  ·subst e;exact hi.new hs
  ·exact hi.new (hi.closed i j hjn hs (k j (by omega) hjn ht))⟩
theorem Turn.at_self{tc:Nat->Prop}{m:Nat}(hi:Turn X S i)(ho:∀k,i<k->k<X.n->tc k->X.bf i k=true)(ht:tc i)(h:X.at (λk=>S k\/k=i) tc m):
  i<m/\∀k,i+1<=k->k<m->¬tc k:=by
 have him:i<m:=by
  by_cases e:m<=i
  ·exact absurd (.inr rfl) (h.2.2 i e hi.lt ht)
  ·omega
 refine⟨him,λk hk hkm htk=>?_⟩
 rcases h.2.1 k hkm htk with hs|e
 ·have:=h.1
  exact hi.new (hi.closed i k (by omega) hs (ho k (by omega) (by omega) htk))
 ·omega
theorem Turn.at_other{tc:Nat->Prop}{m:Nat}(ht:¬tc i)(h:X.at (λk=>S k\/k=i) tc m):X.at S tc m:=
 ⟨h.1,λk hk hk'=>(h.2.1 k hk hk').elim id λe=>absurd (e▸hk') ht,λk hk hkn hk' hs=>h.2.2 k hk hkn hk' (.inl hs)⟩
theorem Inv.new_slots(hX:X.Ok F P ops Q)(h:Inv X ρ₀ w₀ ds S g ρ w a)(hi:Turn X S i){ρ':Ren}(hle:ρ.le ρ'){v':Value}(hv:VR (ρ'.below (X.U (i+1)).next) (X.v i) v'):
  ∀t m,X.at (λk=>S k\/k=i) (λk=>X.dst k=some t) m->VR (ρ'.below (X.U m).next) (lget (X.ts m) t) (lget (a.put (X.dst i) v').tmps.toList t):=by
 intro t m hat
 by_cases ht:X.dst i=some t
 ·have ho:∀k,i<k->k<X.n->X.dst k=some t->X.bf i k=true:=λk hk hkn hd=>hX.slots i k t hk hkn (.inl ⟨ht,.inr hd⟩)
  obtain⟨him,hno⟩:=hi.at_self ho ht hat
  rw[hX.between_slot him hat.1 hno,hX.put i hi.lt,ht]
  simp only[Act.put,Array.toList_setIfInBounds]
  rw[lget_set,lget_set]
  have hl:(X.ts i).length=a.tmps.toList.length:=by rw[hX.ts_len (Nat.le_of_lt hi.lt),<-h.len];simp
  by_cases hlt:t<(X.ts i).length
  ·rw[if_pos ⟨rfl,hlt⟩,if_pos ⟨rfl,hl▸hlt⟩]
   exact hv.mono (Ren.below_mono (Ren.le_refl _) (hX.next_mono him hat.1))
  ·rw[if_neg (λh=>hlt h.2),if_neg (λh=>hlt (hl.symm▸h.2))]
   rw[lget_eq,lget_eq,List.getElem?_eq_none (Nat.le_of_not_lt hlt),List.getElem?_eq_none (Nat.le_of_not_lt (hl▸hlt))]
   exact undef_VR _
 ·have:lget (a.put (X.dst i) v').tmps.toList t=lget a.tmps.toList t:=by
   cases hd:X.dst i with
   |none=>rfl
   |some d=>
    rw[hd]at ht
    simp only[Act.put,Array.toList_setIfInBounds,lget_set]
    rw[if_neg];rintro⟨e,_⟩;subst e;exact ht rfl
  rw[this]
  exact(h.slot t m (Turn.at_other ht hat)).mono (Ren.below_mono hle (Nat.le_refl _))
theorem Inv.put_len(h:Inv X ρ₀ w₀ ds S g ρ w a)(d:Option Tmp)(v':Value):(a.put d v').tmps.size=(X.ts 0).length:=by
 cases d<;>simp [Act.put,h.len]
theorem put_defers(a:Act)(d:Option Tmp)(v':Value):(a.put d v').defers=a.defers:=by cases d<;>rfl
theorem Inv.slot_at(hX:X.Ok F P ops Q)(h:Inv X ρ₀ w₀ ds S g ρ w a)(hi:Turn X S i):∀t∈X.lk i,SlotR (ρ.below (X.U i).next) (X.ts i) a t:=λt ht=>
 h.slot t i (hi.at (λk hk hd=>.inl (hX.slots k i t hk hi.lt (.inl ⟨hd,.inl ht⟩))) λk hk hkn hd=>hX.slots i k t hk hkn (.inr ⟨ht,hd⟩))
theorem Tab.Ok.window(hX:X.Ok F P ops Q){c k j:Nat}(hk:k<X.n)(hj:j<X.n)(h1:(X.U k).next<=c)(h2:c<(X.U (k+1)).next)(h3:(X.U j).next<=c)(h4:c<(X.U (j+1)).next):k=j:=by
 rcases Nat.lt_trichotomy k j with h|h|h
 ·have:=hX.next_mono (by omega:k+1<=j) (by omega:j<=X.n);omega
 ·exact h
 ·have:=hX.next_mono (by omega:j+1<=k) (by omega:k<=X.n);omega
theorem Tab.Ok.ordered(hX:X.Ok F P ops Q){c i j:Nat}(hij:i<j)(hj:j<X.n)(h:X.tch c i)(k:X.tch c j):X.bf i j=true:=by
 have full:∀{k:Nat},c∈(X.kd k).lg->(X.kd k).isFull=true/\(X.kd k).lg≠[]:=λ{k} hm=>by
  cases hk:X.kd k with
  |full lg=>rw[hk]at hm;exact⟨rfl,List.ne_nil_of_mem hm⟩
  |_=>rw[hk]at hm;cases hm
 rcases h with⟨h1,h2⟩|⟨h1,h2⟩
 ·rcases k with⟨k1,k2⟩|⟨k1,k2⟩
  ·have:=hX.window (by omega) hj h1 h2 k1 k2;omega
  ·exact hX.makes i j c hij hj h1 h2 (.inl k2)
 ·rcases k with⟨k1,k2⟩|⟨k1,k2⟩
  ·have:=hX.next_mono (by omega:i<=j) (by omega);omega
  ·exact hX.effs i j hij hj (full h2).1 (full k2).1 (.inl (full h2).2)
theorem Inv.reads(hX:X.Ok F P ops Q)(h:Inv X ρ₀ w₀ ds S g ρ w a)(hi:Turn X S i):Reads (ρ.below (X.U i).next) (X.U i) w.heap (X.kd i).rd:=by
 intro c hc l o hl ho
 rw[Ren.below_some]at hl
 have notfull:(X.kd i).lg=[]:=by
  cases hk:X.kd i with
  |full lg=>rw[hk]at hc;cases hc
  |_=>rfl
 have hat:X.at S (X.tch c) i:=hi.at
  (λk hk ht=>.inl (by
   rcases ht with⟨h1,h2⟩|⟨h1,h2⟩
   ·exact hX.makes k i c hk hi.lt h1 h2 (.inr hc)
   ·exact hX.reads k i c hk hi.lt (.inr ⟨h2,hc⟩)))
  λk hk hkn ht=>by
   rcases ht with⟨h1,h2⟩|⟨h1,h2⟩
   ·have:=hX.next_mono (by omega:i<=k) (by omega);omega
   ·exact hX.reads i k c hk hkn (.inl ⟨hc,h2⟩)
 have hg:=h.cont c i hat hl.1
 exact h.obj c i l o hat hl.1 hl.2 (hg.trans ho)
theorem Inv.full_at(hX:X.Ok F P ops Q)(h:Inv X ρ₀ w₀ ds S g ρ w a)(hi:Turn X S i)(hf:(X.kd i).isFull=true){c:Nat}(hc:c<(X.U i).next)(hm:c<(X.U 0).next\/ρ c≠none):
  X.at S (X.tch c) i:=by
 have full:∀{k:Nat},c∈(X.kd k).lg->(X.kd k).isFull=true/\(X.kd k).lg≠[]:=λ{k} hm=>by
  cases hk:X.kd k with
  |full lg=>rw[hk]at hm;exact⟨rfl,List.ne_nil_of_mem hm⟩
  |_=>rw[hk]at hm;cases hm
 refine hi.at (λk hk ht=>?_) λk hk hkn ht=>?_
 ·have:=hi.lt
  rcases ht with⟨h1,h2⟩|⟨h1,h2⟩
  ·have hb:(X.U 0).next<=(X.U k).next:=hX.next_mono (Nat.zero_le _) (by omega)
   have hr:ρ c≠none:=hm.elim (λh=>by omega) id
   cases hl:ρ c with
   |none=>exact absurd hl hr
   |some l=>
    rcases(h.dom c l hl).2 with h0|⟨k',hk',hs,h3,h4⟩
    ·omega
    ·have:=hX.window (by omega) hk' h1 h2 h3 h4
     subst this;exact .inr hs
  ·exact .inl (hX.effs k i hk hi.lt (full h2).1 hf (.inl (full h2).2))
 ·rcases ht with⟨h1,h2⟩|⟨h1,h2⟩
  ·have:=hX.next_mono (by omega:i<=k) (by omega);omega
  ·exact hX.effs i k hk hkn hf (full h2).1 (.inr (full h2).2)
theorem Inv.wr(hX:X.Ok F P ops Q)(h:Inv X ρ₀ w₀ ds S g ρ w a)(hi:Turn X S i)(hf:(X.kd i).isFull=true):WR (ρ.below (X.U i).next) (X.U i) w.heap where
 dom b l hl:=by rw[Ren.below_some]at hl;exact⟨hl.1,(h.dom b l hl.2).1⟩
 obj b l o hl ho:=by
  rw[Ren.below_some]at hl
  have hat:=h.full_at hX hi hf hl.1 (.inr (by rw[hl.2];simp))
  exact h.obj b i l o hat hl.1 hl.2 ((h.cont b i hat hl.1).trans ho)
 inj b b' l l' hl hl' hg hg' hbl hfx:=by
  rw[Ren.below_some]at hl hl'
  have hat:=h.full_at hX hi hf hl.1 (.inr (by rw[hl.2];simp))
  have hat':=h.full_at hX hi hf hl'.1 (.inr (by rw[hl'.2];simp))
  exact h.inj b b' l l' hl.2 hl'.2 (by rw[h.cont b i hat hl.1];exact hg) (by rw[h.cont b' i hat' hl'.1];exact hg') hbl hfx
 fixd b l hl hf' hg:=by
  rw[Ren.below_some]at hl
  have hat:=h.full_at hX hi hf hl.1 (.inr (by rw[hl.2];simp))
  obtain⟨vs,hv⟩:=h.fixd b l hl.2 hf' (by rw[h.cont b i hat hl.1];exact hg)
  exact⟨vs,by rw[<-h.cont b i hat hl.1];exact hv⟩
open Classical in
noncomputable def Tab.turned(X:Tab)(g:Nat->Option AObj)(i:Nat):Nat->Option AObj:=λc=>if X.tch c i then(X.U (i+1)).get c else g c
theorem Inv.new_cont(hX:X.Ok F P ops Q)(h:Inv X ρ₀ w₀ ds S g ρ w a)(hi:Turn X S i):
  ∀c m,X.at (λk=>S k\/k=i) (X.tch c) m->c<(X.U m).next->X.turned g i c=(X.U m).get c:=by
 intro c m hat hc
 unfold Tab.turned
 by_cases ht:X.tch c i
 ·rw[if_pos ht]
  obtain⟨him,hno⟩:=hi.at_self (λk hk hkn hk'=>hX.ordered hk hkn ht hk') ht hat
  refine(hX.between (p:=i+1) him hat.1 ?_ hno).symm
  have:=hX.next_le hi.lt
  rcases ht with⟨_,h2⟩|⟨h1,_⟩<;>omega
 ·rw[if_neg ht]
  exact h.cont c m (Turn.at_other ht hat) hc
theorem Inv.step_pure (hX : X.Ok F P ops Q) (h : Inv X ρ₀ w₀ ds S g ρ w a) (hi : Turn X S i) {rd : List Nat} (hk : X.kd i = .pure rd) {v' : Value} (hv : VR (ρ.below (X.U i).next) (X.v i) v') :
    Inv X ρ₀ w₀ ds (fun k => S k ∨ k = i) (X.turned g i) ρ w (a.put (X.dst i) v') := by
  have hUs : X.U (i + 1) = X.U i := by have := hX.nxt i hi.lt; rw [hk] at this; exact this
  have hno : ∀ c, ¬ X.tch c i := by
    rintro c (⟨h1, h2⟩ | ⟨_, h2⟩)
    · rw [hUs] at h2; omega
    · rw [hk] at h2; cases h2
  have hg : X.turned g i = g := funext fun c => by unfold Tab.turned; rw [if_neg (hno c)]
  have hcont := h.new_cont hX hi
  rw [hg] at hcont ⊢
  exact { h with
    len := h.put_len _ _, slot := h.new_slots hX hi (Ren.le_refl _) (by rw [hUs]; exact hv), ds := by rw [put_defers]; exact h.ds, cont := hcont
    dom := fun c l hl => ⟨(h.dom c l hl).1, (h.dom c l hl).2.imp id fun ⟨k, h1, h2, h3⟩ => ⟨k, h1, .inl h2, h3⟩⟩
    obj := fun c m l o hat => h.obj c m l o (Turn.at_other (hno c) hat) }
theorem Inv.step_alloc (hX : X.Ok F P ops Q) (h : Inv X ρ₀ w₀ ds S g ρ w a) (hi : Turn X S i) {ob : AObj} {rd : List Nat} (hk : X.kd i = .alloc ob rd) {v' : Value} {w' : World} {obj : Obj} {sz : Nat}
    (hh : w'.heap = w.heap.push obj) (ht : w'.tape = w.tape) (hos : w'.os = w.os) (hout : w'.output = w.output)
    (hv : ∀ ρ' : Ren, (ρ.below (X.U i).next).le ρ' → ρ' (X.U i).next = some ⟨w.heap.size, 0, sz, none⟩ → VR ρ' (X.v i) v' ∧ OR ρ' ⟨w.heap.size, 0, sz, none⟩ w'.heap ob) :
    Inv X ρ₀ w₀ ds (fun k => S k ∨ k = i) (X.turned g i) (ρ.add (X.U i).next ⟨w.heap.size, 0, sz, none⟩) w' (a.put (X.dst i) v') := by
  have hUs : X.U (i + 1) = (X.U i).new ob := by have := hX.nxt i hi.lt; rw [hk] at this; exact this
  have hn : (X.U (i + 1)).next = (X.U i).next + 1 := by rw [hUs]; rfl
  have htc : ∀ c, X.tch c i ↔ c = (X.U i).next := fun c => by
    unfold Tab.tch
    rw [hk, hn]
    constructor
    · rintro (⟨h1, h2⟩ | ⟨_, h2⟩)
      · omega
      · cases h2
    · intro e; exact .inl (by omega)
  have hnone : ρ (X.U i).next = none := by
    cases hl : ρ (X.U i).next with
    | none => rfl
    | some l =>
      rcases (h.dom _ l hl).2 with h0 | ⟨k, hkn, hs, h3, h4⟩
      · have := hX.next_mono (Nat.zero_le i) (Nat.le_of_lt hi.lt); omega
      · have := hX.window hi.lt hkn (Nat.le_refl _) (by omega) h3 h4
        subst this; exact absurd hs hi.new
  have hle : ρ.le (ρ.add (X.U i).next ⟨w.heap.size, 0, sz, none⟩) := fun b l hl => by
    rw [Ren.add_other]; exact hl
    intro e; subst e; rw [hnone] at hl; cases hl
  have hold : ∀ k, k < w.heap.size → w'.heap[k]? = w.heap[k]? := fun k hk => by rw [hh, Array.getElem?_push_lt hk, Array.getElem?_eq_getElem hk]
  have hle' : (ρ.below (X.U i).next).le ((ρ.add (X.U i).next ⟨w.heap.size, 0, sz, none⟩).below (X.U (i + 1)).next) := Ren.below_mono hle (by omega)
  obtain ⟨hv1, hv2⟩ := hv _ hle' (by rw [Ren.below_some]; exact ⟨by omega, Ren.add_same _ _ _⟩)
  have hother : ∀ c, c ≠ (X.U i).next → X.turned g i c = g c := fun c hc => by unfold Tab.turned; rw [if_neg (by rw [htc]; exact hc)]
  have hsame : X.turned g i (X.U i).next = some ob := by unfold Tab.turned; rw [if_pos ((htc _).2 rfl), hUs, St.get_new, if_pos rfl]
  have h0 := hX.next_mono (Nat.zero_le i) (Nat.le_of_lt hi.lt)
  refine { len := h.put_len _ _, slot := h.new_slots hX hi hle hv1, ds := by rw [put_defers]; exact h.ds.mono (Ren.below_mono hle (Nat.le_refl _)), cont := h.new_cont hX hi,
           dom := ?_, obj := ?_, inj := ?_, fixd := ?_, nofix := ?_, ext := ?_, size := ?_, fr := ?_, kept := ?_, dead := ?_, fresh := ?_, tape := ht.trans h.tape, os := hos.trans h.os, out := hout.trans h.out }
  · intro c l hl
    by_cases e : c = (X.U i).next
    · subst e
      rw [Ren.add_same] at hl; cases hl
      exact ⟨by rw [hh]; simp, .inr ⟨i, hi.lt, .inr rfl, Nat.le_refl _, by omega⟩⟩
    · rw [Ren.add_other _ _ e] at hl
      have := h.dom c l hl
      exact ⟨by rw [hh]; simp; omega, this.2.imp id fun ⟨k, h1, h2, h3⟩ => ⟨k, h1, .inl h2, h3⟩⟩
  · intro c m l o hat hc hl ho
    by_cases e : c = (X.U i).next
    · subst e
      rw [Ren.add_same] at hl; cases hl
      rw [hsame] at ho; cases ho
      obtain ⟨him, _⟩ := hi.at_self (fun k hk hkn hk' => hX.ordered hk hkn ((htc _).2 rfl) hk') ((htc _).2 rfl) hat
      exact hv2.mono (Ren.below_mono (Ren.le_refl _) (hX.next_mono him hat.1))
    · rw [Ren.add_other _ _ e] at hl
      rw [hother c e] at ho
      refine ((h.obj c m l o (Turn.at_other (by rw [htc]; exact e) hat) hc hl ho).of_block (hold _ (h.dom c l hl).1)).mono (Ren.below_mono hle (Nat.le_refl _))
  · intro b b' l l' hl hl' hg hg' hbl hfx
    by_cases e : b = (X.U i).next
    · by_cases e' : b' = (X.U i).next
      · rw [e, e']
      · subst e
        rw [Ren.add_same] at hl; cases hl
        rw [Ren.add_other _ _ e'] at hl'
        have := (h.dom b' l' hl').1
        simp at hbl; omega
    · by_cases e' : b' = (X.U i).next
      · subst e'
        rw [Ren.add_same] at hl'; cases hl'
        rw [Ren.add_other _ _ e] at hl
        have := (h.dom b l hl).1
        simp at hbl; omega
      · rw [Ren.add_other _ _ e] at hl
        rw [Ren.add_other _ _ e'] at hl'
        rw [hother b e] at hg
        rw [hother b' e'] at hg'
        exact h.inj b b' l l' hl hl' hg hg' hbl hfx
  · intro b l hl hf hg
    by_cases e : b = (X.U i).next
    · subst e
      rw [Ren.add_same] at hl; cases hl
      exact absurd rfl hf
    · rw [Ren.add_other _ _ e] at hl
      rw [hother b e] at hg ⊢
      exact h.fixd b l hl hf hg
  · intro b l hb hl
    by_cases e : b = (X.U i).next
    · subst e
      rw [Ren.add_same] at hl; cases hl
      rfl
    · rw [Ren.add_other _ _ e] at hl
      exact h.nofix b l hb hl
  · intro b hb; rw [Ren.add_other _ _ (by omega)]; exact h.ext b hb
  · rw [hh]; simp; have := h.size; omega
  · intro k hk hn; rw [hold k (by have := h.size; omega)]; exact h.fr k hk hn
  · intro b hb hr; rw [hother b (by omega)]; exact h.kept b hb hr
  · intro b hb hr; rw [hother b (by omega)]; exact h.dead b hb hr
  · intro b l hb hl
    by_cases e : b = (X.U i).next
    · subst e
      rw [Ren.add_same] at hl; cases hl
      exact .inl h.size
    · rw [Ren.add_other _ _ e] at hl
      exact h.fresh b l hb hl
def Tab.grown(X:Tab)(i:Nat)(ρ ρᵢ:Ren):Ren:=λc=>if(X.U i).next<=c/\c<(X.U (i+1)).next then ρᵢ c else ρ c
theorem Inv.step_full (hX : X.Ok F P ops Q) (h : Inv X ρ₀ w₀ ds S g ρ w a) (hi : Turn X S i) (hf : (X.kd i).isFull = true) {v' : Value} {w' : World} {ρᵢ : Ren}
    (hv : VR ρᵢ (X.v i) v') (hA : Aft (ρ.below (X.U i).next) (X.U i) w ρᵢ (X.U (i + 1)) w') :
    Inv X ρ₀ w₀ ds (fun k => S k ∨ k = i) (X.turned g i) (X.grown i ρ ρᵢ) w' (a.put (X.dst i) v') := by
  have h0 := hX.next_mono (Nat.zero_le i) (Nat.le_of_lt hi.lt)
  have hn := hX.next_le hi.lt
  have hwr := h.wr hX hi hf
  have full_at : ∀ {c : Nat}, c < (X.U i).next → (c < (X.U 0).next ∨ ρ c ≠ none) → X.at S (X.tch c) i := fun hc hm => h.full_at hX hi hf hc hm
  have gold : ∀ {c : Nat}, c < (X.U i).next → (c < (X.U 0).next ∨ ρ c ≠ none) → g c = (X.U i).get c := fun hc hm => h.cont _ i (full_at hc hm) hc
  have gnew : ∀ {c : Nat}, c < (X.U i).next → (c < (X.U 0).next ∨ ρ c ≠ none) → X.turned g i c = (X.U (i + 1)).get c := fun {c} hc hm => by
    unfold Tab.turned
    split
    · rfl
    · rename_i ht; rw [gold hc hm, hX.calm hi.lt hc ht]
  have gwin : ∀ {c : Nat}, (X.U i).next ≤ c → c < (X.U (i + 1)).next → X.turned g i c = (X.U (i + 1)).get c := fun {c} h1 h2 => by
    unfold Tab.turned; rw [if_pos (.inl ⟨h1, h2⟩)]
  have gfar : ∀ {c : Nat}, (X.U (i + 1)).next ≤ c → X.turned g i c = g c := fun {c} h1 => by
    unfold Tab.turned; rw [if_neg]; rintro (⟨_, h2⟩ | ⟨h2, _⟩) <;> omega
  have hwin : ∀ {c : Nat}, (X.U i).next ≤ c → c < (X.U (i + 1)).next → ρ c = none := fun {c} h1 h2 => by
    cases hl : ρ c with
    | none => rfl
    | some l =>
      rcases (h.dom _ l hl).2 with h0 | ⟨k, hkn, hs, h3, h4⟩
      · omega
      · have := hX.window hi.lt hkn h1 h2 h3 h4
        subst this; exact absurd hs hi.new
  have rold : ∀ {c : Nat}, c < (X.U i).next → ρᵢ c = ρ c := fun {c} hc => by rw [hA.ext c hc]; unfold Ren.below; rw [if_pos hc]
  have rfar : ∀ {c : Nat} {l : Loc}, ρᵢ c = some l → c < (X.U (i + 1)).next := fun hl => (hA.wr.dom _ _ hl).1
  have grow_lo : ∀ {c : Nat}, c < (X.U i).next → X.grown i ρ ρᵢ c = ρ c := fun {c} hc => by unfold Tab.grown; rw [if_neg (by omega)]
  have grow_win : ∀ {c : Nat}, (X.U i).next ≤ c → c < (X.U (i + 1)).next → X.grown i ρ ρᵢ c = ρᵢ c := fun {c} h1 h2 => by unfold Tab.grown; rw [if_pos ⟨h1, h2⟩]
  have grow_far : ∀ {c : Nat}, (X.U (i + 1)).next ≤ c → X.grown i ρ ρᵢ c = ρ c := fun {c} hc => by unfold Tab.grown; rw [if_neg (by omega)]
  have hle : ρ.le (X.grown i ρ ρᵢ) := fun b l hl => by
    by_cases hw : (X.U i).next ≤ b ∧ b < (X.U (i + 1)).next
    · rw [hwin hw.1 hw.2] at hl; cases hl
    · unfold Tab.grown; rw [if_neg hw]; exact hl
  have hleᵢ : ρᵢ.le ((X.grown i ρ ρᵢ).below (X.U (i + 1)).next) := fun b l hl => by
    have hb := rfar hl
    rw [Ren.below_some]
    refine ⟨hb, ?_⟩
    by_cases hw : (X.U i).next ≤ b
    · rw [grow_win hw hb]; exact hl
    · rw [grow_lo (by omega), ← rold (by omega)]; exact hl
  have far_block : ∀ {c : Nat} {l : Loc}, (X.U (i + 1)).next ≤ c → ρ c = some l → g c ≠ none → w'.heap[l.block]? = w.heap[l.block]? := fun {c l} hc hl hg =>
    hA.fr _ (h.dom c l hl).1 fun b lb hlb hgb e => by
      rw [Ren.below_some] at hlb
      have := h.inj b c lb l hlb.2 hl (by rw [gold hlb.1 (.inr (by rw [hlb.2]; simp))]; exact hgb) hg e (.inr (h.nofix c l (by omega) hl))
      omega
  refine { len := h.put_len _ _, slot := h.new_slots hX hi hle (hv.mono hleᵢ), ds := by rw [put_defers]; exact h.ds.mono (Ren.below_mono hle (Nat.le_refl _)), cont := h.new_cont hX hi,
           dom := ?_, obj := ?_, inj := ?_, fixd := ?_, nofix := ?_, ext := ?_, size := Nat.le_trans h.size hA.size, fr := ?_, kept := ?_, dead := ?_, fresh := ?_,
           tape := hA.tape.trans h.tape, os := hA.os.trans h.os, out := hA.out.trans h.out }
  · intro c l hl
    by_cases hw : (X.U i).next ≤ c ∧ c < (X.U (i + 1)).next
    · rw [grow_win hw.1 hw.2] at hl
      exact ⟨(hA.wr.dom _ _ hl).2, .inr ⟨i, hi.lt, .inr rfl, hw⟩⟩
    · have hl' : ρ c = some l := by unfold Tab.grown at hl; rw [if_neg hw] at hl; exact hl
      have := h.dom c l hl'
      exact ⟨Nat.lt_of_lt_of_le this.1 hA.size, this.2.imp id fun ⟨k, h1, h2, h3⟩ => ⟨k, h1, .inl h2, h3⟩⟩
  · intro c m l o hat hc hl ho
    by_cases htc : X.tch c i
    · obtain ⟨him, _⟩ := hi.at_self (fun k hk hkn hk' => hX.ordered hk hkn htc hk') htc hat
      have hcn : c < (X.U (i + 1)).next := by rcases htc with ⟨_, h2⟩ | ⟨h1, _⟩ <;> omega
      have ho' : (X.U (i + 1)).get c = some o := by rw [← ho]; unfold Tab.turned; rw [if_pos htc]
      have hl' : ρᵢ c = some l := by
        by_cases hw : (X.U i).next ≤ c
        · rw [← grow_win hw hcn]; exact hl
        · rw [rold (Nat.lt_of_not_le hw)]; rw [grow_lo (Nat.lt_of_not_le hw)] at hl; exact hl
      exact (hA.wr.obj c l o hl' ho').mono (Ren.le_trans hleᵢ (Ren.below_mono (Ren.le_refl _) (hX.next_mono him hat.1)))
    · have hat' := Turn.at_other htc hat
      have ho' : g c = some o := by rw [← ho]; unfold Tab.turned; rw [if_neg htc]
      by_cases hlo : c < (X.U i).next
      · have hl' : ρ c = some l := by rw [grow_lo hlo] at hl; exact hl
        have hm : c < (X.U 0).next ∨ ρ c ≠ none := .inr (by rw [hl']; simp)
        have hold := h.obj c m l o hat' hc hl' ho'
        have hnew := hA.wr.obj c l o (by rw [rold hlo]; exact hl') (by rw [← gnew hlo hm]; exact ho)
        refine (hold.meet hnew).mono fun b lb hb => ?_
        unfold Ren.on at hb
        split at hb
        · cases hb
        · rename_i hne
          cases hρ : ρ.below (X.U m).next b with
          | none => exact absurd hρ hne
          | some lb' =>
            rw [Ren.below_some] at hρ
            rw [Ren.below_some]
            refine ⟨hρ.1, ?_⟩
            have hbn := rfar hb
            by_cases hw : (X.U i).next ≤ b
            · rw [hwin hw hbn] at hρ; cases hρ.2
            · rw [grow_lo (by omega), ← rold (by omega)]; exact hb
      · have hfar : (X.U (i + 1)).next ≤ c := by
          by_cases e : (X.U (i + 1)).next ≤ c
          · exact e
          · exact absurd (.inl ⟨by omega, by omega⟩) htc
        have hl' : ρ c = some l := by rw [grow_far hfar] at hl; exact hl
        exact ((h.obj c m l o hat' hc hl' ho').of_block (far_block hfar hl' (by rw [ho']; simp))).mono (Ren.below_mono hle (Nat.le_refl _))
  ·
    have near : ∀ {b : Nat} {l : Loc}, b < (X.U (i + 1)).next → X.grown i ρ ρᵢ b = some l → X.turned g i b ≠ none → ρᵢ b = some l ∧ (X.U (i + 1)).get b ≠ none := fun {b l} hb hl hg => by
      by_cases hw : (X.U i).next ≤ b
      · rw [grow_win hw hb] at hl
        rw [gwin hw hb] at hg
        exact ⟨hl, hg⟩
      · rw [grow_lo (by omega)] at hl
        rw [gnew (by omega) (.inr (by rw [hl]; simp))] at hg
        exact ⟨by rw [rold (by omega)]; exact hl, hg⟩
    have mixed : ∀ {b c : Nat} {l l' : Loc}, b < (X.U (i + 1)).next → (X.U (i + 1)).next ≤ c → X.grown i ρ ρᵢ b = some l → X.grown i ρ ρᵢ c = some l' → X.turned g i b ≠ none → X.turned g i c ≠ none → l.block ≠ l'.block := fun {b c l l'} hb hc hl hl' hg hg' e => by
      obtain ⟨hl1, hg1⟩ := near hb hl hg
      rw [grow_far hc] at hl'
      rw [gfar hc] at hg'
      by_cases hw : (X.U i).next ≤ b
      · rcases hA.fresh b l hw hl1 with hsz | ⟨b₀, l₀, hb₀, hg₀, hbl⟩
        · have := (h.dom c l' hl').1; omega
        · rw [Ren.below_some] at hb₀
          have := h.inj b₀ c l₀ l' hb₀.2 hl' (by rw [gold hb₀.1 (.inr (by rw [hb₀.2]; simp))]; exact hg₀) hg' (by omega) (.inr (h.nofix c l' (by omega) hl'))
          omega
      · have hlb : ρ b = some l := by rw [← rold (by omega)]; exact hl1
        have hm : b < (X.U 0).next ∨ ρ b ≠ none := .inr (by rw [hlb]; simp)
        have := h.inj b c l l' hlb hl' (by
          rw [gold (by omega) hm]
          intro hd
          exact hg1 (hA.dead b (by omega) hd)) hg' e (.inr (h.nofix c l' (by omega) hl'))
        omega
    intro b b' l l' hl hl' hg hg' hbl hfx
    by_cases hb : b < (X.U (i + 1)).next
    · by_cases hb' : b' < (X.U (i + 1)).next
      · obtain ⟨h1, h2⟩ := near hb hl hg
        obtain ⟨h3, h4⟩ := near hb' hl' hg'
        exact hA.wr.inj b b' l l' h1 h3 h2 h4 hbl hfx
      · exact absurd hbl (mixed hb (by omega) hl hl' hg hg')
    · by_cases hb' : b' < (X.U (i + 1)).next
      · exact absurd hbl.symm (mixed hb' (by omega) hl' hl hg' hg)
      · rw [grow_far (by omega)] at hl hl'
        rw [gfar (by omega)] at hg hg'
        exact h.inj b b' l l' hl hl' hg hg' hbl hfx
  · intro b l hl hf hg
    by_cases hb : b < (X.U (i + 1)).next
    · by_cases hw : (X.U i).next ≤ b
      · rw [grow_win hw hb] at hl
        rw [gwin hw hb] at hg ⊢
        exact hA.wr.fixd b l hl hf hg
      · rw [grow_lo (by omega)] at hl
        rw [gnew (by omega) (.inr (by rw [hl]; simp))] at hg ⊢
        exact hA.wr.fixd b l (by rw [rold (by omega)]; exact hl) hf hg
    · rw [grow_far (by omega)] at hl
      rw [gfar (by omega)] at hg ⊢
      exact h.fixd b l hl hf hg
  · intro b l hb hl
    by_cases hw : (X.U i).next ≤ b ∧ b < (X.U (i + 1)).next
    · rw [grow_win hw.1 hw.2] at hl
      exact hA.nofix b l hw.1 hl
    · have hl' : ρ b = some l := by unfold Tab.grown at hl; rw [if_neg hw] at hl; exact hl
      exact h.nofix b l hb hl'
  · intro b hb; rw [grow_lo (by omega)]; exact h.ext b hb
  · intro k hk hnk
    rw [← h.fr k hk hnk]
    refine hA.fr k (Nat.lt_of_lt_of_le hk h.size) fun b l hl hg => ?_
    rw [Ren.below_some] at hl
    by_cases hb : b < (X.U 0).next
    · refine hnk b l (by rw [← h.ext b hb]; exact hl.2) fun hd => hg ?_
      rw [← gold hl.1 (.inl hb)]; exact h.dead b hb hd
    · rcases h.fresh b l (by omega) hl.2 with h1 | ⟨b₀, l₀, h1, h2, h3⟩
      · omega
      · rw [← h3]; exact hnk b₀ l₀ h1 h2
  · intro b hb hr
    have hbi : b < (X.U i).next := by omega
    rw [gnew hbi (.inl hb), hA.kept b hbi (by unfold Ren.below; rw [if_pos hbi, h.ext b hb]; exact hr), ← gold hbi (.inl hb)]
    exact h.kept b hb hr
  · intro b hb hr
    have hbi : b < (X.U i).next := by omega
    rw [gnew hbi (.inl hb)]
    refine hA.dead b hbi ?_
    rw [← gold hbi (.inl hb)]
    exact h.dead b hb hr
  · intro b l hb hl
    by_cases hw : (X.U i).next ≤ b ∧ b < (X.U (i + 1)).next
    · rw [grow_win hw.1 hw.2] at hl
      rcases hA.fresh b l hw.1 hl with h1 | ⟨b₀, l₀, h1, h2, h3⟩
      · exact .inl (Nat.le_trans h.size h1)
      · rw [Ren.below_some] at h1
        by_cases hb₀ : b₀ < (X.U 0).next
        · refine .inr ⟨b₀, l₀, by rw [← h.ext b₀ hb₀]; exact h1.2, fun hd => h2 ?_, h3⟩
          rw [← gold h1.1 (.inl hb₀)]; exact h.dead b₀ hb₀ hd
        · rcases h.fresh b₀ l₀ (by omega) h1.2 with h4 | ⟨b₁, l₁, h4, h5, h6⟩
          · exact .inl (by omega)
          · exact .inr ⟨b₁, l₁, h4, h5, by omega⟩
    · have hl' : ρ b = some l := by unfold Tab.grown at hl; rw [if_neg hw] at hl; exact hl
      exact h.fresh b l hb hl'
end
end Go.Ab
namespace Go.Ab
variable {P:Program} {T:TT}
theorem evs_congr{ts ts':List Value}:∀{xs:List Operand},(∀x∈xs,ev ts' x=ev ts x)->evs ts' xs=evs ts xs
 |[],_=>rfl
 |x :: xs,h=>by
  simp only[evs]
  rw[h x (by simp),evs_congr λy hy=>h y (by simp [hy])]
theorem evo_congr{ts ts':List Value}{x:Option Operand}(h:∀y,x=some y->ev ts' y=ev ts y):evo ts' x=evo ts x:=by
 cases x with
 |none=>rfl
 |some y=>simp only[evo];rw[h y rfl]
theorem partsA_congr{ts ts':List Value}:∀{ps:List (Nat×Operand)},(∀x∈ps.map (·.2),ev ts' x=ev ts x)->partsA ts' ps=partsA ts ps
 |[],_=>rfl
 |(i,x) :: ps,h=>by
  simp only[partsA]
  rw[h x (by simp),partsA_congr λy hy=>h y (by simp only[List.map_cons,List.mem_cons];exact .inr hy)]
theorem stepBuiltin_congr{o:Oper}{b:Builtin}{xs:List Operand}{tys:List TypeId}{ts ts':List Value}{U:St}(h:∀x∈xs,ev ts' x=ev ts x):
  stepBuiltin T o b xs tys ts' U=stepBuiltin T o b xs tys ts U:=by
 unfold stepBuiltin
 split<;>first
  |rfl
  |(rw[h _ (by simp),h _ (by simp)])
  |(rw[h _ (by simp)])
theorem stepOp_congr{bodies:FuncId->Bool}{o:Oper}{ts ts':List Value}{U:St}(h:∀x∈o.op.operands,ev ts' x=ev ts x):
  stepOp T bodies o ts' U=stepOp T bodies o ts U:=by
 obtain⟨dst,op,type,pos,after,guard⟩:=o
 cases op<;>simp only[Op.operands]at h<;>simp only[stepOp]
 case build t ps=>rw[partsA_congr (ts:=ts) (ts':=ts') λx hx=>h x (by simpa using hx)]
 case buildSlice t n ps=>rw[partsA_congr (ts:=ts) (ts':=ts') λx hx=>h x (by simpa using hx)]
 case makeFunc fn xs ys=>
  rw[evs_congr (ts:=ts) (ts':=ts') (xs:=xs.toList) λx hx=>h x (by simp at hx;simp [hx]),evs_congr (ts:=ts) (ts':=ts') (xs:=ys.toList) λx hx=>h x (by simp at hx;simp [hx])]
 case makeMap t r=>rw[evo_congr (ts:=ts) (ts':=ts') λy hy=>h y (by subst hy;simp)]
 case slice t x lo hi mx=>
  rw[h x (by simp),evo_congr (x:=lo) (ts:=ts) (ts':=ts') λy hy=>h y (by subst hy;simp),evo_congr (x:=hi) (ts:=ts) (ts':=ts') λy hy=>h y (by subst hy;simp),
   evo_congr (x:=mx) (ts:=ts) (ts':=ts') λy hy=>h y (by subst hy;simp)]
 case call c=>
  obtain⟨callee,args,tys⟩:=c
  simp only[Call.operands]at h
  cases callee with
  |builtin b=>simp only at h ⊢;exact stepBuiltin_congr λx hx=>h x (by simpa using hx)
  |value f=>simp only at h ⊢;rw[h f (by simp),evs_congr (ts:=ts) (ts':=ts') λx hx=>h x (by simp at hx;simp [hx])]
  |invoke r m=>rfl
 case defer c=>
  obtain⟨callee,args,tys⟩:=c
  simp only[Call.operands]at h
  cases callee with
  |builtin b=>rfl
  |value f=>simp only at h ⊢;rw[h f (by simp),evs_congr (ts:=ts) (ts':=ts') λx hx=>h x (by simp at hx;simp [hx])]
  |invoke r m=>rfl
 all_goals first
  |rfl
  |(rw[h _ (by simp),h _ (by simp),h _ (by simp)];done)
  |(rw[h _ (by simp),h _ (by simp)];done)
  |(rw[h _ (by simp)];done)
  |simp_all
def mk(l:List Tmp)(ts:List Value):List Value:=(List.range ts.length).map λt=>if t∈l then lget ts t else undef
theorem lget_mk{l:List Tmp}{ts:List Value}{t:Tmp}(h:t∈l):lget (mk l ts) t=lget ts t:=by
 rw[lget_eq]
 unfold mk
 by_cases ht:t<ts.length
 ·simp [ht,h]
 ·simp [ht,lget_eq]
theorem mk_VRL{ρ:Ren}{l:List Tmp}{ts:List Value}{a:Act}(hl:a.tmps.size=ts.length)(h:∀t∈l,SlotR ρ ts a t):VRL ρ (mk l ts) (mk l a.tmps.toList):=by
 refine VRL.of_get (by simp [mk,hl]) λi v hv=>?_
 unfold mk at hv ⊢
 rw[List.getElem?_map]at hv ⊢
 by_cases hi:i<ts.length
 ·rw[List.getElem?_range (by simpa using hi)]at hv
  rw[List.getElem?_range (by simpa [hl]using hi)]
  simp only[Option.map_some,Option.some.injEq]at hv
  subst hv
  refine⟨_,rfl,?_⟩
  by_cases hm:i∈l
  ·show VR ρ (if i∈l then lget ts i else undef) (if i∈l then lget a.tmps.toList i else undef)
   rw[if_pos hm,if_pos hm];exact h i hm
  ·show VR ρ (if i∈l then lget ts i else undef) (if i∈l then lget a.tmps.toList i else undef)
   rw[if_neg hm,if_neg hm];exact undef_VR ρ
 ·simp [hi]at hv
def mkAct(l:List Tmp)(a:Act):Act:={a with tmps:=(mk l a.tmps.toList).toArray}
theorem mkAct_eval{l:List Tmp}{a:Act}{x:Operand}(h:∀t,x=.tmp t->t∈l):(mkAct l a).eval x=a.eval x:=by
 cases x with
 |tmp t=>
  rw[Act.eval_tmp,Act.eval_tmp]
  have:=lget_mk (ts:=a.tmps.toList) (h t rfl)
  rw[lget_eq,lget_eq]at this
  simpa [mkAct]using this
 |_=>rfl
theorem mem_looksAt{ops:Array Oper}{o:Oper}{x:Operand}(hx:x∈o.op.operands){t:Tmp}(e:x=.tmp t):t∈o.looksAt ops:=by
 subst e
 exact List.mem_append_left _ (List.mem_filterMap.2 ⟨.tmp t,by simpa using hx,rfl⟩)
theorem step_mk{bodies:FuncId->Bool}{ops:Array Oper}{o:Oper}{ts:List Value}{U:St}:stepOp T bodies o (mk (o.looksAt ops) ts) U=stepOp T bodies o ts U:=
 stepOp_congr λx hx=>by
  cases x with
  |tmp t=>simp only[ev];rw[lget_mk (mem_looksAt hx rfl)]
  |_=>rfl
theorem stepOp_select{bodies:FuncId->Bool}{o:Oper}{ts:List Value}{U:St}{r:ORes}(h:stepOp T bodies o ts U=some r):∀cs b,o.op≠.select cs b:=by
 intro cs b hc
 unfold stepOp at h
 rw[hc]at h
 cases h
theorem exec_mk{bodies:FuncId->Bool}{ops:Array Oper}{o:Oper}{ts:List Value}{U:St}{r:ORes}(h:stepOp T bodies o ts U=some r)(a:Act):
  execOp (mkAct (o.looksAt ops) a).eval o=execOp a.eval o:=
 execOp_congr o (stepOp_select h) λx hx=>mkAct_eval λt e=>mem_looksAt hx e
theorem wanted_slots{ρ:Ren}{ops:Array Oper}{o:Oper}{ts:List Value}{a:Act}(hl:a.tmps.size=ts.length)(h:∀t∈o.looksAt ops,SlotR ρ ts a t):
  Region.wanted o (yielded ops a.tmps)=wantedA ops.toList o ts:=by
 unfold Region.wanted wantedA
 cases hg:o.guard with
 |none=>rfl
 |some jw=>
  obtain⟨j,want⟩:=jw
  simp only
  have:yielded ops a.tmps j=yieldedA ops.toList ts j:=by
   unfold yielded yieldedA
   rw[show ops[j]?=ops.toList[j]? by simp]
   cases ho:ops.toList[j]? with
   |none=>rfl
   |some oj=>
    simp only[Option.bind_some]
    cases hd:oj.dst with
    |none=>rfl
    |some d=>
     simp only[Option.bind_some]
     have hm:d∈o.looksAt ops:=by
      unfold Oper.looksAt
      rw[hg]
      refine List.mem_append_right _ ?_
      have hoj:ops[j]?=some oj:=by simpa using ho
      simp [hoj,hd]
     have hs:=h d hm
     unfold SlotR at hs
     rw[lget?_eq]
     have key:∀(n:Nat),VR ρ (lget ts n) (lget a.tmps.toList n)->(match a.tmps[n]? with|some (.bool b)=>some b|_=>none)=match ts[n]? with|some (.bool b)=>some b|_=>none:=λn hs=>by
      by_cases hlt:n<ts.length
      ·have h2:n<a.tmps.size:=by omega
       rw[lget_eq,lget_eq,List.getElem?_eq_getElem hlt,List.getElem?_eq_getElem (by simpa using h2)]at hs
       rw[List.getElem?_eq_getElem hlt,Array.getElem?_eq_getElem h2]
       simp only[Option.getD_some,Array.getElem_toList]at hs
       generalize ts[n]=u at hs ⊢
       generalize a.tmps[n]=v at hs ⊢
       cases hs<;>rfl
      ·rw[List.getElem?_eq_none (by omega),Array.getElem?_eq_none (by omega)]
     exact key d hs
  rw[this]
  cases yieldedA ops.toList ts j with
  |none=>rfl
  |some b=>cases b<;>cases want<;>rfl
end Go.Ab
namespace Go.Ab
variable {P:Program} {T:TT}
structure Stp where
 ts:List Value
 U:St
 v:Value
 kd:SK
def putL(ts:List Value)(dst:Option Tmp)(v:Value):List Value:=
 match dst with
 |some d=>ts.set d v
 |none=>ts
structure Dr where
 st:List Stp
 ts:List Value
 U:St
 lg:Log
def consD(s:Stp)(l:Log):Option Dr->Option Dr
 |some r=>some ⟨s :: r.st,r.ts,r.U,l++r.lg⟩
 |none=>none
def callD(ts:List Value)(U:St)(dst:Option Tmp)(k:List Value->St->Option Dr):Option (AE×St×Log)->Option Dr
 |some (.ret v,U',l)=>consD ⟨ts,U,v,.full l⟩ l (k (putL ts dst v) U')
 |_=>none
def drawnK(orc:Orc)(dst:Option Tmp)(ts:List Value)(U:St)(k:List Value->St->Option Dr):Option ORes->Option Dr
 |some (.val v rd)=>consD ⟨ts,U,v,.pure rd⟩ [] (k (putL ts dst v) U)
 |some (.new ob v rd)=>consD ⟨ts,U,v,.alloc ob rd⟩ [] (k (putL ts dst v) (U.new ob))
 |some (.eff v U' l)=>consD ⟨ts,U,v,.full l⟩ l (k (putL ts dst v) U')
 |some (.enter f args)=>callD ts U dst k (orc.call f args U)
 |_=>none
def runDrawn(C:Cx)(orc:Orc)(ops:List Oper):List Oper->List Value->St->Option Dr
 |[],ts,U=>some ⟨[],ts,U,[]⟩
 |o :: rest,ts,U=>drawnK orc o.dst ts U (runDrawn C orc ops rest) (wantK C.T C.bodies o ts U (wantedA ops o ts))
inductive OneS(P:Program)(C:Cx)(stop:Prop)(ops:List Oper)(o:Oper)(s:Stp)(U':St):Prop
 |skip (hw:wantedA ops o s.ts=false) (hk:s.kd=.pure []) (hv:s.v=undef) (hUs:U'=s.U)
 |val {rd:List Nat} (hw:wantedA ops o s.ts=true) (hs:stepOp C.T C.bodies o s.ts s.U=some (.val s.v rd)) (hk:s.kd=.pure rd) (hUs:U'=s.U)
 |new {ob:AObj} {rd:List Nat} (hw:wantedA ops o s.ts=true) (hs:stepOp C.T C.bodies o s.ts s.U=some (.new ob s.v rd)) (hk:s.kd=.alloc ob rd) (hUs:U'=s.U.new ob)
 |eff {l:Log} (hw:wantedA ops o s.ts=true) (hs:stepOp C.T C.bodies o s.ts s.U=some (.eff s.v U' l)) (hk:s.kd=.full l)
 |call {f:FuncId} {args:List Value} {l:Log} (hw:wantedA ops o s.ts=true) (hs:stepOp C.T C.bodies o s.ts s.U=some (.enter f args)) (hc:DCall P f args s.U (.ret s.v) U' l) (hk:s.kd=.full l)
 |stop (hb:stop) {f:FuncId} {args:List Value} {l:Log} {c:List PanicEntry} (hw:wantedA ops o s.ts=true) (hs:stepOp C.T C.bodies o s.ts s.U=some (.enter f args)) (hc:DCall P f args s.U (.panic c) U' l) (hk:s.kd=.full l)
abbrev One(P:Program)(C:Cx)(ops:List Oper)(o:Oper)(s:Stp)(U':St):Prop:=OneS P C False ops o s U'
theorem OneS.stops{C:Cx}{st:Prop}{ops:List Oper}{o:Oper}{s:Stp}{U':St}(h:One P C ops o s U'):OneS P C st ops o s U':=by
 cases h with
 |skip a b c d=>exact .skip a b c d
 |val a b c d=>exact .val a b c d
 |new a b c d=>exact .new a b c d
 |eff a b c=>exact .eff a b c
 |call a b c d=>exact .call a b c d
 |stop h=>exact h.elim
def Dr.tsAt(r:Dr)(k:Nat):List Value:=match r.st[k]? with
 |some s=>s.ts
 |none=>r.ts
def Dr.UAt(r:Dr)(k:Nat):St:=match r.st[k]? with
 |some s=>s.U
 |none=>r.U
structure ChainS(P:Program)(C:Cx)(stop:Prop)(ops rest:List Oper)(ts:List Value)(U:St)(r:Dr):Prop where
 len:r.st.length=rest.length
 ts0:r.tsAt 0=ts
 U0:r.UAt 0=U
 one:∀k o,rest[k]?=some o->∃s,r.st[k]?=some s/\OneS P C stop ops o s (r.UAt (k+1))/\r.tsAt (k+1)=putL s.ts o.dst s.v
 log:Logged U r.U r.lg
abbrev Chain(P:Program)(C:Cx)(ops rest:List Oper)(ts:List Value)(U:St)(r:Dr):Prop:=ChainS P C False ops rest ts U r
theorem Dr.UAt_snoc{r:Dr}{s:Stp}{ts:List Value}{U':St}{l:Log}(hs:s.U=r.U){k:Nat}(hk:k<=r.st.length):(Dr.mk (r.st++[s]) ts U' l).UAt k=r.UAt k:=by
 unfold Dr.UAt
 simp only
 by_cases h:k<r.st.length
 ·rw[List.getElem?_append_left h]
  rw[List.getElem?_eq_getElem h]
 ·obtain rfl:k=r.st.length:=by omega
  rw[List.getElem?_append_right (Nat.le_refl _)]
  simp [hs]
theorem Dr.tsAt_snoc{r:Dr}{s:Stp}{ts:List Value}{U':St}{l:Log}(hs:s.ts=r.ts){k:Nat}(hk:k<=r.st.length):(Dr.mk (r.st++[s]) ts U' l).tsAt k=r.tsAt k:=by
 unfold Dr.tsAt
 simp only
 by_cases h:k<r.st.length
 ·rw[List.getElem?_append_left h]
  rw[List.getElem?_eq_getElem h]
 ·obtain rfl:k=r.st.length:=by omega
  rw[List.getElem?_append_right (Nat.le_refl _)]
  simp [hs]
theorem ChainS.snoc{C:Cx}{ops pre:List Oper}{o:Oper}{ts:List Value}{U U':St}{r:Dr}{s:Stp}{l:Log}(h:Chain P C ops pre ts U r)(hts:s.ts=r.ts)(hUs:s.U=r.U)
  (h1:OneS P C True ops o s U') (hl:Logged r.U U' l):ChainS P C True ops (pre++[o]) ts U ⟨r.st++[s],putL s.ts o.dst s.v,U',r.lg++l⟩ where
 len:=by simp [h.len]
 ts0:=(Dr.tsAt_snoc hts (Nat.zero_le _)).trans h.ts0
 U0:=(Dr.UAt_snoc hUs (Nat.zero_le _)).trans h.U0
 one k o' ho:=by
  have hlen:=h.len
  by_cases hk:k<pre.length
  ·rw[List.getElem?_append_left hk]at ho
   obtain⟨s',a1,a2,a3⟩:=h.one k o' ho
   refine⟨s',?_,?_,?_⟩
   ·show(r.st++[s])[k]?=some s'
    rw[List.getElem?_append_left (by omega)];exact a1
   ·rw[Dr.UAt_snoc hUs (by omega)];exact OneS.stops a2
   ·rw[Dr.tsAt_snoc hts (by omega)];exact a3
  ·have hk2:k=pre.length:=by
    have:=(List.getElem?_eq_some_iff.1 ho).1
    simp at this;omega
   subst hk2
   rw[List.getElem?_append_right (Nat.le_refl _)]at ho
   simp at ho
   subst ho
   refine⟨s,?_,?_,?_⟩
   ·show(r.st++[s])[pre.length]?=some s
    rw[<-hlen,List.getElem?_append_right (Nat.le_refl _)];simp
   ·have:(Dr.mk (r.st++[s]) (putL s.ts o.dst s.v) U' (r.lg++l)).UAt (pre.length+1)=U':=by
     unfold Dr.UAt
     simp only
     rw[List.getElem?_eq_none (by simp;omega)]
    rw[this];exact h1
   ·unfold Dr.tsAt
    simp only
    rw[List.getElem?_eq_none (by simp;omega)]
 log:=h.log.trans hl
theorem Chain.cons{C:Cx}{ops rest:List Oper}{o:Oper}{ts:List Value}{U U':St}{r:Dr}{s:Stp}{l:Log}(h:Chain P C ops rest (putL ts o.dst s.v) U' r)(hts:s.ts=ts)(hUs:s.U=U)
  (h1:One P C ops o s U') (hl:Logged U U' l):Chain P C ops (o :: rest) ts U {r with st:=s :: r.st,lg:=l++r.lg} where
 len:=by simp [h.len]
 ts0:=hts
 U0:=hUs
 one k o' ho:=by
  cases k with
  |zero=>
   simp only[List.getElem?_cons_zero,Option.some.injEq]at ho
   subst ho
   refine⟨s,rfl,?_,?_⟩
   ·have:(Dr.mk (s :: r.st) r.ts r.U (l++r.lg)).UAt 1=r.UAt 0:=by simp [Dr.UAt]
    rw[show(0:Nat)+1=1 from rfl,this,h.U0];exact h1
   ·have:(Dr.mk (s :: r.st) r.ts r.U (l++r.lg)).tsAt 1=r.tsAt 0:=by simp [Dr.tsAt]
    rw[show(0:Nat)+1=1 from rfl,this,h.ts0,hts]
  |succ k=>
   simp only[List.getElem?_cons_succ]at ho
   obtain⟨s',a1,a2,a3⟩:=h.one k o' ho
   refine⟨s',by simpa using a1,?_,?_⟩
   ·have:(Dr.mk (s :: r.st) r.ts r.U (l++r.lg)).UAt (k+1+1)=r.UAt (k+1):=by simp [Dr.UAt]
    rw[this];exact a2
   ·have:(Dr.mk (s :: r.st) r.ts r.U (l++r.lg)).tsAt (k+1+1)=r.tsAt (k+1):=by simp [Dr.tsAt]
    rw[this];exact a3
 log:=hl.trans h.log
theorem runDrawn_chain{C:Cx}{orc:Orc}(hC:C.Ok P)(hO:orc.Ok P){ops:List Oper}:∀(rest:List Oper) (ts:List Value) (U:St) (r:Dr),runDrawn C orc ops rest ts U=some r->Chain P C ops rest ts U r:=by
 intro rest
 induction rest with
 |nil=>
  intro ts U r h
  simp only[runDrawn,Option.some.injEq]at h
  subst h
  exact⟨rfl,rfl,rfl,λk o h=>by simp at h,logged_self _ _⟩
 |cons o rest ih=>
  intro ts U r h
  simp only[runDrawn]at h
  cases hw:wantedA ops o ts with
  |true=>
   rw[hw]at h
   simp only[wantK]at h
   unfold drawnK at h
   split at h
   ·rename_i v rd hs
    unfold consD at h
    split at h
    ·rename_i r' hr
     cases h
     exact Chain.cons (s:=⟨ts,U,v,.pure rd⟩) (l:=[]) (ih _ _ _ hr) rfl rfl (.val hw hs rfl rfl) (logged_self _ _)
    ·cases h
   ·rename_i ob v rd hs
    unfold consD at h
    split at h
    ·rename_i r' hr
     cases h
     exact Chain.cons (s:=⟨ts,U,v,.alloc ob rd⟩) (l:=[]) (ih _ _ _ hr) rfl rfl (.new hw hs rfl rfl) (logged_new _ _)
    ·cases h
   ·rename_i v U' l hs
    unfold consD at h
    split at h
    ·rename_i r' hr
     cases h
     exact Chain.cons (s:=⟨ts,U,v,.full l⟩) (ih _ _ _ hr) rfl rfl (.eff hw hs rfl) (stepOp_log hC hs)
    ·cases h
   ·rename_i f args hs
    unfold callD at h
    split at h
    ·rename_i v U' l hc
     unfold consD at h
     split at h
     ·rename_i r' hr
      cases h
      exact Chain.cons (s:=⟨ts,U,v,.full l⟩) (ih _ _ _ hr) rfl rfl (.call hw hs (hO.call _ _ _ _ _ _ hc) rfl) (hO.call _ _ _ _ _ _ hc).1
     ·cases h
    ·cases h
   ·cases h
  |false=>
   rw[hw]at h
   simp only[wantK,drawnK]at h
   unfold consD at h
   split at h
   ·rename_i r' hr
    cases h
    exact Chain.cons (s:=⟨ts,U,undef,.pure []⟩) (l:=[]) (ih _ _ _ hr) rfl rfl (.skip hw rfl rfl rfl) (logged_self _ _)
   ·cases h
def befRow(look:Nat->Nat)(o:Oper):Nat:=o.after.toList.foldl (λs e=>if Region.binds .any e then s ||| 2 ^ e.on ||| look e.on else s) 0
def statOk(ops:Array Oper)(B:List Nat):Bool:=
 let l:=ops.toList.zipIdx
 l.all (λ(o,k)=>o.after.toList.all (λe=>!Region.binds .any e || Nat.blt e.on k)&&Nat.beq (B.getD k 0) (befRow (λj=>B.getD j 0) o)) &&
 l.all λ(oj,j)=>
  let bj:=B.getD j 0
  let lj:=oj.looksAt ops
  l.all λ(oi,i)=>!Nat.blt i j || bj.testBit i ||
   !((match oi.dst with|some t=>lj.contains t || oj.dst==some t|none=>false) || (match oj.dst with|some t=>(oi.looksAt ops).contains t|none=>false))
def clash(ki kj:SK)(lo hi:Nat):Bool:=
 (ki.isFull&&kj.isFull&&!(ki.lg.isEmpty&&kj.lg.isEmpty)) ||
 kj.lg.any (λc=>decide (lo<=c)&&decide (c<hi)) || kj.rd.any (λc=>decide (lo<=c)&&decide (c<hi)) ||
 ki.rd.any (λc=>kj.lg.contains c) || ki.lg.any (λc=>kj.rd.contains c)
def quietK:SK->Bool
 |.pure []=>true
 |_=>false
def loud:List Stp->St->Nat->List (Nat×SK×Nat×Nat)
 |[],_,_=>[]
 |s :: rest,U,k=>
  let hi:=match rest with|[]=>U.next|s' :: _=>s'.U.next
  if quietK s.kd then loud rest U (k+1) else(k,s.kd,s.U.next,hi) :: loud rest U (k+1)
def dynOk(B:List Nat)(r:Dr):Bool:=
 let l:=loud r.st r.U 0
 match l with
 |[]=>true
 |[_]=>true
 |_=>l.all λ(j,kj,_,_)=>
  let bj:=B.getD j 0
  l.all λ(i,ki,lo,hi)=>decide (j<=i) || bj.testBit i || !clash ki kj lo hi
theorem mem_loud{U:St}:∀{st:List Stp} {k j:Nat} {s:Stp},st[j]?=some s->quietK s.kd=false->
  (k+j,s.kd,s.U.next,(match st[j+1]? with|some s'=>s'.U|none=>U).next)∈loud st U k:=by
 intro st
 induction st with
 |nil=>intro k j s h;simp at h
 |cons s₀ rest ih=>
  intro k j s h hq
  cases j with
  |zero=>
   simp only[List.getElem?_cons_zero,Option.some.injEq]at h
   subst h
   simp only[loud,hq]
   cases rest with
   |nil=>simp
   |cons s' r=>simp
  |succ j=>
   simp only[List.getElem?_cons_succ]at h
   have:=ih (k:=k+1) h hq
   rw[show k+(j+1)=k+1+j by omega]
   simp only[loud]
   have e:(s₀ :: rest)[j+1+1]?=rest[j+1]?:=rfl
   rw[e]
   split
   ·exact this
   ·exact List.mem_cons_of_mem _ this
theorem dynOk_spec{B:List Nat}{r:Dr}(h:dynOk B r=true){i j:Nat}{si sj:Stp}(hi:r.st[i]?=some si)(hj:r.st[j]?=some sj)(hij:i<j)(ni:quietK si.kd=false)(nj:quietK sj.kd=false)
  (hc:clash si.kd sj.kd si.U.next (r.UAt (i+1)).next=true):(B.getD j 0).testBit i=true:=by
 have mi:=mem_loud (U:=r.U) (k:=0) hi ni
 have mj:=mem_loud (U:=r.U) (k:=0) hj nj
 rw[Nat.zero_add]at mi mj
 have hs:(match r.st[i+1]? with|some s'=>s'.U|none=>r.U)=r.UAt (i+1):=rfl
 rw[hs]at mi
 unfold dynOk at h
 simp only at h
 split at h
 ·rename_i e;rw[e]at mi;cases mi
 ·rename_i x e
  rw[e]at mi mj
  simp only[List.mem_singleton]at mi mj
  have:=congrArg (·.1) (mi.trans mj.symm)
  simp at this
  omega
 ·have h1:=List.all_eq_true.1 h _ mj
  simp only at h1
  have h2:=List.all_eq_true.1 h1 _ mi
  simp only[Bool.or_eq_true,Bool.not_eq_true',decide_eq_true_eq]at h2
  rcases h2 with(h2|h2)|h2
  ·omega
  ·exact h2
  ·rw[hc]at h2;cases h2
theorem befRow_spec{look:Nat->Nat}{o:Oper}{j:Nat}(h:(befRow look o).testBit j=true):∃e∈o.after.toList,Region.binds .any e=true/\(j=e.on\/(look e.on).testBit j=true):=by
 unfold befRow at h
 have gen:∀(es:List Edge) (s:Nat),(es.foldl (λs e=>if Region.binds .any e then s ||| 2 ^ e.on ||| look e.on else s) s).testBit j=true->
   s.testBit j=true\/∃e∈es,Region.binds .any e=true/\(j=e.on\/(look e.on).testBit j=true):=by
  intro es
  induction es with
  |nil=>intro s h;exact .inl h
  |cons e es ih=>
   intro s h
   simp only[List.foldl_cons]at h
   rcases ih _ h with h1|⟨e',he',h2⟩
   ·split at h1
    ·rename_i hb
     rw[Nat.testBit_or,Nat.testBit_or,Nat.testBit_two_pow]at h1
     simp only[Bool.or_eq_true,decide_eq_true_eq]at h1
     rcases h1 with(h1|h1)|h1
     ·exact .inl h1
     ·exact .inr ⟨e,by simp,hb,.inl h1.symm⟩
     ·exact .inr ⟨e,by simp,hb,.inr h1⟩
    ·exact .inl h1
   ·exact .inr ⟨e',by simp [he'],h2⟩
 rcases gen _ _ h with h1|h1
 ·simp at h1
 ·exact h1
structure Stat(ops:Array Oper)(B:List Nat):Prop where
 edge:∀k o e,ops[k]?=some o->e∈o.after.toList->Region.binds .any e=true->e.on<k
 row:∀k o,ops[k]?=some o->B.getD k 0=befRow (λj=>B.getD j 0) o
 slot:∀i j oi oj t,i<j->ops[i]?=some oi->ops[j]?=some oj->oi.dst=some t/\(t∈oj.looksAt ops\/oj.dst=some t)\/t∈oi.looksAt ops/\oj.dst=some t->(B.getD j 0).testBit i=true
theorem mem_zipIdx_of{ops:Array Oper}{k:Nat}{o:Oper}(h:ops[k]?=some o):(o,k)∈ops.toList.zipIdx:=by
 rw[List.mem_zipIdx_iff_getElem?]
 simpa using h
theorem statOk_spec{ops:Array Oper}{B:List Nat}(h:statOk ops B=true):Stat ops B:=by
 unfold statOk at h
 simp only[Bool.and_eq_true]at h
 obtain⟨h1,h2⟩:=h
 refine⟨λk o e ho he hb=>?_,λk o ho=>?_,λi j oi oj t hij hoi hoj ht=>?_⟩
 ·have:=List.all_eq_true.1 h1 _ (mem_zipIdx_of ho)
  simp only[Bool.and_eq_true]at this
  have:=List.all_eq_true.1 this.1 e he
  rw[hb]at this
  simpa [Nat.blt_eq]using this
 ·have:=List.all_eq_true.1 h1 _ (mem_zipIdx_of ho)
  simp only[Bool.and_eq_true]at this
  exact Nat.eq_of_beq_eq_true this.2
 ·have h3:=List.all_eq_true.1 h2 _ (mem_zipIdx_of hoj)
  simp only at h3
  have h4:=List.all_eq_true.1 h3 _ (mem_zipIdx_of hoi)
  simp only[Bool.or_eq_true,Bool.not_eq_true']at h4
  rcases h4 with(h4|h4)|h4
  ·have:Nat.blt i j=true:=by simpa [Nat.blt_eq]using hij
   rw[this]at h4;cases h4
  ·exact h4
  ·exfalso
   rw[Bool.or_eq_false_iff]at h4
   rcases ht with⟨a1,a2⟩|⟨a1,a2⟩
   ·have:=h4.1
    rw[a1]at this
    simp only[Bool.or_eq_false_iff]at this
    rcases a2 with a2|a2
    ·have h5:=this.1
     simp at h5
     exact h5 a2
    ·have h5:=this.2
     rw[a2]at h5
     simp at h5
   ·have:=h4.2
    rw[a2]at this
    simp at this
    exact this a1
def tab(ops:Array Oper)(B:List Nat)(r:Dr):Tab where
 n:=ops.size
 ts:=r.tsAt
 U:=r.UAt
 v k:=match r.st[k]? with|some s=>s.v|none=>undef
 kd k:=match r.st[k]? with|some s=>s.kd|none=>.pure []
 dst k:=match ops[k]? with|some o=>o.dst|none=>none
 lk k:=match ops[k]? with|some o=>o.looksAt ops|none=>[]
 bf i j:=(B.getD j 0).testBit i
theorem clash_full{ki kj:SK}{lo hi:Nat}(h1:ki.isFull=true)(h2:kj.isFull=true)(h:ki.lg≠[]\/kj.lg≠[]):clash ki kj lo hi=true:=by
 unfold clash
 have:(ki.isFull&&kj.isFull&&!(ki.lg.isEmpty&&kj.lg.isEmpty))=true:=by
  rw[h1,h2]
  rcases h with h|h<;>cases hk:ki.lg<;>cases hj:kj.lg<;>simp_all
 rw[this];rfl
theorem clash_makes{ki kj:SK}{lo hi c:Nat}(h1:lo<=c)(h2:c<hi)(h:c∈kj.lg\/c∈kj.rd):clash ki kj lo hi=true:=by
 have hb:(decide (lo<=c)&&decide (c<hi))=true:=by
  rw[Bool.and_eq_true];exact⟨decide_eq_true h1,decide_eq_true h2⟩
 unfold clash
 rcases h with h|h
 ·have:kj.lg.any (λc=>decide (lo<=c)&&decide (c<hi))=true:=List.any_eq_true.2 ⟨c,h,hb⟩
  rw[this];simp
 ·have:kj.rd.any (λc=>decide (lo<=c)&&decide (c<hi))=true:=List.any_eq_true.2 ⟨c,h,hb⟩
  rw[this];simp
theorem clash_reads{ki kj:SK}{lo hi c:Nat}(h:c∈ki.rd/\c∈kj.lg\/c∈ki.lg/\c∈kj.rd):clash ki kj lo hi=true:=by
 unfold clash
 rcases h with h|h
 ·have:ki.rd.any (λc=>kj.lg.contains c)=true:=List.any_eq_true.2 ⟨c,h.1,by simpa using h.2⟩
  rw[this];simp
 ·have:ki.lg.any (λc=>kj.rd.contains c)=true:=List.any_eq_true.2 ⟨c,h.1,by simpa using h.2⟩
  rw[this];simp
theorem tab_sem{C:Cx}(hC:C.Ok P){ops:Array Oper}{B:List Nat}{r:Dr}{ro:Option Nat}{Q:Exit->Act->World->Prop}{i:Nat}{o:Oper}{s:Stp}{st:Prop}(hQ:st->∀e a w,Q e a w)(ho:ops[i]?=some o)(hs:r.st[i]?=some s)
  (h:OneS P C st ops.toList o s (r.UAt (i+1))):(tab ops B r).sem (fence ro) P ops Q i:=by
 intro ρ w a K hl hsl
 have e1:(tab ops B r).ts i=s.ts:=by simp [tab,Dr.tsAt,hs]
 have e2:(tab ops B r).U i=s.U:=by simp [tab,Dr.UAt,hs]
 have e3:(tab ops B r).v i=s.v:=by simp [tab,hs]
 have e4:(tab ops B r).kd i=s.kd:=by simp [tab,hs]
 have e5:(tab ops B r).dst i=o.dst:=by simp [tab,ho]
 have e6:(tab ops B r).lk i=o.looksAt ops:=by simp [tab,ho]
 have e7:(tab ops B r).U (i+1)=r.UAt (i+1):=rfl
 rw[e1]at hl hsl
 rw[e6]at hsl
 rw[e2,e3,e4,e5,e7]
 have hm:VRL ρ (mk (o.looksAt ops) s.ts) (mkAct (o.looksAt ops) a).tmps.toList:=by
  have:=mk_VRL hl hsl
  simpa [mkAct]using this
 have hwant:=wanted_slots hl hsl
 unfold wpOpIn
 rw[ho]
 simp only
 have run:∀{R:ORes},stepOp C.T C.bodies o s.ts s.U=some R->wantedA ops.toList o s.ts=true->Sound P o (mk (o.looksAt ops) s.ts) s.U R/\execOp (mkAct (o.looksAt ops) a).eval o=execOp a.eval o:=λ{R} h hw=>
  ⟨stepOp_sound hC.T hC.bodies (step_mk.trans h),exec_mk h a⟩
 cases h with
 |skip hw hk hv hUs=>
  rw[hk]
  simp only
  intro _ hK
  rw[if_neg (by rw[hwant,hw];simp)]
  exact⟨λ_ _=>trivial,hK _ (by rw[hv];exact undef_VR ρ)⟩
 |@val rd hw hst hk hUs=>
  rw[hk]
  simp only
  intro hr hK
  rw[if_pos (by rw[hwant,hw])]
  obtain⟨h1,h2⟩:=run hst hw
  obtain⟨v',h3,h4⟩:=(h1:SimVal P o _ s.U s.v rd) ρ w _ hm hr
  rw[h2]at h3
  refine⟨λ_ _=>trivial,?_⟩
  show o.uponIn (fence ro) 0 P a _ _ ((o.semAt ro a.eval).run P w)
  rw[Oper.semAt_eq ro a.eval o (not_defer hst (λ_=>by simp)),h3]
  exact hK v' h4
 |@new ob rd hw hst hk hUs=>
  rw[hk]
  simp only
  intro hr hK
  rw[if_pos (by rw[hwant,hw])]
  obtain⟨h1,h2⟩:=run hst hw
  obtain⟨v',w',obj,sz,h3,h4,h5,h6,h7,h8⟩:=(h1:SimNew P o _ s.U ob s.v rd) ρ w _ hm hr
  rw[h2]at h3
  refine⟨λ_ _=>trivial,?_⟩
  show o.uponIn (fence ro) 0 P a _ _ ((o.semAt ro a.eval).run P w)
  rw[Oper.semAt_eq ro a.eval o (not_defer hst (λ_=>by simp)),h3]
  exact hK v' w' obj sz h4 h5 h6 h7 h8
 |@eff l hw hst hk=>
  rw[hk]
  simp only
  intro hr hK
  rw[if_pos (by rw[hwant,hw])]
  obtain⟨h1,h2⟩:=run hst hw
  obtain⟨ρ',v',w',h3,h4,h5⟩:=(h1:SimEff P o _ s.U s.v _/\_).1 ρ w _ hr hm
  rw[h2]at h3
  refine⟨λ_ _=>trivial,?_⟩
  show o.uponIn (fence ro) 0 P a _ _ ((o.semAt ro a.eval).run P w)
  rw[Oper.semAt_eq ro a.eval o (not_defer hst (λ_=>by simp))]
  rcases h3 with h3|⟨h3,h3'⟩
  ·rw[h3];exact hK ρ' v' w' h4 h5
  ·rw[h3];subst h3';exact hK ρ' undef w' h4 h5
 |@call f args l hw hst hc hk=>
  rw[hk]
  simp only
  intro hr hK
  rw[if_pos (by rw[hwant,hw])]
  obtain⟨h1,h2⟩:=run hst hw
  obtain⟨args',h3,h4⟩:=h1 ρ w _ hm
  rw[h2]at h3
  refine⟨λ_ _=>trivial,?_⟩
  show o.uponIn (fence ro) 0 P a _ _ ((o.semAt ro a.eval).run P w)
  rw[Oper.semAt_eq ro a.eval o (not_defer hst (λ_=>by simp)),h3]
  refine⟨λhdp=>by simp [fence]at hdp,trivial,λcs hroom=>?_⟩
  obtain⟨e,w',fr,⟨ρ',he,hA⟩,rest⟩:=(hc.2 ρ w args' hr h4).2 cs (room_fence _ _)
  refine⟨e,w',fr,?_,rest⟩
  cases e with
  |returned v'=>exact hK ρ' v' w' he hA
  |panicked c=>exact he.elim
  |outgrown=>exact he.elim
 |@stop hb f args l c hw hst hc hk=>
  rw[hk]
  simp only
  intro hr hK
  rw[if_pos (by rw[hwant,hw])]
  obtain⟨h1,h2⟩:=run hst hw
  obtain⟨args',h3,h4⟩:=h1 ρ w _ hm
  rw[h2]at h3
  refine⟨λ_ _=>trivial,?_⟩
  show o.uponIn (fence ro) 0 P a _ _ ((o.semAt ro a.eval).run P w)
  rw[Oper.semAt_eq ro a.eval o (not_defer hst (λ_=>by simp)),h3]
  refine⟨λhdp=>by simp [fence]at hdp,trivial,λcs hroom=>?_⟩
  obtain⟨e,w',fr,⟨ρ',he,hA⟩,rest⟩:=(hc.2 ρ w args' hr h4).2 cs (room_fence _ _)
  refine⟨e,w',fr,?_,rest⟩
  cases e with
  |returned v'=>exact he.elim
  |panicked c=>exact hQ hb _ _ _
  |outgrown=>exact he.elim
theorem stop_op{C:Cx}(hC:C.Ok P){ops:Array Oper}{ro:Option Nat}{Q:Exit->Act->World->Prop}{i:Nat}{o:Oper}{ts:List Value}{ds:List Deferred}{U U':St}{f:FuncId}{args:List Value}{c:List PanicEntry}{l:Log}
  (ho:ops[i]?=some o) (hw:wantedA ops.toList o ts=true) (hs:stepOp C.T C.bodies o ts U=some (.enter f args)) (hc:DCall P f args U (.panic c) U' l) {ρ:Ren} {w:World} {a:Act} (hwr:WR ρ U w.heap) (hf:FR ρ ⟨ts,ds⟩ a) (K:Act->World->Prop)
  (hQ:∀ρ' c' w',CR ρ' c c'->Aft ρ U w ρ' U' w'->Q (.panic c') a w'):wpOpIn (fence ro) 0 P ops Q i K a w:=by
 unfold wpOpIn
 rw[ho]
 simp only
 rw[if_pos (by rw[wanted_VR hf,hw])]
 obtain⟨args',h3,h4⟩:=stepOp_sound hC.T hC.bodies hs ρ w a hf.ts
 refine⟨λ_ _=>trivial,?_⟩
 show o.uponIn (fence ro) 0 P a _ _ ((o.semAt ro a.eval).run P w)
 rw[Oper.semAt_eq ro a.eval o (not_defer hs (λ_=>by simp)),h3]
 refine⟨λhdp=>by simp [fence]at hdp,trivial,λcs hroom=>?_⟩
 obtain⟨e,w',fr,⟨ρ',he,hA⟩,rest⟩:=(hc.2 ρ w args' hwr h4).2 cs (room_fence _ _)
 refine⟨e,w',fr,?_,rest⟩
 cases e with
 |returned v'=>exact he.elim
 |panicked c'=>exact hQ ρ' c' w' he hA
 |outgrown=>exact he.elim
theorem tab_ok{C:Cx}(hC:C.Ok P){ops:Array Oper}{B:List Nat}{r:Dr}{ro:Option Nat}{Q:Exit->Act->World->Prop}{ts:List Value}{U:St}{st:Prop}(hQ:st->∀e a w,Q e a w)
  (hr:ChainS P C st ops.toList ops.toList ts U r) (hst:statOk ops B=true) (hdy:dynOk B r=true):(tab ops B r).Ok (fence ro) P ops Q:=by
 have S:=statOk_spec hst
 have getop:∀{i:Nat},i<ops.size->∃o s,ops[i]?=some o/\r.st[i]?=some s/\OneS P C st ops.toList o s (r.UAt (i+1))/\r.tsAt (i+1)=putL s.ts o.dst s.v:=λ{i} hi=>by
  obtain⟨s,h1,h2,h3⟩:=hr.one i ops[i] (by simp [hi])
  exact⟨ops[i],s,by simp [hi],h1,h2,h3⟩
 have kd:∀{i:Nat} {s:Stp},r.st[i]?=some s->(tab ops B r).kd i=s.kd:=λ{i s} h=>by simp [tab,h]
 have sg:∀{i:Nat} {s:Stp},r.st[i]?=some s->(tab ops B r).U i=s.U:=λ{i s} h=>by simp [tab,Dr.UAt,h]
 have quiet:∀{i:Nat} {o:Oper} {s:Stp},OneS P C st ops.toList o s (r.UAt (i+1))->quietK s.kd=true->s.kd=.pure []/\r.UAt (i+1)=s.U:=λ{i o s} h hq=>by
  cases h with
  |skip hw hk hv hUs=>exact⟨hk,hUs⟩
  |@val rd hw hs hk hUs=>
   rw[hk]at hq ⊢
   cases rd with
   |nil=>exact⟨rfl,hUs⟩
   |cons x xs=>cases hq
  |new hw hs hk hUs=>rw[hk]at hq;cases hq
  |eff hw hs hk=>rw[hk]at hq;cases hq
  |call hw hs hc hk=>rw[hk]at hq;cases hq
  |stop hb hw hs hc hk=>rw[hk]at hq;cases hq
 have dyn:∀{i j:Nat},i<j->j<ops.size->(∀si sj,r.st[i]?=some si->r.st[j]?=some sj->(quietK si.kd=false/\quietK sj.kd=false)/\clash si.kd sj.kd si.U.next (r.UAt (i+1)).next=true)->(B.getD j 0).testBit i=true:=λ{i j} hij hj h=>by
  obtain⟨_,si,_,hsi,_⟩:=getop (Nat.lt_trans hij hj)
  obtain⟨_,sj,_,hsj,_⟩:=getop hj
  obtain⟨⟨h1,h2⟩,h3⟩:=h si sj hsi hsj
  exact dynOk_spec hdy hsi hsj hij h1 h2 h3
 have nq_full:∀{k:SK},k.isFull=true->quietK k=false:=λ{k} h=>by cases k<;>first|rfl|cases h
 have nq_lg:∀{k:SK} {c:Nat},c∈k.lg->quietK k=false:=λ{k c} h=>by
  cases k with
  |full _=>rfl
  |_=>cases h
 have nq_rd:∀{k:SK} {c:Nat},c∈k.rd->quietK k=false:=λ{k c} h=>by
  cases k with
  |full _=>cases h
  |alloc _ _=>rfl
  |pure rd=>cases rd with
   |nil=>cases h
   |cons _ _=>rfl
 refine{size:=rfl,sem:=?_,nxt:=?_,put:=?_,slots:=?_,effs:=?_,makes:=?_,reads:=?_,ready:=?_,done:=?_}
 ·intro i hi
  obtain⟨o,s,h1,h2,h3,_⟩:=getop hi
  exact tab_sem hC hQ h1 h2 h3
 ·intro i hi
  obtain⟨o,s,h1,h2,h3,_⟩:=getop hi
  rw[kd h2,sg h2]
  cases h3 with
  |skip hw hk hv hUs=>rw[hk];exact hUs
  |val hw hs hk hUs=>rw[hk];exact hUs
  |new hw hs hk hUs=>rw[hk];exact hUs
  |eff hw hs hk=>rw[hk];exact stepOp_log hC hs
  |call hw hs hc hk=>rw[hk];exact hc.1
  |stop hb hw hs hc hk=>rw[hk];exact hc.1
 ·intro i hi
  obtain⟨o,s,h1,h2,_,h3⟩:=getop hi
  have e1:(tab ops B r).ts i=s.ts:=by simp [tab,Dr.tsAt,h2]
  have e2:(tab ops B r).v i=s.v:=by simp [tab,h2]
  have e3:(tab ops B r).dst i=o.dst:=by simp [tab,h1]
  rw[e1,e2,e3]
  exact h3
 ·intro i j t hij hj ht
  obtain⟨oi,_,hoi,_⟩:=getop (Nat.lt_trans hij hj)
  obtain⟨oj,_,hoj,_⟩:=getop hj
  refine S.slot i j oi oj t hij hoi hoj ?_
  simpa [tab,hoi,hoj]using ht
 ·intro i j hij hj h1 h2 h3
  refine dyn hij hj λsi sj hsi hsj=>?_
  rw[kd hsi]at h1 h3
  rw[kd hsj]at h2 h3
  exact⟨⟨nq_full h1,nq_full h2⟩,clash_full h1 h2 h3⟩
 ·intro i j c hij hj h1 h2 h3
  refine dyn hij hj λsi sj hsi hsj=>?_
  obtain⟨o,s,_,hs,hone,_⟩:=getop (Nat.lt_trans hij hj)
  rw[hsi]at hs;cases hs
  rw[sg hsi]at h1
  have h2':c<(r.UAt (i+1)).next:=h2
  rw[kd hsj]at h3
  refine⟨⟨?_,h3.elim nq_lg nq_rd⟩,clash_makes h1 h2' h3⟩
  cases hq:quietK si.kd with
  |false=>rfl
  |true=>
   have:=(quiet hone hq).2
   rw[this]at h2'
   omega
 ·intro i j c hij hj h
  refine dyn hij hj λsi sj hsi hsj=>?_
  rw[kd hsi,kd hsj]at h
  exact⟨h.elim (λh=>⟨nq_rd h.1,nq_lg h.2⟩) (λh=>⟨nq_lg h.1,nq_rd h.2⟩),clash_reads h⟩
 ·intro listed i hcl hi j hj
  have hb:(B.getD i 0).testBit j=true:=hj
  unfold Region.ready at hi
  rw[List.mem_filter,List.mem_range]at hi
  obtain⟨hlt,h2⟩:=hi
  have ho:ops[i]?=some ops[i]:=by simp [hlt]
  rw[ho]at h2
  simp only[Option.map_some,Option.getD_some,Bool.and_eq_true]at h2
  rw[S.row i _ ho]at hb
  obtain⟨e,he,hbd,h3⟩:=befRow_spec hb
  have hle:listed.getD e.on false=true:=by
   have:=h2.2
   rw[Array.all_eq_true']at this
   have:=this e (by simpa using he)
   rw[hbd]at this
   simpa using this
  rcases h3 with h3|h3
  ·subst h3;exact hle
  ·have:=S.edge i _ e ho he hbd
   exact hcl j e.on (show e.on<ops.size by omega) hle h3
 ·intro listed hsz hr0 i
  have hsz':listed.size=ops.size:=hsz
  induction i using Nat.strongRecOn with
  |_ i ih=>
   intro hi
   have hi':i<ops.size:=hi
   cases hl:listed.getD i false with
   |true=>rfl
   |false=>
    exfalso
    have ho:ops[i]?=some ops[i]:=by simp [hi']
    have:i∈Region.ready .any ops listed:=by
     unfold Region.ready
     rw[List.mem_filter,List.mem_range]
     refine⟨hi',?_⟩
     rw[ho]
     simp only[Option.map_some,Option.getD_some,Bool.and_eq_true]
     refine⟨?_,?_⟩
     ·have hil:i<listed.size:=by omega
      simp only[Array.getD_eq_getD_getElem?,Array.getElem?_eq_getElem hil,Option.getD_some]at hl ⊢
      rw[hl];rfl
     ·rw[Array.all_eq_true']
      intro e he
      cases hb:Region.binds .any e with
      |false=>rfl
      |true=>
       have hlt:=S.edge i _ e ho (by simpa using he) hb
       have:=ih e.on hlt (show e.on<ops.size by omega)
       rw[this];rfl
    rw[hr0]at this
    cases this
end Go.Ab
namespace Go.Ab
variable {P:Program} {X:Tab} {F:Fence} {ops:Array Oper} {Q:Exit->Act->World->Prop}
 {ρ₀:Ren} {w₀:World} {ds:List Deferred} {S:Nat->Prop} {g:Nat->Option AObj} {ρ:Ren} {w:World} {a:Act} {i:Nat}
theorem Inv.of_eq{S':Nat->Prop}(h:Inv X ρ₀ w₀ ds S g ρ w a)(e:S=S'):Inv X ρ₀ w₀ ds S' g ρ w a:=e▸h
theorem listed_set{listed:Array Bool}(hi:i<listed.size):(λk=>listed.getD k false=true\/k=i)=λk=>(listed.setIfInBounds i true).getD k false=true:=by
 funext k
 apply propext
 rw[Array.getD_eq_getD_getElem?,Array.getD_eq_getD_getElem?,Array.getElem?_setIfInBounds]
 by_cases e:i=k
 ·subst e;simp [hi]
 ·rw[if_neg e]
  constructor
  ·rintro(h|h)
   ·exact h
   ·exact absurd h.symm e
  ·exact .inl
def left(n:Nat)(listed:Array Bool):Nat:=(List.range n).countP λi=>!listed.getD i false
theorem left_set{n:Nat}{listed:Array Bool}(hn:i<n)(hs:listed.size=n)(hl:listed.getD i false=false):left n (listed.setIfInBounds i true)<left n listed:=by
 unfold left
 have hi:i<listed.size:=by omega
 have key:∀(l:List Nat),i∈l->(l.countP λk=>!(listed.setIfInBounds i true).getD k false)<l.countP λk=>!listed.getD k false:=by
  have le:∀(l:List Nat),(l.countP λk=>!(listed.setIfInBounds i true).getD k false)<=l.countP λk=>!listed.getD k false:=λl=>
   List.countP_mono_left λk _ h=>by
    have:=congrFun (listed_set (i:=i) hi) k
    cases hk:listed.getD k false with
    |false=>rfl
    |true=>
     have h2:(listed.setIfInBounds i true).getD k false=true:=by rw[<-this];exact .inl hk
     rw[h2]at h;cases h
  intro l
  induction l with
  |nil=>intro h;cases h
  |cons x l ih=>
   intro h
   rw[List.countP_cons,List.countP_cons]
   by_cases e:x=i
   ·subst e
    have h1:(listed.setIfInBounds x true).getD x false=true:=by
     have:=congrFun (listed_set (i:=x) hi) x
     rw[<-this];exact .inr rfl
    rw[h1,hl]
    have:=le l
    simp only[Bool.not_true,Bool.not_false,if_true,Bool.false_eq_true,if_false]
    omega
   ·have:=ih (by simpa [Ne.symm e]using h)
    have h1:(listed.setIfInBounds i true).getD x false=listed.getD x false:=by
     rw[Array.getD_eq_getD_getElem?,Array.getD_eq_getD_getElem?,Array.getElem?_setIfInBounds,if_neg (Ne.symm e)]
    rw[h1];omega
 exact key _ (List.mem_range.2 hn)
theorem left_zero{n:Nat}{listed:Array Bool}(h:left n listed=0):∀i,i<n->listed.getD i false=true:=λi hi=>by
 have:=List.countP_eq_zero.1 h i (List.mem_range.2 hi)
 simpa using this
theorem any_of_inv(hX:X.Ok F P ops Q)(hend:∀(S:Nat->Prop) g ρ w a,(∀i,i<X.n->S i)->Inv X ρ₀ w₀ ds S g ρ w a->Q .normal a w):
  ∀(fuel:Nat) (listed:Array Bool) (g:Nat->Option AObj) (ρ:Ren) (w:World) (a:Act),listed.size=X.n->left X.n listed<=fuel->
   (∀j k,k<X.n->listed.getD k false=true->X.bf j k=true->listed.getD j false=true)->
   Inv X ρ₀ w₀ ds (λk=>listed.getD k false=true) g ρ w a->wpAnyIn F 0 P .any ops Q fuel listed a w:=by
 intro fuel
 induction fuel with
 |zero=>
  intro listed g ρ w a hs hl hc h
  have hall:=left_zero (by omega:left X.n listed=0)
  refine⟨?_,hend _ g ρ w a hall h⟩
  unfold Region.ready
  rw[List.filter_eq_nil_iff]
  intro i hi
  rw[List.mem_range]at hi
  have h2:=hall i (by rw[<-hX.size];exact hi)
  have hil:i<listed.size:=by rw[hs,<-hX.size];exact hi
  rw[Array.getD_eq_getD_getElem?,Array.getElem?_eq_getElem hil]at h2
  simp only[Option.getD_some]at h2
  simp [Array.getD_eq_getD_getElem?,Array.getElem?_eq_getElem hil,h2]
 |succ fuel ih=>
  intro listed g ρ w a hs hl hc h
  refine⟨λhr=>hend _ g ρ w a (hX.done listed hs hr) h,λi hi=>?_⟩
  have hpre:=hX.ready listed i hc hi
  have hi':=hi
  unfold Region.ready at hi'
  rw[List.mem_filter,List.mem_range]at hi'
  obtain⟨hlt,hi2⟩:=hi'
  have hin:i<X.n:=by rw[<-hX.size];exact hlt
  have hil:i<listed.size:=by omega
  have hnot:listed.getD i false=false:=by
   rw[Bool.and_eq_true]at hi2
   have:=hi2.1
   rw[Array.getD_eq_getD_getElem?,Array.getElem?_eq_getElem hil]at this ⊢
   simpa using this
  have turn:Turn X (λk=>listed.getD k false=true) i:=⟨hin,by simp only[hnot];simp,hpre,hc⟩
  have next:∀g' ρ' w' a',Inv X ρ₀ w₀ ds (λk=>listed.getD k false=true\/k=i) g' ρ' w' a'->wpAnyIn F 0 P .any ops Q fuel (listed.setIfInBounds i true) a' w':=λg' ρ' w' a' h'=>by
   refine ih _ g' ρ' w' a' (by simp [hs]) ?_ ?_ (h'.of_eq (listed_set hil))
   ·have:=left_set hin hs hnot;omega
   ·intro j k hk hlk hb
    have e:=listed_set (i:=i) hil
    have hk':=(congrFun e k).symm▸hlk
    rw[<-congrFun e j]
    rcases hk' with h1|h1
    ·exact .inl (hc j k hk h1 hb)
    ·subst h1;exact .inl (hpre j hb)
  have hsem:=hX.sem i hin
  have hlen:a.tmps.size=(X.ts i).length:=by rw[hX.ts_len (Nat.le_of_lt hin)];exact h.len
  have hsl:=h.slot_at hX turn
  have:=hsem (ρ.below (X.U i).next) w a (wpAnyIn F 0 P .any ops Q fuel (listed.setIfInBounds i true)) hlen hsl
  cases hk:X.kd i with
  |pure rd=>
   rw[hk]at this
   simp only at this
   refine this ?_ λv' hv=>next _ _ _ _ (h.step_pure hX turn hk hv)
   have hrd:=h.reads hX turn
   rw[hk]at hrd
   exact hrd
  |alloc ob rd=>
   rw[hk]at this
   simp only at this
   refine this ?_ λv' w' obj sz h1 h2 h3 h4 h5=>next _ _ _ _ (h.step_alloc hX turn hk h1 h2 h3 h4 h5)
   have hrd:=h.reads hX turn
   rw[hk]at hrd
   exact hrd
  |full lg=>
   rw[hk]at this
   simp only at this
   have hf:(X.kd i).isFull=true:=by rw[hk];rfl
   exact this (h.wr hX turn hf) λρ' v' w' hv hA=>next _ _ _ _ (h.step_full hX turn hf hv hA)
theorem inv_start (hX : X.Ok F P ops Q) (hw : WR ρ₀ (X.U 0) w₀.heap) (ht : VRL ρ₀ (X.ts 0) a.tmps.toList) (hd : DRL ρ₀ ds a.defers) (hS : ∀ k, k < X.n → ¬ S k) : Inv X ρ₀ w₀ ds S (X.U 0).get ρ₀ w₀ a := by
  have below : (ρ₀.below (X.U 0).next) = ρ₀ := funext fun b => by
    unfold Ren.below
    split
    · rfl
    · cases hb : ρ₀ b with
      | none => rfl
      | some l => exact absurd (hw.dom b l hb).1 (by assumption)
  have low : ∀ {c m : Nat}, X.at S (X.tch c) m → c < (X.U m).next → c < (X.U 0).next := fun {c m} hat hc => by
    induction m with
    | zero => exact hc
    | succ m ih =>
      by_cases e : c < (X.U m).next
      · exact ih ⟨by have := hat.1; omega, fun k hk hk' => hat.2.1 k (by omega) hk', fun k _ hkn _ => hS k hkn⟩ e
      · exact absurd (hat.2.1 m (by omega) (.inl ⟨by omega, hc⟩)) (hS m (by have := hat.1; omega))
  have same : ∀ {c m : Nat}, X.at S (X.tch c) m → c < (X.U m).next → (X.U m).get c = (X.U 0).get c := fun {c m} hat hc =>
    hX.between (Nat.zero_le _) hat.1 (low hat hc) fun k _ hk hk' => hS k (by have := hat.1; omega) (hat.2.1 k hk hk')
  refine { len := by have := ht.length; simpa using this.symm, slot := ?_, ds := by rw [below]; exact hd, cont := fun c m hat hc => (same hat hc).symm, dom := fun c l hl => ⟨(hw.dom c l hl).2, .inl (hw.dom c l hl).1⟩, obj := ?_, inj := hw.inj, fixd := hw.fixd, nofix := fun b l hb hl => absurd (hw.dom b l hl).1 (by omega),
           ext := fun _ _ => rfl, size := Nat.le_refl _, fr := fun _ _ _ => rfl, kept := fun _ _ _ => rfl, dead := fun _ _ h => h,
           fresh := fun b l hb hl => absurd (hw.dom b l hl).1 (by omega), tape := rfl, os := rfl, out := rfl }
  · intro t m hat
    rw [hX.between_slot (Nat.zero_le _) hat.1 fun k _ hk hk' => hS k (by have := hat.1; omega) (hat.2.1 k hk hk')]
    have h1 := lget_VR ht t
    rw [show a.tmps.toList.getD t undef = lget a.tmps.toList t by rw [lget_eq, List.getD_eq_getElem?_getD]] at h1
    refine h1.mono ?_
    rw (occs := .pos [1]) [← below]
    exact Ren.below_mono (Ren.le_refl _) (hX.next_mono (Nat.zero_le _) hat.1)
  · intro c m l o hat hc hl ho
    refine (hw.obj c l o hl ho).mono ?_
    rw (occs := .pos [1]) [← below]
    exact Ren.below_mono (Ren.le_refl _) (hX.next_mono (Nat.zero_le _) hat.1)
theorem inv_end(hX:X.Ok F P ops Q)(h:Inv X ρ₀ w₀ ds S g ρ w a)(hS:∀k,k<X.n->S k):
  VRL ρ (X.ts X.n) a.tmps.toList/\DRL ρ ds a.defers/\Aft ρ₀ (X.U 0) w₀ ρ (X.U X.n) w:=by
 have hat:∀(tc:Nat->Prop),X.at S tc X.n:=λtc=>⟨Nat.le_refl _,λk hk _=>hS k hk,λk hk hkn _=>absurd hkn (by omega)⟩
 have hn:=hX.next_mono (Nat.zero_le X.n) (Nat.le_refl _)
 have dom:∀{c:Nat} {l:Loc},ρ c=some l->c<(X.U X.n).next:=λ{c l} hl=>by
  rcases(h.dom c l hl).2 with h1|⟨k,hk,_,_,h2⟩
  ·omega
  ·have:=hX.next_mono (by omega:k+1<=X.n) (Nat.le_refl _);omega
 have cont:∀{c:Nat},c<(X.U X.n).next->g c=(X.U X.n).get c:=λhc=>h.cont _ X.n (hat _) hc
 refine⟨?_,h.ds.mono (Ren.below_le _ _),?_⟩
 ·refine VRL.of_get (by rw[hX.ts_len (Nat.le_refl _),<-h.len];simp) λi v hv=>?_
  have:=(h.slot i X.n (hat _)).mono (Ren.below_le ρ _)
  rw[lget_eq,lget_eq,hv]at this
  have hi:i<a.tmps.toList.length:=by
   have h1:=(List.getElem?_eq_some_iff.1 hv).1
   rw[hX.ts_len (Nat.le_refl _),<-h.len]at h1
   simpa using h1
  rw[List.getElem?_eq_getElem hi]at this ⊢
  exact⟨_,rfl,this⟩
 ·refine{ext:=h.ext,wr:=⟨λb l hl=>⟨dom hl,(h.dom b l hl).1⟩,λb l o hl ho=>?_,λb b' l l' hl hl' hg hg'=>?_,λb l hl hf hg=>?_⟩,size:=h.size,fr:=h.fr,nofix:=h.nofix,nxt:=hn,kept:=?_,dead:=?_,fresh:=h.fresh,tape:=h.tape,os:=h.os,out:=h.out}
  ·exact(h.obj b X.n l o (hat _) (dom hl) hl (by rw[cont (dom hl)];exact ho)).mono (Ren.below_le _ _)
  ·exact h.inj b b' l l' hl hl' (by rw[cont (dom hl)];exact hg) (by rw[cont (dom hl')];exact hg')
  ·obtain⟨vs,hv⟩:=h.fixd b l hl hf (by rw[cont (dom hl)];exact hg)
   exact⟨vs,by rw[<-cont (dom hl)];exact hv⟩
  ·intro b hb hr;rw[<-cont (by omega)];exact h.kept b hb hr
  ·intro b hb hr;rw[<-cont (by omega)];exact h.dead b hb hr
theorem chain_wp{C:Cx}(hC:C.Ok P)(hm:P.follows .mixedOrders=true){id:Nat}{ops:Array Oper}{B:List Nat}{ro:Option Nat}{fr:Fr}{U:St}{r:Dr}(hst:statOk ops B=true)
  (hch:Chain P C ops.toList ops.toList fr.ts U r) (hdy:dynOk B r=true) {ρ:Ren} {w:World} {a:Act} (hw:WR ρ U w.heap) (hf:FR ρ fr a):
  (Code.region id ops true).wpIn (fence ro) 0 P (λe a' w'=>∃ρ',XR ρ' .norm e/\FR ρ' {fr with ts:=r.ts} a'/\Aft ρ U w ρ' r.U w') a w:=by
 have hX:(tab ops B r).Ok (fence ro) P ops (λe a' w'=>∃ρ',XR ρ' .norm e/\FR ρ' {fr with ts:=r.ts} a'/\Aft ρ U w ρ' r.U w'):=tab_ok hC (λh=>h.elim) hch hst hdy
 have e0:(tab ops B r).U 0=U:=hch.U0
 have e1:(tab ops B r).ts 0=fr.ts:=hch.ts0
 have hlen:r.st[ops.size]?=none:=by
  rw[List.getElem?_eq_none_iff,hch.len];simp
 have e2:(tab ops B r).U ops.size=r.U:=by show r.UAt ops.size=r.U;unfold Dr.UAt;rw[hlen]
 have e3:(tab ops B r).ts ops.size=r.ts:=by show r.tsAt ops.size=r.ts;unfold Dr.tsAt;rw[hlen]
 refine wpIn_region_any hm ?_
 have hw':WR ρ ((tab ops B r).U 0) ({w with drawn:=w.drawn+1}:World).heap:=by rw[e0];exact hw
 refine any_of_inv (ρ₀:=ρ) (w₀:={w with drawn:=w.drawn+1}) (ds:=fr.ds) hX ?_ ops.size _ _ ρ _ a (by simp [hX.size]) ?_ ?_ (inv_start hX hw' (by rw[e1];exact hf.ts) hf.ds ?_)
 ·intro S g ρ' w' a' hS h
  obtain⟨h1,h2,h3⟩:=inv_end hX h hS
  have hn:(tab ops B r).n=ops.size:=rfl
  rw[hn,e3]at h1
  rw[hn,e2,e0]at h3
  refine⟨ρ',trivial,⟨h1,h2⟩,{h3 with tape:=h3.tape,os:=h3.os,out:=h3.out,size:=h3.size,fr:=h3.fr,fresh:=h3.fresh}⟩
 ·unfold left
  exact Nat.le_trans (List.countP_le_length) (by simp [tab])
 ·intro j k hk hl
  simp [Array.getD_eq_getD_getElem?]at hl
  have:k<ops.size:=hk
  simp [this]at hl
 ·intro k hk
  have:k<ops.size:=hk
  simp [Array.getD_eq_getD_getElem?,this]
theorem inv_upto(hX:X.Ok F P ops Q)(h:Inv X ρ₀ w₀ ds S g ρ w a){m:Nat}(hm:m<=X.n)(hS:∀k,k<m->S k)(hN:∀k,m<=k->k<X.n->¬S k):
  VRL ρ (X.ts m) a.tmps.toList/\DRL ρ ds a.defers/\Aft ρ₀ (X.U 0) w₀ ρ (X.U m) w:=by
 have hat:∀(tc:Nat->Prop),X.at S tc m:=λtc=>⟨hm,λk hk _=>hS k hk,λk hk hkn _=>hN k hk hkn⟩
 have hn:=hX.next_mono (Nat.zero_le m) hm
 have dom:∀{c:Nat} {l:Loc},ρ c=some l->c<(X.U m).next:=λ{c l} hl=>by
  rcases(h.dom c l hl).2 with h1|⟨k,hk,hSk,_,h2⟩
  ·omega
  ·have hkm:k<m:=by
    rcases Nat.lt_or_ge k m with h3|h3
    ·exact h3
    ·exact absurd hSk (hN k h3 hk)
   have:=hX.next_mono (by omega:k+1<=m) hm;omega
 have cont:∀{c:Nat},c<(X.U m).next->g c=(X.U m).get c:=λhc=>h.cont _ m (hat _) hc
 refine⟨?_,h.ds.mono (Ren.below_le _ _),?_⟩
 ·refine VRL.of_get (by rw[hX.ts_len hm,<-h.len];simp) λi v hv=>?_
  have:=(h.slot i m (hat _)).mono (Ren.below_le ρ _)
  rw[lget_eq,lget_eq,hv]at this
  have hi:i<a.tmps.toList.length:=by
   have h1:=(List.getElem?_eq_some_iff.1 hv).1
   rw[hX.ts_len hm,<-h.len]at h1
   simpa using h1
  rw[List.getElem?_eq_getElem hi]at this ⊢
  exact⟨_,rfl,this⟩
 ·refine{ext:=h.ext,wr:=⟨λb l hl=>⟨dom hl,(h.dom b l hl).1⟩,λb l o hl ho=>?_,λb b' l l' hl hl' hg hg'=>?_,λb l hl hf hg=>?_⟩,size:=h.size,fr:=h.fr,nofix:=h.nofix,nxt:=hn,kept:=?_,dead:=?_,fresh:=h.fresh,tape:=h.tape,os:=h.os,out:=h.out}
  ·exact(h.obj b m l o (hat _) (dom hl) hl (by rw[cont (dom hl)];exact ho)).mono (Ren.below_le _ _)
  ·exact h.inj b b' l l' hl hl' (by rw[cont (dom hl)];exact hg) (by rw[cont (dom hl')];exact hg')
  ·obtain⟨vs,hv⟩:=h.fixd b l hl hf (by rw[cont (dom hl)];exact hg)
   exact⟨vs,by rw[<-cont (dom hl)];exact hv⟩
  ·intro b hb hr;rw[<-cont (by omega)];exact h.kept b hb hr
  ·intro b hb hr;rw[<-cont (by omega)];exact h.dead b hb hr
theorem any_of_stop{Q₀:Exit->Act->World->Prop}(hX:X.Ok F P ops Q₀){m:Nat}(hn:X.n=m+1)(hbf:∀j,j<m->X.bf j m=true)(hsems:∀i,i<m->X.sem F P ops Q i)
  (hstop:∀g ρ w a K,Inv X ρ₀ w₀ ds (λk=>k<m) g ρ w a->wpOpIn F 0 P ops Q m K a w):
  ∀(fuel:Nat) (listed:Array Bool) (g:Nat->Option AObj) (ρ:Ren) (w:World) (a:Act),listed.size=X.n->left X.n listed<=fuel->listed.getD m false=false->
   (∀j k,k<X.n->listed.getD k false=true->X.bf j k=true->listed.getD j false=true)->
   Inv X ρ₀ w₀ ds (λk=>listed.getD k false=true) g ρ w a->wpAnyIn F 0 P .any ops Q fuel listed a w:=by
 intro fuel
 induction fuel with
 |zero=>
  intro listed g ρ w a hs hl hlm hc h
  have hall:=left_zero (by omega:left X.n listed=0) m (by omega)
  rw[hlm]at hall;cases hall
 |succ fuel ih=>
  intro listed g ρ w a hs hl hlm hc h
  refine⟨λhr=>?_,λi hi=>?_⟩
  ·have:=hX.done listed hs hr m (by omega)
   rw[hlm]at this;cases this
  have hpre:=hX.ready listed i hc hi
  have hi':=hi
  unfold Region.ready at hi'
  rw[List.mem_filter,List.mem_range]at hi'
  obtain⟨hlt,hi2⟩:=hi'
  have hin:i<X.n:=by rw[<-hX.size];exact hlt
  by_cases him:i=m
  ·subst him
   refine hstop g ρ w a _ (h.of_eq ?_)
   funext k
   apply propext
   refine⟨λhk=>?_,λhk=>hpre k (hbf k hk)⟩
   rcases Nat.lt_trichotomy k i with h1|h1|h1
   ·exact h1
   ·subst h1;rw[hlm]at hk;cases hk
   ·exfalso
    rw[Array.getD_eq_getD_getElem?,Array.getElem?_eq_none (by omega)]at hk
    cases hk
  have hil:i<listed.size:=by omega
  have hnot:listed.getD i false=false:=by
   rw[Bool.and_eq_true]at hi2
   have:=hi2.1
   rw[Array.getD_eq_getD_getElem?,Array.getElem?_eq_getElem hil]at this ⊢
   simpa using this
  have turn:Turn X (λk=>listed.getD k false=true) i:=⟨hin,by simp only[hnot];simp,hpre,hc⟩
  have next:∀g' ρ' w' a',Inv X ρ₀ w₀ ds (λk=>listed.getD k false=true\/k=i) g' ρ' w' a'->wpAnyIn F 0 P .any ops Q fuel (listed.setIfInBounds i true) a' w':=λg' ρ' w' a' h'=>by
   refine ih _ g' ρ' w' a' (by simp [hs]) ?_ ?_ ?_ (h'.of_eq (listed_set hil))
   ·have:=left_set hin hs hnot;omega
   ·rw[Array.getD_eq_getD_getElem?,Array.getElem?_setIfInBounds,if_neg him,<-Array.getD_eq_getD_getElem?];exact hlm
   ·intro j k hk hlk hb
    have e:=listed_set (i:=i) hil
    have hk':=(congrFun e k).symm▸hlk
    rw[<-congrFun e j]
    rcases hk' with h1|h1
    ·exact .inl (hc j k hk h1 hb)
    ·subst h1;exact .inl (hpre j hb)
  have hsem:=hsems i (by omega)
  have hlen:a.tmps.size=(X.ts i).length:=by rw[hX.ts_len (Nat.le_of_lt hin)];exact h.len
  have hsl:=h.slot_at hX turn
  have:=hsem (ρ.below (X.U i).next) w a (wpAnyIn F 0 P .any ops Q fuel (listed.setIfInBounds i true)) hlen hsl
  cases hk:X.kd i with
  |pure rd=>
   rw[hk]at this
   simp only at this
   refine this ?_ λv' hv=>next _ _ _ _ (h.step_pure hX turn hk hv)
   have hrd:=h.reads hX turn
   rw[hk]at hrd
   exact hrd
  |alloc ob rd=>
   rw[hk]at this
   simp only at this
   refine this ?_ λv' w' obj sz h1 h2 h3 h4 h5=>next _ _ _ _ (h.step_alloc hX turn hk h1 h2 h3 h4 h5)
   have hrd:=h.reads hX turn
   rw[hk]at hrd
   exact hrd
  |full lg=>
   rw[hk]at this
   simp only at this
   have hf:(X.kd i).isFull=true:=by rw[hk];rfl
   exact this (h.wr hX turn hf) λρ' v' w' hv hA=>next _ _ _ _ (h.step_full hX turn hf hv hA)
theorem chain_stop{C:Cx}(hC:C.Ok P)(hm:P.follows .mixedOrders=true){id:Nat}{ops:Array Oper}{B:List Nat}{ro:Option Nat}{fr:Fr}{U U':St}{r:Dr}{pre:List Oper}{o:Oper}{f:FuncId}{args:List Value}{c:List PanicEntry}{l:Log}
  (hops:ops.toList=pre++[o]) (hst:statOk ops B=true) (hch:Chain P C ops.toList pre fr.ts U r) (hw:wantedA ops.toList o r.ts=true) (hs:stepOp C.T C.bodies o r.ts r.U=some (.enter f args)) (hc:DCall P f args r.U (.panic c) U' l)
  (hdy:dynOk B ⟨r.st++[⟨r.ts,r.U,undef,.full l⟩],putL r.ts o.dst undef,U',r.lg++l⟩=true) (hbf:∀j,j<pre.length->(B.getD pre.length 0).testBit j=true) {ρ:Ren} {w:World} {a:Act} (hwr:WR ρ U w.heap) (hf:FR ρ fr a):
  (Code.region id ops true).wpIn (fence ro) 0 P (λe a' w'=>∃ρ',XR ρ' (.panic c) e/\FR ρ' {fr with ts:=r.ts} a'/\Aft ρ U w ρ' U' w') a w:=by
 have hsz:ops.size=pre.length+1:=by rw[<-Array.length_toList,hops];simp
 have hch':ChainS P C True ops.toList ops.toList fr.ts U ⟨r.st++[⟨r.ts,r.U,undef,.full l⟩],putL r.ts o.dst undef,U',r.lg++l⟩:=by
  have:=ChainS.snoc (s:=⟨r.ts,r.U,undef,.full l⟩) hch rfl rfl (.stop trivial hw hs hc rfl) hc.1
  rw[<-hops]at this
  exact this
 generalize hr':(⟨r.st++[⟨r.ts,r.U,undef,.full l⟩],putL r.ts o.dst undef,U',r.lg++l⟩:Dr)=r' at hch' hdy
 have eT:∀k,k<=pre.length->(tab ops B r').ts k=r.tsAt k:=λk hk=>by
  rw[<-hr'];exact Dr.tsAt_snoc rfl (by rw[hch.len];exact hk)
 have eS:∀k,k<=pre.length->(tab ops B r').U k=r.UAt k:=λk hk=>by
  rw[<-hr'];exact Dr.UAt_snoc rfl (by rw[hch.len];exact hk)
 have endT:r.tsAt pre.length=r.ts:=by
  unfold Dr.tsAt
  rw[List.getElem?_eq_none (by rw[hch.len];exact Nat.le_refl _)]
 have endS:r.UAt pre.length=r.U:=by
  unfold Dr.UAt
  rw[List.getElem?_eq_none (by rw[hch.len];exact Nat.le_refl _)]
 have hX:(tab ops B r').Ok (fence ro) P ops (λ_ _ _=>True):=tab_ok hC (λ_ _ _ _=>trivial) hch' hst hdy
 have e0:(tab ops B r').U 0=U:=hch'.U0
 have e1:(tab ops B r').ts 0=fr.ts:=hch'.ts0
 have ho:ops[pre.length]?=some o:=by
  rw[<-Array.getElem?_toList,hops];simp
 refine wpIn_region_any hm ?_
 have hw':WR ρ ((tab ops B r').U 0) ({w with drawn:=w.drawn+1}:World).heap:=by rw[e0];exact hwr
 refine any_of_stop (ρ₀:=ρ) (w₀:={w with drawn:=w.drawn+1}) (ds:=fr.ds) hX (m:=pre.length) hsz hbf (λi hi=>?_) ?_ ops.size _ _ ρ _ a (by simp [hX.size]) ?_ ?_ ?_ (inv_start hX hw' (by rw[e1];exact hf.ts) hf.ds ?_)
 ·have hoi:ops.toList[i]?=some pre[i]:=by rw[hops,List.getElem?_append_left hi];simp [hi]
  obtain⟨s,a1,a2,_⟩:=hch.one i pre[i] (by simp [hi])
  refine tab_sem (st:=False) hC (λh=>h.elim) (by simpa using hoi) (s:=s) ?_ ?_
  ·rw[<-hr']
   show(r.st++[_])[i]?=some s
   rw[List.getElem?_append_left (by rw[hch.len];exact hi)];exact a1
  ·have:=eS (i+1) (by omega)
   have h2:r'.UAt (i+1)=r.UAt (i+1):=this
   rw[h2];exact a2
 ·intro g ρ' w' a' K h
  have hn:(tab ops B r').n=ops.size:=rfl
  obtain⟨h1,h2,h3⟩:=inv_upto hX h (m:=pre.length) (by rw[hn];omega) (λk hk=>hk) (λk hk _=>by omega)
  rw[eT _ (Nat.le_refl _),endT]at h1
  rw[eS _ (Nat.le_refl _),endS,e0]at h3
  have hA0:Aft ρ U w ρ' r.U w':={h3 with tape:=h3.tape,os:=h3.os,out:=h3.out,size:=h3.size,fr:=h3.fr,fresh:=h3.fresh}
  exact stop_op hC ho hw hs hc hA0.wr (⟨h1,h2⟩:FR ρ' ⟨r.ts,fr.ds⟩ a') K λρ2 c' w2 hcr hA=>⟨ρ2,hcr,(⟨h1,h2⟩:FR ρ' {fr with ts:=r.ts} a').mono (hA.le hA0.wr),hA0.trans hA⟩
 ·unfold left
  exact Nat.le_trans (List.countP_le_length) (by simp [tab])
 ·simp [Array.getD_eq_getD_getElem?,hsz]
 ·intro j k hk hl
  simp [Array.getD_eq_getD_getElem?]at hl
  have:k<ops.size:=hk
  simp [this]at hl
 ·intro k hk
  have:k<ops.size:=hk
  simp [Array.getD_eq_getD_getElem?,this]
end Go.Ab
namespace Go.Ab
variable {P:Program}
section rules
variable {F:Fence} {n:Nat} {Q:Exit->Act->World->Prop} {a:Act} {w:World}
def LoopIn(F:Fence)(n:Nat)(P:Program)(c:Code)(Q:Exit->Act->World->Prop)(a:Act)(w:World):Prop:=
 ∀(b:Frame) (k:List Item) (cs:List Frame),b.roundOf=F.round->F.fn b.fn->F.room (cs.length+1+n)->
  ∃e a' w',Q e a' w'/\ArrivesIn (Machine.fenced P F) P (lone (b.atR a (.code c :: .inLoop c :: k)) cs w) b k cs e a' w'
theorem loopIn_step{c:Code}(h:c.wpIn F n P (Exit.then (LoopIn F n P c Q) Q) a w):LoopIn F n P c Q a w:=by
 intro b k cs hro hb hr
 obtain⟨e,a₁,w₁,hq,harr⟩:=h b (.inLoop c :: k) cs hro hb hr
 cases e with
 |normal=>
  obtain⟨e₂,a₂,w₂,hq₂,harr₂⟩:=hq b k cs hro hb hr
  exact⟨e₂,a₂,w₂,hq₂,.of_steps (StepsIn.trans harr (.one (fenced_calm hb hr rfl) stepR_inLoop)) harr₂⟩
 |exit id=>exact⟨_,a₁,w₁,hq,.pass (x:=.inLoop c) rfl (λ_ _=>.inl (by simp)) harr⟩
 |goto l=>exact⟨_,a₁,w₁,hq,.pass (x:=.inLoop c) rfl (λ_ _=>.inl (by simp)) harr⟩
 |ret=>exact⟨_,a₁,w₁,hq,.pass (x:=.inLoop c) rfl (λ_ _=>.inl (by simp)) harr⟩
 |panic ch=>exact⟨_,a₁,w₁,hq,.pass (x:=.inLoop c) rfl (λ_ _=>.inl (by simp)) harr⟩
 |outgrown=>exact⟨_,a₁,w₁,hq,.pass (x:=.inLoop c) rfl (λ_ _=>.inl (by simp)) harr⟩
theorem wpIn_of_loopIn{c:Code}(h:LoopIn F n P c Q a w):(Code.loop c).wpIn F n P Q a w:=λb k cs hro hb hr=>
 let⟨e,a',w',hq,harr⟩:=h b k cs hro hb hr
 ⟨e,a',w',hq,.of_steps (.one (fenced_calm hb hr rfl) stepR_loop) harr⟩
def ScopeIn(F:Fence)(n:Nat)(P:Program)(body c:Code)(Q:Exit->Act->World->Prop)(a:Act)(w:World):Prop:=
 ∀(b:Frame) (k:List Item) (cs:List Frame),b.roundOf=F.round->F.fn b.fn->F.room (cs.length+1+n)->
  ∃e a' w',Q e a' w'/\ArrivesIn (Machine.fenced P F) P (lone (b.atR a (.code c :: .inScope body :: k)) cs w) b k cs e a' w'
theorem stepR_scope'{b:Frame}{k:List Item}{cs:List Frame}{c:Code}:
  step P (lone (b.atR a (.code (.scope c) :: k)) cs w)=.next (lone (b.atR a (.code c :: .inScope c :: k)) cs w):=
 step_lone_go (by simp [stepG,stepG.exec,Frame.atR])
theorem stepR_inScope'{b:Frame}{k:List Item}{cs:List Frame}{c:Code}:
  step P (lone (b.atR a (.inScope c :: k)) cs w)=.next (lone (b.atR a k) cs w):=
 step_lone_go (by simp [stepG,stepG.exec,Frame.atR])
def Exit.inScope(body:Code)(J:Code->Act->World->Prop)(Q:Exit->Act->World->Prop):Exit->Act->World->Prop
 |.goto l,a,w=>match findLabel body l with
  |some rest=>J rest a w
  |none=>Q (.goto l) a w
 |e,a,w=>Q e a w
theorem scopeIn_step{body c:Code}(h:c.wpIn F n P (Exit.inScope body (λrest=>ScopeIn F n P body rest Q) Q) a w):ScopeIn F n P body c Q a w:=by
 intro b k cs hro hb hr
 obtain⟨e,a₁,w₁,hq,harr⟩:=h b (.inScope body :: k) cs hro hb hr
 cases e with
 |normal=>exact⟨.normal,a₁,w₁,hq,StepsIn.trans harr (.one (fenced_calm hb hr rfl) stepR_inScope')⟩
 |exit id=>
  have hx:exitTo id (.inScope body :: k)=exitTo id k:=by simp [exitTo]
  exact⟨.exit id,a₁,w₁,hq,λk' hk=>harr.1 k' (by rw[hx];exact hk),λhr' hk=>harr.2 hr' (by rw[hx];exact hk)⟩
 |goto l=>
  simp only[Exit.inScope]at hq
  split at hq
  ·rename_i rest hf
   have hg:gotoIn l (.inScope body :: k)=some (.code rest :: .inScope body :: k):=by simp [gotoIn,hf]
   obtain⟨e₂,a₂,w₂,hq₂,harr₂⟩:=hq b k cs hro hb hr
   exact⟨e₂,a₂,w₂,hq₂,.of_steps (harr.1 _ hg) harr₂⟩
  ·rename_i hf
   have hx:gotoIn l (.inScope body :: k)=gotoIn l k:=by simp [gotoIn,hf]
   exact⟨.goto l,a₁,w₁,hq,λk' hk=>harr.1 k' (by rw[hx];exact hk),λhr' hk=>harr.2 hr' (by rw[hx];exact hk)⟩
 |ret=>exact⟨_,a₁,w₁,hq,harr⟩
 |panic ch=>exact⟨_,a₁,w₁,hq,harr⟩
 |outgrown=>exact⟨_,a₁,w₁,hq,harr⟩
theorem wpIn_of_scopeIn{c:Code}(h:ScopeIn F n P c c Q a w):(Code.scope c).wpIn F n P Q a w:=λb k cs hro hb hr=>
 let⟨e,a',w',hq,harr⟩:=h b k cs hro hb hr
 ⟨e,a',w',hq,.of_steps (.one (fenced_calm hb hr rfl) stepR_scope') harr⟩
end rules
abbrev WT:=Fence->(Exit->Act->World->Prop)->Act->World->Prop
structure RR where
 x:AX
 fr:Fr
 U:St
 lg:Log
def after(ρ:Ren)(U:St)(w:World)(r:RR):Exit->Act->World->Prop:=λe a' w'=>∃ρ',XR ρ' r.x e/\FR ρ' r.fr a'/\Aft ρ U w ρ' r.U w'
def DG(W:WT)(rnd:Bool)(fr:Fr)(U:St)(r:RR):Prop:=
 Logged U r.U r.lg/\∀(ro:Option Nat),(rnd=false->ro=none)->∀(ρ:Ren) (w:World) (a:Act),WR ρ U w.heap->FR ρ fr a->W (fence ro) (after ρ U w r) a w
def DC(P:Program)(rnd:Bool)(c:Code)(fr:Fr)(U:St)(r:RR):Prop:=DG (λF Q=>c.wpIn F 0 P Q) rnd fr U r
def DL(P:Program)(rnd:Bool)(c:Code)(fr:Fr)(U:St)(r:RR):Prop:=DG (λF Q=>LoopIn F 0 P c Q) rnd fr U r
def DS(P:Program)(rnd:Bool)(body c:Code)(fr:Fr)(U:St)(r:RR):Prop:=DG (λF Q=>ScopeIn F 0 P body c Q) rnd fr U r
def WT.Mono(W:WT):Prop:=∀F Q Q' a w,W F Q a w->(∀e a w,Q e a w->Q' e a w)->W F Q' a w
theorem code_mono(c:Code):WT.Mono λF Q=>c.wpIn F 0 P Q:=λ_ _ _ _ _ h hq=>wpIn_mono h hq
theorem loop_mono(c:Code):WT.Mono λF Q=>LoopIn F 0 P c Q:=λ_ _ _ _ _ h hq b k cs hro hb hr=>let⟨e,a',w',q,r⟩:=h b k cs hro hb hr;⟨e,a',w',hq _ _ _ q,r⟩
theorem scope_mono(body c:Code):WT.Mono λF Q=>ScopeIn F 0 P body c Q:=λ_ _ _ _ _ h hq b k cs hro hb hr=>let⟨e,a',w',q,r⟩:=h b k cs hro hb hr;⟨e,a',w',hq _ _ _ q,r⟩
def RR.pre(l:Log)(r:RR):RR:={r with lg:=l++r.lg}
theorem after_trans{ρ₀ ρ:Ren}{U₀ U:St}{w₀ w:World}{r:RR}{l:Log}(h:Aft ρ₀ U₀ w₀ ρ U w){e:Exit}{a':Act}{w':World}(k:after ρ U w r e a' w'):after ρ₀ U₀ w₀ (r.pre l) e a' w':=
 let⟨ρ',h1,h2,h3⟩:=k
 ⟨ρ',h1,h2,h.trans h3⟩
theorem DG.still{W:WT}{rnd:Bool}{fr:Fr}{U:St}{x:AX}{e:Exit}(hx:∀ρ,XR ρ x e)(h:∀F Q a w,Q e a w->W F Q a w):DG W rnd fr U ⟨x,fr,U,[]⟩:=
 ⟨logged_self _ _,λ_ _ _ _ a hw hf=>h _ _ _ _ ⟨_,hx _,hf,Aft.refl hw⟩⟩
theorem DG.bind{W W' V:WT}{rnd:Bool}{fr:Fr}{U:St}{r r':RR}{e:Exit}(hV:WT.Mono V)(he:∀ρ e',XR ρ r.x e'->e'=e)(h:DG V rnd fr U r)(k:DG W' rnd r.fr r.U r')
  (hW:∀F Q a w,V F (λe' a' w'=>e'=e/\W' F Q a' w') a w->W F Q a w) (hW':WT.Mono W'):DG W rnd fr U (r'.pre r.lg):=by
 refine⟨h.1.trans k.1,λro hro ρ w a hw hf=>hW _ _ _ _ (hV _ _ _ _ _ (h.2 ro hro ρ w a hw hf) ?_)⟩
 rintro e' a' w' ⟨ρ',h1,h2,h3⟩
 refine⟨he _ _ h1,hW' _ _ _ _ _ (k.2 ro hro ρ' w' a' h3.wr h2) λ_ _ _=>after_trans h3⟩
def AX.isNorm:AX->Bool
 |.norm=>true
 |_=>false
theorem XR.norm_iff{ρ:Ren}{e:Exit}(h:XR ρ .norm e):e=.normal:=by cases e<;>first|rfl|exact h.elim
theorem XR.not_norm{ρ:Ren}{x:AX}{e:Exit}(h:XR ρ x e)(hx:x.isNorm=false):e≠.normal:=by
 rintro rfl
 cases x<;>first|exact False.elim h|cases hx
theorem then_of_not{K:Act->World->Prop}{Q:Exit->Act->World->Prop}{e:Exit}{a:Act}{w:World}(he:e≠.normal)(h:Q e a w):Exit.then K Q e a w:=by
 cases e<;>first|exact h|exact absurd rfl he
theorem DC.skip(rnd:Bool)(fr:Fr)(U:St):DC P rnd .skip fr U ⟨.norm,fr,U,[]⟩:=DG.still (e:=.normal) (λ_=>trivial) λ_ _ _ _ h=>wpIn_skip h
theorem DC.label(l:Nat)(rnd:Bool)(fr:Fr)(U:St):DC P rnd (.label l) fr U ⟨.norm,fr,U,[]⟩:=DG.still (e:=.normal) (λ_=>trivial) λ_ _ _ _ h=>wpIn_label h
theorem DC.exit(i:Nat)(rnd:Bool)(fr:Fr)(U:St):DC P rnd (.exit i) fr U ⟨.exit i,fr,U,[]⟩:=DG.still (e:=.exit i) (λ_=>rfl) λ_ _ _ _ h=>wpIn_exit h
theorem DC.goto(i:Nat)(rnd:Bool)(fr:Fr)(U:St):DC P rnd (.goto i) fr U ⟨.goto i,fr,U,[]⟩:=DG.still (e:=.goto i) (λ_=>rfl) λ_ _ _ _ h=>wpIn_goto h
theorem DC.ret(rnd:Bool)(fr:Fr)(U:St):DC P rnd .ret fr U ⟨.ret,fr,U,[]⟩:=DG.still (e:=.ret) (λ_=>trivial) λ_ _ _ _ h=>wpIn_ret h
theorem DC.seq{c d:Code}{rnd:Bool}{fr:Fr}{U:St}{r r':RR}(h:DC P rnd c fr U r)(hx:r.x=.norm)(k:DC P rnd d r.fr r.U r'):DC P rnd (.seq c d) fr U (r'.pre r.lg):=
 DG.bind (code_mono c) (e:=.normal) (λ_ _ h=>XR.norm_iff (hx▸h)) h k (λ_ _ _ _ h=>wpIn_seq (wpIn_mono h λ_ _ _ ⟨he,hq⟩=>by subst he;exact hq)) (code_mono d)
theorem DC.seq_out{c d:Code}{rnd:Bool}{fr:Fr}{U:St}{r:RR}(h:DC P rnd c fr U r)(hx:r.x.isNorm=false):DC P rnd (.seq c d) fr U r:=
 ⟨h.1,λro hro ρ w a hw hf=>wpIn_seq (wpIn_mono (h.2 ro hro ρ w a hw hf) λe _ _ ⟨ρ',h1,h2⟩=>then_of_not (h1.not_norm hx) ⟨ρ',h1,h2⟩)⟩
theorem DC.cond{c:Operand}{x y:Code}{t rnd:Bool}{fr:Fr}{U:St}{r:RR}(hc:ev fr.ts c=some (.bool t))(h:DC P rnd (if t then x else y) fr U r):DC P rnd (.cond c x y) fr U r:=
 ⟨h.1,λro hro ρ w a hw hf=>by
  have hv:=ev_VR hf.ts hc
  generalize he:a.eval c=v at hv
  cases hv
  exact wpIn_cond he (h.2 ro hro ρ w a hw hf)⟩
def AX.inBlock(id:Nat):AX->AX
 |.exit i=>if i=id then .norm else .exit i
 |x=>x
theorem DC.block{id:Nat}{c:Code}{rnd:Bool}{fr:Fr}{U:St}{r:RR}(h:DC P rnd c fr U r):DC P rnd (.block id c) fr U {r with x:=r.x.inBlock id}:=
 ⟨h.1,λro hro ρ w a hw hf=>wpIn_block (wpIn_mono (h.2 ro hro ρ w a hw hf) λe a' w' ⟨ρ',h1,h2⟩=>by
  cases e with
  |exit i=>
   simp only[Exit.inBlock]
   generalize r.x=x at h1
   cases x<;>try exact h1.elim
   rename_i j
   have:j=i:=h1
   subst this
   by_cases hj:j=id
   ·rw[if_pos hj];exact⟨ρ',by simp only[AX.inBlock,if_pos hj];trivial,h2⟩
   ·rw[if_neg hj];exact⟨ρ',by simp only[AX.inBlock,if_neg hj];rfl,h2⟩
  |normal=>refine⟨ρ',?_,h2⟩;generalize r.x=x at h1;cases x<;>first|exact h1.elim|exact h1
  |goto l=>refine⟨ρ',?_,h2⟩;generalize r.x=x at h1;cases x<;>first|exact h1.elim|exact h1
  |ret=>refine⟨ρ',?_,h2⟩;generalize r.x=x at h1;cases x<;>first|exact h1.elim|exact h1
  |panic ch=>refine⟨ρ',?_,h2⟩;generalize r.x=x at h1;cases x<;>first|exact h1.elim|exact h1
  |outgrown=>generalize r.x=x at h1;cases x<;>exact h1.elim)⟩
theorem DL.next{c:Code}{rnd:Bool}{fr:Fr}{U:St}{r r':RR}(h:DC P rnd c fr U r)(hx:r.x=.norm)(k:DL P rnd c r.fr r.U r'):DL P rnd c fr U (r'.pre r.lg):=
 DG.bind (code_mono c) (e:=.normal) (λ_ _ h=>XR.norm_iff (hx▸h)) h k (λ_ _ _ _ h=>loopIn_step (wpIn_mono h λ_ _ _ ⟨he,hq⟩=>by subst he;exact hq)) (loop_mono c)
theorem DL.out{c:Code}{rnd:Bool}{fr:Fr}{U:St}{r:RR}(h:DC P rnd c fr U r)(hx:r.x.isNorm=false):DL P rnd c fr U r:=
 ⟨h.1,λro hro ρ w a hw hf=>loopIn_step (wpIn_mono (h.2 ro hro ρ w a hw hf) λe _ _ ⟨ρ',h1,h2⟩=>then_of_not (h1.not_norm hx) ⟨ρ',h1,h2⟩)⟩
theorem DC.loop{c:Code}{rnd:Bool}{fr:Fr}{U:St}{r:RR}(h:DL P rnd c fr U r):DC P rnd (.loop c) fr U r:=
 ⟨h.1,λro hro ρ w a hw hf=>wpIn_of_loopIn (h.2 ro hro ρ w a hw hf)⟩
theorem DS.jump{body c rest:Code}{l:Nat}{rnd:Bool}{fr:Fr}{U:St}{r r':RR}(h:DC P rnd c fr U r)(hx:r.x=.goto l)(hf:findLabel body l=some rest)(k:DS P rnd body rest r.fr r.U r'):DS P rnd body c fr U (r'.pre r.lg):=
 DG.bind (code_mono c) (e:=.goto l) (λ_ e h=>by rw[hx]at h;cases e<;>first|exact h.elim|(have h2:l=_:=h;rw[h2])) h k
  (λ_ _ _ _ h=>scopeIn_step (wpIn_mono h λ_ _ _ ⟨he,hq⟩=>by subst he;simp only[Exit.inScope,hf];exact hq)) (scope_mono body rest)
theorem DS.out{body c:Code}{rnd:Bool}{fr:Fr}{U:St}{r:RR}(h:DC P rnd c fr U r)(hx:∀l,r.x=.goto l->findLabel body l=none):DS P rnd body c fr U r:=
 ⟨h.1,λro hro ρ w a hw hf=>scopeIn_step (wpIn_mono (h.2 ro hro ρ w a hw hf) λe _ _ ⟨ρ',h1,h2⟩=>by
  cases e with
  |goto l=>
   simp only[Exit.inScope]
   have:r.x=.goto l:=by
    generalize r.x=x at h1
    cases x<;>try exact h1.elim
    have h3:_=l:=h1
    rw[h3]
   rw[hx l this]
   exact⟨ρ',h1,h2⟩
  |_=>exact⟨ρ',h1,h2⟩)⟩
theorem DC.scope{c:Code}{rnd:Bool}{fr:Fr}{U:St}{r:RR}(h:DS P rnd c c fr U r):DC P rnd (.scope c) fr U r:=
 ⟨h.1,λro hro ρ w a hw hf=>wpIn_of_scopeIn (h.2 ro hro ρ w a hw hf)⟩
theorem DC.ops{C:Cx}(hC:C.Ok P){rnd:Bool}{id:Nat}{ops:Array Oper}{fr fr':Fr}{U U':St}{x:AX}{lg:Log}
  (h:OpsR P C rnd ops.toList ops.toList fr U x fr' U' lg):DC P rnd (.region id ops false) fr U ⟨x,fr',U',lg⟩:=by
 refine⟨h.logged hC,λro hro ρ w a hw hf=>wpIn_region ?_⟩
 have:=h.wp hC (ops:=ops) hro 0 rfl ρ w a (Aft.refl hw) hf
 rw[List.range_eq_range']
 show wpOpsIn (fence ro) 0 P ops (λe a' w'=>∃ρ',XR ρ' x e/\FR ρ' fr' a'/\Aft ρ U w ρ' U' w') _ a w
 simpa using this
theorem DC.region{C:Cx}{orc:Orc}(hC:C.Ok P)(hO:orc.Ok P){rnd:Bool}{id:Nat}{ops:Array Oper}{fr fr':Fr}{U U':St}{x:AX}{lg:Log}
  (h:runOps C orc rnd ops.toList ops.toList fr U []=some (x,fr',U',lg)):DC P rnd (.region id ops false) fr U ⟨x,fr',U',lg⟩:=by
 obtain⟨l2,h1,h2⟩:=runOps_ops hO _ _ _ _ _ _ _ _ h
 rw[List.nil_append]at h1
 subst h1
 exact DC.ops hC h2
theorem DC.chain{C:Cx}(hC:C.Ok P)(hm:P.follows .mixedOrders=true){rnd:Bool}{id:Nat}{ops:Array Oper}{B:List Nat}{fr:Fr}{U:St}{r:Dr}(hst:statOk ops B=true)
  (hch:Chain P C ops.toList ops.toList fr.ts U r) (hdy:dynOk B r=true):DC P rnd (.region id ops true) fr U ⟨.norm,{fr with ts:=r.ts},r.U,r.lg⟩:=
 ⟨hch.log,λ_ _ _ _ _ hw hf=>chain_wp hC hm hst hch hdy hw hf⟩
theorem DC.drawn{C:Cx}{orc:Orc}(hC:C.Ok P)(hO:orc.Ok P)(hm:P.follows .mixedOrders=true){rnd:Bool}{id:Nat}{ops:Array Oper}{B:List Nat}{fr:Fr}{U:St}{r:Dr}(hst:statOk ops B=true)
  (hr:runDrawn C orc ops.toList ops.toList fr.ts U=some r) (hdy:dynOk B r=true):DC P rnd (.region id ops true) fr U ⟨.norm,{fr with ts:=r.ts},r.U,r.lg⟩:=
 DC.chain hC hm hst (runDrawn_chain hC hO _ _ _ _ hr) hdy
theorem DC.stop{C:Cx}(hC:C.Ok P)(hm:P.follows .mixedOrders=true){rnd:Bool}{id:Nat}{ops:Array Oper}{B:List Nat}{fr:Fr}{U U':St}{r:Dr}{pre:List Oper}{o:Oper}{f:FuncId}{args:List Value}{c:List PanicEntry}{l:Log}
  (hops:ops.toList=pre++[o]) (hst:statOk ops B=true) (hch:Chain P C ops.toList pre fr.ts U r) (hw:wantedA ops.toList o r.ts=true) (hs:stepOp C.T C.bodies o r.ts r.U=some (.enter f args)) (hc:DCall P f args r.U (.panic c) U' l)
  (hdy:dynOk B ⟨r.st++[⟨r.ts,r.U,undef,.full l⟩],putL r.ts o.dst undef,U',r.lg++l⟩=true) (hbf:∀j,j<pre.length->(B.getD pre.length 0).testBit j=true):
  DC P rnd (.region id ops true) fr U ⟨.panic c,{fr with ts:=r.ts},U',r.lg++l⟩:=
 ⟨hch.log.trans hc.1,λ_ _ _ _ _ hw' hf=>chain_stop hC hm hops hst hch hw hs hc hdy hbf hw' hf⟩
end Go.Ab
namespace Go.Ab
variable {P:Program} {T:TT}
def resOne(T:TT)(U:St)(ts:List Value):ResultVar->Option Value
 |.tmp t=>some (lget ts t)
 |.cell a t=>match opLoad T U t (lget ts a) with
  |some (.val v _)=>some v
  |_=>none
def resList(T:TT)(U:St)(ts:List Value):List ResultVar->Option (List Value)
 |[]=>some []
 |r :: rs=>match resOne T U ts r,resList T U ts rs with
  |some v,some vs=>some (v :: vs)
  |_,_=>none
def resA(T:TT)(U:St)(ts:List Value)(rs:List ResultVar):Option Value:=
 match resList T U ts rs with
 |some [v]=>some v
 |some vs=>some (.tuple ⟨vs⟩)
 |none=>none
def readR(tmps:Array Value)(r:ResultVar):Sem Value:=
 match r with
 |.tmp t=>pure (tmps.getD t undef)
 |.cell a t=>do loadVar t (<-asAddr (tmps.getD a undef))
theorem resOne_sound(hT:T.Ok P){U:St}{ts:List Value}{r:ResultVar}{v:Value}(h:resOne T U ts r=some v){ρ:Ren}{w:World}{tmps:Array Value}(hw:WR ρ U w.heap)(ht:VRL ρ ts tmps.toList):
  ∃v',(readR tmps r).run P w=.ok v' w/\VR ρ v v':=by
 have get:∀t:Nat,VR ρ (lget ts t) (tmps.getD t undef):=λt=>by
  have:=lget_VR ht t
  simpa [Array.getD_eq_getD_getElem?]using this
 cases r with
 |tmp t=>
  simp only[resOne,Option.some.injEq]at h
  subst h
  exact⟨_,rfl,get t⟩
 |cell a t=>
  simp only[resOne]at h
  split at h
  ·rename_i v₀ rd hl
   cases h
   let o:Oper:={dst:=none,op:=.load t (.tmp a),type:=0,pos:=default,after:=#[],guard:=none}
   have hs:=load_sound (P:=P) hT (o:=o) (ts:=ts) (x:=.tmp a) rfl rfl hl
   obtain⟨v',h1,h2⟩:=(hs:SimVal P o ts U _ rd) ρ w {tmps:=tmps,defers:=[]} ht (hw.reads rd)
   refine⟨v',?_,h2⟩
   simp only[readR]
   have e:(({tmps:=tmps,defers:=[]}:Act).eval (.tmp a))=tmps.getD a undef:=rfl
   generalize hx:tmps.getD a undef=x at e ⊢
   have h1':(execOp ({tmps:=tmps,defers:=[]}:Act).eval o).run P w=.ok (.value v') w:=h1
   simp only[execOp,o,Instr.loadAt,Instr.sureAddr,e]at h1'
   cases x with
   |pointer p=>
    cases p with
    |none=>simp at h1'
    |some ad=>
     simp only[asAddr]
     simp only[pure_bind]at h1' ⊢
     cases hr:(loadVar t ad).run P w with
     |ok u w'=>simp [hr]at h1' ⊢;exact h1'
     |halt x w'=>simp [hr]at h1'
   |_=>simp at h1'
  ·cases h
theorem resList_sound(hT:T.Ok P){U:St}{ts:List Value}{ρ:Ren}{w:World}{tmps:Array Value}(hw:WR ρ U w.heap)(ht:VRL ρ ts tmps.toList):∀{rs:List ResultVar} {vs:List Value},resList T U ts rs=some vs->
  ∃vs':List Value,(rs.mapM (readR tmps)).run P w=.ok vs' w/\VRL ρ vs vs'
 |[],vs,h=>by
  simp only[resList,Option.some.injEq]at h
  subst h
  exact⟨[],by simp,.nil⟩
 |r :: rs,vs,h=>by
  simp only[resList]at h
  split at h
  ·rename_i v vs₀ h1 h2
   cases h
   obtain⟨v',a1,a2⟩:=resOne_sound hT h1 hw ht
   obtain⟨vs',b1,b2⟩:=resList_sound hT hw ht h2
   refine⟨v' :: vs',?_,.cons a2 b2⟩
   rw[List.mapM_cons]
   simp [a1,b1]
  ·cases h
theorem resA_sound(hT:T.Ok P){U:St}{ts:List Value}{fn:Func}{v:Value}(h:resA T U ts fn.results.toList=some v){ρ:Ren}{w:World}{tmps:Array Value}(hw:WR ρ U w.heap)(ht:VRL ρ ts tmps.toList):
  ∃v',(results fn tmps).run P w=.ok v' w/\VR ρ v v':=by
 have key:∀vs,resList T U ts fn.results.toList=some vs->∃vs':List Value,(results fn tmps).run P w=.ok (if h:vs'.length=1 then vs'[0] else .tuple ⟨vs'⟩) w/\VRL ρ vs vs':=λvs hv=>by
  obtain⟨vs',h1,h2⟩:=resList_sound hT hw ht hv
  refine⟨vs',?_,h2⟩
  have e:results fn tmps=(do let vs <-fn.results.mapM (readR tmps);pure (if h:vs.size=1 then vs[0] else .tuple vs)):=by
   unfold results
   exact congrArg (λg:ResultVar->Sem Value=>(do let vs <-fn.results.mapM g;pure (if h:vs.size=1 then vs[0] else .tuple vs):Sem Value)) (funext λr=>by cases r<;>rfl)
  rw[e,Array.mapM_eq_mapM_toList]
  simp only[Sem.run_bind,Sem.run_map,h1,Result.andThen_ok,Sem.run_pure,List.size_toArray]
  simp
 unfold resA at h
 split at h
 ·rename_i v₀ hv
  cases h
  obtain⟨vs',h1,h2⟩:=key _ hv
  cases h2 with
  |cons a b=>cases b;exact⟨_,h1,a⟩
 ·rename_i vs hne hv
  cases h
  obtain⟨vs',h1,h2⟩:=key _ hv
  have hl:vs'.length≠1:=by
   rw[<-h2.length]
   intro e
   obtain⟨x,hx⟩:=List.length_eq_one_iff.1 e
   exact hne x (by first|exact hx|rw[hv,hx])
  rw[dif_neg hl]at h1
  exact⟨_,h1,.tuple h2⟩
 ·cases h
def start(args:List Value)(n:Nat):Fr:=⟨args++List.replicate (n - args.length) undef,[]⟩
theorem start_FR{ρ:Ren}{args:List Value}{args':Array Value}(h:VRL ρ args args'.toList)(n:Nat):FR ρ (start args n) {tmps:=args'++Array.replicate (n - args'.size) undef,defers:=[]}:=by
 refine⟨?_,trivial⟩
 have hl:args'.size=args.length:=by simpa using h.length.symm
 simp only[start,Array.toList_append,Array.toList_replicate,hl]
 exact h.append (VRL.replicate _ (undef_VR ρ))
def endsA(T:TT)(rs:List ResultVar)(r:RR):Option AE:=
 match r.fr.ds with
 |[]=>match r.x with
  |.norm=>(resA T r.U r.fr.ts rs).map .ret
  |.ret=>(resA T r.U r.fr.ts rs).map .ret
  |.panic c=>some (.panic c)
  |_=>none
 |_=>none
theorem DRL.nil_left{ρ:Ren}{ds:List Deferred}(h:DRL ρ [] ds):ds=[]:=by cases ds<;>first|rfl|exact h.elim
theorem endsA_post(hT:T.Ok P){fn:Func}{r:RR}{e:AE}(h:endsA T fn.results.toList r=some e){ρ:Ren}{U:St}{w:World}{e':Exit}{a':Act}{w':World}(k:after ρ U w r e' a' w'):
  bodyPost P fn (λe' w'=>∃ρ',ER ρ' e e'/\Aft ρ U w ρ' r.U w') e' a' w':=by
 obtain⟨ρ',h1,h2,h3⟩:=k
 unfold endsA at h
 split at h
 ·rename_i hds
  have hd:a'.defers=[]:=DRL.nil_left (hds▸h2.ds)
  have res:∀{e},(resA T r.U r.fr.ts fn.results.toList).map AE.ret=some e->∃v,(results fn a'.tmps).run P w'=.ok v w'/\∃ρ',ER ρ' e (.returned v)/\Aft ρ U w ρ' r.U w':=λ{e} he=>by
   cases hr:resA T r.U r.fr.ts fn.results.toList with
   |none=>rw[hr]at he;cases he
   |some v=>
    rw[hr]at he;cases he
    obtain⟨v',a1,a2⟩:=resA_sound hT hr h3.wr h2.ts
    exact⟨v',a1,ρ',a2,h3⟩
  split at h
  ·rename_i hx
   rw[hx]at h1
   have:=XR.norm_iff h1
   subst this
   exact⟨hd,res h⟩
  ·rename_i hx
   rw[hx]at h1
   cases e'<;>try exact h1.elim
   exact⟨hd,res h⟩
  ·rename_i c hx
   rw[hx]at h1
   cases h
   cases e'<;>try exact h1.elim
   exact⟨hd,ρ',h1,h3⟩
  ·cases h
 ·cases h
theorem MR.mono{ρ ρ':Ren}(hl:ρ.le ρ'){u:AM}{u':FrameMode}(h:MR ρ u u'):MR ρ' u u':=by
 cases u<;>cases u'<;>first|exact False.elim h|exact trivial|exact CR.mono hl h
structure FnIs(P:Program)(f:FuncId)(fn:Func)(c:Code):Prop where
 at':P.funcs[f]?=some fn
 body:fn.body=some c
theorem DCall.of_code(hT:T.Ok P){f:FuncId}{fn:Func}{c:Code}(hf:FnIs P f fn c){args:List Value}{U:St}{r:RR}{e:AE}(h:DC P false c (start args fn.ntmps) U r)(he:endsA T fn.results.toList r=some e):
  DCall P f args U e r.U r.lg:=
 ⟨h.1,λρ w _ hw ha=>callsIn_of_wp hf.at' hf.body trivial (wpIn_mono (h.2 none (λ_=>rfl) ρ w _ hw (start_FR ha _)) λ_ _ _ k=>endsA_post hT he k)⟩
theorem DDefer.of_code(hT:T.Ok P){f:FuncId}{fn:Func}{c:Code}(hf:FnIs P f fn c){args:List Value}{U:St}{r:RR}{e:AE}(u:AM)(h:DC P false c (start args fn.ntmps) U r)(he:endsA T fn.results.toList r=some e):
  DDefer P f args u U e u r.U r.lg:=
 ⟨h.1,λρ w _ um hw ha hu=>by
  have:=callsDIn_of_wp (u:=um) hf.at' hf.body trivial (wpIn_mono (h.2 none (λ_=>rfl) ρ w _ hw (start_FR ha _)) λ_ _ _ k=>endsA_post hT he k)
  refine⟨this.1,λc₀ cs hm hr=>?_⟩
  obtain⟨e',u',w',fr,⟨hu',ρ',h1,h2⟩,rest⟩:=this.2 c₀ cs hm hr
  subst hu'
  exact⟨e',u',w',fr,⟨ρ',h1,MR.mono (h2.le hw) hu,h2⟩,rest⟩⟩
def recoverA:AM->Value×AM
 |.panicking ({v,recovered:=false,goexit:=false} :: older)=>(v,.panicking ({v,recovered:=true} :: older))
 |u=>(.nilIface,u)
theorem recoverA_spec{ρ:Ren}{u:AM}{c₀:Frame}{cs:List Frame}(h:MR ρ u c₀.mode):
  (∃v' u',recoverD (c₀ :: cs)=some (v',{c₀ with mode:=u'} :: cs)/\VR ρ (recoverA u).1 v'/\MR ρ (recoverA u).2 u')\/(recoverD (c₀ :: cs)=none/\(recoverA u).1=.nilIface/\MR ρ (recoverA u).2 c₀.mode):=by
 generalize hm:c₀.mode=m at h
 cases u with
 |returning=>
  cases m<;>try exact h.elim
  exact .inr ⟨by simp [recoverD,hm],rfl,trivial⟩
 |panicking ch=>
  cases m<;>try exact h.elim
  rename_i ch'
  have hc:CR ρ ch ch':=h
  cases ch with
  |nil=>
   cases ch' with
   |nil=>exact .inr ⟨by simp [recoverD,hm],rfl,trivial⟩
   |cons _ _=>exact hc.elim
  |cons x xs=>
   cases ch' with
   |nil=>exact hc.elim
   |cons y ys=>
    obtain⟨⟨h1,h2,h3⟩,h4⟩:=hc
    obtain⟨xv,xr,xg⟩:=x
    obtain⟨yv,yr,yg⟩:=y
    simp only at h1 h2 h3
    subst h2 h3
    cases xr with
    |false=>
     cases xg with
     |false=>
      refine .inl ⟨yv,.panicking ({v:=yv,recovered:=true} :: ys),by simp [recoverD,hm],h1,⟨h1,rfl,rfl⟩,h4⟩
     |true=>exact .inr ⟨by simp [recoverD,hm],rfl,⟨h1,rfl,rfl⟩,h4⟩
    |true=>exact .inr ⟨by simp [recoverD,hm],rfl,⟨h1,rfl,rfl⟩,h4⟩
theorem DDefer.of_recover(hT:T.Ok P){f:FuncId}{fn:Func}{c:Code}{id:Nat}{o:Oper}{tys:Array TypeId}(hf:FnIs P f fn (.seq (.region id #[o] false) c))(hop:o.op=.call {callee:=.builtin .recover,args:=#[],argTypes:=tys})(hg:o.guard=none)
  {args:List Value} {U:St} {u:AM} {r:RR} {e:AE} (h:DC P false c ((start args fn.ntmps).put o.dst (recoverA u).1) U r) (he:endsA T fn.results.toList r=some e):
  DDefer P f args u U e (recoverA u).2 r.U r.lg:=
 ⟨h.1,λρ w args' um hw ha hu=>callsDIn_of_wpSIn hf.at' hf.body trivial λc₀ cs hm=>by
  have hrec:∀a:Act,(execOp a.eval o).run P w=.ok .recover w:=λa=>recover_sound (P:=P) (o:=o) (ts:=[]) (U:=U) hop w a
  have habout:∀(a:Act) f,o.about P w a.eval=some f->(fence none).fn f:=λ_ _ _=>trivial
  have hwant:∀t:Array Value,Region.wanted o (yielded #[o] t)=true:=λa=>by simp [Region.wanted,hg]
  have rest:∀(v':Value) (u':FrameMode),VR ρ (recoverA u).1 v'->MR ρ (recoverA u).2 u'->
    c.wpSIn (fence none) 0 P (bodyPostS P fn c₀ cs λe' u' w'=>∃ρ',ER ρ' e e'/\MR ρ' (recoverA u).2 u'/\Aft ρ U w ρ' r.U w')
     (({tmps:=args'++Array.replicate (fn.ntmps - args'.size) undef,defers:=[]}:Act).put o.dst v') ({c₀ with mode:=u'} :: cs) w:=λv' u' hv hu'=>by
   refine wpSIn_of_wpIn rfl (wpIn_mono (h.2 none (λ_=>rfl) ρ w _ hw ((start_FR ha _).put o.dst hv)) λe' a' w' k=>?_)
   have hp:=endsA_post hT he k
   cases e' with
   |normal=>obtain⟨h1,v,h2,ρ',h3,h4⟩:=hp;exact⟨h1,u',rfl,v,h2,ρ',h3,MR.mono (h4.le hw) hu',h4⟩
   |ret=>obtain⟨h1,v,h2,ρ',h3,h4⟩:=hp;exact⟨h1,u',rfl,v,h2,ρ',h3,MR.mono (h4.le hw) hu',h4⟩
   |panic ch=>obtain⟨h1,ρ',h3,h4⟩:=hp;exact⟨h1,u',rfl,ρ',h3,MR.mono (h4.le hw) hu',h4⟩
   |exit i=>exact hp.elim
   |goto i=>exact hp.elim
   |outgrown=>obtain⟨ρ',h3,_⟩:=hp;cases e<;>exact False.elim h3
  refine wpSIn_seq (wpSIn_region ?_)
  show wpOpsSIn (fence none) 0 P #[o] _ [0] _ _ _
  simp only[wpOpsSIn]
  have e0:(#[o]:Array Oper)[0]?=some o:=rfl
  rw[e0]
  simp only
  refine⟨habout _,?_⟩
  rw[if_pos (hwant _),hrec]
  simp only
  rcases recoverA_spec (cs:=cs) (hm▸hu:MR ρ u c₀.mode) with⟨v',u',h1,h2,h3⟩|⟨h1,h2,h3⟩
  ·rw[h1]
   exact rest v' u' h2 h3
  ·rw[h1]
   exact rest .nilIface c₀.mode (by rw[h2];exact .nilIface) h3⟩
def settA:AM->Option AM
 |.returning=>some .returning
 |.panicking []=>some (.panicking [])
 |.panicking (x :: older)=>if x.recovered then(if older.all (!·.goexit) then some .returning else none) else some (.panicking (x :: older))
def raisedA(u:AM)(chain:List PanicEntry):AM:=
 match u with
 |.panicking old=>.panicking (chain++old)
 |.returning=>.panicking chain
theorem CR.append{ρ:Ren}:∀{a b c d:List PanicEntry},CR ρ a b->CR ρ c d->CR ρ (a++c) (b++d)
 |[],[],_,_,_,h=>h
 |_ :: _,_ :: _,_,_,h,h'=>⟨h.1,CR.append h.2 h'⟩
 |[],_ :: _,_,_,h,_=>h.elim
 |_ :: _,[],_,_,h,_=>h.elim
theorem raisedA_MR{ρ:Ren}{u:AM}{u':FrameMode}{c c':List PanicEntry}(h:MR ρ u u')(hc:CR ρ c c'):MR ρ (raisedA u c) (raised u' c'):=by
 cases u<;>cases u'<;>first|exact False.elim h|skip
 ·exact hc
 ·exact CR.append hc h
theorem CR.all{ρ:Ren}:∀{a b:List PanicEntry},CR ρ a b->a.all (!·.goexit)=b.all (!·.goexit)
 |[],[],_=>rfl
 |x :: xs,y :: ys,h=>by simp only[List.all_cons,h.1.2.2,CR.all h.2]
 |[],_ :: _,h=>h.elim
 |_ :: _,[],h=>h.elim
theorem settA_MR{ρ:Ren}{u u₁:AM}{u':FrameMode}(h:MR ρ u u')(hs:settA u=some u₁):MR ρ u₁ (settle u'):=by
 cases u with
 |returning=>
  cases u'<;>try exact h.elim
  cases hs
  exact trivial
 |panicking ch=>
  cases u'<;>try exact h.elim
  rename_i ch'
  have hc:CR ρ ch ch':=h
  cases ch with
  |nil=>
   cases ch' with
   |nil=>cases hs;exact trivial
   |cons _ _=>exact hc.elim
  |cons x xs=>
   cases ch' with
   |nil=>exact hc.elim
   |cons y ys=>
    simp only[settA]at hs
    obtain⟨h1,h4⟩:=hc
    obtain⟨yv,yr,yg⟩:=y
    split at hs
    ·rename_i hr
     split at hs
     ·rename_i ha
      cases hs
      have hyr:yr=true:=h1.2.1.symm.trans hr
      subst hyr
      have hd:ys.dropWhile (!·.goexit)=[]:=by
       rw[CR.all h4]at ha
       have gen:∀l:List PanicEntry,l.all (!·.goexit)=true->l.dropWhile (!·.goexit)=[]:=λl=>by
        induction l with
        |nil=>intro _;rfl
        |cons z l ih=>intro h;simp only[List.all_cons,Bool.and_eq_true]at h;rw[List.dropWhile_cons,if_pos h.1];exact ih h.2
       exact gen ys ha
      simp only[settle,hd]
      trivial
     ·cases hs
    ·rename_i hr
     cases hs
     have hyr:yr=false:=by
      have:=h1.2.1
      simp only at this
      rw[<-this];simpa using hr
     subst hyr
     exact⟨h1,h4⟩
def DLeave(P:Program)(fn:Func)(ts:List Value)(ds:List Deferred)(u:AM)(U:St)(e:AE)(U':St)(lg:Log):Prop:=
 Logged U U' lg/\∀(ρ:Ren) (w:World) (tmps:Array Value) (ds':List Deferred) (um:FrameMode),WR ρ U w.heap->VRL ρ ts tmps.toList->DRL ρ ds ds'->MR ρ u um->
  LeavesInM (fence none) 0 P fn tmps (λe' w'=>∃ρ',ER ρ' e e'/\Aft ρ U w ρ' U' w') ds' um w
theorem DLeave.returned(hT:T.Ok P){fn:Func}{ts:List Value}{U:St}{v:Value}(h:resA T U ts fn.results.toList=some v):DLeave P fn ts [] .returning U (.ret v) U []:=
 ⟨logged_self _ _,λρ w tmps ds' um hw ht hd hu=>by
  cases DRL.nil_left hd
  cases um<;>try exact False.elim hu
  obtain⟨v',h1,h2⟩:=resA_sound hT h hw ht
  exact⟨v',h1,ρ,h2,Aft.refl hw⟩⟩
theorem DLeave.panicked{fn:Func}{ts:List Value}{U:St}{c:List PanicEntry}:DLeave P fn ts [] (.panicking c) U (.panic c) U []:=
 ⟨logged_self _ _,λρ w tmps ds' um hw ht hd hu=>by
  cases DRL.nil_left hd
  cases um<;>try exact False.elim hu
  exact⟨ρ,hu,Aft.refl hw⟩⟩
def nextMode(e:AE)(u:AM):Option AM:=
 match e with
 |.ret _=>settA u
 |.panic c=>some (raisedA u c)
theorem LeavesInM.mono{F:Fence}{n:Nat}{fn:Func}{tmps:Array Value}{R R':Ending->World->Prop}(hR:∀e w,R e w->R' e w):∀(ds:List Deferred) (u:FrameMode) (w:World),LeavesInM F n P fn tmps R ds u w->LeavesInM F n P fn tmps R' ds u w:=by
 intro ds
 induction ds with
 |nil=>
  intro u w h
  cases u with
  |run=>exact h
  |returning=>obtain⟨v,h1,h2⟩:=h;exact⟨v,h1,hR _ _ h2⟩
  |panicking c=>exact hR _ _ h
 |cons d ds ih=>
  intro u w h
  obtain⟨h0,h⟩:=h
  refine⟨h0,?_⟩
  rcases h with⟨r,w',h1,h2,h3⟩|⟨hn,fv,cap,f,args,h1,h2,h3,h4,h5⟩
  ·exact .inl ⟨r,w',h1,h2,ih _ _ h3⟩
  ·refine .inr ⟨hn,fv,cap,f,args,h1,h2,h3,h4,λc cs hm hr=>?_⟩
   obtain⟨e,u',w',fr,hq,rest⟩:=h5 c cs hm hr
   refine⟨e,u',w',fr,?_,rest⟩
   cases e with
   |returned v=>exact ih _ _ hq
   |panicked c=>exact ih _ _ hq
   |outgrown=>exact hR _ _ hq
theorem DLeave.cons{fn:Func}{ts:List Value}{ds:List Deferred}{d:Deferred}{f:FuncId}{cap:Array Value}{u u₁ u₂:AM}{U U₁ U₂:St}{e₁ e₂:AE}{l₁ l₂:Log}
  (hd:d.target=.fn (.func f) cap) (hb:HasBody P f) (h:DDefer P f (d.args.toList++cap.toList) u U e₁ u₁ U₁ l₁) (hn:nextMode e₁ u₁=some u₂) (k:DLeave P fn ts ds u₂ U₁ e₂ U₂ l₂):
  DLeave P fn ts (d :: ds) u U e₂ U₂ (l₁++l₂):=
 ⟨h.1.trans k.1,λρ w tmps ds' um hw ht hds hu=>by
  cases ds' with
  |nil=>exact False.elim hds
  |cons d' ds'=>
   obtain⟨hd1,hd2⟩:=hds
   rcases hd1 with⟨f',c,c',h1,h2,h3,h4⟩|⟨r,l,_,h2,_⟩
   ·rw[hd]at h1
    simp only[Target.fn.injEq,Fn.func.injEq]at h1
    obtain⟨rfl,rfl⟩:=h1
    have hargs:VRL ρ (d.args.toList++cap.toList) (d'.args++c').toList:=by simpa using h4.append h3
    have hcall:=h.2 ρ w (d'.args++c') um hw hargs hu
    refine⟨by rintro rfl;cases u<;>exact False.elim hu,.inr ⟨λhdp=>by simp [fence]at hdp,.func f,c',f,d'.args++c',h2,?_,λ_ _=>trivial,hcall.1,λc₀ cs hm hr=>?_⟩⟩
    ·rw[h2];simp only[invoke];exact callFunc_run hb _ w
    ·obtain⟨e',u',w',fr,⟨ρ',a1,a2,a3⟩,rest⟩:=hcall.2 c₀ cs hm hr
     refine⟨e',u',w',fr,?_,rest⟩
     have go:∀um',MR ρ' u₂ um'->LeavesInM (fence none) 0 P fn tmps (λe' w'=>∃ρ',ER ρ' e₂ e'/\Aft ρ U w ρ' U₂ w') ds' um' w':=λum' hum'=>
      LeavesInM.mono (λ_ _ ⟨ρ₂,b1,b2⟩=>⟨ρ₂,b1,a3.trans b2⟩) _ _ _ (k.2 ρ' w' tmps ds' um' a3.wr (ht.mono (a3.le hw)) (hd2.mono (a3.le hw)) hum')
     cases e₁ with
     |ret v=>
      cases e' with
      |returned v'=>exact go _ (settA_MR a2 hn)
      |panicked c=>exact False.elim a1
      |outgrown=>exact False.elim a1
     |panic ch=>
      cases e' with
      |returned v'=>exact False.elim a1
      |panicked c=>
       simp only[nextMode,Option.some.injEq]at hn
       subst hn
       exact go _ (raisedA_MR a2 a1)
      |outgrown=>exact False.elim a1
   ·rw[h2]at hd;simp at hd⟩
theorem DCall.of_code_defers{f:FuncId}{fn:Func}{c:Code}(hf:FnIs P f fn c){args:List Value}{U U':St}{r:RR}{e:AE}{u:AM}{lg:Log}(h:DC P false c (start args fn.ntmps) U r)
  (hx:(r.x=.norm\/r.x=.ret)/\u=.returning\/∃ch,r.x=.panic ch/\u=.panicking ch) (he:DLeave P fn r.fr.ts r.fr.ds u r.U e U' lg):DCall P f args U e U' (r.lg++lg):=
 ⟨h.1.trans he.1,λρ w _ hw ha=>callsIn_of_wp_marks hf.at' hf.body trivial (wpIn_mono (h.2 none (λ_=>rfl) ρ w _ hw (start_FR ha _)) λe' a' w' ⟨ρ',h1,h2,h3⟩=>by
  have go:∀um,MR ρ' u um->LeavesInM (fence none) 0 P fn a'.tmps (λe' w'=>∃ρ',ER ρ' e e'/\Aft ρ U w ρ' U' w') a'.defers um w':=λum hum=>
   LeavesInM.mono (λ_ _ ⟨ρ₂,b1,b2⟩=>⟨ρ₂,b1,h3.trans b2⟩) _ _ _ (he.2 ρ' w' a'.tmps a'.defers um h3.wr h2.ts h2.ds hum)
  rcases hx with⟨hx,rfl⟩|⟨ch,hx,rfl⟩
  ·rcases hx with hx|hx
   ·rw[hx]at h1
    cases e'<;>try exact False.elim h1
    exact go _ trivial
   ·rw[hx]at h1
    cases e'<;>try exact False.elim h1
    exact go _ trivial
  ·rw[hx]at h1
   cases e'<;>try exact False.elim h1
   exact go _ h1)⟩
end Go.Ab
namespace Go.Ab
variable {P:Program}
def roundTs:List Value->List Tmp->List Value->List Value
 |ts,p :: ps,v :: vs=>roundTs (ts.set p v) ps vs
 |ts,_,_=>ts
theorem roundTs_VR{ρ:Ren}:∀{ps:List Tmp} {vs:List Value} {ts:List Value} {ts':Array Value} {vs':List Value},VRL ρ ts ts'.toList->VRL ρ vs vs'->
  VRL ρ (roundTs ts ps vs) ((ps.zip vs').foldl (λtmps (t,a)=>tmps.setIfInBounds t a) ts').toList
 |[],_,_,_,_,h,_=>by simpa [roundTs]using h
 |_ :: _,[],_,_,_,h,k=>by cases k;simpa [roundTs]using h
 |p :: ps,v :: vs,ts,ts',_,h,k=>by
  cases k with
  |cons k1 k2=>
   simp only[roundTs,List.zip_cons_cons,List.foldl_cons]
   exact roundTs_VR (by simpa using h.set p k1) k2
def jumpOf:AX->Option (Option Code)
 |.norm=>some none
 |.ret=>some (some .ret)
 |.exit i=>some (some (.exit i))
 |.goto i=>some (some (.goto i))
 |.panic _=>none
def readyIf(j:Option Code):LoopState:=if j.isNone then .ready else .done
theorem loop_at{ρ:Ren}{U:St}{H:Array Obj}{b:Nat}{l:Loc}{L:Loop}(hw:WR ρ U H)(hl:ρ b=some l)(hg:U.get b=some (.loop L)):
  ∃(ts:Array Value) (d:Nat) (ld:Loc) (g:FuncId),H[l.block]?=some (.loop {L with tmps:=ts,defers:=d,fn:=g})/\VRL ρ L.tmps.toList ts.toList/\ρ L.defers=some ld/\ld.block=d:=hw.obj b l _ hl hg
theorem loop_set{ρ:Ren}{U:St}{w:World}{b:Nat}{l:Loc}{L:Loop}{ts:Array Value}{d:Nat}{ld:Loc}{g:FuncId}(hw:WR ρ U w.heap)(hl:ρ b=some l)(hg:U.get b=some (.loop L))(ht:VRL ρ L.tmps.toList ts.toList)(hd:ρ L.defers=some ld)(he:ld.block=d)(st:LoopState)(j:Option Code):
  Aft ρ U w ρ (U.set b (.loop {L with state:=st,pending:=j})) (w.putObj l.block (.loop {L with tmps:=ts,defers:=d,fn:=g,state:=st,pending:=j})):=
 Aft.put hw hl (by rw[hg];simp) (hw.nofix hl hg (by simp)) rfl rfl rfl rfl ⟨ts,d,ld,g,World.putObj_heap_same (hw.dom b l hl).2,ht,hd,he⟩
theorem DRound.of_code {l : Nat} {args : List Value} {U U₁ U₃ : St} {L L₁ L₃ : Loop} {fr₁ fr₃ : Fr} {x : AX} {lg₁ lg₃ : Log} {j : Option Code} (hg : U.get l = some (.loop L)) (hn : args.length = L.params.size)
    (ha : DC P true L.assign ⟨roundTs L.tmps.toList L.params.toList args, []⟩ U ⟨.norm, fr₁, U₁, lg₁⟩) (hg₁ : U₁.get l = some (.loop L₁)) (hr : L₁.state = .ready)
    (hb : DC P true L.body fr₁ (U₁.set l (.loop { L₁ with state := .busy, pending := L₁.pending })) ⟨x, fr₃, U₃, lg₃⟩) (hg₃ : U₃.get l = some (.loop L₃)) (hj : jumpOf x = some j) :
    DRound P l args U (.ret (.bool j.isNone)) (U₃.set l (.loop { L₃ with state := readyIf j, pending := j })) (lg₁ ++ ([l] ++ (lg₃ ++ [l]))) := by
  refine ⟨ha.1.trans ((logged_put U₁ l _).trans (hb.1.trans (logged_put U₃ l _))), fun ρ w l' args' hw hl hargs => ?_⟩
  obtain ⟨ts, d, ld, g, h1, h2, h3, h4⟩ := loop_at hw hl hg
  have hsz : args'.size = L.params.size := by
    have := hargs.length
    simp only [Array.length_toList] at this
    omega
  refine ⟨g, (L.params.zip args').foldl (fun tmps (t, a) => tmps.setIfInBounds t a) ts, L.assign, L.body, ?_, roundIn_of_wpIn (F := fence none) trivial ?_⟩
  · exact run_yield h1 hsz
  · have hts : VRL ρ (roundTs L.tmps.toList L.params.toList args) (((L.params.zip args').foldl (fun tmps (t, a) => tmps.setIfInBounds t a) ts)).toList := by
      have := roundTs_VR (ps := L.params.toList) h2 hargs
      rw [← Array.foldl_toList, Array.toList_zip]
      exact this
    have hl0 := (hw.dom l l' hl).1
    refine wpIn_mono (ha.2 (some l'.block) (fun h => by cases h) ρ w { tmps := (L.params.zip args').foldl (fun tmps (t, a) => tmps.setIfInBounds t a) ts, defers := [] } hw ⟨hts, trivial⟩) fun e a₁ w₁ k => ?_
    obtain ⟨ρ₁, k1, k2, k3⟩ := k
    obtain rfl := XR.norm_iff k1
    have hl1 : ρ₁ l = some l' := (k3.ext l hl0).trans hl
    obtain ⟨ts₁, d₁, ld₁, g₁, b1, b2, b3, b4⟩ := loop_at k3.wr hl1 hg₁
    have A1 := loop_set (g := g₁) k3.wr hl1 hg₁ b2 b3 b4 .busy L₁.pending
    refine ⟨_, ?_, wpIn_mono (hb.2 (some l'.block) (fun h => by cases h) ρ₁ _ a₁ A1.wr k2) fun e a₃ w₃ k => ?_⟩
    · exact run_beginRound b1 hr
    · obtain ⟨ρ₃, c1, c2, c3⟩ := k
      have hl3 : ρ₃ l = some l' := (c3.ext l (by have h9 : U.next ≤ U₁.next := k3.nxt; rw [St.next_set]; omega)).trans hl1
      obtain ⟨ts₃, d₃, ld₃, g₃, e1, e2, e3, e4⟩ := loop_at c3.wr hl3 hg₃
      have A3 := loop_set (g := g₃) c3.wr hl3 hg₃ e2 e3 e4 (readyIf j) j
      have fin : ∃ v w', (Instr.endRound l'.block j).run P w₃ = .ok v w' ∧ ∃ ρ', ER ρ' (.ret (.bool j.isNone)) (.returned v) ∧ Aft ρ U w ρ' (U₃.set l (.loop { L₃ with state := readyIf j, pending := j })) w' := by
        refine ⟨.bool j.isNone, _, ?_, ρ₃, VR.bool _, k3.trans (A1.trans (c3.trans A3))⟩
        exact run_endRound j e1
      cases x with
      | norm => obtain rfl := XR.norm_iff c1; cases hj; exact fin
      | ret => cases e <;> try exact c1.elim
               cases hj; exact fin
      | exit i => cases e <;> try exact c1.elim
                  obtain rfl : i = _ := c1
                  cases hj; exact fin
      | goto i => cases e <;> try exact c1.elim
                  obtain rfl : i = _ := c1
                  cases hj; exact fin
      | panic c => cases hj
def markOf(r:Nat):Deferred:={target:=.collected r,args:=#[]}
def rangeSt(me:FuncId)(ps:Array Tmp)(assign body:Code)(ts:List Value)(U:St):St:=
 (U.new (.deferred false)).new (.loop {state:=.ready,pending:=none,fn:=me,tmps:=⟨ts⟩,params:=ps,assign,body,defers:=U.next})
def pendingX:Option Code->Option AX
 |none=>some .norm
 |some .ret=>some .ret
 |some (.exit i)=>some (.exit i)
 |some (.goto i)=>some (.goto i)
 |_=>none
def isBusy:LoopState->Bool
 |.busy=>true
 |_=>false
def rangeFin(fr:Fr)(b:Nat)(U:St)(lg:Log)(L:Loop):Option RR:=
 match isBusy L.state,pendingX L.pending with
 |false,some x=>some ⟨x,fr,U.set b (.loop {L with state:=.exhausted,pending:=L.pending}),lg++[b]⟩
 |_,_=>none
def rangeEnd(fr:Fr)(b:Nat):Option (AE×St×Log)->Option RR
 |some (.ret _,U,lg)=>match U.get b with
  |some (.loop L)=>rangeFin fr b U lg L
  |_=>none
 |some (.panic c,U,lg)=>some ⟨.panic c,fr,U,lg⟩
 |none=>none
def rangeR(bodies:FuncId->Bool)(orc:Orc)(me:FuncId)(g:Operand)(ps:Array Tmp)(assign body:Code)(fr:Fr)(U:St):Option RR:=
 match ev fr.ts g with
 |some (.func (.func f) ⟨xs⟩ ⟨ys⟩)=>match bodies f with
  |true=>rangeEnd {fr with ds:=markOf U.next :: fr.ds} (U.next+1) (orc.call f (xs++[.func (.yield (U.next+1)) #[] #[]]++ys) (rangeSt me ps assign body fr.ts U))
  |false=>none
 |_=>none
theorem DC.rangeFunc{C:Cx}{orc:Orc}(hC:C.Ok P)(hO:orc.Ok P){me:FuncId}{g:Operand}{ps:Array Tmp}{assign body:Code}{fr:Fr}{U:St}{r:RR}(h:rangeR C.bodies orc me g ps assign body fr U=some r):DC P false (.rangeFunc g ps assign body) fr U r:=by
 unfold rangeR at h
 split at h
 ·rename_i f xs ys hev
  split at h
  ·rename_i hbd
   have hb:=hC.bodies f hbd
   have hs:Logged U (rangeSt me ps assign body fr.ts U) []:=(logged_new U _).trans (logged_new _ _)
   cases hc:orc.call f (xs++[.func (.yield (U.next+1)) #[] #[]]++ys) (rangeSt me ps assign body fr.ts U) with
   |none=>rw[hc]at h;cases h
   |some q=>
    obtain⟨e,U₂,lg⟩:=q
    rw[hc]at h
    have hd:=hO.call _ _ _ _ _ _ hc
    have hlog:Logged U r.U r.lg:=by
     cases e with
     |ret v=>
      simp only[rangeEnd]at h
      split at h
      ·unfold rangeFin at h
       split at h
       ·cases h
        exact(hs.trans hd.1).trans (logged_put U₂ _ _)
       ·cases h
      ·cases h
     |panic c=>
      cases h
      exact hs.trans hd.1
    refine⟨hlog,λro hro ρ w a hw hf=>wpIn_rangeFunc λfn _=>?_⟩
    obtain rfl:=hro rfl
    let w₁:World:=w.alloc (.deferred (some []))
    let L:Loop:={state:=.ready,pending:=none,fn:=fn,tmps:=a.tmps,params:=ps,assign,body,defers:=w.heap.size}
    let w₂:World:=w₁.alloc (.loop L)
    let l₁:Loc:=⟨w.heap.size,0,0,none⟩
    let l₂:Loc:=⟨w₁.heap.size,0,0,none⟩
    let ρ₁:=ρ.add U.next l₁
    have hsz₁:w₁.heap.size=w.heap.size+1:=World.size_alloc _ _
    have A1:Aft ρ U w ρ₁ (U.new (.deferred false)) w₁:=Aft.push hw rfl rfl rfl rfl (World.alloc_heap_new w _)
    let ρ₂:=ρ₁.add (U.next+1) l₂
    have hle12:ρ₁.le ρ₂:=λb l hl=>by
     show(ρ₁.add (U.next+1) l₂) b=some l
     rw[Ren.add_other];exact hl
     have:=(A1.wr.dom b l hl).1
     rw[St.next_new]at this;omega
    have hl1:ρ₂ U.next=some l₁:=hle12 _ _ (Ren.add_same _ _ _)
    have hl2:ρ₂ (U.next+1)=some l₂:=Ren.add_same _ _ _
    have A2:Aft ρ₁ (U.new (.deferred false)) w₁ ρ₂ (rangeSt me ps assign body fr.ts U) w₂:=Aft.push A1.wr rfl rfl rfl rfl
     ⟨a.tmps,w.heap.size,l₁,fn,World.alloc_heap_new w₁ _,(hf.ts.mono (A1.le hw)).mono hle12,hl1,rfl⟩
    have A12:=A1.trans A2
    have hle2:=A12.le hw
    have hfv:=ev_VR hf.ts hev
    generalize he:a.eval g=fv at hfv
    cases hfv with
    |func k1 k2=>
     rename_i xs' ys'
     refine⟨w₁.heap.size,[{target:=.collected w.heap.size,args:=#[]}],w₂,{target:=.fn (.func f) ⟨ys'⟩,args:=⟨xs'⟩++#[.func (.yield w₁.heap.size) #[] #[]]},w₂,f,(⟨xs'⟩++#[.func (.yield w₁.heap.size) #[] #[]])++⟨ys'⟩,w₂,?_,?_,λ_ _=>trivial,?_,λhh=>by simp [fence]at hh,?_⟩
     ·rw[hsz₁]
      exact run_enterLoop_outer fn a.tmps ps assign body
     ·simp only[resolve,rangeCall,he,Deferred.ofValue,Sem.run_bind,Sem.run_pure,Result.andThen_ok]
      simp [Act.eval]
     ·simp only[invoke]
      exact callFunc_run hb _ _
     ·have hargs:VRL ρ₂ (xs++[.func (.yield (U.next+1)) #[] #[]]++ys) ((⟨xs'⟩++#[.func (.yield w₁.heap.size) #[] #[]])++⟨ys'⟩:Array Value).toList:=by
       simpa using((k1.mono hle2).append (.cons (.yield hl2) (k2.mono hle2)))
      refine(hd.2 ρ₂ w₂ _ A12.wr hargs).mono λe' w₃ ⟨ρ₃,g1,g2⟩=>?_
      have A3:=A12.trans g2
      have hfr:FR ρ₃ {fr with ds:=markOf U.next :: fr.ds} {a with defers:=[{target:=.collected w.heap.size,args:=#[]}]++a.defers}:=
       ⟨hf.ts.mono (A3.le hw),⟨.inr ⟨U.next,l₁,(g2.ext _ (by show U.next<U.next+1+1;omega)).trans hl1,rfl,rfl⟩,hf.ds.mono (A3.le hw)⟩⟩
      cases e with
      |panic c=>
       cases h
       cases e' with
       |returned v=>exact False.elim g1
       |panicked c'=>exact⟨ρ₃,g1,hfr,A3⟩
       |outgrown=>exact False.elim g1
      |ret v=>
       cases e' with
       |panicked c'=>exact False.elim g1
       |outgrown=>exact False.elim g1
       |returned v'=>
        simp only[rangeEnd]at h
        split at h
        ·rename_i L₃ hg₃
         have hl3:ρ₃ (U.next+1)=some l₂:=(g2.ext _ (by show U.next+1<U.next+1+1;omega)).trans hl2
         obtain⟨ts₃,d₃,ld₃,g₃,e1,e2,e3,e4⟩:=loop_at g2.wr hl3 hg₃
         have A4:=loop_set (g:=g₃) g2.wr hl3 hg₃ e2 e3 e4 .exhausted L₃.pending
         unfold rangeFin at h
         split at h
         ·rename_i x hbz hpx
          cases h
          refine⟨L₃.pending,w₃.putObj l₂.block (.loop {L₃ with tmps:=ts₃,defers:=d₃,fn:=g₃,state:=.exhausted,pending:=L₃.pending}),?_,?_⟩
          rotate_left
          ·have fin:∀e'',XR ρ₃ x e''->after ρ U w ⟨x,{fr with ds:=markOf U.next :: fr.ds},U₂.set (U.next+1) (.loop {L₃ with state:=.exhausted,pending:=L₃.pending}),lg++[U.next+1]⟩ e'' _ _:=λe'' hx=>⟨ρ₃,hx,hfr,A3.trans A4⟩
           cases hp:L₃.pending with
           |none=>rw[hp]at hpx fin;cases hpx;exact fin .normal trivial
           |some c=>
            rw[hp]at hpx fin
            cases c<;>cases hpx
            ·rename_i i
             exact wpIn_exit (fin (.exit i) rfl)
            ·rename_i i
             exact wpIn_goto (fin (.goto i) rfl)
            ·exact wpIn_ret (fin .ret trivial)
          ·exact run_endLoop e1 (by
            intro hq
            simp only at hq
            rw[hq]at hbz
            cases hbz)
         ·cases h
        ·cases h
  ·cases h
 ·cases h
theorem DLeave.collected {fn : Func} {ts : List Value} {ds : List Deferred} {r : Nat} {u : AM} {U U' : St} {e : AE} {lg : Log} (hr : U.get r = some (.deferred false)) (k : DLeave P fn ts ds u (U.set r (.deferred true)) e U' lg) :
    DLeave P fn ts (markOf r :: ds) u U e U' ([r] ++ lg) :=
  ⟨(logged_put U r _).trans k.1, fun ρ w tmps ds' um hw ht hds hu => by
    cases ds' with
    | nil => exact False.elim hds
    | cons d' ds' =>
      obtain ⟨hd1, hd2⟩ := hds
      rcases hd1 with ⟨f', c, c', h1, _⟩ | ⟨r', l, hl, h2, h3⟩
      · simp [markOf] at h1
      · simp only [markOf, Deferred.mk.injEq, Target.collected.injEq, and_true] at h2
        subst h2
        subst h3
        have ho : w.heap[l.block]? = some (.deferred (some [])) := hw.obj r l _ hl hr
        have A : Aft ρ U w ρ (U.set r (.deferred true)) (w.putObj l.block (.deferred none)) := Aft.put hw hl (by rw [hr]; simp) (hw.nofix hl hr (by simp)) rfl rfl rfl rfl (World.putObj_heap_same (hw.dom r l hl).2)
        refine ⟨by rintro rfl; cases u <;> exact False.elim hu, .inl ⟨l.block, _, rfl, ?_, LeavesInM.mono (fun _ _ ⟨ρ₂, b1, b2⟩ => ⟨ρ₂, b1, A.trans b2⟩) _ _ _ (k.2 ρ _ tmps ds' um A.wr ht hd2 hu)⟩⟩
        exact run_takeDeferred ho⟩
end Go.Ab
namespace Go.Ab
variable {P:Program}
inductive Job where
 |code (c:Code)
 |loop (c:Code)
 |scope (body c:Code)
def statAll(bt:Nat->List Nat):Code->Bool
 |.region id ops true=>statOk ops (bt id)
 |.seq a b=>statAll bt a&&statAll bt b
 |.cond _ a b=>statAll bt a&&statAll bt b
 |.block _ b=>statAll bt b
 |.loop b=>statAll bt b
 |.scope b=>statAll bt b
 |.rangeFunc _ _ a b=>statAll bt a&&statAll bt b
 |_=>true
def Job.stat(bt:Nat->List Nat):Job->Bool
 |.code c=>statAll bt c
 |.loop c=>statAll bt c
 |.scope b c=>statAll bt b&&statAll bt c
def preO(l:Log):Option RR->Option RR
 |some r=>some (r.pre l)
 |none=>none
def thenR(r:Option RR)(k:Fr->St->Option RR):Option RR:=
 match r with
 |some ⟨.norm,fr,U,lg⟩=>preO lg (k fr U)
 |r=>r
def allBits(n b:Nat):Bool:=(List.range n).all λi=>b.testBit i
def stopK(B:List Nat)(m:Nat)(o:Oper)(fr:Fr)(r:Dr):Option (AE×St×Log)->Option RR
 |some (.panic c,U',l)=>match allBits m (B.getD m 0)&&dynOk B ⟨r.st++[⟨r.ts,r.U,undef,.full l⟩],putL r.ts o.dst undef,U',r.lg++l⟩ with
  |true=>some ⟨.panic c,{fr with ts:=r.ts},U',r.lg++l⟩
  |false=>none
 |_=>none
def stopJ(orc:Orc)(B:List Nat)(m:Nat)(o:Oper)(fr:Fr)(r:Dr):Bool->Option ORes->Option RR
 |true,some (.enter f args)=>stopK B m o fr r (orc.call f args r.U)
 |_,_=>none
def stopG(C:Cx)(orc:Orc)(B:List Nat)(ops pre:List Oper)(o:Oper)(fr:Fr):Option Dr->Option RR
 |some r=>stopJ orc B pre.length o fr r (wantedA ops o r.ts) (stepOp C.T C.bodies o r.ts r.U)
 |none=>none
def stopR(C:Cx)(orc:Orc)(B:List Nat)(ops:List Oper)(fr:Fr)(U:St):List Oper->Option RR
 |o :: rp=>stopG C orc B ops rp.reverse o fr (runDrawn C orc ops rp.reverse fr.ts U)
 |[]=>none
def regionR(C:Cx)(orc:Orc)(B:List Nat)(rnd draw:Bool)(ops:Array Oper)(fr:Fr)(U:St):Option RR:=
 match draw with
 |false=>match runOps C orc rnd ops.toList ops.toList fr U []with
  |some (x,fr',U',lg)=>some ⟨x,fr',U',lg⟩
  |none=>none
 |true=>match runDrawn C orc ops.toList ops.toList fr.ts U with
  |some r=>if dynOk B r then some ⟨.norm,{fr with ts:=r.ts},r.U,r.lg⟩ else none
  |none=>stopR C orc B ops.toList fr U ops.toList.reverse
def condK(k₁ k₂:Fr->St->Option RR)(fr:Fr)(U:St):Option Value->Option RR
 |some (.bool true)=>k₁ fr U
 |some (.bool false)=>k₂ fr U
 |_=>none
def blockK(id:Nat):Option RR->Option RR
 |some ⟨x,fr',U',lg⟩=>some ⟨x.inBlock id,fr',U',lg⟩
 |none=>none
def jumpK(k:Job->Fr->St->Option RR)(b:Code)(l:Nat)(fr:Fr)(U:St)(lg:Log):Option Code->Option RR
 |some rest=>preO lg (k (.scope b rest) fr U)
 |none=>some ⟨.goto l,fr,U,lg⟩
def scopeK(k:Job->Fr->St->Option RR)(b:Code)(r:Option RR):Option RR:=
 match r with
 |some ⟨.goto l,fr',U',lg⟩=>jumpK k b l fr' U' lg (findLabel b l)
 |r=>r
def meOf(bt:Nat->List Nat):Nat:=
 match bt 1000000 with
 |[n]=>n
 |_=>0
def rangeQ(C:Cx)(orc:Orc)(bt:Nat->List Nat)(rnd:Bool)(g:Operand)(ps:Array Tmp)(assign body:Code)(fr:Fr)(U:St):Option RR:=
 match rnd with
 |true=>none
 |false=>rangeR C.bodies orc (meOf bt) g ps assign body fr U
def run(C:Cx)(orc:Orc)(bt:Nat->List Nat)(rnd:Bool):Nat->Job->Fr->St->Option RR
 |0,_,_,_=>none
 |n+1,.loop c,fr,U=>thenR (run C orc bt rnd n (.code c) fr U) (run C orc bt rnd n (.loop c))
 |n+1,.scope b c,fr,U=>scopeK (run C orc bt rnd n) b (run C orc bt rnd n (.code c) fr U)
 |n+1,.code c,fr,U=>match c with
  |.skip=>some ⟨.norm,fr,U,[]⟩
  |.label _=>some ⟨.norm,fr,U,[]⟩
  |.exit i=>some ⟨.exit i,fr,U,[]⟩
  |.goto i=>some ⟨.goto i,fr,U,[]⟩
  |.ret=>some ⟨.ret,fr,U,[]⟩
  |.seq a b=>thenR (run C orc bt rnd n (.code a) fr U) (run C orc bt rnd n (.code b))
  |.cond c a b=>condK (run C orc bt rnd n (.code a)) (run C orc bt rnd n (.code b)) fr U (ev fr.ts c)
  |.block id b=>blockK id (run C orc bt rnd n (.code b) fr U)
  |.loop b=>run C orc bt rnd n (.loop b) fr U
  |.scope b=>run C orc bt rnd n (.scope b b) fr U
  |.region id ops draw=>regionR C orc (bt id) rnd draw ops fr U
  |.rangeFunc g ps assign body=>rangeQ C orc bt rnd g ps assign body fr U
  |_=>none
def DJ(P:Program)(rnd:Bool):Job->Fr->St->RR->Prop
 |.code c=>DC P rnd c
 |.loop c=>DL P rnd c
 |.scope b c=>DS P rnd b c
theorem statAll_find{bt:Nat->List Nat}{l:Nat}:∀{c rest:Code},findLabel c l=some rest->statAll bt c=true->statAll bt rest=true:=by
 intro c
 induction c with
 |seq a b iha ihb=>
  intro rest h hs
  simp only[statAll,Bool.and_eq_true]at hs
  simp only[findLabel]at h
  split at h
  ·rename_i r hr
   cases h
   simp only[statAll,Bool.and_eq_true]
   exact⟨iha hr hs.1,hs.2⟩
  ·exact ihb h hs.2
 |label l'=>
  intro rest h _
  simp only[findLabel]at h
  split at h
  ·cases h;rfl
  ·cases h
 |_=>intro rest h;simp [findLabel]at h
theorem stopR_sound{bt:Nat->List Nat}{C:Cx}{orc:Orc}(hC:C.Ok P)(hO:orc.Ok P)(hm:P.follows .mixedOrders=true){rnd:Bool}{id:Nat}{ops:Array Oper}{fr:Fr}{U:St}{r:RR}(hst:statOk ops (bt id)=true)
  (h:stopR C orc (bt id) ops.toList fr U ops.toList.reverse=some r):DC P rnd (.region id ops true) fr U r:=by
 generalize hq:ops.toList.reverse=q at h
 cases q with
 |nil=>cases h
 |cons o rp=>
  have hops:ops.toList=rp.reverse++[o]:=by
   have:=congrArg List.reverse hq
   simpa using this
  simp only[stopR,stopG]at h
  split at h
  ·rename_i d hd
   have hch:=runDrawn_chain hC hO _ _ _ _ hd
   unfold stopJ at h
   split at h
   ·rename_i f args hw hs
    unfold stopK at h
    split at h
    ·rename_i c U' l hc
     split at h
     ·rename_i hb
      cases h
      rw[Bool.and_eq_true]at hb
      refine DC.stop hC hm hops hst hch hw hs (hO.call _ _ _ _ _ _ hc) hb.2 λj hj=>?_
      have:=hb.1
      unfold allBits at this
      exact List.all_eq_true.1 this j (List.mem_range.2 hj)
     ·cases h
    ·cases h
   ·cases h
  ·cases h
theorem regionR_sound{bt:Nat->List Nat}{C:Cx}{orc:Orc}(hC:C.Ok P)(hO:orc.Ok P)(hm:P.follows .mixedOrders=true){rnd draw:Bool}{id:Nat}{ops:Array Oper}{fr:Fr}{U:St}{r:RR}(hs:statAll bt (.region id ops draw)=true)
  (h:regionR C orc (bt id) rnd draw ops fr U=some r):DC P rnd (.region id ops draw) fr U r:=by
 cases draw with
 |false=>
  simp only[regionR]at h
  split at h
  ·rename_i hr;cases h;exact DC.region hC hO hr
  ·cases h
 |true=>
  simp only[regionR]at h
  split at h
  ·rename_i r' hr
   split at h
   ·rename_i hd;cases h;exact DC.drawn hC hO hm (by simpa [statAll]using hs) hr hd
   ·cases h
  ·exact stopR_sound hC hO hm (by simpa [statAll]using hs) h
theorem run_sound{C:Cx}{orc:Orc}(hC:C.Ok P)(hO:orc.Ok P)(hm:P.follows .mixedOrders=true){bt:Nat->List Nat}{rnd:Bool}:∀(n:Nat) (j:Job) (fr:Fr) (U:St) (r:RR),j.stat bt=true->run C orc bt rnd n j fr U=some r->DJ P rnd j fr U r:=by
 intro n
 induction n with
 |zero=>intro j fr U r _ h;simp [run]at h
 |succ n ih=>
  intro j fr U r hs h
  cases j with
  |loop c=>
   simp only[run]at h
   unfold thenR at h
   split at h
   ·rename_i fr' U' lg hr
    have h1:DC P rnd c fr U _:=ih (.code c) _ _ _ hs hr
    unfold preO at h
    split at h
    ·rename_i r' hr';cases h
     exact DL.next h1 rfl (ih (.loop c) _ _ _ hs hr')
    ·cases h
   ·rename_i hne
    have h1:DC P rnd c fr U r:=ih (.code c) _ _ _ hs h
    refine DL.out h1 ?_
    cases hx:r.x<;>first|rfl|skip
    exact(hne r.fr r.U r.lg (by rw[h,<-hx])).elim
  |scope b c=>
   simp only[run]at h
   simp only[Job.stat,Bool.and_eq_true]at hs
   unfold scopeK at h
   split at h
   ·rename_i l fr' U' lg hr
    have h1:DC P rnd c fr U _:=ih (.code c) _ _ _ hs.2 hr
    unfold jumpK at h
    split at h
    ·rename_i rest hf
     unfold preO at h
     split at h
     ·rename_i r' hr';cases h
      exact DS.jump h1 rfl hf (ih (.scope b rest) _ _ _ (by simp [Job.stat,hs.1,statAll_find hf hs.1]) hr')
     ·cases h
    ·rename_i hf
     cases h
     exact DS.out h1 λl' hl'=>by cases hl';exact hf
   ·rename_i hne
    have h1:DC P rnd c fr U r:=ih (.code c) _ _ _ hs.2 h
    exact DS.out h1 λl hl=>(hne l r.fr r.U r.lg (by rw[h,<-hl])).elim
  |code c=>
   cases c with
   |skip=>simp only[run,Option.some.injEq]at h;subst h;exact DC.skip _ _ _
   |label l=>simp only[run,Option.some.injEq]at h;subst h;exact DC.label _ _ _ _
   |exit i=>simp only[run,Option.some.injEq]at h;subst h;exact DC.exit _ _ _ _
   |goto i=>simp only[run,Option.some.injEq]at h;subst h;exact DC.goto _ _ _ _
   |ret=>simp only[run,Option.some.injEq]at h;subst h;exact DC.ret _ _ _
   |seq a b=>
    simp only[Job.stat,statAll,Bool.and_eq_true]at hs
    simp only[run]at h
    unfold thenR at h
    split at h
    ·rename_i fr' U' lg hr
     have h1:DC P rnd a fr U _:=ih (.code a) _ _ _ hs.1 hr
     unfold preO at h
     split at h
     ·rename_i r' hr';cases h
      exact DC.seq h1 rfl (ih (.code b) _ _ _ hs.2 hr')
     ·cases h
    ·rename_i hne
     have h1:DC P rnd a fr U r:=ih (.code a) _ _ _ hs.1 h
     refine DC.seq_out h1 ?_
     cases hx:r.x<;>first|rfl|skip
     exact(hne r.fr r.U r.lg (by rw[h,<-hx])).elim
   |cond c a b=>
    simp only[Job.stat,statAll,Bool.and_eq_true]at hs
    simp only[run]at h
    unfold condK at h
    split at h
    ·rename_i hc;exact DC.cond (t:=true) hc (ih (.code a) _ _ _ hs.1 h)
    ·rename_i hc;exact DC.cond (t:=false) hc (ih (.code b) _ _ _ hs.2 h)
    ·cases h
   |block id b=>
    simp only[run]at h
    unfold blockK at h
    split at h
    ·rename_i hr;cases h;exact DC.block (ih (.code b) _ _ _ hs hr)
    ·cases h
   |loop b=>simp only[run]at h;exact DC.loop (ih (.loop b) _ _ _ hs h)
   |scope b=>simp only[run]at h;exact DC.scope (ih (.scope b b) _ _ _ (by simpa [Job.stat,statAll]using hs) h)
   |region id ops draw=>simp only[run]at h;exact regionR_sound hC hO hm hs h
   |rangeFunc g ps assign body=>
    simp only[run]at h
    unfold rangeQ at h
    split at h
    ·cases h
    ·exact DC.rangeFunc hC hO h
   |_=>simp [run]at h
theorem VR.forget{ρ ρ₁:Ren}{v v₁ v':Value}(h:VR ρ₁ v v₁)(k:VR ρ v v')(he:∀b l,ρ₁ b=some l->∀l',ρ b=some l'->ρ₁ b=some l'):VR ρ₁ v v':=
 (h.meet k).mono λb l hb=>by
  unfold Ren.on at hb
  split at hb
  ·cases hb
  ·rename_i hne
   cases h1:ρ₁ b with
   |none=>exact absurd h1 hne
   |some l₁=>rw[<-h1];exact he b l₁ h1 l hb
theorem DCall.forget{f:FuncId}{args:List Value}{U U':St}{v:Value}(h:DCall P f args U (.ret v) U' [])(hv:plain v=true):DCall P f args U (.ret v) U []:=
 ⟨logged_self _ _,λρ w args' hw ha=>by
  obtain⟨h1,h2⟩:=h.2 ρ w args' hw ha
  refine⟨h1,λcs hr=>?_⟩
  obtain⟨e,w',fr,⟨ρ',he,hA⟩,rest⟩:=h2 cs hr
  refine⟨e,w',fr,⟨ρ,?_,?_⟩,rest⟩
  ·cases e with
   |returned v'=>exact VR.forget (plain_VR ρ v hv) he λb l hb l' hb'=>by rw[<-hb'];exact(hA.ext b (hw.dom b l hb).1).symm
   |panicked c=>exact False.elim he
   |outgrown=>exact False.elim he
  ·exact Aft.forget hw hA λb hb=>h.1.2 b hb (by simp)⟩
where
  Aft.forget {ρ ρ' : Ren} {U U' : St} {w w' : World} (hw : WR ρ U w.heap) (hA : Aft ρ U w ρ' U' w') (hs : ∀ b, b < U.next → U'.get b = U.get b) : Aft ρ U w ρ U w' :=
    { ext := fun _ _ => rfl
      wr := ⟨fun b l hl => ⟨(hw.dom b l hl).1, Nat.lt_of_lt_of_le (hw.dom b l hl).2 hA.size⟩, fun b l o hl ho => by
          have hb := (hw.dom b l hl).1
          have h1 := hw.obj b l o hl ho
          have h2 := hA.wr.obj b l o (by rw [hA.ext b hb]; exact hl) (by rw [hs b hb]; exact ho)
          refine (h1.meet h2).mono fun c lc hc => ?_
          unfold Ren.on at hc
          split at hc
          · cases hc
          · rename_i hne
            cases h3 : ρ c with
            | none => exact absurd h3 hne
            | some l₃ => rw [← h3, ← hA.ext c (hw.dom c l₃ h3).1]; exact hc,
        hw.inj, hw.fixd⟩
      size := hA.size
      fr := hA.fr
      nxt := Nat.le_refl _
      kept := fun _ _ _ => rfl
      dead := fun _ _ h => h
      fresh := fun b l hb hl => absurd (hw.dom b l hl).1 (by omega)
      nofix := fun b l hb hl => absurd (hw.dom b l hl).1 (by omega)
      tape := hA.tape
      os := hA.os
      out := hA.out }
noncomputable def Orc.one(orc:Orc)(f:FuncId)(args:List Value)(U:St)(r:AE×St×Log):Orc:=
 open Classical in {orc with call:=λf' args' U'=>if f'=f/\args'=args/\U'=U then some r else orc.call f' args' U'}
theorem Orc.one_call(orc:Orc)(f:FuncId)(args:List Value)(U:St)(r:AE×St×Log):(orc.one f args U r).call f args U=some r:=by simp [Orc.one]
theorem Orc.one_ok{orc:Orc}(h:orc.Ok P){f:FuncId}{args:List Value}{U:St}{r:AE×St×Log}(hr:DCall P f args U r.1 r.2.1 r.2.2):(orc.one f args U r).Ok P where
 call:=λf' args' U' e U'' lg hc=>by
  simp only[Orc.one]at hc
  split at hc
  ·rename_i he
   obtain⟨rfl,rfl,rfl⟩:=he
   cases hc
   exact hr
  ·exact h.call _ _ _ _ _ _ hc
 round:=h.round
def Orc.none:Orc:=⟨λ_ _ _=>.none,λ_ _ _=>.none⟩
theorem Orc.none_ok:Orc.none.Ok P where
 call:=λf args U e U' lg h=>by simp [Orc.none]at h
 round:=λl args U e U' lg h=>by simp [Orc.none]at h
end Go.Ab
namespace Go.Ab
variable {P:Program}
def recHead:Code->Option (Oper×Code)
 |.seq (.region _ ⟨[o]⟩ false) c=>match o.op,o.guard with
  |.call {callee:=.builtin .recover,args:=⟨[]⟩,argTypes:=_},none=>some (o,c)
  |_,_=>none
 |_=>none
structure FnRow(P:Program)(bt:FuncId->Nat->List Nat) where
 num:FuncId
 fn:Func
 code:Code
 at':P.funcs[num]?=some fn
 body:fn.body=some code
 stat:statAll (bt num) code=true
 has:HasBody P num
def endR(C:Cx)(fn:Func)(u:AM):Option RR->Option (AE×AM×St×Log)
 |some r=>match endsA C.T fn.results.toList r with
  |some e=>some (e,u,r.U,r.lg)
  |none=>none
 |none=>none
def deferF(C:Cx)(orc:Orc)(bt:FuncId->Nat->List Nat)(n:Nat)(g:FnRow P bt)(args:List Value)(u:AM)(U:St):Option (AE×AM×St×Log):=
 match recHead g.code with
 |some (o,c)=>endR C g.fn (recoverA u).2 (run C orc (bt g.num) false n (.code c) ((start args g.fn.ntmps).put o.dst (recoverA u).1) U)
 |none=>endR C g.fn u (run C orc (bt g.num) false n (.code g.code) (start args g.fn.ntmps) U)
def leaveEnd(T:TT)(fn:Func)(ts:List Value)(u:AM)(U:St):Option (AE×St×Log):=
 match u with
 |.returning=>match resA T U ts fn.results.toList with
  |some v=>some (.ret v,U,[])
  |none=>none
 |.panicking c=>some (.panic c,U,[])
def leaveStep(k:AM->St->Option (AE×St×Log)):Option (AE×AM×St×Log)->Option (AE×St×Log)
 |some (e,u₁,U₁,l₁)=>match nextMode e u₁ with
  |some u₂=>match k u₂ U₁ with
   |some (e₂,U₂,l₂)=>some (e₂,U₂,l₁++l₂)
   |none=>none
  |none=>none
 |none=>none
def leavePre(l:Log):Option (AE×St×Log)->Option (AE×St×Log)
 |some (e,U,lg)=>some (e,U,l++lg)
 |none=>none
def leaveA(C:Cx)(orc:Orc)(bt:FuncId->Nat->List Nat)(funcs:FuncId->Option (FnRow P bt))(n:Nat)(fn:Func)(ts:List Value):List Deferred->AM->St->Option (AE×St×Log)
 |[],u,U=>leaveEnd C.T fn ts u U
 |d :: ds,u,U=>match d.target,d.args with
  |.fn (.func f) cap,args=>match funcs f with
   |some g=>match Nat.beq g.num f with
    |true=>leaveStep (leaveA C orc bt funcs n fn ts ds) (deferF C orc bt n g (args.toList++cap.toList) u U)
    |false=>none
   |none=>none
  |.collected r,⟨[]⟩=>match U.get r with
   |some (.deferred false)=>leavePre [r] (leaveA C orc bt funcs n fn ts ds u (U.set r (.deferred true)))
   |_=>none
  |_,_=>none
def modeOf:AX->Option AM
 |.norm=>some .returning
 |.ret=>some .returning
 |.panic c=>some (.panicking c)
 |_=>none
def leaveR(C:Cx)(orc:Orc)(bt:FuncId->Nat->List Nat)(funcs:FuncId->Option (FnRow P bt))(n:Nat)(fn:Func):Option RR->Option (AE×St×Log)
 |some r=>match modeOf r.x with
  |some u=>match leaveA C orc bt funcs n fn r.fr.ts r.fr.ds u r.U with
   |some (e,U',lg)=>some (e,U',r.lg++lg)
   |none=>none
  |none=>none
 |none=>none
def roundBody(C:Cx)(orc:Orc)(bt:Nat->List Nat)(n:Nat)(l:Nat)(body:Code)(fr:Fr)(lg:Log)(U:St):Option AObj->Option (AE×St×Log)
 |some (.loop L)=>match L.state with
  |.ready=>match run C orc bt true n (.code body) fr (U.set l (.loop {L with state:=.busy,pending:=L.pending})) with
   |some ⟨x,_,U₃,lg₃⟩=>match U₃.get l,jumpOf x with
    |some (.loop L₃),some j=>some (.ret (.bool j.isNone),U₃.set l (.loop {L₃ with state:=readyIf j,pending:=j}),lg++([l]++(lg₃++[l])))
    |_,_=>none
   |none=>none
  |_=>none
 |_=>none
def roundL(C:Cx)(orc:Orc)(bt:Nat->List Nat)(n:Nat)(l:Nat)(args:List Value)(U:St)(L:Loop):Option (AE×St×Log):=
 match Nat.beq args.length L.params.size&&statAll bt L.assign&&statAll bt L.body with
 |true=>match run C orc bt true n (.code L.assign) ⟨roundTs L.tmps.toList L.params.toList args,[]⟩ U with
  |some ⟨.norm,fr₁,U₁,lg₁⟩=>roundBody C orc bt n l L.body fr₁ lg₁ U₁ (U₁.get l)
  |_=>none
 |false=>none
def roundR(C:Cx)(orc:Orc)(bt:FuncId->Nat->List Nat)(n:Nat)(l:Nat)(args:List Value)(U:St):Option (AE×St×Log):=
 match U.get l with
 |some (.loop L)=>roundL C orc (bt L.fn) n l args U L
 |_=>none
def callR(C:Cx)(orc:Orc)(bt:FuncId->Nat->List Nat)(funcs:FuncId->Option (FnRow P bt))(n:Nat)(f:FuncId)(args:List Value)(U:St):Option (AE×St×Log):=
 match funcs f with
 |some g=>match Nat.beq g.num f with
  |true=>leaveR C orc bt funcs n g.fn (run C orc (bt g.num) false n (.code g.code) (start args g.fn.ntmps) U)
  |false=>none
 |none=>none
def orcN(C:Cx)(bt:FuncId->Nat->List Nat)(funcs:FuncId->Option (FnRow P bt))(n:Nat):Nat->Orc
 |0=>⟨λ_ _ _=>none,λ_ _ _=>none⟩
 |d+1=>⟨λf args U=>callR C (orcN C bt funcs n d) bt funcs n f args U,λl args U=>roundR C (orcN C bt funcs n d) bt n l args U⟩
theorem deferF_sound{C:Cx}{orc:Orc}(hC:C.Ok P)(hO:orc.Ok P)(hm:P.follows .mixedOrders=true){bt:FuncId->Nat->List Nat}{n:Nat}{g:FnRow P bt}{args:List Value}{u:AM}{U:St}{e:AE}{u':AM}{U':St}{lg:Log}
  (h:deferF C orc bt n g args u U=some (e,u',U',lg)):DDefer P g.num args u U e u' U' lg:=by
 obtain⟨num,fn,code,hf,hb,hs,_⟩:=g
 unfold deferF at h
 simp only at h
 split at h
 ·rename_i o c hr
  unfold recHead at hr
  split at hr
  ·rename_i id o' c'
   split at hr
   ·rename_i tys hop hg
    cases hr
    unfold endR at h
    split at h
    ·rename_i r hrun
     split at h
     ·rename_i e' he
      cases h
      simp only[statAll,Bool.and_eq_true]at hs
      exact DDefer.of_recover hC.T ⟨hf,hb⟩ hop hg (run_sound hC hO hm n (.code c) _ _ r hs.2 hrun) he
     ·cases h
    ·cases h
   ·cases hr
  ·cases hr
 ·unfold endR at h
  split at h
  ·rename_i r hrun
   split at h
   ·rename_i e' he
    cases h
    exact DDefer.of_code hC.T ⟨hf,hb⟩ u (run_sound hC hO hm n (.code code) _ _ r hs hrun) he
   ·cases h
  ·cases h
theorem leaveA_sound{C:Cx}{orc:Orc}(hC:C.Ok P)(hO:orc.Ok P)(hm:P.follows .mixedOrders=true){bt:FuncId->Nat->List Nat}{funcs:FuncId->Option (FnRow P bt)}{n:Nat}{fn:Func}{ts:List Value}:
  ∀(ds:List Deferred) (u:AM) (U:St) (e:AE) (U':St) (lg:Log),leaveA C orc bt funcs n fn ts ds u U=some (e,U',lg)->DLeave P fn ts ds u U e U' lg
 |[],u,U,e,U',lg,h=>by
  simp only[leaveA,leaveEnd]at h
  split at h
  ·split at h
   ·rename_i v hv
    cases h
    exact DLeave.returned hC.T hv
   ·cases h
  ·cases h
   exact DLeave.panicked
 |d :: ds,u,U,e,U',lg,h=>by
  obtain⟨tgt,dargs⟩:=d
  simp only[leaveA]at h
  split at h
  ·rename_i f cap args
   split at h
   ·rename_i g hg
    split at h
    ·rename_i hbeq
     have:=Nat.eq_of_beq_eq_true hbeq
     subst this
     unfold leaveStep at h
     split at h
     ·rename_i e₁ u₁ U₁ l₁ hd
      split at h
      ·rename_i u₂ hn
       split at h
       ·rename_i e₂ U₂ l₂ hk
        cases h
        exact DLeave.cons rfl g.has (deferF_sound hC hO hm hd) hn (leaveA_sound hC hO hm ds u₂ U₁ _ _ _ hk)
       ·cases h
      ·cases h
     ·cases h
    ·cases h
   ·cases h
  ·rename_i r
   split at h
   ·rename_i hr
    unfold leavePre at h
    split at h
    ·rename_i e₂ U₂ l₂ hk
     cases h
     exact DLeave.collected hr (leaveA_sound hC hO hm ds u _ _ _ _ hk)
    ·cases h
   ·cases h
  ·cases h
theorem callR_sound{C:Cx}{orc:Orc}(hC:C.Ok P)(hO:orc.Ok P)(hm:P.follows .mixedOrders=true){bt:FuncId->Nat->List Nat}{funcs:FuncId->Option (FnRow P bt)}{n:Nat}{f:FuncId}{args:List Value}{U:St}{e:AE}{U':St}{lg:Log}
  (h:callR C orc bt funcs n f args U=some (e,U',lg)):DCall P f args U e U' lg:=by
 unfold callR at h
 split at h
 ·rename_i g hf
  split at h
  ·rename_i hbeq
   have:=Nat.eq_of_beq_eq_true hbeq
   subst this
   unfold leaveR at h
   split at h
   ·rename_i r hr
    split at h
    ·rename_i u hu
     split at h
     ·rename_i e' U'' lg' hl
      cases h
      refine DCall.of_code_defers ⟨g.at',g.body⟩ (run_sound hC hO hm n (.code g.code) _ _ r g.stat hr) ?_ (leaveA_sound hC hO hm _ _ _ _ _ _ hl)
      unfold modeOf at hu
      split at hu<;>cases hu<;>simp_all
     ·cases h
    ·cases h
   ·cases h
  ·cases h
 ·cases h
theorem roundR_sound{C:Cx}{orc:Orc}(hC:C.Ok P)(hO:orc.Ok P)(hm:P.follows .mixedOrders=true){bt:FuncId->Nat->List Nat}{n:Nat}{l:Nat}{args:List Value}{U:St}{e:AE}{U':St}{lg:Log}
  (h:roundR C orc bt n l args U=some (e,U',lg)):DRound P l args U e U' lg:=by
 unfold roundR at h
 split at h
 ·rename_i L hg
  unfold roundL at h
  split at h
  ·rename_i hchk
   simp only[Bool.and_eq_true]at hchk
   split at h
   ·rename_i fr₁ U₁ lg₁ hr₁
    unfold roundBody at h
    split at h
    ·rename_i _ L₁ hg₁
     split at h
     ·rename_i hst
      split at h
      ·rename_i x fr₃ U₃ lg₃ hr₃
       split at h
       ·rename_i L₃ j hg₃ hj
        cases h
        exact DRound.of_code hg (Nat.eq_of_beq_eq_true hchk.1.1) (run_sound hC hO hm n (.code L.assign) _ _ _ hchk.1.2 hr₁) hg₁ hst (run_sound hC hO hm n (.code L.body) _ _ _ hchk.2 hr₃) hg₃ hj
       ·cases h
      ·cases h
     ·cases h
    ·cases h
   ·cases h
  ·cases h
 ·cases h
theorem orcN_ok{C:Cx}(hC:C.Ok P)(hm:P.follows .mixedOrders=true){bt:FuncId->Nat->List Nat}{funcs:FuncId->Option (FnRow P bt)}{n:Nat}:∀d:Nat,(orcN C bt funcs n d).Ok P
 |0=>⟨λ_ _ _ _ _ _ h=>(by cases h),λ_ _ _ _ _ _ h=>(by cases h)⟩
 |d+1=>⟨λ_ _ _ _ _ _ h=>callR_sound hC (orcN_ok hC hm d) hm h,λ_ _ _ _ _ _ h=>roundR_sound hC (orcN_ok hC hm d) hm h⟩
def St.nil:St:=⟨.leaf,0⟩
theorem plainL_forget{ρ ρ₀:Ren}(h0:∀b,ρ₀ b=none):∀{vs vs':List Value},plainL vs=true->VRL ρ vs vs'->VRL ρ₀ vs vs'
 |[],_,_,h=>by cases h;exact .nil
 |v :: vs,_,hp,h=>by
  simp only[plainL,Bool.and_eq_true]at hp
  cases h with
  |cons h t=>exact .cons (VR.forget (plain_VR ρ₀ v hp.1) h λb l hb=>by rw[h0]at hb;cases hb) (plainL_forget h0 hp.2 t)
theorem DCall.alone {f : FuncId} {args : List Value} {U' : St} {v : Value} {lg : Log} (h : DCall P f args St.nil (.ret v) U' lg) (ha : plainL args = true) (hv : plain v = true) (U : St) : DCall P f args U (.ret v) U [] :=
  ⟨logged_self _ _, fun ρ w args' hw hargs => by
    let ρ₀ : Ren := fun _ => none
    have hw0 : WR ρ₀ St.nil w.heap := ⟨fun b l hl => (by cases hl), fun b l o hl => (by cases hl), fun b b' l l' hl => (by cases hl), fun b l hl => (by cases hl)⟩
    obtain ⟨h1, h2⟩ := h.2 ρ₀ w args' hw0 (plainL_forget (fun _ => rfl) ha hargs)
    refine ⟨h1, fun cs hr => ?_⟩
    obtain ⟨e, w', fr, ⟨ρ', he, hA⟩, rest⟩ := h2 cs hr
    have hsame : ∀ k, k < w.heap.size → w'.heap[k]? = w.heap[k]? := fun k hk => hA.fr k hk fun b l hl => (by cases hl)
    refine ⟨e, w', fr, ⟨ρ, ?_, ?_⟩, rest⟩
    · cases e with
      | returned v' =>
        exact (VR.forget (plain_VR ρ₀ v hv) he fun b l hb => by cases hb).mono fun b l hb => by cases hb
      | panicked c => exact False.elim he
      | outgrown => exact False.elim he
    · exact { ext := fun _ _ => rfl
              wr := ⟨fun b l hl => ⟨(hw.dom b l hl).1, Nat.lt_of_lt_of_le (hw.dom b l hl).2 hA.size⟩, fun b l o hl ho => (hw.obj b l o hl ho).of_block (hsame _ (hw.dom b l hl).2), hw.inj, hw.fixd⟩
              size := hA.size
              fr := fun k hk _ => hsame k hk
              nxt := Nat.le_refl _
              kept := fun _ _ _ => rfl
              dead := fun _ _ h => h
              fresh := fun b l hb hl => absurd (hw.dom b l hl).1 (by omega)
              nofix := fun b l hb hl => absurd (hw.dom b l hl).1 (by omega)
              tape := hA.tape
              os := hA.os
              out := hA.out }⟩
end Go.Ab
namespace Go.Ab
inductive FK where
 |bool
 |int (k:IntKind)
 |str
def FK.ok:FK->Value->Prop
 |.bool,v=>∃b,v=.bool b
 |.int k,v=>∃n,v=.int k n/\(Lit.int k n).wf=true
 |.str,v=>∃s:ByteArray,v=.string s/\s.size<=maxLen
def oks:List FK->List Value->Prop
 |[],[]=>True
 |k :: ks,v :: vs=>k.ok v/\oks ks vs
 |_,_=>False
theorem oks_length:∀{ks:List FK} {vs:List Value},oks ks vs->vs.length=ks.length
 |[],[],_=>rfl
 |_ :: _,_ :: _,h=>by simp [oks_length h.2]
 |[],_ :: _,h=>h.elim
 |_ :: _,[],h=>h.elim
theorem oks_append:∀{ks:List FK} {vs:List Value} {ks':List FK} {vs':List Value},oks ks vs->oks ks' vs'->oks (ks++ks') (vs++vs')
 |[],[],_,_,_,h=>h
 |_ :: _,_ :: _,_,_,h,h'=>⟨h.1,oks_append h.2 h'⟩
 |[],_ :: _,_,_,h,_=>h.elim
 |_ :: _,[],_,_,h,_=>h.elim
theorem FK.plain{k:FK}{v:Value}(h:k.ok v)(ρ:Ren):VR ρ v v:=by
 cases k with
 |bool=>obtain⟨b,rfl⟩:=h;exact .bool b
 |int k=>obtain⟨n,rfl,_⟩:=h;exact .int k n
 |str=>obtain⟨s,rfl,_⟩:=h;exact .string s
theorem oks_VRL(ρ:Ren):∀{ks:List FK} {vs:List Value},oks ks vs->VRL ρ vs vs
 |[],[],_=>.nil
 |_ :: _,_ :: _,h=>.cons (FK.plain h.1 ρ) (oks_VRL ρ h.2)
 |[],_ :: _,h=>h.elim
 |_ :: _,[],h=>h.elim
def flatFs(rc:TypeId->Option (List FK))(P:Program):List Field->Nat->Option (List FK)
 |[],_=>some []
 |f :: fs,off=>
  if f.offset=off then
   match rc f.type with
   |some ks=>if P.cellsOf f.type=ks.length then(flatFs rc P fs (off+ks.length)).map (ks++·) else none
   |none=>none
  else none
def flatK(P:Program):Nat->TypeId->Option (List FK)
 |0,_=>none
 |f+1,t=>match P.underlying t with
  |some .bool=>some [.bool]
  |some (.int k)=>some [.int k]
  |some .string=>some [.str]
  |some (.struct fs)=>match flatFs (flatK P f) P fs.toList 0 with
   |some ks=>if P.cellsOf t=ks.length then some ks else none
   |none=>none
  |_=>none
section
variable {H:Type} {enc:TypeId×Value->H} {P:Program} {w:World} {base:Nat} {spare:Nat->Bool} {held:Bool}
theorem flatFs_ok{rc:TypeId->Option (List FK)}{cs:List Value}{n:Nat}(hrc:∀t ks cs x,rc t=some ks->DataW.trod enc P w base spare held n t cs=some x->oks ks cs):
  ∀(fs:List Field) (off:Nat) (ks:List FK),flatFs rc P fs off=some ks->(∀f∈fs,∃x,DataW.trod enc P w base spare held n f.type ((cs.drop f.offset).take (P.cellsOf f.type))=some x)->
   oks ks ((cs.drop off).take ks.length)
 |[],off,ks,h,_=>by
  simp only[flatFs,Option.some.injEq]at h
  subst h
  simp [oks]
 |f :: fs,off,ks,h,hx=>by
  simp only[flatFs]at h
  split at h
  ·rename_i ho
   split at h
   ·rename_i k1 hk
    split at h
    ·rename_i hc
     rw[Option.map_eq_some_iff]at h
     obtain⟨k2,h2,rfl⟩:=h
     obtain⟨x,hx1⟩:=hx f (by simp)
     rw[ho,hc]at hx1
     have a:=hrc _ _ _ _ hk hx1
     have b:=flatFs_ok hrc fs _ _ h2 λg hg=>hx g (by simp [hg])
     have e:(cs.drop off).take (k1++k2).length=(cs.drop off).take k1.length++(cs.drop (off+k1.length)).take k2.length:=by
      rw[List.length_append,List.take_add,List.drop_drop]
     rw[e]
     exact oks_append a b
    ·cases h
   ·cases h
  ·cases h
theorem flatK_ok:∀(m n:Nat) (t:TypeId) (ks:List FK) (cs:List Value) (x:DataW H×List MemPlace),flatK P m t=some ks->DataW.trod enc P w base spare held n t cs=some x->oks ks cs
 |0,_,_,_,_,_,h,_=>by cases h
 |m+1,n,t,ks,cs,x,h,hx=>by
  simp only[flatK]at h
  split at h
  ·rename_i ht
   cases h
   obtain⟨b,rfl,_⟩:=DataW.trod_bool ht hx
   exact⟨⟨b,rfl⟩,trivial⟩
  ·rename_i k ht
   cases h
   obtain⟨i,rfl,_,hw⟩:=DataW.trod_int ht hx
   exact⟨⟨i,rfl,hw⟩,trivial⟩
  ·rename_i ht
   cases h
   obtain⟨s,rfl,_,hw⟩:=DataW.trod_string ht hx
   exact⟨⟨s,rfl,hw⟩,trivial⟩
  ·rename_i fs ht
   obtain⟨xs,n',rfl,_,hl,hxl,hf⟩:=DataW.trod_struct ht hx
   split at h
   ·rename_i ks' hk
    split at h
    ·rename_i hc
     cases h
     have:=flatFs_ok (cs:=cs) (n:=n') (λt ks cs x h1 h2=>flatK_ok m n' t ks cs x h1 h2) fs.toList 0 ks hk λf hfm=>by
      obtain⟨i,hi⟩:=List.getElem?_of_mem hfm
      rw[Array.getElem?_toList]at hi
      have hil:i<xs.length:=by
       rw[hxl]
       exact(Array.getElem?_eq_some_iff.1 hi).1
      exact⟨_,(hf i f hi).trans (List.getElem?_eq_getElem hil)⟩
     rw[List.drop_zero,<-hc,<-hl,List.take_length]at this
     exact this
    ·cases h
   ·cases h
  ·cases h
theorem open_flats{t e:TypeId}{m:Nat}{ks:List FK}{fuel:Nat}{cs:List Value}{x:DataW H×List MemPlace}(ht:P.underlying t=some (.slice e))(hk:flatK P m e=some ks)(hc:P.cellsOf e=ks.length)
  (h:DataW.trod enc P w base (λ_=>true) held fuel t cs=some x):
  cs=[.slice none 0 0]\/
  ∃(a:Addr) (len cap:Nat) (es:List (List Value)),cs=[.slice (some a) len cap]/\base<=a.block/\len<=cap/\cap<=maxLen/\es.length=cap/\(∀c∈es,oks ks c)/\
   ∀i c,es[i]?=some c->∀j v,c[j]?=some v->w.cell? (a.add (i*ks.length+j))=some v:=by
 rcases DataW.trod_slice ht h with h0|⟨a,len,cap,elems,rest,n,_,rfl,rfl,hb,hl,hm,hlen,hel,hsp,hns⟩
 ·exact .inl h0.1
 right
 have each:∀i,i<cap->∃c,w.cells? base (a.add (i*ks.length)) ks.length=some c/\oks ks c:=by
  intro i hi
  have hb':∃y,(w.cells? base (a.add (i*P.cellsOf e)) (P.cellsOf e)).bind (DataW.trod enc P w base (λ_=>true) held n e)=some y:=by
   by_cases h1:i<len
   ·exact⟨_,(hel i h1).trans (List.getElem?_eq_getElem (by omega))⟩
   ·obtain⟨hrl,hr⟩:=hsp rfl
    have:=hr (i - len) (by omega)
    rw[show len+(i - len)=i by omega]at this
    exact⟨_,this.trans (List.getElem?_eq_getElem (by omega))⟩
  obtain⟨y,hy⟩:=hb'
  rw[hc,Option.bind_eq_some_iff]at hy
  obtain⟨c,h1,h2⟩:=hy
  exact⟨c,h1,flatK_ok _ _ _ _ _ _ hk h2⟩
 let g:Nat->List Value:=λi=>(w.cells? base (a.add (i*ks.length)) ks.length).getD []
 have hg:∀i,i<cap->w.cells? base (a.add (i*ks.length)) ks.length=some (g i)/\oks ks (g i):=λi hi=>by
  obtain⟨c,h1,h2⟩:=each i hi
  have:g i=c:=by simp [g,h1]
  rw[this];exact⟨h1,h2⟩
 refine⟨a,len,cap,(List.range cap).map g,rfl,hb,hl,hm,by simp,λc hcm=>?_,λi c hi j v hj=>?_⟩
 ·simp only[List.mem_map,List.mem_range]at hcm
  obtain⟨i,hi,rfl⟩:=hcm
  exact(hg i hi).2
 ·simp only[List.getElem?_map,Option.map_eq_some_iff]at hi
  obtain⟨q,hq,rfl⟩:=hi
  have hql:=(List.getElem?_eq_some_iff.1 hq).1
  simp only[List.length_range]at hql
  rw[List.getElem?_range hql]at hq
  cases hq
  obtain⟨_,h2,h3⟩:=World.cells?_some (hg i hql).1
  have hjl:=(List.getElem?_eq_some_iff.1 hj).1
  have:=h3 j (by omega)
  rw[hj]at this
  rwa [Addr.add_add]at this
end
end Go.Ab
namespace Go.Ab
open Go.RowKit
variable {P:Program}
def ReadOnly(ρ:Ren)(U:St)(w:World):Prop:=∀b l,ρ b=some l->∃vs o,U.get b=some (.cells vs true)/\l.fix=some o/\w.heap[l.block]?=some o
theorem below_of_aft{ρ ρ':Ren}{U U':St}{w w':World}(hw:WR ρ U w.heap)(hA:Aft ρ U w ρ' U' w')(hro:ReadOnly ρ U w)(hs:∀b,b<U.next->U'.get b=U.get b):Below w.heap.size w w':=
 ⟨hA.os,hA.tape,hA.out,hA.size,λk hk=>by
  by_cases h:∃b l,ρ b=some l/\l.block=k
  ·obtain⟨b,l,hb,rfl⟩:=h
   obtain⟨vs,o,h1,h2,h3⟩:=hro b l hb
   have hlt:=(hw.dom b l hb).1
   obtain⟨c,e,fz,a1,_,_,a4,_⟩:=hA.wr.obj b l (.cells vs true) (by rw[hA.ext b hlt];exact hb) (by rw[hs b hlt];exact h1)
   rw[a1,h3,a4.2 rfl o h2]
  ·exact hA.fr k hk λb l hb _ he=>h ⟨b,l,hb,he⟩⟩
theorem row_state{w:World}{x:Addr}{vs:List Value}(hv:∀i v,vs[i]?=some v->w.cell? (x.add i)=some v)(hp:∀ρ,VRL ρ vs vs)(hne:0<vs.length):
  ∃ρ:Ren,(∃l,ρ 0=some l/\l.block=x.block/\l.off=x.off)/\x.spot=none/\WR ρ (St.nil.new (.cells vs true)) w.heap/\ReadOnly ρ (St.nil.new (.cells vs true)) w:=by
 have h0:=hv 0 vs[0] (by simp [hne])
 have hspot:x.spot=none:=World.cell?_spot h0
 have hcell:∃c e fz,w.heap[x.block]?=some (.cells c e fz)/\∀i v,vs[i]?=some v->c[x.off+i]?=some v:=by
  have hadd:∀i,(x.add i).block=x.block/\(x.add i).off=x.off+i/\(x.add i).spot=none:=λi=>by
   unfold Addr.add
   split
   ·rename_i h;subst h;exact⟨rfl,rfl,hspot⟩
   ·exact⟨rfl,rfl,rfl⟩
  unfold World.cell? at hv h0
  simp only[(hadd _).1,(hadd _).2.1,(hadd _).2.2]at hv h0
  cases hb:w.heap[x.block]? with
  |none=>rw[hb]at h0;cases h0
  |some o=>
   rw[hb]at h0
   cases o with
   |cells c e fz=>
    refine⟨c,e,fz,rfl,λi v hi=>?_⟩
    have:=hv i v hi
    rw[hb]at this
    simpa using this
   |_=>cases h0
 obtain⟨c,e,fz,hb,hc⟩:=hcell
 have hsz:x.off+vs.length<=c.size:=by
  have:=hc (vs.length - 1) vs[vs.length - 1] (by simp [hne])
  have:=(Array.getElem?_eq_some_iff.1 this).1
  omega
 let l:Loc:=⟨x.block,x.off,c.size - x.off,some (.cells c e fz)⟩
 let ρ:Ren:=λb=>if b=0 then some l else none
 have hρ:∀b k,ρ b=some k->b=0/\k=l:=λb k h=>by
  simp only[ρ]at h
  split at h
  ·cases h;exact⟨by assumption,rfl⟩
  ·cases h
 have hg:(St.nil.new (.cells vs true)).get 0=some (.cells vs true):=by rw[St.get_new];rfl
 refine⟨ρ,⟨l,by simp [ρ],rfl,rfl⟩,hspot,⟨λb k hk=>?_,λb k o hk ho=>?_,λb b' k k' hk hk' _ _ _ _=>?_,λb k hk _ _=>?_⟩,λb k hk=>?_⟩
 ·obtain⟨rfl,rfl⟩:=hρ b k hk
  exact⟨Nat.zero_lt_one,(Array.getElem?_eq_some_iff.1 hb).1⟩
 ·obtain⟨rfl,rfl⟩:=hρ b k hk
  rw[hg]at ho
  cases ho
  refine⟨c,e,fz,hb,by simp only[l];omega,by simp only[l];omega,⟨λh=>(by cases h),λ_ o ho=>by cases ho;rfl⟩,?_⟩
  have:(c.toList.drop l.off).take vs.length=vs:=by
   apply List.ext_getElem?
   intro i
   rw[List.getElem?_take]
   split
   ·rename_i hi
    rw[List.getElem?_drop,Array.getElem?_toList,hc i vs[i] (by simp [hi])]
    simp [hi]
   ·rename_i hi
    rw[List.getElem?_eq_none (by omega)]
  rw[this]
  exact hp ρ
 ·rw[(hρ b k hk).1,(hρ b' k' hk').1]
 ·obtain⟨rfl,rfl⟩:=hρ b k hk
  exact⟨vs,hg⟩
 ·obtain⟨rfl,rfl⟩:=hρ b k hk
  exact⟨vs,_,hg,rfl,hb⟩
theorem nil_state(w:World):WR (λ_=>none) St.nil w.heap/\ReadOnly (λ_=>none) St.nil w:=
 ⟨⟨λb l hl=>(by cases hl),λb l o hl=>(by cases hl),λb b' l l' hl=>(by cases hl),λb l hl=>(by cases hl)⟩,λb l hl=>(by cases hl)⟩
def IsRow(ks:List FK)(w:World)(a:Option Addr)(len cap:Nat)(es:List (List Value)):Prop:=
 (a=none/\len=0/\cap=0/\es=[])\/
 ∃x,a=some x/\len<=cap/\cap<=maxLen/\es.length=cap/\(∀c∈es,oks ks c)/\∀i c,es[i]?=some c->∀j v,c[j]?=some v->w.cell? (x.add (i*ks.length+j))=some v
theorem flatten_at{α:Type}{k:Nat}:∀{es:List (List α)},(∀c∈es,c.length=k)->∀{q:Nat} {v:α},es.flatten[q]?=some v->∃i c j,es[i]?=some c/\c[j]?=some v/\q=i*k+j
 |[],_,q,v,h=>by simp at h
 |c :: es,hk,q,v,h=>by
  rw[List.flatten_cons]at h
  have hc:=hk c (by simp)
  by_cases hq:q<c.length
  ·rw[List.getElem?_append_left hq]at h
   exact⟨0,c,q,rfl,h,by omega⟩
  ·rw[List.getElem?_append_right (by omega)]at h
   obtain⟨i,c',j,h1,h2,h3⟩:=flatten_at (λc hc=>hk c (by simp [hc])) h
   refine⟨i+1,c',j,by simpa using h1,h2,?_⟩
   rw[Nat.add_mul];omega
theorem flatten_len{α:Type}{k:Nat}:∀{es:List (List α)},(∀c∈es,c.length=k)->es.flatten.length=es.length*k
 |[],_=>by simp
 |c :: es,h=>by
  rw[List.flatten_cons,List.length_append,h c (by simp),flatten_len λc hc=>h c (by simp [hc]),List.length_cons,Nat.add_mul];omega
theorem flatten_take{α:Type}{k:Nat}:∀{es:List (List α)},(∀c∈es,c.length=k)->∀{i:Nat} {c:List α},es[i]?=some c->(es.flatten.drop (i*k)).take k=c/\i*k+k<=es.flatten.length
 |[],_,i,c,h=>by simp at h
 |d :: es,hk,0,c,h=>by
  simp only[List.getElem?_cons_zero,Option.some.injEq]at h
  subst h
  have:=hk d (by simp)
  rw[List.flatten_cons,Nat.zero_mul,List.drop_zero,<-this]
  simp
 |d :: es,hk,i+1,c,h=>by
  have hd:=hk d (by simp)
  obtain⟨h1,h2⟩:=flatten_take (es:=es) (λc hc=>hk c (List.mem_cons_of_mem _ hc)) (by simpa using h)
  rw[List.flatten_cons,Nat.add_mul,Nat.one_mul,Nat.add_comm,List.length_append,<-hd,List.drop_length_add_append,hd]
  exact⟨h1,by omega⟩
theorem flatten_VRL(ρ:Ren){ks:List FK}:∀{es:List (List Value)},(∀c∈es,oks ks c)->VRL ρ es.flatten es.flatten
 |[],_=>.nil
 |c :: es,h=>by
  rw[List.flatten_cons]
  exact(oks_VRL ρ (h c (by simp))).append (flatten_VRL ρ λc hc=>h c (by simp [hc]))
theorem row_in{ks:List FK}{w:World}{a:Option Addr}{len cap:Nat}{es:List (List Value)}(h:IsRow ks w a len cap es)(hk:0<ks.length):
  ∃(ρ:Ren) (U:St) (v:Value),WR ρ U w.heap/\ReadOnly ρ U w/\VR ρ v (.slice a len cap)/\
   (len=0/\U=St.nil/\(v=.slice none 0 0\/v=.slice (some ⟨0,0,some 1⟩) 0 0)\/len<=es.length/\U=St.nil.new (.cells es.flatten true)/\v=.slice (some ⟨0,0,some 0⟩) len cap):=by
 rcases h with⟨rfl,rfl,rfl,rfl⟩|⟨x,rfl,hl,hm,he,hok,hc⟩
 ·exact⟨_,_,.slice none 0 0,(nil_state w).1,(nil_state w).2,.sliceNil,.inl ⟨rfl,rfl,.inl rfl⟩⟩
 ·by_cases h0:cap=0
  ·subst h0
   obtain rfl:len=0:=by omega
   exact⟨_,_,.slice (some ⟨0,0,some 1⟩) 0 0,(nil_state w).1,(nil_state w).2,.sliceE,.inl ⟨rfl,rfl,.inr rfl⟩⟩
  ·have hlen:∀c∈es,c.length=ks.length:=λc hcm=>oks_length (hok c hcm)
   have hpos:0<es.flatten.length:=by
    rw[flatten_len hlen,he]
    exact Nat.mul_pos (by omega) hk
   obtain⟨ρ,⟨l,h1,h2,h3⟩,h4,h5,h6⟩:=row_state (w:=w) (x:=x) (vs:=es.flatten) (λi v hi=>by
    obtain⟨q,c,j,a1,a2,rfl⟩:=flatten_at hlen hi
    exact hc q c a1 j v a2) (λρ=>flatten_VRL ρ hok) hpos
   refine⟨ρ,_,_,h5,h6,?_,.inr ⟨by omega,rfl,rfl⟩⟩
   have:=VR.sliceX (ρ:=ρ) (off:=0) (len:=len) (cap:=cap) h1
   obtain⟨xb,xo,xs⟩:=x
   simp only at h2 h3 h4
   subst h2 h3 h4
   exact this
end Go.Ab
namespace Go.Ab
section eqs
variable {fr:Fr} {dst:Option Tmp} {lg l:Log} {k:OpsK} {v:Value} {U U':St} {c:List PanicEntry} {orc:Orc} {rnd:Bool} {ob:AObj} {rd:List Nat} {f:FuncId} {args ts:List Value} {n:Nat} {d:Deferred}
theorem callK_ret:callK fr dst lg k (some (.ret v,U',l))=k (fr.put dst v) U' (lg++l):=rfl
theorem callK_panic:callK fr dst lg k (some (.panic c,U',l))=some (.panic c,fr,U',lg++l):=rfl
theorem opsK_val:opsK orc rnd dst fr U lg k (some (.val v rd))=k (fr.put dst v) U lg:=rfl
theorem opsK_new:opsK orc rnd dst fr U lg k (some (.new ob v rd))=k (fr.put dst v) (U.new ob) lg:=rfl
theorem opsK_eff:opsK orc rnd dst fr U lg k (some (.eff v U' l))=k (fr.put dst v) U' (lg++l):=rfl
theorem opsK_panic:opsK orc rnd dst fr U lg k (some (.panic v))=some (.panic [{v,recovered:=false}],fr,U,lg):=rfl
theorem opsK_enter:opsK orc rnd dst fr U lg k (some (.enter f args))=callK fr dst lg k (orc.call f args U):=rfl
theorem opsK_round:opsK orc rnd dst fr U lg k (some (.round n args))=callK fr dst lg k (orc.round n args U):=rfl
theorem opsK_defer:opsK orc false dst fr U lg k (some (.defer d))=k ({fr with ds:=d :: fr.ds}.put dst undef) U lg:=rfl
theorem wantK_true{T:TT}{b:FuncId->Bool}{o:Oper}:wantK T b o ts U true=stepOp T b o ts U:=rfl
theorem wantK_false{T:TT}{b:FuncId->Bool}{o:Oper}:wantK T b o ts U false=some (.val undef []):=rfl
theorem consD_some{s:Stp}{r:Dr}:consD s l (some r)=some ⟨s :: r.st,r.ts,r.U,l++r.lg⟩:=rfl
variable {kd:List Value->St->Option Dr}
theorem callD_ret:callD ts U dst kd (some (.ret v,U',l))=consD ⟨ts,U,v,.full l⟩ l (kd (putL ts dst v) U'):=rfl
theorem drawnK_val:drawnK orc dst ts U kd (some (.val v rd))=consD ⟨ts,U,v,.pure rd⟩ [] (kd (putL ts dst v) U):=rfl
theorem drawnK_new:drawnK orc dst ts U kd (some (.new ob v rd))=consD ⟨ts,U,v,.alloc ob rd⟩ [] (kd (putL ts dst v) (U.new ob)):=rfl
theorem drawnK_eff:drawnK orc dst ts U kd (some (.eff v U' l))=consD ⟨ts,U,v,.full l⟩ l (kd (putL ts dst v) U'):=rfl
theorem drawnK_enter:drawnK orc dst ts U kd (some (.enter f args))=callD ts U dst kd (orc.call f args U):=rfl
variable {k₁ k₂:Fr->St->Option RR}
theorem condK_true:condK k₁ k₂ fr U (some (.bool true))=k₁ fr U:=rfl
theorem condK_false:condK k₁ k₂ fr U (some (.bool false))=k₂ fr U:=rfl
theorem blockK_some{id:Nat}{x:AX}:blockK id (some ⟨x,fr,U,lg⟩)=some ⟨x.inBlock id,fr,U,lg⟩:=rfl
theorem preO_some{r:RR}:preO l (some r)=some (r.pre l):=rfl
theorem thenR_norm:thenR (some ⟨.norm,fr,U,lg⟩) k₁=preO lg (k₁ fr U):=rfl
theorem thenR_exit{i:Nat}:thenR (some ⟨.exit i,fr,U,lg⟩) k₁=some ⟨.exit i,fr,U,lg⟩:=rfl
theorem thenR_goto{i:Nat}:thenR (some ⟨.goto i,fr,U,lg⟩) k₁=some ⟨.goto i,fr,U,lg⟩:=rfl
theorem thenR_ret:thenR (some ⟨.ret,fr,U,lg⟩) k₁=some ⟨.ret,fr,U,lg⟩:=rfl
theorem thenR_panic:thenR (some ⟨.panic c,fr,U,lg⟩) k₁=some ⟨.panic c,fr,U,lg⟩:=rfl
variable {kj:Job->Fr->St->Option RR} {b rest:Code}
theorem jumpK_some{i:Nat}:jumpK kj b i fr U lg (some rest)=preO lg (kj (.scope b rest) fr U):=rfl
theorem jumpK_none{i:Nat}:jumpK kj b i fr U lg none=some ⟨.goto i,fr,U,lg⟩:=rfl
theorem scopeK_goto{i:Nat}:scopeK kj b (some ⟨.goto i,fr,U,lg⟩)=jumpK kj b i fr U lg (findLabel b i):=rfl
theorem scopeK_norm:scopeK kj b (some ⟨.norm,fr,U,lg⟩)=some ⟨.norm,fr,U,lg⟩:=rfl
theorem scopeK_exit{i:Nat}:scopeK kj b (some ⟨.exit i,fr,U,lg⟩)=some ⟨.exit i,fr,U,lg⟩:=rfl
theorem scopeK_ret:scopeK kj b (some ⟨.ret,fr,U,lg⟩)=some ⟨.ret,fr,U,lg⟩:=rfl
theorem scopeK_panic:scopeK kj b (some ⟨.panic c,fr,U,lg⟩)=some ⟨.panic c,fr,U,lg⟩:=rfl
def regO:Option (AX×Fr×St×Log)->Option RR
 |some (x,fr',U',lg)=>some ⟨x,fr',U',lg⟩
 |none=>none
theorem regO_some{x:AX}:regO (some (x,fr,U,lg))=some ⟨x,fr,U,lg⟩:=rfl
def regD(B:List Nat)(fr:Fr)(k:Option RR):Option Dr->Option RR
 |some r=>if dynOk B r then some ⟨.norm,{fr with ts:=r.ts},r.U,r.lg⟩ else none
 |none=>k
theorem regD_some{B:List Nat}{r:Dr}{k:Option RR}:regD B fr k (some r)=if dynOk B r then some ⟨.norm,{fr with ts:=r.ts},r.U,r.lg⟩ else none:=rfl
theorem regionR_false{C:Cx}{B:List Nat}{ops:Array Oper}:regionR C orc B rnd false ops fr U=regO (runOps C orc rnd ops.toList ops.toList fr U []):=by
 unfold regionR regO;rfl
theorem regionR_true{C:Cx}{B:List Nat}{ops:Array Oper}:regionR C orc B rnd true ops fr U=regD B fr (stopR C orc B ops.toList fr U ops.toList.reverse) (runDrawn C orc ops.toList ops.toList fr.ts U):=by
 unfold regionR regD;rfl
variable {C:Cx} {ops rest:List Oper} {o:Oper} {bt:Nat->List Nat} {j:Nat} {a:Code}
theorem runOps_nil:runOps C orc rnd ops [] fr U lg=some (.norm,fr,U,lg):=rfl
theorem runOps_cons:runOps C orc rnd ops (o :: rest) fr U lg=opsK orc rnd o.dst fr U lg (runOps C orc rnd ops rest) (wantK C.T C.bodies o fr.ts U (wantedA ops o fr.ts)):=rfl
theorem runDrawn_nil:runDrawn C orc ops [] ts U=some ⟨[],ts,U,[]⟩:=rfl
theorem runDrawn_cons:runDrawn C orc ops (o :: rest) ts U=drawnK orc o.dst ts U (runDrawn C orc ops rest) (wantK C.T C.bodies o ts U (wantedA ops o ts)):=rfl
theorem run_loop_job:run C orc bt rnd (n+1) (.loop a) fr U=thenR (run C orc bt rnd n (.code a) fr U) (run C orc bt rnd n (.loop a)):=rfl
theorem run_scope_job:run C orc bt rnd (n+1) (.scope b a) fr U=scopeK (run C orc bt rnd n) b (run C orc bt rnd n (.code a) fr U):=rfl
theorem run_skip:run C orc bt rnd (n+1) (.code .skip) fr U=some ⟨.norm,fr,U,[]⟩:=rfl
theorem run_label:run C orc bt rnd (n+1) (.code (.label j)) fr U=some ⟨.norm,fr,U,[]⟩:=rfl
theorem run_exit:run C orc bt rnd (n+1) (.code (.exit j)) fr U=some ⟨.exit j,fr,U,[]⟩:=rfl
theorem run_goto:run C orc bt rnd (n+1) (.code (.goto j)) fr U=some ⟨.goto j,fr,U,[]⟩:=rfl
theorem run_ret:run C orc bt rnd (n+1) (.code .ret) fr U=some ⟨.ret,fr,U,[]⟩:=rfl
theorem run_seq:run C orc bt rnd (n+1) (.code (.seq a b)) fr U=thenR (run C orc bt rnd n (.code a) fr U) (run C orc bt rnd n (.code b)):=rfl
theorem run_cond{c:Operand}:run C orc bt rnd (n+1) (.code (.cond c a b)) fr U=condK (run C orc bt rnd n (.code a)) (run C orc bt rnd n (.code b)) fr U (ev fr.ts c):=rfl
theorem run_block:run C orc bt rnd (n+1) (.code (.block j a)) fr U=blockK j (run C orc bt rnd n (.code a) fr U):=rfl
theorem run_loop:run C orc bt rnd (n+1) (.code (.loop a)) fr U=run C orc bt rnd n (.loop a) fr U:=rfl
theorem run_scope:run C orc bt rnd (n+1) (.code (.scope a)) fr U=run C orc bt rnd n (.scope a a) fr U:=rfl
theorem run_region{ops:Array Oper}{draw:Bool}:run C orc bt rnd (n+1) (.code (.region j ops draw)) fr U=regionR C orc (bt j) rnd draw ops fr U:=rfl
end eqs
theorem nadd_le(n k:Nat):(n+(k+1)<=n)=False:=eq_false (by omega)
theorem nadd_lt(n k:Nat):(n+k<n)=False:=eq_false (by omega)
theorem nle_add(n k:Nat):(n<=n+k)=True:=eq_true (by omega)
theorem nlt_add(n k:Nat):(n<n+(k+1))=True:=eq_true (by omega)
theorem nadd_eq(n k:Nat):(n+(k+1)=n)=False:=eq_false (by omega)
theorem neq_add(n k:Nat):(n=n+(k+1))=False:=eq_false (by omega)
def pureK(U:St):Option Value->Option (AE×St×Log)
 |some v=>some (.ret v,U,[])
 |none=>none
theorem pureK_some{U:St}{v:Value}:pureK U (some v)=some (.ret v,U,[]):=rfl
def pureO(p:FuncId->List Value->Option Value):Orc:=⟨λf args U=>pureK U (p f args),λ_ _ _=>none⟩
theorem pureO_call{p:FuncId->List Value->Option Value}{f:FuncId}{args:List Value}{U:St}:(pureO p).call f args U=pureK U (p f args):=rfl
theorem pureO_ok{P:Program}{p:FuncId->List Value->Option Value}(h:∀f args v,p f args=some v->∀U,DCall P f args U (.ret v) U []):(pureO p).Ok P where
 call:=λf args U e U' lg hc=>by
  simp only[pureO]at hc
  unfold pureK at hc
  split at hc
  ·rename_i v hv;cases hc;exact h f args v hv U
  ·cases hc
 round:=λl args U e U' lg hc=>by simp [pureO]at hc
def hasBody(P:Program)(g:FuncId):Bool:=
 match P.funcs[g]? with
 | some fn => fn.body.isSome && !(fn.name == "runtime.NumGoroutine")
 |none=>false
theorem hasBody_spec{P:Program}{g:FuncId}(h:hasBody P g=true):HasBody P g:=by
 unfold hasBody at h
 split at h
 ·rename_i fn hf
  rw[Bool.and_eq_true]at h
  exact⟨fn,hf,h.1,by simpa using h.2⟩
 ·cases h
def cx(P:Program)(fl:TypeId->Option (List CK)):Cx:={T:={info:=λt=>P.info? t,flat:=fl},bodies:=hasBody P}
variable {P:Program} {fl:TypeId->Option (List CK)}
theorem cx_ok(h:∀t sh,fl t=some sh->FlatEq P t sh):(cx P fl).Ok P:=⟨⟨λ_ _ h=>h,h,λ_ _ h=>by cases h⟩,λ_ h=>hasBody_spec h⟩
theorem cx_info(t:TypeId):(cx P fl).T.info t=P.info? t:=rfl
theorem cx_flat(t:TypeId):(cx P fl).T.flat t=fl t:=rfl
theorem cx_und(t:TypeId):(cx P fl).T.und t=P.underlying t:=by
 unfold TT.und Program.underlying
 rw[cx_info]
 cases P.info? t with
 |none=>rfl
 |some i=>
  obtain⟨desc,str,size,bytes,hp,al,fal,zero,comp,meth⟩:=i
  cases desc<;>rfl
theorem cx_bodies{g : FuncId}{fn : Func}(h : P.funcs[g]? = some fn)(hb : (fn.body.isSome && !(fn.name == "runtime.NumGoroutine")) = true) : (cx P fl).bodies g = true := by
 show hasBody P g=true
 unfold hasBody
 rw[h]
 exact hb
theorem call_of_run(hC:(cx P fl).Ok P)(hm:P.follows .mixedOrders=true){f:FuncId}{fn:Func}{c:Code}{args:List Value}{U:St}{orc:Orc}(hO:orc.Ok P)(hf:P.funcs[f]?=some fn)(hb:fn.body=some c)(n:Nat)(bt:Nat->List Nat)(hs:statAll bt c=true){r:RR}{e:AE}
  (h:run (cx P fl) orc bt false n (.code c) (start args fn.ntmps) U=some r) (he:endsA (cx P fl).T fn.results.toList r=some e):DCall P f args U e r.U r.lg:=
 DCall.of_code hC.T ⟨hf,hb⟩ (run_sound hC hO hm n (.code c) _ _ _ hs h) he
end Go.Ab
