/- PortWorksSaid: part 6 of 8 of the proof that it returns true for every input and leaves its arguments as they were; no condition. -/
import Derived.Test.YtphmndfjmoacfaaGreatJPortWorksSaid4
import Derived.Test.YtphmndfjmoacfaaGreatJPortWorksSaid3
import Derived.Test.YtphmndfjmoacfaaGreatJPortWorksSaid2
set_option maxHeartbeats 6400000
set_option maxRecDepth 20000
set_option linter.unusedSimpArgs false
set_option linter.unusedVariables false
namespace Go.Ab
open Go.Proofs
variable {E:Type} [SE E]
theorem scanSorted_range{lt:E->E->Bool}{d:Array E}{b:Nat}:∀n i,b - i=n->i<=b->i<=Sort.scanSorted lt d b i/\Sort.scanSorted lt d b i<=b:=λn=>by
 induction n with
 |zero=>intro i h1 h2;rw[Sort.scanSorted.eq_def,if_neg (by simp;omega)];exact⟨Nat.le_refl _,h2⟩
 |succ n ih=>
  intro i h1 h2
  rw[Sort.scanSorted.eq_def]
  split
  ·have:=ih (i+1) (by omega) (by omega);omega
  ·omega
section
variable {U0:St} {k s cap:Nat} {g:FuncId} {ys:List Value} {lt:E->E->Bool} {p:E->Prop} {G:List Value}
def IPi(U0:St)(k n:Nat)(p:E->Prop)(G:List Value)(dv cv:Value)(lt:E->E->Bool)(a b:Nat)(D:Array E)(R:Bool)(m:Nat)(fr:Fr)(U:St):Prop:=
 ∃ts d',∃i:Nat,fr=⟨ts,[]⟩/\FQ ts dv cv a b i (5 - m)/\m<=5/\a<i/\i<=b/\SAt U0 k d' G p U/\d'.size=n/\Sort.partialIns lt a b m i d'=(D,R)
def EPi(U0:St)(k:Nat)(p:E->Prop)(G:List Value)(D:Array E)(R:Bool)(x:AX)(fr:Fr)(U:St):Prop:=
 fr.ds=[]/\fr.ts.length=141/\SAt U0 k D G p U/\(x=.exit 0/\R=false\/x=.ret/\lget fr.ts 8=.bool R)
theorem pis_loop(hc:CmpOk U0 k g ys lt p){n a b:Nat}(hab:a<=b)(hbn:b<=n)(hn:n<1000000){D:Array E}{R:Bool}:
  ∀m fr U,IPi U0 k n p G (sliceS k s n cap) (.func (.func g) ⟨[]⟩ ⟨ys⟩) lt a b D R m fr U->loopX Tryz.prog false (rE E pisB) fr U (endL (EPi U0 k p G D R) λz=>z=k\/U0.next<=z):=by
 refine loop_ind q0 (fE E 204) (st_loopOf (st_nthC (stG Tryz.func204 rfl rfl))) _ _ _ ?_
 rintro m fr U ⟨ts,d,i,rfl,F,hm5,hai,hib,H,hdn,hD⟩
 have e0:=F.t0
 have e1:=F.t1
 have e2:=F.t2
 have e3:=F.t3
 have e9:=F.t9
 have e10:=F.t10
 have el:=F.size
 simp only[sliceS]at e0
 match m,hm5,e10,hD with
 |0,_,e10,hD=>
  have c0:¬((5 - 0:Nat):Int)<5:=by omega
  obtain⟨rfl,rfl⟩:d=D/\false=R:=by simpa [Sort.partialIns]using hD
  simp only[go_sem,seval,-Nat.reduceSubDiff,opLen,undef,pisB,loopOf,nthC,Tryz.f204,Option.getD,e0,e1,e2,e3,e9,e10,el,c0]
  exact⟨rfl,by simp only[List.length_set,el],H,.inl ⟨rfl,rfl⟩⟩
 |m+1,hm5,e10,hD=>
  have c0:((5 - (m+1):Nat):Int)<5:=by omega
  subst hdn
  obtain⟨I,hI⟩:∃I,Sort.scanSorted lt d b i=I:=⟨_,rfl⟩
  have hIr:=scanSorted_range (lt:=lt) (d:=d) (b:=b) _ i rfl hib
  rw[hI]at hIr
  simp only[Sort.partialIns,hI]at hD
  have wu:IntKind.i64.wrap (((5 - (m+1):Nat):Int)+1)=((5 - m:Nat):Int):=by
   have:((5 - (m+1):Nat):Int)+1=((5 - m:Nat):Int):=by omega
   rw[this];exact wrapIN (by omega)
  by_cases hIb:I=b
  ·have b1:((I:Int)==(b:Int))=true:=by rw[hIb];exact beq_self_eq_true _
   rw[if_pos hIb]at hD
   obtain⟨rfl,rfl⟩:d=D/\true=R:=by simpa using hD
   simp only[go_sem,seval,-Nat.reduceSubDiff,opLen,undef,pisB,pisA,loopOf,nthC,blockOf,Tryz.f204,Option.getD,Int.toNat_natCast,e0,e1,e2,e3,e9,e10,el,c0]
   refine loop_then (qs_loop (s:=s) (cap:=cap) (G:=G) hc H (a:=a) (b:=b) (u:=5 - (m+1)) hbn (I:=I) _ _ _ ⟨_,i,rfl,⟨by simp only[List.length_set,el],by simp only[go_sem,seval,-Nat.reduceSubDiff,opLen,el,e0]<;>rfl,by simp only[go_sem,seval,-Nat.reduceSubDiff,opLen,el,e1],by simp only[go_sem,seval,-Nat.reduceSubDiff,opLen,el,e2],by simp only[go_sem,seval,-Nat.reduceSubDiff,opLen,el,e3],by simp only[go_sem,seval,-Nat.reduceSubDiff,opLen,el,e9],by simp only[go_sem,seval,-Nat.reduceSubDiff,opLen,el,e10]⟩,rfl,rfl,hai,hI⟩) ?_
   intro x fr' U1 lg1 hlg1 hB1 h
   obtain⟨rfl,rfl,ts1,rfl,F1⟩:=h
   obtain rfl:lg1=[]:=List.eq_nil_iff_forall_not_mem.2 λz hz=>hB1 z hz
   have e0f:=F1.t0
   have e1f:=F1.t1
   have e2f:=F1.t2
   have e3f:=F1.t3
   have e9f:=F1.t9
   have e10f:=F1.t10
   have elf:=F1.size
   simp only[sliceS]at e0f
   simp only[go_sem,seval,-Nat.reduceSubDiff,opLen,undef,pisB,pisA,loopOf,nthC,blockOf,Tryz.f204,Option.getD,Int.toNat_natCast,e0f,e1f,e2f,e3f,e9f,e10f,elf,b1]
   exact⟨rfl,by simp only[List.length_set,elf],H,.inr ⟨rfl,by simp only[go_sem,seval,-Nat.reduceSubDiff,opLen,elf]⟩⟩
  ·have b1:((I:Int)==(b:Int))=false:=by rw[beq_eq_false_iff_ne];omega
   rw[if_neg hIb]at hD
   have wb:IntKind.i64.wrap ((b:Int) - (a:Int))=((b - a:Nat):Int):=by
    have:(b:Int) - (a:Int)=((b - a:Nat):Int):=by omega
    rw[this];exact wrapIN (by omega)
   by_cases h50:b - a<50
   ·have b2:((b - a:Nat):Int)<50:=by omega
    rw[if_pos h50]at hD
    obtain⟨rfl,rfl⟩:d=D/\false=R:=by simpa using hD
    simp only[go_sem,seval,-Nat.reduceSubDiff,opLen,undef,pisB,pisA,loopOf,nthC,blockOf,Tryz.f204,Option.getD,Int.toNat_natCast,e0,e1,e2,e3,e9,e10,el,c0]
    refine loop_then (qs_loop (s:=s) (cap:=cap) (G:=G) hc H (a:=a) (b:=b) (u:=5 - (m+1)) hbn (I:=I) _ _ _ ⟨_,i,rfl,⟨by simp only[List.length_set,el],by simp only[go_sem,seval,-Nat.reduceSubDiff,opLen,el,e0]<;>rfl,by simp only[go_sem,seval,-Nat.reduceSubDiff,opLen,el,e1],by simp only[go_sem,seval,-Nat.reduceSubDiff,opLen,el,e2],by simp only[go_sem,seval,-Nat.reduceSubDiff,opLen,el,e3],by simp only[go_sem,seval,-Nat.reduceSubDiff,opLen,el,e9],by simp only[go_sem,seval,-Nat.reduceSubDiff,opLen,el,e10]⟩,rfl,rfl,hai,hI⟩) ?_
    intro x fr' U1 lg1 hlg1 hB1 h
    obtain⟨rfl,rfl,ts1,rfl,F1⟩:=h
    obtain rfl:lg1=[]:=List.eq_nil_iff_forall_not_mem.2 λz hz=>hB1 z hz
    have e0f:=F1.t0
    have e1f:=F1.t1
    have e2f:=F1.t2
    have e3f:=F1.t3
    have e9f:=F1.t9
    have e10f:=F1.t10
    have elf:=F1.size
    simp only[sliceS]at e0f
    simp only[go_sem,seval,-Nat.reduceSubDiff,opLen,undef,pisB,pisA,loopOf,nthC,blockOf,Tryz.f204,Option.getD,Int.toNat_natCast,e0f,e1f,e2f,e3f,e9f,e10f,elf,b1,b2,wb]
    exact⟨rfl,by simp only[List.length_set,elf],H,.inr ⟨rfl,by simp only[go_sem,seval,-Nat.reduceSubDiff,opLen,elf]⟩⟩
   ·have b2:¬((b - a:Nat):Int)<50:=by omega
    rw[if_neg h50]at hD
    have w1:IntKind.i64.wrap ((I:Int) - 1)=((I - 1:Nat):Int):=by
     have:(I:Int) - 1=((I - 1:Nat):Int):=by omega
     rw[this];exact wrapIN (by omega)
    have w2:IntKind.i64.wrap ((I:Int) - (a:Int))=((I - a:Nat):Int):=by
     have:(I:Int) - (a:Int)=((I - a:Nat):Int):=by omega
     rw[this];exact wrapIN (by omega)
    have w3:IntKind.i64.wrap ((b:Int) - (I:Int))=((b - I:Nat):Int):=by
     have:(b:Int) - (I:Int)=((b - I:Nat):Int):=by omega
     rw[this];exact wrapIN (by omega)
    have w4:IntKind.i64.wrap ((I:Int)+1)=((I+1:Nat):Int):=by
     have:(I:Int)+1=((I+1:Nat):Int):=by omega
     rw[this];exact wrapIN (by omega)
    have x1s:=arr_at (d:=d) (G:=G) (i:=I) (by omega)
    have x2s:=arr_at (d:=d) (G:=G) (i:=I - 1) (by omega)
    have l1s:(I)*wE E+wE E<=(cellsE (d).toList++G).length:=arr_fit (by first|omega|(simp;omega))
    have l2s:(I - 1)*wE E+wE E<=(cellsE (d).toList++G).length:=arr_fit (by first|omega|(simp;omega))
    have o1s:=arr_over (d:=d) (G:=G) (i:=I) (d)[I - 1]! (by omega)
    have o2s:=arr_over (d:=(d).setIfInBounds (I) (d)[I - 1]!) (G:=G) (i:=I - 1) (d)[I]! (by simp;omega)
    have l3s:(I - 1)*wE E+wE E<=(cellsE ((d).setIfInBounds (I) (d)[I - 1]!).toList++G).length:=arr_fit (by first|omega|(simp;omega))
    have p1s:(0:Int)<=((I:Nat):Int):=by omega
    have p2s:((I:Nat):Int)<(d.size:Int):=by omega
    have p3s:(0:Int)<=((I - 1:Nat):Int):=by omega
    have p4s:((I - 1:Nat):Int)<(d.size:Int):=by omega
    have g1:=H.get
    have nk:¬U.next<=k:=by have:=H.lt;have:=H.base.nx;omega
    have H1:=H.swp (i:=I) (j:=I - 1) (by omega) (by omega) (.cells (cellsE (d.setIfInBounds I d[I - 1]!).toList++G) false)
    obtain⟨d1,hd1⟩:∃d1,Sort.swp d I (I - 1)=d1:=⟨_,rfl⟩
    have hz1:d1.size=d.size:=by rw[<-hd1];exact swp_size
    rw[hd1]at H1 hD
    by_cases h3:I - a>=2
    ·by_cases h4:b - I>=2
     ·have b3:(2:Int)<=((I - a:Nat):Int):=by omega
      have b4:(2:Int)<=((b - I:Nat):Int):=by omega
      rw[if_pos h3,if_pos h4]at hD
      simp only[go_sem,seval,-Nat.reduceSubDiff,opLen,undef,pisB,pisA,loopOf,nthC,blockOf,Tryz.f204,Option.getD,Int.toNat_natCast,e0,e1,e2,e3,e9,e10,el,c0]
      refine loop_then (qs_loop (s:=s) (cap:=cap) (G:=G) hc H (a:=a) (b:=b) (u:=5 - (m+1)) hbn (I:=I) _ _ _ ⟨_,i,rfl,⟨by simp only[List.length_set,el],by simp only[go_sem,seval,-Nat.reduceSubDiff,opLen,el,e0]<;>rfl,by simp only[go_sem,seval,-Nat.reduceSubDiff,opLen,el,e1],by simp only[go_sem,seval,-Nat.reduceSubDiff,opLen,el,e2],by simp only[go_sem,seval,-Nat.reduceSubDiff,opLen,el,e3],by simp only[go_sem,seval,-Nat.reduceSubDiff,opLen,el,e9],by simp only[go_sem,seval,-Nat.reduceSubDiff,opLen,el,e10]⟩,rfl,rfl,hai,hI⟩) ?_
      intro x fr' U1 lg1 hlg1 hB1 h
      obtain⟨rfl,rfl,ts1,rfl,F1⟩:=h
      obtain rfl:lg1=[]:=List.eq_nil_iff_forall_not_mem.2 λz hz=>hB1 z hz
      have e0f:=F1.t0
      have e1f:=F1.t1
      have e2f:=F1.t2
      have e3f:=F1.t3
      have e9f:=F1.t9
      have e10f:=F1.t10
      have elf:=F1.size
      simp only[sliceS]at e0f
      simp only[go_sem,seval,-Nat.reduceSubDiff,opLen,undef,pisB,pisA,loopOf,nthC,blockOf,Tryz.f204,Option.getD,Int.toNat_natCast,e0f,e1f,e2f,e3f,e9f,e10f,elf,b1,b2,b3,wb,w1,w2,w4,g1,nk,x1s,x2s,l1s,l2s,o1s,o2s,l3s,p1s,p2s,p3s,p4s]
      generalize hUs:(U1.set k (AObj.cells (cellsE (d.setIfInBounds I d[I - 1]!).toList++G) false)).set k (AObj.cells (cellsE ((d.setIfInBounds I d[I - 1]!).setIfInBounds (I - 1) d[I]!).toList++G) false)=Us at H1 ⊢
      clear hUs
      refine loop_then (qdown_loop (s:=s) (n:=d.size) (cap:=cap) (G:=G) hc (a:=a) (b:=b) (u:=5 - (m+1)) (i:=I) (D:=Sort.shiftDown lt (I - 1) d1) hbn hn (I - 1) _ _ ⟨_,d1,I - 1,rfl,⟨by simp only[List.length_set,elf],by simp only[go_sem,seval,-Nat.reduceSubDiff,opLen,elf,e0f]<;>rfl,by simp only[go_sem,seval,-Nat.reduceSubDiff,opLen,elf,e1f],by simp only[go_sem,seval,-Nat.reduceSubDiff,opLen,elf,e2f],by simp only[go_sem,seval,-Nat.reduceSubDiff,opLen,elf,e3f],by simp only[go_sem,seval,-Nat.reduceSubDiff,opLen,elf,e9f],by simp only[go_sem,seval,-Nat.reduceSubDiff,opLen,elf,e10f]⟩,by simp only[go_sem,seval,-Nat.reduceSubDiff,opLen,elf],H1,hz1,rfl,by omega,rfl⟩) ?_
      intro x fr' U2 lg2 hlg2 hB2 h
      obtain⟨rfl,ts2,rfl,F2,H2,hz2⟩:=h
      have e0g:=F2.t0
      have e1g:=F2.t1
      have e2g:=F2.t2
      have e3g:=F2.t3
      have e9g:=F2.t9
      have e10g:=F2.t10
      have elg:=F2.size
      simp only[sliceS]at e0g
      simp only[go_sem,seval,-Nat.reduceSubDiff,opLen,undef,pisB,pisA,loopOf,nthC,blockOf,Tryz.f204,Option.getD,Int.toNat_natCast,e0g,e1g,e2g,e3g,e9g,e10g,elg,b4,w3,w4]
      refine loop_then (qup_loop (s:=s) (n:=d.size) (cap:=cap) (G:=G) hc (a:=a) (b:=b) (u:=5 - (m+1)) (i:=I) (D:=Sort.shiftUp lt b (I+1) (Sort.shiftDown lt (I - 1) d1)) hbn hn (b - (I+1)) _ _ ⟨_,(Sort.shiftDown lt (I - 1) d1),I+1,rfl,⟨by simp only[List.length_set,elg],by simp only[go_sem,seval,-Nat.reduceSubDiff,opLen,elg,e0g]<;>rfl,by simp only[go_sem,seval,-Nat.reduceSubDiff,opLen,elg,e1g],by simp only[go_sem,seval,-Nat.reduceSubDiff,opLen,elg,e2g],by simp only[go_sem,seval,-Nat.reduceSubDiff,opLen,elg,e3g],by simp only[go_sem,seval,-Nat.reduceSubDiff,opLen,elg,e9g],by simp only[go_sem,seval,-Nat.reduceSubDiff,opLen,elg,e10g]⟩,by simp only[go_sem,seval,-Nat.reduceSubDiff,opLen,elg],H2,hz2,rfl,by omega,rfl⟩) ?_
      intro x fr' U3 lg3 hlg3 hB3 h
      obtain⟨rfl,ts3,rfl,F3,H3,hz3⟩:=h
      have e0h:=F3.t0
      have e1h:=F3.t1
      have e2h:=F3.t2
      have e3h:=F3.t3
      have e9h:=F3.t9
      have e10h:=F3.t10
      have elh:=F3.size
      simp only[sliceS]at e0h
      simp only[go_sem,seval,-Nat.reduceSubDiff,opLen,undef,pisB,pisA,loopOf,nthC,blockOf,Tryz.f204,Option.getD,Int.toNat_natCast,e0h,e1h,e2h,e3h,e9h,e10h,elh,wu]
      refine⟨?_,m,by omega,_,(Sort.shiftUp lt b (I+1) (Sort.shiftDown lt (I - 1) d1)),I,rfl,?_,by omega,by omega,by omega,H3,hz3,hD⟩
      ·first|exact⟨.inl trivial,.inl trivial,λz hz=>hz.elim (hB2 z) (hB3 z)⟩|exact⟨.inl trivial,.inl trivial,hB2⟩|exact⟨.inl trivial,.inl trivial,hB3⟩|exact .inl trivial
      ·exact⟨by simp only[List.length_set,elh],by simp only[go_sem,seval,-Nat.reduceSubDiff,opLen,elh,e0h]<;>rfl,by simp only[go_sem,seval,-Nat.reduceSubDiff,opLen,elh,e1h],by simp only[go_sem,seval,-Nat.reduceSubDiff,opLen,elh,e2h],by simp only[go_sem,seval,-Nat.reduceSubDiff,opLen,elh,e3h],by simp only[go_sem,seval,-Nat.reduceSubDiff,opLen,elh,e9h],by simp only[go_sem,seval,-Nat.reduceSubDiff,opLen,elh,e10h,wu]⟩
     ·have b3:(2:Int)<=((I - a:Nat):Int):=by omega
      have b4:¬(2:Int)<=((b - I:Nat):Int):=by omega
      rw[if_pos h3,if_neg h4]at hD
      simp only[go_sem,seval,-Nat.reduceSubDiff,opLen,undef,pisB,pisA,loopOf,nthC,blockOf,Tryz.f204,Option.getD,Int.toNat_natCast,e0,e1,e2,e3,e9,e10,el,c0]
      refine loop_then (qs_loop (s:=s) (cap:=cap) (G:=G) hc H (a:=a) (b:=b) (u:=5 - (m+1)) hbn (I:=I) _ _ _ ⟨_,i,rfl,⟨by simp only[List.length_set,el],by simp only[go_sem,seval,-Nat.reduceSubDiff,opLen,el,e0]<;>rfl,by simp only[go_sem,seval,-Nat.reduceSubDiff,opLen,el,e1],by simp only[go_sem,seval,-Nat.reduceSubDiff,opLen,el,e2],by simp only[go_sem,seval,-Nat.reduceSubDiff,opLen,el,e3],by simp only[go_sem,seval,-Nat.reduceSubDiff,opLen,el,e9],by simp only[go_sem,seval,-Nat.reduceSubDiff,opLen,el,e10]⟩,rfl,rfl,hai,hI⟩) ?_
      intro x fr' U1 lg1 hlg1 hB1 h
      obtain⟨rfl,rfl,ts1,rfl,F1⟩:=h
      obtain rfl:lg1=[]:=List.eq_nil_iff_forall_not_mem.2 λz hz=>hB1 z hz
      have e0f:=F1.t0
      have e1f:=F1.t1
      have e2f:=F1.t2
      have e3f:=F1.t3
      have e9f:=F1.t9
      have e10f:=F1.t10
      have elf:=F1.size
      simp only[sliceS]at e0f
      simp only[go_sem,seval,-Nat.reduceSubDiff,opLen,undef,pisB,pisA,loopOf,nthC,blockOf,Tryz.f204,Option.getD,Int.toNat_natCast,e0f,e1f,e2f,e3f,e9f,e10f,elf,b1,b2,b3,wb,w1,w2,w4,g1,nk,x1s,x2s,l1s,l2s,o1s,o2s,l3s,p1s,p2s,p3s,p4s]
      generalize hUs:(U1.set k (AObj.cells (cellsE (d.setIfInBounds I d[I - 1]!).toList++G) false)).set k (AObj.cells (cellsE ((d.setIfInBounds I d[I - 1]!).setIfInBounds (I - 1) d[I]!).toList++G) false)=Us at H1 ⊢
      clear hUs
      refine loop_then (qdown_loop (s:=s) (n:=d.size) (cap:=cap) (G:=G) hc (a:=a) (b:=b) (u:=5 - (m+1)) (i:=I) (D:=Sort.shiftDown lt (I - 1) d1) hbn hn (I - 1) _ _ ⟨_,d1,I - 1,rfl,⟨by simp only[List.length_set,elf],by simp only[go_sem,seval,-Nat.reduceSubDiff,opLen,elf,e0f]<;>rfl,by simp only[go_sem,seval,-Nat.reduceSubDiff,opLen,elf,e1f],by simp only[go_sem,seval,-Nat.reduceSubDiff,opLen,elf,e2f],by simp only[go_sem,seval,-Nat.reduceSubDiff,opLen,elf,e3f],by simp only[go_sem,seval,-Nat.reduceSubDiff,opLen,elf,e9f],by simp only[go_sem,seval,-Nat.reduceSubDiff,opLen,elf,e10f]⟩,by simp only[go_sem,seval,-Nat.reduceSubDiff,opLen,elf],H1,hz1,rfl,by omega,rfl⟩) ?_
      intro x fr' U2 lg2 hlg2 hB2 h
      obtain⟨rfl,ts2,rfl,F2,H2,hz2⟩:=h
      have e0g:=F2.t0
      have e1g:=F2.t1
      have e2g:=F2.t2
      have e3g:=F2.t3
      have e9g:=F2.t9
      have e10g:=F2.t10
      have elg:=F2.size
      simp only[sliceS]at e0g
      simp only[go_sem,seval,-Nat.reduceSubDiff,opLen,undef,pisB,pisA,loopOf,nthC,blockOf,Tryz.f204,Option.getD,Int.toNat_natCast,e0g,e1g,e2g,e3g,e9g,e10g,elg,b4,w3,w4]
      try simp only[go_sem,seval,-Nat.reduceSubDiff,opLen,undef,pisB,pisA,loopOf,nthC,blockOf,Tryz.f204,Option.getD,Int.toNat_natCast,e0g,e1g,e2g,e3g,e9g,e10g,elg,wu]
      refine⟨?_,m,by omega,_,(Sort.shiftDown lt (I - 1) d1),I,rfl,?_,by omega,by omega,by omega,H2,hz2,hD⟩
      ·first|exact⟨.inl trivial,.inl trivial,λz hz=>hz.elim (hB2 z) (hB3 z)⟩|exact⟨.inl trivial,.inl trivial,hB2⟩|exact⟨.inl trivial,.inl trivial,hB3⟩|exact .inl trivial
      ·exact⟨by simp only[List.length_set,elg],by simp only[go_sem,seval,-Nat.reduceSubDiff,opLen,elg,e0g]<;>rfl,by simp only[go_sem,seval,-Nat.reduceSubDiff,opLen,elg,e1g],by simp only[go_sem,seval,-Nat.reduceSubDiff,opLen,elg,e2g],by simp only[go_sem,seval,-Nat.reduceSubDiff,opLen,elg,e3g],by simp only[go_sem,seval,-Nat.reduceSubDiff,opLen,elg,e9g],by simp only[go_sem,seval,-Nat.reduceSubDiff,opLen,elg,e10g,wu]⟩
    ·by_cases h4:b - I>=2
     ·have b3:¬(2:Int)<=((I - a:Nat):Int):=by omega
      have b4:(2:Int)<=((b - I:Nat):Int):=by omega
      rw[if_neg h3,if_pos h4]at hD
      simp only[go_sem,seval,-Nat.reduceSubDiff,opLen,undef,pisB,pisA,loopOf,nthC,blockOf,Tryz.f204,Option.getD,Int.toNat_natCast,e0,e1,e2,e3,e9,e10,el,c0]
      refine loop_then (qs_loop (s:=s) (cap:=cap) (G:=G) hc H (a:=a) (b:=b) (u:=5 - (m+1)) hbn (I:=I) _ _ _ ⟨_,i,rfl,⟨by simp only[List.length_set,el],by simp only[go_sem,seval,-Nat.reduceSubDiff,opLen,el,e0]<;>rfl,by simp only[go_sem,seval,-Nat.reduceSubDiff,opLen,el,e1],by simp only[go_sem,seval,-Nat.reduceSubDiff,opLen,el,e2],by simp only[go_sem,seval,-Nat.reduceSubDiff,opLen,el,e3],by simp only[go_sem,seval,-Nat.reduceSubDiff,opLen,el,e9],by simp only[go_sem,seval,-Nat.reduceSubDiff,opLen,el,e10]⟩,rfl,rfl,hai,hI⟩) ?_
      intro x fr' U1 lg1 hlg1 hB1 h
      obtain⟨rfl,rfl,ts1,rfl,F1⟩:=h
      obtain rfl:lg1=[]:=List.eq_nil_iff_forall_not_mem.2 λz hz=>hB1 z hz
      have e0f:=F1.t0
      have e1f:=F1.t1
      have e2f:=F1.t2
      have e3f:=F1.t3
      have e9f:=F1.t9
      have e10f:=F1.t10
      have elf:=F1.size
      simp only[sliceS]at e0f
      simp only[go_sem,seval,-Nat.reduceSubDiff,opLen,undef,pisB,pisA,loopOf,nthC,blockOf,Tryz.f204,Option.getD,Int.toNat_natCast,e0f,e1f,e2f,e3f,e9f,e10f,elf,b1,b2,b3,b4,w3,wb,w1,w2,w4,g1,nk,x1s,x2s,l1s,l2s,o1s,o2s,l3s,p1s,p2s,p3s,p4s]
      generalize hUs:(U1.set k (AObj.cells (cellsE (d.setIfInBounds I d[I - 1]!).toList++G) false)).set k (AObj.cells (cellsE ((d.setIfInBounds I d[I - 1]!).setIfInBounds (I - 1) d[I]!).toList++G) false)=Us at H1 ⊢
      clear hUs
      refine loop_then (qup_loop (s:=s) (n:=d.size) (cap:=cap) (G:=G) hc (a:=a) (b:=b) (u:=5 - (m+1)) (i:=I) (D:=Sort.shiftUp lt b (I+1) d1) hbn hn (b - (I+1)) _ _ ⟨_,d1,I+1,rfl,⟨by simp only[List.length_set,elf],by simp only[go_sem,seval,-Nat.reduceSubDiff,opLen,elf,e0f]<;>rfl,by simp only[go_sem,seval,-Nat.reduceSubDiff,opLen,elf,e1f],by simp only[go_sem,seval,-Nat.reduceSubDiff,opLen,elf,e2f],by simp only[go_sem,seval,-Nat.reduceSubDiff,opLen,elf,e3f],by simp only[go_sem,seval,-Nat.reduceSubDiff,opLen,elf,e9f],by simp only[go_sem,seval,-Nat.reduceSubDiff,opLen,elf,e10f]⟩,by simp only[go_sem,seval,-Nat.reduceSubDiff,opLen,elf],H1,hz1,rfl,by omega,rfl⟩) ?_
      intro x fr' U3 lg3 hlg3 hB3 h
      obtain⟨rfl,ts3,rfl,F3,H3,hz3⟩:=h
      have e0h:=F3.t0
      have e1h:=F3.t1
      have e2h:=F3.t2
      have e3h:=F3.t3
      have e9h:=F3.t9
      have e10h:=F3.t10
      have elh:=F3.size
      simp only[sliceS]at e0h
      simp only[go_sem,seval,-Nat.reduceSubDiff,opLen,undef,pisB,pisA,loopOf,nthC,blockOf,Tryz.f204,Option.getD,Int.toNat_natCast,e0h,e1h,e2h,e3h,e9h,e10h,elh,wu]
      refine⟨?_,m,by omega,_,(Sort.shiftUp lt b (I+1) d1),I,rfl,?_,by omega,by omega,by omega,H3,hz3,hD⟩
      ·first|exact⟨.inl trivial,.inl trivial,λz hz=>hz.elim (hB2 z) (hB3 z)⟩|exact⟨.inl trivial,.inl trivial,hB2⟩|exact⟨.inl trivial,.inl trivial,hB3⟩|exact .inl trivial
      ·exact⟨by simp only[List.length_set,elh],by simp only[go_sem,seval,-Nat.reduceSubDiff,opLen,elh,e0h]<;>rfl,by simp only[go_sem,seval,-Nat.reduceSubDiff,opLen,elh,e1h],by simp only[go_sem,seval,-Nat.reduceSubDiff,opLen,elh,e2h],by simp only[go_sem,seval,-Nat.reduceSubDiff,opLen,elh,e3h],by simp only[go_sem,seval,-Nat.reduceSubDiff,opLen,elh,e9h],by simp only[go_sem,seval,-Nat.reduceSubDiff,opLen,elh,e10h,wu]⟩
     ·have b3:¬(2:Int)<=((I - a:Nat):Int):=by omega
      have b4:¬(2:Int)<=((b - I:Nat):Int):=by omega
      rw[if_neg h3,if_neg h4]at hD
      simp only[go_sem,seval,-Nat.reduceSubDiff,opLen,undef,pisB,pisA,loopOf,nthC,blockOf,Tryz.f204,Option.getD,Int.toNat_natCast,e0,e1,e2,e3,e9,e10,el,c0]
      refine loop_then (qs_loop (s:=s) (cap:=cap) (G:=G) hc H (a:=a) (b:=b) (u:=5 - (m+1)) hbn (I:=I) _ _ _ ⟨_,i,rfl,⟨by simp only[List.length_set,el],by simp only[go_sem,seval,-Nat.reduceSubDiff,opLen,el,e0]<;>rfl,by simp only[go_sem,seval,-Nat.reduceSubDiff,opLen,el,e1],by simp only[go_sem,seval,-Nat.reduceSubDiff,opLen,el,e2],by simp only[go_sem,seval,-Nat.reduceSubDiff,opLen,el,e3],by simp only[go_sem,seval,-Nat.reduceSubDiff,opLen,el,e9],by simp only[go_sem,seval,-Nat.reduceSubDiff,opLen,el,e10]⟩,rfl,rfl,hai,hI⟩) ?_
      intro x fr' U1 lg1 hlg1 hB1 h
      obtain⟨rfl,rfl,ts1,rfl,F1⟩:=h
      obtain rfl:lg1=[]:=List.eq_nil_iff_forall_not_mem.2 λz hz=>hB1 z hz
      have e0f:=F1.t0
      have e1f:=F1.t1
      have e2f:=F1.t2
      have e3f:=F1.t3
      have e9f:=F1.t9
      have e10f:=F1.t10
      have elf:=F1.size
      simp only[sliceS]at e0f
      simp only[go_sem,seval,-Nat.reduceSubDiff,opLen,undef,pisB,pisA,loopOf,nthC,blockOf,Tryz.f204,Option.getD,Int.toNat_natCast,e0f,e1f,e2f,e3f,e9f,e10f,elf,b1,b2,b3,b4,w3,wb,w1,w2,w4,g1,nk,x1s,x2s,l1s,l2s,o1s,o2s,l3s,p1s,p2s,p3s,p4s]
      generalize hUs:(U1.set k (AObj.cells (cellsE (d.setIfInBounds I d[I - 1]!).toList++G) false)).set k (AObj.cells (cellsE ((d.setIfInBounds I d[I - 1]!).setIfInBounds (I - 1) d[I]!).toList++G) false)=Us at H1 ⊢
      clear hUs
      try simp only[go_sem,seval,-Nat.reduceSubDiff,opLen,undef,pisB,pisA,loopOf,nthC,blockOf,Tryz.f204,Option.getD,Int.toNat_natCast,e0f,e1f,e2f,e3f,e9f,e10f,elf,wu]
      refine⟨?_,m,by omega,_,d1,I,rfl,?_,by omega,by omega,by omega,H1,hz1,hD⟩
      ·first|exact⟨.inl trivial,.inl trivial,λz hz=>hz.elim (hB2 z) (hB3 z)⟩|exact⟨.inl trivial,.inl trivial,hB2⟩|exact⟨.inl trivial,.inl trivial,hB3⟩|exact .inl trivial
      ·exact⟨by simp only[List.length_set,elf],by simp only[go_sem,seval,-Nat.reduceSubDiff,opLen,elf,e0f]<;>rfl,by simp only[go_sem,seval,-Nat.reduceSubDiff,opLen,elf,e1f],by simp only[go_sem,seval,-Nat.reduceSubDiff,opLen,elf,e2f],by simp only[go_sem,seval,-Nat.reduceSubDiff,opLen,elf,e3f],by simp only[go_sem,seval,-Nat.reduceSubDiff,opLen,elf,e9f],by simp only[go_sem,seval,-Nat.reduceSubDiff,opLen,elf,e10f,wu]⟩
theorem pis_call(hc:CmpOk U0 k g ys lt p){a b:Nat}{d:Array E}{U:St}(H:SAt U0 k d G p U)(hab:a<b)(hbn:b<=d.size):
  callX Tryz.prog (fE E 204) [sliceS k s d.size cap,.int .i64 a,.int .i64 b,.func (.func g) ⟨[]⟩ ⟨ys⟩] U (SortE U0 k G p (.bool (Sort.partialInsertionSort lt d a b).2) (Sort.partialInsertionSort lt d a b).1):=by
 have hsm:=H.small
 have w1:IntKind.i64.wrap ((a:Int)+1)=((a+1:Nat):Int):=by
  have:(a:Int)+1=((a+1:Nat):Int):=by omega
  rw[this];exact wrapIN (by omega)
 obtain⟨D,hD⟩:∃D,D=(Sort.partialInsertionSort lt d a b).1:=⟨_,rfl⟩
 obtain⟨R,hR⟩:∃R,R=(Sort.partialInsertionSort lt d a b).2:=⟨_,rfl⟩
 rw[<-hD,<-hR]
 refine enterE (E:=E) (p:=q0) Tryz.func204 rfl rfl ?_
 simp only[go_sem,seval,-Nat.reduceSubDiff,opLen,undef,sliceS,Tryz.f204,w1]
 refine loop_then (pis_loop (s:=s) (n:=d.size) (cap:=cap) (G:=G) hc (a:=a) (b:=b) (by omega) hbn hsm (D:=D) (R:=R) 5 _ _ ⟨_,d,a+1,rfl,⟨rfl,rfl,rfl,rfl,rfl,rfl,rfl⟩,by omega,by omega,by omega,H,rfl,by rw[hD,hR];rfl⟩) ?_
 intro x fr' U' lg hlg hB h
 obtain⟨hds,hlen,H',h⟩:=h
 obtain⟨ts',ds'⟩:=fr'
 simp only at hds hlen h
 subst hds
 rcases h with⟨rfl,rfl⟩|⟨rfl,h8⟩
 ·simp only[go_sem,seval,-Nat.reduceSubDiff,opLen,undef,hlen]
  exact⟨rfl,hB,H'⟩
 ·simp only[go_sem,seval,-Nat.reduceSubDiff,opLen,undef,hlen,h8]
  exact⟨rfl,hB,H'⟩
end
end Go.Ab
namespace Go.Ab
open Go.Proofs
variable {E:Type} [SE E]
structure FZ(ts:List Value)(dv cv:Value)(a b limit:Nat):Prop where
 size:ts.length=148
 t0:lget ts 0=dv
 t1:lget ts 1=.int .i64 a
 t2:lget ts 2=.int .i64 b
 t3:lget ts 3=.int .i64 limit
 t4:lget ts 4=cv
 t10:∃w,lget ts 10=.bool w
 t11:∃w,lget ts 11=.bool w
noncomputable def pdqL:Code:=loopOf (nthC 2 (Tryz.f190.body.getD .skip))
noncomputable def pdqX:Code:=blockOf pdqL
noncomputable def pdqT1:Code:=dropC 4 pdqX
noncomputable def pdqT2:Code:=dropC 6 pdqX
noncomputable def pdqT3:Code:=dropC 7 pdqX
noncomputable def pdqT4:Code:=dropC 8 pdqX
theorem pdqL_is:pdqL=Code.block 1 ((nthC 0 pdqX).seq ((nthC 1 pdqX).seq ((nthC 2 pdqX).seq ((nthC 3 pdqX).seq pdqT1)))):=by rfl
theorem pdqT1_is:pdqT1=(nthC 4 pdqX).seq ((nthC 5 pdqX).seq pdqT2):=by rfl
theorem pdqT2_is:pdqT2=(nthC 6 pdqX).seq pdqT3:=by rfl
theorem pdqT3_is:pdqT3=(nthC 7 pdqX).seq pdqT4:=by rfl
def PdqR(U0:St)(k:Nat)(G:List Value)(p:E->Prop)(lt:E->E->Bool)(a b:Nat)(d:Array E)(e:AE)(U':St)(lg:Log):Prop:=
 e=.ret (.tuple ⟨[]⟩)/\∃D,SortR U0 k G p D U' lg/\Sort.PermIn a b d D/\Sort.SortedIn lt a b D
def PdqOk(U0:St)(k s n cap:Nat)(g:FuncId)(ys:List Value)(lt:E->E->Bool)(p:E->Prop)(G:List Value)(N:Nat):Prop:=
 ∀(a b limit:Nat) (d:Array E) (U:St),b - a<N->b - a<256->limit<1000->SAt U0 k d G p U->d.size=n->a<=b->b<=n->Sort.Below lt a b d->
  callX Tryz.prog (fE E 190) [sliceS k s n cap,.int .i64 a,.int .i64 b,.int .i64 limit,.func (.func g) ⟨[]⟩ ⟨ys⟩] U (PdqR U0 k G p lt a b d)
section
variable {U0:St} {k s n cap:Nat} {g:FuncId} {ys:List Value} {lt:E->E->Bool} {p:E->Prop} {G:List Value}
def PdqN(U0:St)(k s n cap:Nat)(g:FuncId)(ys:List Value)(lt:E->E->Bool)(p:E->Prop)(G:List Value)(a b limit:Nat)(d:Array E)(ts':List Value)(U':St)(lg:Log):Prop:=
 ∃d',∃a' b':Nat,FZ ts' (sliceS k s n cap) (.func (.func g) ⟨[]⟩ ⟨ys⟩) a' b' limit/\SAt U0 k d' G p U'/\d'.size=n/\a'<=b'/\b'<=n/\b' - a'<b - a/\Sort.Below lt a' b' d'/\
  (∀R,Sort.PermIn a' b' d' R->Sort.SortedIn lt a' b' R->Sort.PermIn a b d R/\Sort.SortedIn lt a b R)/\∀z∈lg,z=k\/U0.next<=z
def PdqD(U0:St)(k:Nat)(G:List Value)(p:E->Prop)(lt:E->E->Bool)(a b:Nat)(d:Array E)(U':St)(lg:Log):Prop:=
 ∃D,SAt U0 k D G p U'/\Sort.PermIn a b d D/\Sort.SortedIn lt a b D/\∀z∈lg,z=k\/U0.next<=z
theorem PdqN.of{a b limit:Nat}{d d1:Array E}{ts':List Value}{U':St}{lg lg':Log}(hp:Sort.PermIn a b d d1)(hl:∀z∈lg',z∈lg\/z=k\/U0.next<=z)(h:PdqN U0 k s n cap g ys lt p G a b limit d1 ts' U' lg):PdqN U0 k s n cap g ys lt p G a b limit d ts' U' lg':=by
 obtain⟨d',a',b',h1,h2,h3,h4,h5,h6,h7,h8,h9⟩:=h
 exact⟨d',a',b',h1,h2,h3,h4,h5,h6,h7,λR hR hs=>⟨Sort.permIn_trans _ _ _ _ _ hp (h8 R hR hs).1,(h8 R hR hs).2⟩,λz hz=>(hl z hz).elim (h9 z) id⟩
theorem PdqD.of{a b:Nat}{d d1:Array E}{U':St}{lg lg':Log}(hp:Sort.PermIn a b d d1)(hl:∀z∈lg',z∈lg\/z=k\/U0.next<=z)(h:PdqD U0 k G p lt a b d1 U' lg):PdqD U0 k G p lt a b d U' lg':=by
 obtain⟨D,h1,h2,h3,h9⟩:=h
 exact⟨D,h1,Sort.permIn_trans _ _ _ _ _ hp h2,h3,λz hz=>(hl z hz).elim (h9 z) id⟩
theorem pdq_T4(hc:CmpOk U0 k g ys lt p)(hw:Sort.SWO lt){N a b limit pivot:Nat}{ts:List Value}{U:St}{d:Array E}(hN:b - a<=N)(F:FZ ts (sliceS k s n cap) (.func (.func g) ⟨[]⟩ ⟨ys⟩) a b limit)(e12:lget ts 12=.int .i64 ((b - a:Nat):Int))(e13:lget ts 13=.int .i64 pivot)(H:SAt U0 k d G p U)(hdn:d.size=n)(hn:n<500000)(hap:a<=pivot)(hpb:pivot<b)(hbn:b<=n)(h256:b - a<256)(hlim:limit<1000)(hB:Sort.Below lt a b d)(ih:PdqOk U0 k s n cap g ys lt p G N)(K:RR->Prop)
  (hK:∀ts' U' lg,PdqN U0 k s n cap g ys lt p G a b limit d ts' U' lg->K ⟨.norm,⟨ts',[]⟩,U',lg⟩):
  wp (cP Tryz.prog) q0 (btAll (fE E 190)) false (rE E pdqT4) ⟨ts,[]⟩ U K:=by
 have e0:=F.t0
 have e1:=F.t1
 have e2:=F.t2
 have e3:=F.t3
 have e4:=F.t4
 obtain⟨wB,e10⟩:=F.t10
 obtain⟨wP,e11⟩:=F.t11
 have el:=F.size
 have hsm:=H.small
 simp only[sliceS]at e0
 subst hdn
 obtain⟨⟨mid,ap,d4⟩,hx⟩:∃x,Sort.partition lt d a b pivot=x:=⟨_,rfl⟩
 have hpc:=part_call (s:=s) (cap:=cap) hc H hap hpb hbn
 rw[hx]at hpc
 simp only[sliceS]at hpc
 obtain⟨g1,g2,hs4,hBa,hBr,hleft,hright⟩:=Sort.round_part hw (Sort.partition_holds lt) hap hpb hbn hB hx
 have nz:¬(8:Int)=0:=by decide
 obtain⟨q,hq⟩:∃q,q=(b - a) / 8:=⟨_,rfl⟩
 have t1:IntKind.i64.wrap (((b - a:Nat):Int).tdiv 8)=(q:Int):=by
  rw[Int.tdiv_eq_ediv_of_nonneg (by omega),hq]
  have:((b - a:Nat):Int) / 8=(((b - a) / 8:Nat):Int):=by omega
  rw[this];exact wrapIN (by omega)
 have w1:IntKind.i64.wrap ((mid:Int) - (a:Int))=((mid - a:Nat):Int):=by
  have:(mid:Int) - (a:Int)=((mid - a:Nat):Int):=by omega
  rw[this];exact wrapIN (by omega)
 have w2:IntKind.i64.wrap ((b:Int) - (mid:Int))=((b - mid:Nat):Int):=by
  have:(b:Int) - (mid:Int)=((b - mid:Nat):Int):=by omega
  rw[this];exact wrapIN (by omega)
 have w3:IntKind.i64.wrap ((mid:Int)+1)=((mid+1:Nat):Int):=by
  have:(mid:Int)+1=((mid+1:Nat):Int):=by omega
  rw[this];exact wrapIN (by omega)
 by_cases hlr:mid - a<b - mid
 ·have c0:((mid - a:Nat):Int)<((b - mid:Nat):Int):=by omega
  obtain⟨w,hwd⟩:∃w,decide ((q:Int)<=((mid - a:Nat):Int))=w:=⟨_,rfl⟩
  simp only[go_sem,seval,opLen,undef,pdqX,pdqL,loopOf,nthC,dropC,blockOf,Tryz.f190,Option.getD,Int.toNat_natCast,pdqT4,e0,e1,e2,e3,e4,e10,e11,el,e12,e13]
  refine callX.hidE hpc ?_
  intro e U1 lg1 hlg1 hA
  obtain⟨rfl,hB1,H1⟩:=hA
  have hrec:=ih a mid limit d4 U1 (by omega) (by omega) hlim H1 hs4 (by omega) (by omega) hBa
  simp only[sliceS]at hrec
  refine⟨?_⟩
  simp only[go_sem,seval,opLen,undef,pdqX,pdqL,loopOf,nthC,dropC,blockOf,Tryz.f190,Option.getD,Int.toNat_natCast,e0,e1,e2,e3,e4,e10,e11,el,e12,e13,w1,w2,w3,t1,nz,c0,hwd]
  refine callX.hidE hrec ?_
  intro e U2 lg2 hlg2 hA
  obtain⟨rfl,D,⟨hB2,H2⟩,hP,hS⟩:=hA
  have hsz:D.size=d.size:=hP.1.trans hs4
  refine⟨?_⟩
  simp only[go_sem,seval,opLen,undef,pdqX,pdqL,loopOf,nthC,dropC,blockOf,Tryz.f190,Option.getD,Int.toNat_natCast,e0,e1,e2,e3,e4,e10,e11,el,e12,e13,w1,w2,w3,t1,nz,c0,hwd]
  refine hK _ _ _ ⟨D,mid+1,b,⟨by simp only[List.length_set,el],by simp only[go_sem,seval,opLen,el,e0]<;>rfl,by simp only[go_sem,seval,opLen,el,w3],by simp only[go_sem,seval,opLen,el,e2],by simp only[go_sem,seval,opLen,el,e3],by simp only[go_sem,seval,opLen,el,e4],⟨w,by simp only[go_sem,seval,opLen,el]⟩,⟨ap,by simp only[go_sem,seval,opLen,el]⟩⟩,H2,hsz,by omega,by omega,by omega,(hleft D hP hS).1,(hleft D hP hS).2,?_⟩
  intro z hz
  simp only[List.mem_append,List.mem_cons,List.not_mem_nil,or_false,false_or]at hz
  exact hz.elim (hB1 z) (hB2 z)
 ·have c0:¬((mid - a:Nat):Int)<((b - mid:Nat):Int):=by omega
  obtain⟨w,hwd⟩:∃w,decide ((q:Int)<=((b - mid:Nat):Int))=w:=⟨_,rfl⟩
  simp only[go_sem,seval,opLen,undef,pdqX,pdqL,loopOf,nthC,dropC,blockOf,Tryz.f190,Option.getD,Int.toNat_natCast,pdqT4,e0,e1,e2,e3,e4,e10,e11,el,e12,e13]
  refine callX.hidE hpc ?_
  intro e U1 lg1 hlg1 hA
  obtain⟨rfl,hB1,H1⟩:=hA
  have hrec:=ih (mid+1) b limit d4 U1 (by omega) (by omega) hlim H1 hs4 (by omega) (by omega) hBr
  simp only[sliceS]at hrec
  refine⟨?_⟩
  simp only[go_sem,seval,opLen,undef,pdqX,pdqL,loopOf,nthC,dropC,blockOf,Tryz.f190,Option.getD,Int.toNat_natCast,e0,e1,e2,e3,e4,e10,e11,el,e12,e13,w1,w2,w3,t1,nz,c0,hwd]
  refine callX.hidE hrec ?_
  intro e U2 lg2 hlg2 hA
  obtain⟨rfl,D,⟨hB2,H2⟩,hP,hS⟩:=hA
  have hsz:D.size=d.size:=hP.1.trans hs4
  refine⟨?_⟩
  simp only[go_sem,seval,opLen,undef,pdqX,pdqL,loopOf,nthC,dropC,blockOf,Tryz.f190,Option.getD,Int.toNat_natCast,e0,e1,e2,e3,e4,e10,e11,el,e12,e13,w1,w2,w3,t1,nz,c0,hwd]
  refine hK _ _ _ ⟨D,a,mid,⟨by simp only[List.length_set,el],by simp only[go_sem,seval,opLen,el,e0]<;>rfl,by simp only[go_sem,seval,opLen,el,e1],by simp only[go_sem,seval,opLen,el,w3],by simp only[go_sem,seval,opLen,el,e3],by simp only[go_sem,seval,opLen,el,e4],⟨w,by simp only[go_sem,seval,opLen,el]⟩,⟨ap,by simp only[go_sem,seval,opLen,el]⟩⟩,H2,hsz,by omega,by omega,by omega,(hright D hP hS).1,(hright D hP hS).2,?_⟩
  intro z hz
  simp only[List.mem_append,List.mem_cons,List.not_mem_nil,or_false,false_or]at hz
  exact hz.elim (hB1 z) (hB2 z)
attribute [irreducible] pdqT4
theorem pdq_T3(hc:CmpOk U0 k g ys lt p)(hw:Sort.SWO lt){N a b limit pivot:Nat}{ts:List Value}{U:St}{d:Array E}(hN:b - a<=N)(F:FZ ts (sliceS k s n cap) (.func (.func g) ⟨[]⟩ ⟨ys⟩) a b limit)(e12:lget ts 12=.int .i64 ((b - a:Nat):Int))(e13:lget ts 13=.int .i64 pivot)(H:SAt U0 k d G p U)(hdn:d.size=n)(hn:n<500000)(hap:a<=pivot)(hpb:pivot<b)(hbn:b<=n)(h256:b - a<256)(hlim:limit<1000)(hB:Sort.Below lt a b d)(ih:PdqOk U0 k s n cap g ys lt p G N)(K:RR->Prop)
  (hK:∀ts' U' lg,PdqN U0 k s n cap g ys lt p G a b limit d ts' U' lg->K ⟨.norm,⟨ts',[]⟩,U',lg⟩/\K ⟨.exit 1,⟨ts',[]⟩,U',lg⟩):
  wp (cP Tryz.prog) q0 (btAll (fE E 190)) false (rE E pdqT3) ⟨ts,[]⟩ U K:=by
 have e0:=F.t0
 have e1:=F.t1
 have e2:=F.t2
 have e3:=F.t3
 have e4:=F.t4
 obtain⟨wB,e10⟩:=F.t10
 obtain⟨wP,e11⟩:=F.t11
 have el:=F.size
 have hsm:=H.small
 simp only[sliceS]at e0
 rw[pdqT3_is]
 by_cases ha:0<a
 ·have c0:(0:Int)<(a:Int):=by omega
  subst hdn
  obtain⟨r,hd,hr⟩:=hc.call U H.base d[a - 1]! d[pivot]! (H.all _ (by omega)) (H.all _ (by omega))
  have hb:=hc.body
  have g1:=H.get
  have x1:=arr_at (d:=d) (G:=G) (i:=a - 1) (by omega)
  have x2:=arr_at (d:=d) (G:=G) (i:=pivot) (by omega)
  have l1:(a - 1)*wE E+wE E<=(cellsE d.toList++G).length:=arr_fit (by first|omega|(simp;omega))
  have l2:pivot*wE E+wE E<=(cellsE d.toList++G).length:=arr_fit (by first|omega|(simp;omega))
  have c1:(0:Int)<=((a - 1:Nat):Int):=by omega
  have c2:((a - 1:Nat):Int)<(d.size:Int):=by omega
  have c3:(0:Int)<=(pivot:Int):=by omega
  have c4:(pivot:Int)<(d.size:Int):=by omega
  have w1:IntKind.i64.wrap ((a:Int) - 1)=((a - 1:Nat):Int):=by
   have:(a:Int) - 1=((a - 1:Nat):Int):=by omega
   rw[this];exact wrapIN (by omega)
  have nk:¬U.next<=k:=by have:=H.lt;have:=H.base.nx;omega
  by_cases hr0:r<0
  ·simp only[go_sem,seval,opLen,undef,pdqX,pdqL,loopOf,nthC,dropC,blockOf,Tryz.f190,Option.getD,Int.toNat_natCast,e0,e1,e2,e3,e4,e10,e11,el,e12,e13,g1,hb,x1,x2,l1,l2,c0,c1,c2,c3,c4,w1,nk]
   refine .of hd ?_
   simp only[go_sem,seval,opLen,undef,pdqX,pdqL,loopOf,nthC,dropC,blockOf,Tryz.f190,Option.getD,Int.toNat_natCast,e0,e1,e2,e3,e4,e10,e11,el,e12,e13,g1,hb,x1,x2,l1,l2,c0,c1,c2,c3,c4,w1,nk,hr0]
   exact pdq_T4 hc hw (pivot:=pivot) hN ⟨by simp only[List.length_set,el],by simp only[go_sem,seval,opLen,el,e0]<;>rfl,by simp only[go_sem,seval,opLen,el,e1],by simp only[go_sem,seval,opLen,el,e2],by simp only[go_sem,seval,opLen,el,e3],by simp only[go_sem,seval,opLen,el,e4],⟨wB,by simp only[go_sem,seval,opLen,el,e10]⟩,⟨wP,by simp only[go_sem,seval,opLen,el,e11]⟩⟩ (by simp only[go_sem,seval,opLen,el,e12]) (by simp only[go_sem,seval,opLen,el,e13]) H rfl hn hap hpb hbn h256 hlim hB ih _ λts' U' lg h=>by simpa only[preW_mk,List.nil_append]using(hK ts' U' lg h).1
  ·have hlt:lt d[a - 1]! d[pivot]! = false:=by rw[<-hr];simp [hr0]
   obtain⟨⟨mid,d4⟩,hx⟩:∃x,Sort.partitionEqual lt d a b pivot=x:=⟨_,rfl⟩
   have hpc:=parteq_call (s:=s) (cap:=cap) hc H hap hpb hbn
   rw[hx]at hpc
   simp only[sliceS]at hpc
   obtain⟨q1,q2,hs4,hB4,hfin⟩:=Sort.round_eq hw (Sort.partitionEqual_holds lt) ha hap hpb hbn hB hlt hx
   simp only[go_sem,seval,opLen,undef,pdqX,pdqL,loopOf,nthC,dropC,blockOf,Tryz.f190,Option.getD,Int.toNat_natCast,e0,e1,e2,e3,e4,e10,e11,el,e12,e13,g1,hb,x1,x2,l1,l2,c0,c1,c2,c3,c4,w1,nk]
   refine .of hd ?_
   simp only[go_sem,seval,opLen,undef,pdqX,pdqL,loopOf,nthC,dropC,blockOf,Tryz.f190,Option.getD,Int.toNat_natCast,e0,e1,e2,e3,e4,e10,e11,el,e12,e13,g1,hb,x1,x2,l1,l2,c0,c1,c2,c3,c4,w1,nk,hr0]
   refine callX.hidE hpc ?_
   intro e U1 lg1 hlg1 hA
   obtain⟨rfl,hB1,H1⟩:=hA
   refine⟨?_⟩
   simp only[go_sem,seval,opLen,undef,pdqX,pdqL,loopOf,nthC,dropC,blockOf,Tryz.f190,Option.getD,Int.toNat_natCast,e0,e1,e2,e3,e4,e10,e11,el,e12,e13,g1,hb,x1,x2,l1,l2,c0,c1,c2,c3,c4,w1,nk]
   refine(hK _ _ _ ⟨d4,mid,b,⟨by simp only[List.length_set,el],by simp only[go_sem,seval,opLen,el,e0]<;>rfl,by simp only[go_sem,seval,opLen,el,e1],by simp only[go_sem,seval,opLen,el,e2],by simp only[go_sem,seval,opLen,el,e3],by simp only[go_sem,seval,opLen,el,e4],⟨wB,by simp only[go_sem,seval,opLen,el,e10]⟩,⟨wP,by simp only[go_sem,seval,opLen,el,e11]⟩⟩,H1,hs4,by omega,by omega,by omega,hB4,hfin,?_⟩).2
   intro z hz
   exact hB1 z (by simpa using hz)
 ·have c0:¬(0:Int)<(a:Int):=by omega
  simp only[go_sem,seval,opLen,undef,pdqX,pdqL,loopOf,nthC,dropC,blockOf,Tryz.f190,Option.getD,Int.toNat_natCast,e0,e1,e2,e3,e4,e10,e11,el,e12,e13,c0]
  exact pdq_T4 hc hw (pivot:=pivot) hN ⟨by simp only[List.length_set,el],by simp only[go_sem,seval,opLen,el,e0]<;>rfl,by simp only[go_sem,seval,opLen,el,e1],by simp only[go_sem,seval,opLen,el,e2],by simp only[go_sem,seval,opLen,el,e3],by simp only[go_sem,seval,opLen,el,e4],⟨wB,by simp only[go_sem,seval,opLen,el,e10]⟩,⟨wP,by simp only[go_sem,seval,opLen,el,e11]⟩⟩ (by simp only[go_sem,seval,opLen,el,e12]) (by simp only[go_sem,seval,opLen,el,e13]) H hdn hn hap hpb hbn h256 hlim hB ih _ λts' U' lg h=>by simpa only[preW_mk,List.nil_append]using(hK ts' U' lg h).1
attribute [irreducible] pdqT3
theorem pdq_T2(hc:CmpOk U0 k g ys lt p)(hw:Sort.SWO lt){h:Int}{N a b limit pivot:Nat}{ts:List Value}{U:St}{d:Array E}(hN:b - a<=N)(F:FZ ts (sliceS k s n cap) (.func (.func g) ⟨[]⟩ ⟨ys⟩) a b limit)(e12:lget ts 12=.int .i64 ((b - a:Nat):Int))(e13:lget ts 13=.int .i64 pivot)(e14:lget ts 14=.int .i64 h)(H:SAt U0 k d G p U)(hdn:d.size=n)(hn:n<500000)(hap:a<=pivot)(hpb:pivot<b)(hbn:b<=n)(h256:b - a<256)(hlim:limit<1000)(hB:Sort.Below lt a b d)(ih:PdqOk U0 k s n cap g ys lt p G N)(K:RR->Prop)
  (hK:∀ts' U' lg,PdqN U0 k s n cap g ys lt p G a b limit d ts' U' lg->K ⟨.norm,⟨ts',[]⟩,U',lg⟩/\K ⟨.exit 1,⟨ts',[]⟩,U',lg⟩)
  (hD:∀ts' U' lg,PdqD U0 k G p lt a b d U' lg->K ⟨.ret,⟨ts',[]⟩,U',lg⟩):
  wp (cP Tryz.prog) q0 (btAll (fE E 190)) false (rE E pdqT2) ⟨ts,[]⟩ U K:=by
 have e0:=F.t0
 have e1:=F.t1
 have e2:=F.t2
 have e3:=F.t3
 have e4:=F.t4
 obtain⟨wB,e10⟩:=F.t10
 obtain⟨wP,e11⟩:=F.t11
 have el:=F.size
 have hsm:=H.small
 simp only[sliceS]at e0
 rw[pdqT2_is]
 have go:∀b1 b2 b3:Bool,wB=b1->wP=b2->(h==1)=b3->(b1&&b2&&b3)=false->wp (cP Tryz.prog) q0 (btAll (fE E 190)) false (rE E ((nthC 6 pdqX).seq pdqT3)) ⟨ts,[]⟩ U K:=by
  rintro b1 b2 b3 rfl rfl h3 hh
  cases wB with
  |false=>
   simp only[go_sem,seval,opLen,undef,pdqX,pdqL,loopOf,nthC,dropC,blockOf,Tryz.f190,Option.getD,Int.toNat_natCast,e0,e1,e2,e3,e4,e10,e11,el,e12,e13,e14]
   exact pdq_T3 hc hw (pivot:=pivot) hN ⟨by simp only[List.length_set,el],by simp only[go_sem,seval,opLen,el,e0]<;>rfl,by simp only[go_sem,seval,opLen,el,e1],by simp only[go_sem,seval,opLen,el,e2],by simp only[go_sem,seval,opLen,el,e3],by simp only[go_sem,seval,opLen,el,e4],⟨false,by simp only[go_sem,seval,opLen,el,e10]⟩,⟨wP,by simp only[go_sem,seval,opLen,el,e11]⟩⟩ (by simp only[go_sem,seval,opLen,el,e12]) (by simp only[go_sem,seval,opLen,el,e13]) H hdn hn hap hpb hbn h256 hlim hB ih _ λts' U' lg h=>by simpa only[preW_mk,List.nil_append]using hK ts' U' lg h
  |true=>cases wP with
   |false=>
    simp only[go_sem,seval,opLen,undef,pdqX,pdqL,loopOf,nthC,dropC,blockOf,Tryz.f190,Option.getD,Int.toNat_natCast,e0,e1,e2,e3,e4,e10,e11,el,e12,e13,e14]
    exact pdq_T3 hc hw (pivot:=pivot) hN ⟨by simp only[List.length_set,el],by simp only[go_sem,seval,opLen,el,e0]<;>rfl,by simp only[go_sem,seval,opLen,el,e1],by simp only[go_sem,seval,opLen,el,e2],by simp only[go_sem,seval,opLen,el,e3],by simp only[go_sem,seval,opLen,el,e4],⟨true,by simp only[go_sem,seval,opLen,el,e10]⟩,⟨false,by simp only[go_sem,seval,opLen,el,e11]⟩⟩ (by simp only[go_sem,seval,opLen,el,e12]) (by simp only[go_sem,seval,opLen,el,e13]) H hdn hn hap hpb hbn h256 hlim hB ih _ λts' U' lg h=>by simpa only[preW_mk,List.nil_append]using hK ts' U' lg h
   |true=>
    obtain rfl:b3=false:=by simpa using hh
    simp only[go_sem,seval,opLen,undef,pdqX,pdqL,loopOf,nthC,dropC,blockOf,Tryz.f190,Option.getD,Int.toNat_natCast,e0,e1,e2,e3,e4,e10,e11,el,e12,e13,e14,h3]
    exact pdq_T3 hc hw (pivot:=pivot) hN ⟨by simp only[List.length_set,el],by simp only[go_sem,seval,opLen,el,e0]<;>rfl,by simp only[go_sem,seval,opLen,el,e1],by simp only[go_sem,seval,opLen,el,e2],by simp only[go_sem,seval,opLen,el,e3],by simp only[go_sem,seval,opLen,el,e4],⟨true,by simp only[go_sem,seval,opLen,el,e10]⟩,⟨true,by simp only[go_sem,seval,opLen,el,e11]⟩⟩ (by simp only[go_sem,seval,opLen,el,e12]) (by simp only[go_sem,seval,opLen,el,e13]) H hdn hn hap hpb hbn h256 hlim hB ih _ λts' U' lg h=>by simpa only[preW_mk,List.nil_append]using hK ts' U' lg h
 by_cases hall:(wB&&wP&&(h==1))=false
 ·exact go wB wP (h==1) rfl rfl rfl hall
 ·clear go
  obtain⟨rfl,rfl,h3'⟩:wB=true/\wP=true/\h=1:=by simpa using hall
  have h3:(h==1)=true:=by rw[h3'];rfl
  subst hdn
  have hpc:=pis_call (s:=s) (cap:=cap) hc H (show a<b by omega) hbn
  have hps:=Sort.partialInsertionSort_holds (lt:=lt) hw d a b (by omega) hbn hB
  obtain⟨D,hDe⟩:∃D,(Sort.partialInsertionSort lt d a b).1=D:=⟨_,rfl⟩
  obtain⟨R,hRe⟩:∃R,(Sort.partialInsertionSort lt d a b).2=R:=⟨_,rfl⟩
  rw[hDe,hRe]at hpc hps
  simp only[sliceS]at hpc
  obtain⟨hP,hS⟩:=hps
  cases R with
  |true=>
   simp only[go_sem,seval,opLen,undef,pdqX,pdqL,loopOf,nthC,dropC,blockOf,Tryz.f190,Option.getD,Int.toNat_natCast,e0,e1,e2,e3,e4,e10,e11,el,e12,e13,e14,h3]
   refine callX.hidE hpc ?_
   intro e U1 lg1 hlg1 hA
   obtain⟨rfl,hB1,H1⟩:=hA
   refine⟨?_⟩
   simp only[go_sem,seval,opLen,undef,pdqX,pdqL,loopOf,nthC,dropC,blockOf,Tryz.f190,Option.getD,Int.toNat_natCast,e0,e1,e2,e3,e4,e10,e11,el,e12,e13,e14,h3]
   refine hD _ _ _ ⟨D,H1,hP,hS rfl,?_⟩
   intro z hz
   exact hB1 z (by simpa using hz)
  |false=>
   simp only[go_sem,seval,opLen,undef,pdqX,pdqL,loopOf,nthC,dropC,blockOf,Tryz.f190,Option.getD,Int.toNat_natCast,e0,e1,e2,e3,e4,e10,e11,el,e12,e13,e14,h3]
   refine callX.hidE hpc ?_
   intro e U1 lg1 hlg1 hA
   obtain⟨rfl,hB1,H1⟩:=hA
   have hBD:=hB.perm hbn hP
   have hsz:D.size=d.size:=hP.1
   refine⟨?_⟩
   simp only[go_sem,seval,opLen,undef,pdqX,pdqL,loopOf,nthC,dropC,blockOf,Tryz.f190,Option.getD,Int.toNat_natCast,e0,e1,e2,e3,e4,e10,e11,el,e12,e13,e14,h3]
   refine pdq_T3 hc hw (pivot:=pivot) hN ⟨by simp only[List.length_set,el],by simp only[go_sem,seval,opLen,el,e0]<;>rfl,by simp only[go_sem,seval,opLen,el,e1],by simp only[go_sem,seval,opLen,el,e2],by simp only[go_sem,seval,opLen,el,e3],by simp only[go_sem,seval,opLen,el,e4],⟨true,by simp only[go_sem,seval,opLen,el,e10]⟩,⟨true,by simp only[go_sem,seval,opLen,el,e11]⟩⟩ (by simp only[go_sem,seval,opLen,el,e12]) (by simp only[go_sem,seval,opLen,el,e13]) H1 hsz hn hap hpb hbn h256 hlim hBD ih _ ?_
   intro ts' U' lg h
   have:=hK ts' U' (lg1++lg) (h.of hP λz hz=>(List.mem_append.1 hz).elim (λh=>.inr (hB1 z h)) .inl)
   simpa only[preW_mk,List.append_assoc,List.nil_append]using this
attribute [irreducible] pdqT2
theorem pdq_T1(hc:CmpOk U0 k g ys lt p)(hw:Sort.SWO lt){N a b limit:Nat}{ts:List Value}{U:St}{d:Array E}(hN:b - a<=N)(F:FZ ts (sliceS k s n cap) (.func (.func g) ⟨[]⟩ ⟨ys⟩) a b limit)(e12:lget ts 12=.int .i64 ((b - a:Nat):Int))  (H:SAt U0 k d G p U) (hdn:d.size=n) (hn:n<500000) (h8:a+8<=b) (hbn:b<=n) (h256:b - a<256) (hlim:limit<1000) (hB:Sort.Below lt a b d) (ih:PdqOk U0 k s n cap g ys lt p G N) (K:RR->Prop)
  (hK:∀ts' U' lg,PdqN U0 k s n cap g ys lt p G a b limit d ts' U' lg->K ⟨.norm,⟨ts',[]⟩,U',lg⟩/\K ⟨.exit 1,⟨ts',[]⟩,U',lg⟩)
  (hD:∀ts' U' lg,PdqD U0 k G p lt a b d U' lg->K ⟨.ret,⟨ts',[]⟩,U',lg⟩):
  wp (cP Tryz.prog) q0 (btAll (fE E 190)) false (rE E pdqT1) ⟨ts,[]⟩ U K:=by
 have e0:=F.t0
 have e1:=F.t1
 have e2:=F.t2
 have e3:=F.t3
 have e4:=F.t4
 obtain⟨wB,e10⟩:=F.t10
 obtain⟨wP,e11⟩:=F.t11
 have el:=F.size
 have hsm:=H.small
 simp only[sliceS]at e0
 subst hdn
 have hpc:=piv_call (s:=s) (cap:=cap) hc H h8 hbn
 simp only[sliceS]at hpc
 rw[pdqT1_is]
 have w1:IntKind.i64.wrap ((b:Int) - 1)=((b - 1:Nat):Int):=by
  have:(b:Int) - 1=((b - 1:Nat):Int):=by omega
  rw[this];exact wrapIN (by omega)
 simp only[go_sem,seval,opLen,undef,pdqX,pdqL,loopOf,nthC,dropC,blockOf,Tryz.f190,Option.getD,Int.toNat_natCast,e0,e1,e2,e3,e4,e10,e11,el,e12]
 refine callX.hidE hpc ?_
 intro e U1 lg1 hlg1 hA
 obtain⟨x,h,hxr,hh,rfl,hB1,H1⟩:=hA
 have hB1':∀z∈lg1,z=k\/U0.next<=z:=λz hz=>.inr (hB1 z hz)
 have w2:IntKind.i64.wrap ((x:Int) - (a:Int))=((x - a:Nat):Int):=by
  have:(x:Int) - (a:Int)=((x - a:Nat):Int):=by omega
  rw[this];exact wrapIN (by omega)
 have w3:IntKind.i64.wrap (((b - 1:Nat):Int) - ((x - a:Nat):Int))=((b - 1 - (x - a):Nat):Int):=by
  have:((b - 1:Nat):Int) - ((x - a:Nat):Int)=((b - 1 - (x - a):Nat):Int):=by omega
  rw[this];exact wrapIN (by omega)
 by_cases h2:h=2
 ·subst h2
  have b1:((2:Int)==2)=true:=by decide
  have hrc:=rev_call (s:=s) (cap:=cap) (cv:=.func (.func g) ⟨[]⟩ ⟨ys⟩) H1 (show a<b by omega) hbn
  simp only[sliceS]at hrc
  have hP:=Sort.reverseRange_holds d a b (by omega) hbn
  have hBD:=hB.perm hbn hP
  have hsz:(Sort.reverseRange d a b).size=d.size:=hP.1
  refine⟨?_⟩
  simp only[go_sem,seval,opLen,undef,pdqX,pdqL,loopOf,nthC,dropC,blockOf,Tryz.f190,Option.getD,Int.toNat_natCast,e0,e1,e2,e3,e4,e10,e11,el,e12,b1]
  refine callX.hidE hrc ?_
  intro e U2 lg2 hlg2 hA
  obtain⟨rfl,hB2,H2⟩:=hA
  refine⟨?_⟩
  simp only[go_sem,seval,opLen,undef,pdqX,pdqL,loopOf,nthC,dropC,blockOf,Tryz.f190,Option.getD,Int.toNat_natCast,e0,e1,e2,e3,e4,e10,e11,el,e12,b1,w1,w2,w3]
  refine pdq_T2 hc hw (pivot:=b - 1 - (x - a)) (h:=1) hN ⟨by simp only[List.length_set,el],by simp only[go_sem,seval,opLen,el,e0]<;>rfl,by simp only[go_sem,seval,opLen,el,e1],by simp only[go_sem,seval,opLen,el,e2],by simp only[go_sem,seval,opLen,el,e3],by simp only[go_sem,seval,opLen,el,e4],⟨wB,by simp only[go_sem,seval,opLen,el,e10]⟩,⟨wP,by simp only[go_sem,seval,opLen,el,e11]⟩⟩ (by simp only[go_sem,seval,opLen,el,e12]) (by simp only[go_sem,seval,opLen,el,w3]) (by simp only[go_sem,seval,opLen,el]) H2 hsz hn (by omega) (by omega) hbn h256 hlim hBD ih _ ?_ ?_
  ·intro ts' U' lg h
   have:=hK ts' U' (lg1++(lg2++lg)) (h.of hP λz hz=>(List.mem_append.1 hz).elim (λh=>.inr (hB1' z h)) λhz=>(List.mem_append.1 hz).elim (λh=>.inr (hB2 z h)) .inl)
   simpa only[preW_mk,List.append_assoc,List.nil_append]using this
  ·intro ts' U' lg h
   have:=hD ts' U' (lg1++(lg2++lg)) (h.of hP λz hz=>(List.mem_append.1 hz).elim (λh=>.inr (hB1' z h)) λhz=>(List.mem_append.1 hz).elim (λh=>.inr (hB2 z h)) .inl)
   simpa only[preW_mk,List.append_assoc,List.nil_append]using this
 ·have b1:(h==2)=false:=by rw[beq_eq_false_iff_ne];exact h2
  refine⟨?_⟩
  simp only[go_sem,seval,opLen,undef,pdqX,pdqL,loopOf,nthC,dropC,blockOf,Tryz.f190,Option.getD,Int.toNat_natCast,e0,e1,e2,e3,e4,e10,e11,el,e12,b1]
  refine pdq_T2 hc hw (pivot:=x) (h:=h) hN ⟨by simp only[List.length_set,el],by simp only[go_sem,seval,opLen,el,e0]<;>rfl,by simp only[go_sem,seval,opLen,el,e1],by simp only[go_sem,seval,opLen,el,e2],by simp only[go_sem,seval,opLen,el,e3],by simp only[go_sem,seval,opLen,el,e4],⟨wB,by simp only[go_sem,seval,opLen,el,e10]⟩,⟨wP,by simp only[go_sem,seval,opLen,el,e11]⟩⟩ (by simp only[go_sem,seval,opLen,el,e12]) (by simp only[go_sem,seval,opLen,el]) (by simp only[go_sem,seval,opLen,el]) H1 rfl hn hxr.1 hxr.2 hbn h256 hlim hB ih _ ?_ ?_
  ·intro ts' U' lg h
   have:=hK ts' U' (lg1++lg) (h.of (Sort.permIn_refl _ _ _) λz hz=>(List.mem_append.1 hz).elim (λh=>.inr (hB1' z h)) .inl)
   simpa only[preW_mk,List.append_assoc,List.nil_append]using this
  ·intro ts' U' lg h
   have:=hD ts' U' (lg1++lg) (h.of (Sort.permIn_refl _ _ _) λz hz=>(List.mem_append.1 hz).elim (λh=>.inr (hB1' z h)) .inl)
   simpa only[preW_mk,List.append_assoc,List.nil_append]using this
attribute [irreducible] pdqT1
def IPd(U0:St)(k s n cap:Nat)(g:FuncId)(ys:List Value)(lt:E->E->Bool)(p:E->Prop)(G:List Value)(N:Nat)(Fin:Array E->Prop)(m:Nat)(fr:Fr)(U:St):Prop:=
 ∃ts d,∃a b limit:Nat,fr=⟨ts,[]⟩/\FZ ts (sliceS k s n cap) (.func (.func g) ⟨[]⟩ ⟨ys⟩) a b limit/\m=b - a/\b - a<=N/\b - a<256/\limit<1000/\SAt U0 k d G p U/\d.size=n/\a<=b/\b<=n/\Sort.Below lt a b d/\∀R,Sort.PermIn a b d R->Sort.SortedIn lt a b R->Fin R
def EPd(U0:St)(k:Nat)(p:E->Prop)(G:List Value)(Fin:Array E->Prop)(x:AX)(fr:Fr)(U:St):Prop:=
 x=.ret/\fr.ds=[]/\∃D,SAt U0 k D G p U/\Fin D
theorem pdq_loop(hc:CmpOk U0 k g ys lt p)(hw:Sort.SWO lt){N:Nat}(hn:n<500000)(ih:PdqOk U0 k s n cap g ys lt p G N){Fin:Array E->Prop}:
  ∀m fr U,IPd U0 k s n cap g ys lt p G N Fin m fr U->loopX Tryz.prog false (rE E pdqL) fr U (endL (EPd U0 k p G Fin) λz=>z=k\/U0.next<=z):=by
 refine loop_ind q0 (fE E 190) (b:=rE E pdqL) (st_loopOf (st_nthC (stG Tryz.func190 rfl rfl))) _ _ _ ?_
 rintro m fr U ⟨ts,d,a,b,limit,rfl,F,hm,hN,h256,hlim,H,hdn,hab,hbn,hB,hF⟩
 have e0:=F.t0
 have e1:=F.t1
 have e2:=F.t2
 have e3:=F.t3
 have e4:=F.t4
 obtain⟨wB,e10⟩:=F.t10
 obtain⟨wP,e11⟩:=F.t11
 have el:=F.size
 have hsm:=H.small
 simp only[sliceS]at e0
 have w1:IntKind.i64.wrap ((b:Int) - (a:Int))=((b - a:Nat):Int):=by
  have:(b:Int) - (a:Int)=((b - a:Nat):Int):=by omega
  rw[this];exact wrapIN (by omega)
 rw[pdqL_is]
 subst hdn
 by_cases h12:b - a<=12
 ·have c0:((b - a:Nat):Int)<=12:=by omega
  have hic:=ins_call (s:=s) (cap:=cap) hc H hab hbn
  have his:=Sort.insertionSort_holds (lt:=lt) hw d a b hab hbn
  simp only[sliceS]at hic
  simp only[go_sem,seval,opLen,undef,pdqX,pdqL,loopOf,nthC,dropC,blockOf,Tryz.f190,Option.getD,Int.toNat_natCast,e0,e1,e2,e3,e4,e10,e11,el,w1,c0]
  refine callX.hidE hic ?_
  intro e U1 lg1 hlg1 hA
  obtain⟨rfl,hB1,H1⟩:=hA
  refine⟨?_⟩
  simp only[go_sem,seval,opLen,undef,pdqX,pdqL,loopOf,nthC,dropC,blockOf,Tryz.f190,Option.getD,Int.toNat_natCast,e0,e1,e2,e3,e4,e10,e11,el]
  exact⟨by simpa using hB1,rfl,rfl,_,H1,hF _ his.1 his.2⟩
 ·have c0:¬((b - a:Nat):Int)<=12:=by omega
  by_cases hl0:limit=0
  ·have b0:((limit:Int)==0)=true:=by rw[hl0];rfl
   have hic:=heap_call (s:=s) (cap:=cap) hc H hab hbn hn
   have his:=Sort.heapSort_holds (lt:=lt) hw d a b hab hbn
   simp only[sliceS]at hic
   simp only[go_sem,seval,opLen,undef,pdqX,pdqL,loopOf,nthC,dropC,blockOf,Tryz.f190,Option.getD,Int.toNat_natCast,e0,e1,e2,e3,e4,e10,e11,el,w1,c0,b0]
   refine callX.hidE hic ?_
   intro e U1 lg1 hlg1 hA
   obtain⟨rfl,hB1,H1⟩:=hA
   refine⟨?_⟩
   simp only[go_sem,seval,opLen,undef,pdqX,pdqL,loopOf,nthC,dropC,blockOf,Tryz.f190,Option.getD,Int.toNat_natCast,e0,e1,e2,e3,e4,e10,e11,el]
   exact⟨by simpa using hB1,rfl,rfl,_,H1,hF _ his.1 his.2⟩
  ·have b0:((limit:Int)==0)=false:=by rw[beq_eq_false_iff_ne];omega
   cases wB with
   |true=>
    simp only[go_sem,seval,opLen,undef,pdqX,pdqL,loopOf,nthC,dropC,blockOf,Tryz.f190,Option.getD,Int.toNat_natCast,e0,e1,e2,e3,e4,e10,e11,el,w1,c0,b0]
    refine pdq_T1 hc hw hN ⟨by simp only[List.length_set,el],by simp only[go_sem,seval,opLen,el,e0]<;>rfl,by simp only[go_sem,seval,opLen,el,e1],by simp only[go_sem,seval,opLen,el,e2],by simp only[go_sem,seval,opLen,el,e3],by simp only[go_sem,seval,opLen,el,e4],⟨true,by simp only[go_sem,seval,opLen,el,e10]⟩,⟨wP,by simp only[go_sem,seval,opLen,el,e11]⟩⟩ (by simp only[go_sem,seval,opLen,el]) H rfl hn (by omega) hbn h256 hlim hB ih _ ?_ ?_
    ·rintro ts' U' lg ⟨d',a',b',q1,q2,q3,q4,q5,q6,q7,q8,q9⟩
     simp only[go_sem,seval,opLen]
     exact⟨by simpa using q9,b' - a',by omega,ts',d',a',b',limit,rfl,q1,rfl,by omega,by omega,hlim,q2,q3,q4,q5,q7,λR hR hs=>hF R (q8 R hR hs).1 (q8 R hR hs).2⟩
    ·rintro ts' U' lg ⟨D,q1,q2,q3,q4⟩
     simp only[go_sem,seval,opLen]
     exact⟨by simpa using q4,rfl,rfl,D,q1,hF D q2 q3⟩
   |false=>
    have hbc:=brk_call (s:=s) (cap:=cap) (vc:=.func (.func g) ⟨[]⟩ ⟨ys⟩) H hab hbn h256
    simp only[sliceS]at hbc
    have wl:IntKind.i64.wrap ((limit:Int) - 1)=((limit - 1:Nat):Int):=by
     have:(limit:Int) - 1=((limit - 1:Nat):Int):=by omega
     rw[this];exact wrapIN (by omega)
    simp only[go_sem,seval,opLen,undef,pdqX,pdqL,loopOf,nthC,dropC,blockOf,Tryz.f190,Option.getD,Int.toNat_natCast,e0,e1,e2,e3,e4,e10,e11,el,w1,c0,b0]
    refine callX.hidE hbc ?_
    intro e U1 lg1 hlg1 hA
    obtain⟨rfl,D,⟨hB1,H1⟩,hP⟩:=hA
    have hBD:=hB.perm hbn hP
    have hsz:D.size=d.size:=hP.1
    refine⟨?_⟩
    simp only[go_sem,seval,opLen,undef,pdqX,pdqL,loopOf,nthC,dropC,blockOf,Tryz.f190,Option.getD,Int.toNat_natCast,e0,e1,e2,e3,e4,e10,e11,el,w1,c0,b0,wl]
    refine pdq_T1 hc hw hN ⟨by simp only[List.length_set,el],by simp only[go_sem,seval,opLen,el,e0]<;>rfl,by simp only[go_sem,seval,opLen,el,e1],by simp only[go_sem,seval,opLen,el,e2],by simp only[go_sem,seval,opLen,el,wl],by simp only[go_sem,seval,opLen,el,e4],⟨false,by simp only[go_sem,seval,opLen,el,e10]⟩,⟨wP,by simp only[go_sem,seval,opLen,el,e11]⟩⟩ (by simp only[go_sem,seval,opLen,el]) H1 hsz hn (by omega) hbn h256 (show limit - 1<1000 by omega) hBD ih _ ?_ ?_
    ·rintro ts' U' lg ⟨d',a',b',q1,q2,q3,q4,q5,q6,q7,q8,q9⟩
     have hlg:∀z∈lg1++lg,z=k\/U0.next<=z:=λz hz=>(List.mem_append.1 hz).elim (hB1 z) (q9 z)
     simp only[go_sem,seval,opLen]
     exact⟨by simpa using hlg,b' - a',by omega,ts',d',a',b',limit - 1,rfl,q1,rfl,by omega,by omega,by omega,q2,q3,q4,q5,q7,λR hR hs=>hF R (Sort.permIn_trans _ _ _ _ _ hP (q8 R hR hs).1) (q8 R hR hs).2⟩
    ·rintro ts' U' lg ⟨D',q1,q2,q3,q4⟩
     have hlg:∀z∈lg1++lg,z=k\/U0.next<=z:=λz hz=>(List.mem_append.1 hz).elim (hB1 z) (q4 z)
     simp only[go_sem,seval,opLen]
     exact⟨by simpa using hlg,rfl,rfl,D',q1,hF D' (Sort.permIn_trans _ _ _ _ _ hP q2) q3⟩
theorem pdq_step(hc:CmpOk U0 k g ys lt p)(hw:Sort.SWO lt){N:Nat}(hn:n<500000)(ih:PdqOk U0 k s n cap g ys lt p G N):PdqOk U0 k s n cap g ys lt p G (N+1):=by
 intro a b limit d U hlt h256 hlim H hdn hab hbn hB
 refine enterE (E:=E) (p:=q0) Tryz.func190 rfl rfl ?_
 simp only[go_sem,seval,opLen,undef,sliceS,Tryz.f190]
 refine loop_then (pdq_loop (s:=s) (n:=n) (cap:=cap) (G:=G) hc hw hn ih (Fin:=λR=>Sort.PermIn a b d R/\Sort.SortedIn lt a b R) (b - a) _ _ ⟨_,d,a,b,limit,rfl,⟨rfl,rfl,rfl,rfl,rfl,rfl,⟨_,rfl⟩,⟨_,rfl⟩⟩,rfl,by omega,h256,hlim,H,hdn,hab,hbn,hB,λR h1 h2=>⟨h1,h2⟩⟩) ?_
 intro x fr' U' lg hlg hBl h
 obtain⟨rfl,hds,D,H',hP,hS⟩:=h
 obtain⟨ts',ds'⟩:=fr'
 simp only at hds
 subst hds
 simp only[go_sem,seval,opLen]
 exact⟨rfl,D,⟨hBl,H'⟩,hP,hS⟩
theorem pdq_ok(hc:CmpOk U0 k g ys lt p)(hw:Sort.SWO lt)(hn:n<500000):∀N,PdqOk U0 k s n cap g ys lt p G N
 |0=>λ_ _ _ _ _ h=>absurd h (Nat.not_lt_zero _)
 |N+1=>pdq_step hc hw hn (pdq_ok hc hw hn N)
end
end Go.Ab
namespace Go.Ab
open Go.Proofs
variable {E:Type} [SE E]
theorem bits_lt{n:Nat}(h:n<256):Sort.bitsLen n<1000:=by
 have all:((List.range 256).all λn=>Nat.blt (Sort.bitsLen n) 1000)=true:=by kernel_rfl
 have:=List.all_eq_true.1 all n (List.mem_range.2 h)
 simpa [Nat.blt_eq]using this
section
variable {U0:St} {k s cap:Nat} {g:FuncId} {ys:List Value} {lt:E->E->Bool} {p:E->Prop} {G:List Value}
theorem sortfunc_call(hc:CmpOk U0 k g ys lt p)(hw:Sort.SWO lt){d:Array E}{U:St}(H:SAt U0 k d G p U)(hsz:d.size<256):
  callX Tryz.prog (fE E 172) [sliceS k s d.size cap,.func (.func g) ⟨[]⟩ ⟨ys⟩] U (PdqR U0 k G p lt 0 d.size d):=by
 have wu:IntKind.u64.wrap (d.size:Int)=(d.size:Int):=wrapUN (by omega)
 have hpd:=pdq_ok (s:=s) (n:=d.size) (cap:=cap) (G:=G) hc hw (by omega) (d.size+1) 0 d.size (Sort.bitsLen d.size) d U (by omega) (by omega) (bits_lt hsz) H rfl (by omega) (Nat.le_refl _) (.inl rfl)
 simp only[sliceS]at hpd
 refine enterE (E:=E) (p:=q0) Tryz.func172 rfl rfl ?_
 simp only[go_sem,seval,opLen,undef,sliceS,Tryz.f172,wu,body190,body191]
 refine .of (bitslen_call hsz _) ?_
 simp only[go_sem,seval,opLen,undef,sliceS,Tryz.f172,wu,body190,body191]
 refine callX.hidE hpd ?_
 intro e U1 lg1 hlg1 hA
 obtain⟨rfl,D,hS,hP,hs⟩:=hA
 refine⟨?_⟩
 simp only[go_sem,seval,opLen]
 exact⟨rfl,D,⟨by simpa using hS.1,hS.2⟩,hP,hs⟩
end
end Go.Ab
namespace Go.Ab
open Go.Proofs
variable {E:Type} [SE E]
def INins(m:Nat)(fr:Fr)(U:St):Prop:=m=0/\∃ts cv,fr=⟨ts,[]⟩/\FI ts (.slice none 0 0) cv 0 0 1
def ENins(x:AX)(fr:Fr)(U:St):Prop:=x=.exit 0/\fr.ds=[]
theorem insnil_loop:∀m fr U,INins m fr U->loopX Tryz.prog false (rE E insOutB) fr U (endL ENins λ_=>False):=by
 refine loop_ind q0 (fE E 199) (st_loopOf (stG Tryz.func199 rfl rfl)) _ _ _ ?_
 rintro m fr U ⟨rfl,ts,cv,rfl,F⟩
 have e0:=F.t0
 have e1:=F.t1
 have e2:=F.t2
 have e3:=F.t3
 have e8:=F.t8
 have el:=F.size
 have c0:¬((1:Nat):Int)<((0:Nat):Int):=by omega
 simp only[go_sem,seval,opLen,undef,insOutB,loopOf,Tryz.f199,Option.getD,e0,e1,e2,e3,e8,el,c0]
 exact⟨rfl,rfl⟩
theorem insnil_call{cv:Value}(U:St):callX Tryz.prog (fE E 199) [.slice none 0 0,.int .i64 (0:Nat),.int .i64 (0:Nat),cv] U λe U' lg=>e=.ret (.tuple ⟨[]⟩)/\lg=[]:=by
 have w1:IntKind.i64.wrap (((0:Nat):Int)+1)=((1:Nat):Int):=by decide
 refine enterE (E:=E) (p:=q0) Tryz.func199 rfl rfl ?_
 simp only[go_sem,seval,opLen,undef,Tryz.f199,w1]
 refine loop_then (insnil_loop (E:=E) 0 _ _ ⟨rfl,_,cv,rfl,⟨rfl,rfl,rfl,rfl,rfl,rfl⟩⟩) ?_
 intro x fr' U' lg hlg hB h
 obtain⟨rfl,hds⟩:=h
 obtain⟨ts',ds'⟩:=fr'
 simp only at hds
 subst hds
 obtain rfl:lg=[]:=List.eq_nil_iff_forall_not_mem.2 λz hz=>hB z hz
 simp only[go_sem,seval,opLen]
def INpdq(m:Nat)(fr:Fr)(U:St):Prop:=m=0/\∃ts cv limit,fr=⟨ts,[]⟩/\FZ ts (.slice none 0 0) cv 0 0 limit
def ENpdq(x:AX)(fr:Fr)(U:St):Prop:=x=.ret/\fr.ds=[]
theorem pdqnil_loop:∀m fr U,INpdq m fr U->loopX Tryz.prog false (rE E pdqL) fr U (endL ENpdq λ_=>False):=by
 refine loop_ind q0 (fE E 190) (b:=rE E pdqL) (st_loopOf (st_nthC (stG Tryz.func190 rfl rfl))) _ _ _ ?_
 rintro m fr U ⟨rfl,ts,cv,limit,rfl,F⟩
 have e0:=F.t0
 have e1:=F.t1
 have e2:=F.t2
 have e3:=F.t3
 have e4:=F.t4
 obtain⟨wB,e10⟩:=F.t10
 obtain⟨wP,e11⟩:=F.t11
 have el:=F.size
 have w1:IntKind.i64.wrap (((0:Nat):Int) - ((0:Nat):Int))=((0:Nat):Int):=by decide
 have c0:((0:Nat):Int)<=12:=by omega
 rw[pdqL_is]
 simp only[go_sem,seval,opLen,undef,pdqX,pdqL,loopOf,nthC,dropC,blockOf,Tryz.f190,Option.getD,Int.toNat_natCast,e0,e1,e2,e3,e4,e10,e11,el,w1,c0]
 refine callX.hidE (insnil_call (E:=E) U) ?_
 intro e U1 lg1 hlg1 hA
 obtain⟨rfl,rfl⟩:=hA
 refine⟨?_⟩
 simp only[go_sem,seval,opLen,undef,pdqX,pdqL,loopOf,nthC,dropC,blockOf,Tryz.f190,Option.getD,Int.toNat_natCast,e0,e1,e2,e3,e4,e10,e11,el]
 exact⟨rfl,rfl⟩
theorem pdqnil_call{cv:Value}{limit:Nat}(U:St):callX Tryz.prog (fE E 190) [.slice none 0 0,.int .i64 (0:Nat),.int .i64 (0:Nat),.int .i64 limit,cv] U λe U' lg=>e=.ret (.tuple ⟨[]⟩)/\lg=[]:=by
 refine enterE (E:=E) (p:=q0) Tryz.func190 rfl rfl ?_
 simp only[go_sem,seval,opLen,undef,Tryz.f190]
 refine loop_then (pdqnil_loop (E:=E) 0 _ _ ⟨rfl,_,cv,limit,rfl,⟨rfl,rfl,rfl,rfl,rfl,rfl,⟨_,rfl⟩,⟨_,rfl⟩⟩⟩) ?_
 intro x fr' U' lg hlg hB h
 obtain⟨rfl,hds⟩:=h
 obtain⟨ts',ds'⟩:=fr'
 simp only at hds
 subst hds
 obtain rfl:lg=[]:=List.eq_nil_iff_forall_not_mem.2 λz hz=>hB z hz
 simp only[go_sem,seval,opLen]
theorem sortnil_call{cv:Value}(U:St):callX Tryz.prog (fE E 172) [.slice none 0 0,cv] U λe U' lg=>e=.ret (.tuple ⟨[]⟩)/\lg=[]:=by
 have wu:IntKind.u64.wrap 0=((0:Nat):Int):=by decide
 have hb:=bitslen_call (n:=0) (by omega)
 have hp:∀U,callX Tryz.prog (fE E 190) [.slice none 0 0,.int .i64 0,.int .i64 0,.int .i64 (Sort.bitsLen 0:Nat),cv] U λe U' lg=>e=.ret (.tuple ⟨[]⟩)/\lg=[]:=λU=>pdqnil_call (E:=E) U
 refine enterE (E:=E) (p:=q0) Tryz.func172 rfl rfl ?_
 simp only[go_sem,seval,opLen,undef,Tryz.f172,wu,body190,body191]
 refine .of (hb _) ?_
 simp only[go_sem,seval,opLen,undef,Tryz.f172,wu,body190,body191]
 refine callX.hidE (hp _) ?_
 intro e U1 lg1 hlg1 hA
 obtain⟨rfl,rfl⟩:=hA
 refine⟨?_⟩
 simp only[go_sem,seval,opLen]
theorem perm_sorted{L:List E}{lt:E->E->Bool}{D d:Array E}(hL:d.toList=L)(hp:Sort.PermIn 0 d.size d D)(hs:Sort.SortedIn lt 0 d.size D):D.toList.Perm L/\D.toList.Pairwise λx y=>lt y x=false:=by
 have hsz:D.size=d.size:=hp.1
 refine⟨?_,List.pairwise_iff_getElem.2 λi j hi hj hij=>?_⟩
 ·have h:=hp.2.2
  rw[<-hsz,Array.extract_size,hsz,Array.extract_size,hL]at h
  exact h
 ·have hsi:i<D.size:=by simpa using hi
  have hsj:j<D.size:=by simpa using hj
  have hlt:=hs i j (Nat.zero_le _) hij (by omega)
  rw[getElem!_pos D i hsi,getElem!_pos D j hsj]at hlt
  simpa using hlt
end Go.Ab
namespace Go.Ab
open Go.Proofs
structure Ck where
 flow:Int
 rate:Int
 room:Int
 bytes:Int
 n:Int
 d:Int
def Ck.cells(x:Ck):List Value:=[.int .i64 x.flow,.int .i64 x.rate,.int .i64 x.room,.int .i64 x.bytes,.int .i64 x.n,.int .i64 x.d]
def lookP:List (Nat×Nat)->Nat->Nat
 |[],n=>n
 |(a,b) :: r,n=>bif Nat.beq a n then b else lookP r n
theorem famE{g:Nat}(h:famB g=true):g=172\/g=190\/g=199\/g=200\/g=201\/g=202\/g=203\/g=204\/g=205\/g=206\/g=220\/g=223\/g=224\/g=236:=by
 simp only[famB,List.any_cons,List.any_nil,Bool.or_false,Bool.or_eq_true,Nat.beq_eq]at h
 exact h
theorem bt_same{f g:Nat}(h:lookN [] btTab f=lookN [] btTab g)(r:Nat)(hr:(r==1000000)=false):btAll f r=btAll g r:=by
 have h2:Nat.beq r 1000000=false:=by
  cases h3:Nat.beq r 1000000 with
  |false=>rfl
  |true=>rw[Nat.eq_of_beq_eq_true h3]at hr;cases hr
 unfold btAll
 rw[h2]
 simp only[h]
noncomputable def numsP:Nums:=⟨λg=>g,33,59,λt=>t⟩
theorem okP172:FnOk numsP 172:=⟨⟨Tryz.f172,Tryz.f172,Tryz.f172.body.getD .skip,Tryz.func172,Tryz.func172,by kernel_rfl,by kernel_rfl,by kernel_rfl,by kernel_rfl,by kernel_rfl⟩,body172,λ_ _=>rfl⟩
theorem okP190:FnOk numsP 190:=⟨⟨Tryz.f190,Tryz.f190,Tryz.f190.body.getD .skip,Tryz.func190,Tryz.func190,by kernel_rfl,by kernel_rfl,by kernel_rfl,by kernel_rfl,by kernel_rfl⟩,body190,λ_ _=>rfl⟩
theorem okP199:FnOk numsP 199:=⟨⟨Tryz.f199,Tryz.f199,Tryz.f199.body.getD .skip,Tryz.func199,Tryz.func199,by kernel_rfl,by kernel_rfl,by kernel_rfl,by kernel_rfl,by kernel_rfl⟩,body199,λ_ _=>rfl⟩
theorem okP200:FnOk numsP 200:=⟨⟨Tryz.f200,Tryz.f200,Tryz.f200.body.getD .skip,Tryz.func200,Tryz.func200,by kernel_rfl,by kernel_rfl,by kernel_rfl,by kernel_rfl,by kernel_rfl⟩,body200,λ_ _=>rfl⟩
theorem okP201:FnOk numsP 201:=⟨⟨Tryz.f201,Tryz.f201,Tryz.f201.body.getD .skip,Tryz.func201,Tryz.func201,by kernel_rfl,by kernel_rfl,by kernel_rfl,by kernel_rfl,by kernel_rfl⟩,body201,λ_ _=>rfl⟩
theorem okP202:FnOk numsP 202:=⟨⟨Tryz.f202,Tryz.f202,Tryz.f202.body.getD .skip,Tryz.func202,Tryz.func202,by kernel_rfl,by kernel_rfl,by kernel_rfl,by kernel_rfl,by kernel_rfl⟩,body202,λ_ _=>rfl⟩
theorem okP203:FnOk numsP 203:=⟨⟨Tryz.f203,Tryz.f203,Tryz.f203.body.getD .skip,Tryz.func203,Tryz.func203,by kernel_rfl,by kernel_rfl,by kernel_rfl,by kernel_rfl,by kernel_rfl⟩,body203,λ_ _=>rfl⟩
theorem okP204:FnOk numsP 204:=⟨⟨Tryz.f204,Tryz.f204,Tryz.f204.body.getD .skip,Tryz.func204,Tryz.func204,by kernel_rfl,by kernel_rfl,by kernel_rfl,by kernel_rfl,by kernel_rfl⟩,body204,λ_ _=>rfl⟩
theorem okP205:FnOk numsP 205:=⟨⟨Tryz.f205,Tryz.f205,Tryz.f205.body.getD .skip,Tryz.func205,Tryz.func205,by kernel_rfl,by kernel_rfl,by kernel_rfl,by kernel_rfl,by kernel_rfl⟩,body205,λ_ _=>rfl⟩
theorem okP206:FnOk numsP 206:=⟨⟨Tryz.f206,Tryz.f206,Tryz.f206.body.getD .skip,Tryz.func206,Tryz.func206,by kernel_rfl,by kernel_rfl,by kernel_rfl,by kernel_rfl,by kernel_rfl⟩,body206,λ_ _=>rfl⟩
theorem okP220:FnOk numsP 220:=⟨⟨Tryz.f220,Tryz.f220,Tryz.f220.body.getD .skip,Tryz.func220,Tryz.func220,by kernel_rfl,by kernel_rfl,by kernel_rfl,by kernel_rfl,by kernel_rfl⟩,body220,λ_ _=>rfl⟩
theorem okP223:FnOk numsP 223:=⟨⟨Tryz.f223,Tryz.f223,Tryz.f223.body.getD .skip,Tryz.func223,Tryz.func223,by kernel_rfl,by kernel_rfl,by kernel_rfl,by kernel_rfl,by kernel_rfl⟩,body223,λ_ _=>rfl⟩
theorem okP224:FnOk numsP 224:=⟨⟨Tryz.f224,Tryz.f224,Tryz.f224.body.getD .skip,Tryz.func224,Tryz.func224,by kernel_rfl,by kernel_rfl,by kernel_rfl,by kernel_rfl,by kernel_rfl⟩,body224,λ_ _=>rfl⟩
theorem okP236:FnOk numsP 236:=⟨⟨Tryz.f236,Tryz.f236,Tryz.f236.body.getD .skip,Tryz.func236,Tryz.func236,by kernel_rfl,by kernel_rfl,by kernel_rfl,by kernel_rfl,by kernel_rfl⟩,body236,λ_ _=>rfl⟩
noncomputable instance:SE Pk where
 default:=⟨0,0,0⟩
 nums:=numsP
 cells:=Pk.cells
 w:=3
 inf:=Tryz.t33
 flds:=(match Tryz.prog.underlying 33 with|some (.struct fs)=>fs|_=>#[])
 len:=λ_=>rfl
 one:=λ_=>rfl
 hI:=info33
 hU:=by kernel_rfl
 hS:=by kernel_rfl
 hw:=by kernel_rfl
 ok:=λg h=>by
  rcases famE h with rfl|rfl|rfl|rfl|rfl|rfl|rfl|rfl|rfl|rfl|rfl|rfl|rfl|rfl
  ·exact okP172
  ·exact okP190
  ·exact okP199
  ·exact okP200
  ·exact okP201
  ·exact okP202
  ·exact okP203
  ·exact okP204
  ·exact okP205
  ·exact okP206
  ·exact okP220
  ·exact okP223
  ·exact okP224
  ·exact okP236
noncomputable def numsC:Nums:=⟨lookP [(172,178),(190,195),(199,211),(200,212),(201,213),(202,214),(203,215),(204,216),(205,217),(206,218),(220,233),(223,234),(224,235),(236,240)],40,26,lookP [(33,40),(59,26),(104,115),(153,41),(171,180),(173,181),(187,261),(188,229),(189,230),(221,228),(222,231),(224,232),(233,278),(234,263),(258,262),(273,279),(285,295),(288,296),(289,297),(290,298),(291,299),(303,311),(305,312),(315,318)]⟩
theorem okC172:FnOk numsC 172:=⟨⟨Tryz.f178,Tryz.f172,Tryz.f172.body.getD .skip,Tryz.func178,Tryz.func172,by kernel_rfl,by kernel_rfl,by kernel_rfl,by kernel_rfl,by kernel_rfl⟩,body178,bt_same (by kernel_rfl)⟩
theorem okC190:FnOk numsC 190:=⟨⟨Tryz.f195,Tryz.f190,Tryz.f190.body.getD .skip,Tryz.func195,Tryz.func190,by kernel_rfl,by kernel_rfl,by kernel_rfl,by kernel_rfl,by kernel_rfl⟩,body195,bt_same (by kernel_rfl)⟩
theorem okC199:FnOk numsC 199:=⟨⟨Tryz.f211,Tryz.f199,Tryz.f199.body.getD .skip,Tryz.func211,Tryz.func199,by kernel_rfl,by kernel_rfl,by kernel_rfl,by kernel_rfl,by kernel_rfl⟩,body211,bt_same (by kernel_rfl)⟩
theorem okC200:FnOk numsC 200:=⟨⟨Tryz.f212,Tryz.f200,Tryz.f200.body.getD .skip,Tryz.func212,Tryz.func200,by kernel_rfl,by kernel_rfl,by kernel_rfl,by kernel_rfl,by kernel_rfl⟩,body212,bt_same (by kernel_rfl)⟩
theorem okC201:FnOk numsC 201:=⟨⟨Tryz.f213,Tryz.f201,Tryz.f201.body.getD .skip,Tryz.func213,Tryz.func201,by kernel_rfl,by kernel_rfl,by kernel_rfl,by kernel_rfl,by kernel_rfl⟩,body213,bt_same (by kernel_rfl)⟩
theorem okC202:FnOk numsC 202:=⟨⟨Tryz.f214,Tryz.f202,Tryz.f202.body.getD .skip,Tryz.func214,Tryz.func202,by kernel_rfl,by kernel_rfl,by kernel_rfl,by kernel_rfl,by kernel_rfl⟩,body214,bt_same (by kernel_rfl)⟩
theorem okC203:FnOk numsC 203:=⟨⟨Tryz.f215,Tryz.f203,Tryz.f203.body.getD .skip,Tryz.func215,Tryz.func203,by kernel_rfl,by kernel_rfl,by kernel_rfl,by kernel_rfl,by kernel_rfl⟩,body215,bt_same (by kernel_rfl)⟩
theorem okC204:FnOk numsC 204:=⟨⟨Tryz.f216,Tryz.f204,Tryz.f204.body.getD .skip,Tryz.func216,Tryz.func204,by kernel_rfl,by kernel_rfl,by kernel_rfl,by kernel_rfl,by kernel_rfl⟩,body216,bt_same (by kernel_rfl)⟩
theorem okC205:FnOk numsC 205:=⟨⟨Tryz.f217,Tryz.f205,Tryz.f205.body.getD .skip,Tryz.func217,Tryz.func205,by kernel_rfl,by kernel_rfl,by kernel_rfl,by kernel_rfl,by kernel_rfl⟩,body217,bt_same (by kernel_rfl)⟩
theorem okC206:FnOk numsC 206:=⟨⟨Tryz.f218,Tryz.f206,Tryz.f206.body.getD .skip,Tryz.func218,Tryz.func206,by kernel_rfl,by kernel_rfl,by kernel_rfl,by kernel_rfl,by kernel_rfl⟩,body218,bt_same (by kernel_rfl)⟩
theorem okC220:FnOk numsC 220:=⟨⟨Tryz.f233,Tryz.f220,Tryz.f220.body.getD .skip,Tryz.func233,Tryz.func220,by kernel_rfl,by kernel_rfl,by kernel_rfl,by kernel_rfl,by kernel_rfl⟩,body233,bt_same (by kernel_rfl)⟩
theorem okC223:FnOk numsC 223:=⟨⟨Tryz.f234,Tryz.f223,Tryz.f223.body.getD .skip,Tryz.func234,Tryz.func223,by kernel_rfl,by kernel_rfl,by kernel_rfl,by kernel_rfl,by kernel_rfl⟩,body234,bt_same (by kernel_rfl)⟩
theorem okC224:FnOk numsC 224:=⟨⟨Tryz.f235,Tryz.f224,Tryz.f224.body.getD .skip,Tryz.func235,Tryz.func224,by kernel_rfl,by kernel_rfl,by kernel_rfl,by kernel_rfl,by kernel_rfl⟩,body235,bt_same (by kernel_rfl)⟩
theorem okC236:FnOk numsC 236:=⟨⟨Tryz.f240,Tryz.f236,Tryz.f236.body.getD .skip,Tryz.func240,Tryz.func236,by kernel_rfl,by kernel_rfl,by kernel_rfl,by kernel_rfl,by kernel_rfl⟩,body240,bt_same (by kernel_rfl)⟩
noncomputable instance:SE Ck where
 default:=⟨0,0,0,0,0,0⟩
 nums:=numsC
 cells:=Ck.cells
 w:=6
 inf:=Tryz.t40
 flds:=(match Tryz.prog.underlying 40 with|some (.struct fs)=>fs|_=>#[])
 len:=λ_=>rfl
 one:=λ_=>rfl
 hI:=info40
 hU:=by kernel_rfl
 hS:=by kernel_rfl
 hw:=by kernel_rfl
 ok:=λg h=>by
  rcases famE h with rfl|rfl|rfl|rfl|rfl|rfl|rfl|rfl|rfl|rfl|rfl|rfl|rfl|rfl
  ·exact okC172
  ·exact okC190
  ·exact okC199
  ·exact okC200
  ·exact okC201
  ·exact okC202
  ·exact okC203
  ·exact okC204
  ·exact okC205
  ·exact okC206
  ·exact okC220
  ·exact okC223
  ·exact okC224
  ·exact okC236
theorem cellsE_pk:∀L:List Pk,cellsE L=cellsP L
 |[]=>rfl
 |x :: L=>by rw[cellsE,cellsP,cellsE_pk L];rfl
attribute [go_sem] callW q8 p8 p7 p6 p5 p4 p3 p2 p1 lget_put lgetq_put List.length_set Tryz.underlying2 info2 Tryz.t2 Tryz.underlying3 info3 Tryz.t3 Tryz.underlying4 info4 Tryz.t4 Tryz.underlying5 info5 Tryz.t5 Tryz.underlying37 info37 Tryz.t37 Tryz.underlying38 info38 Tryz.t38 Tryz.underlying47 info47 Tryz.t47 Tryz.underlying24 info24 Tryz.t24 Tryz.underlying32 info32 Tryz.t32 Tryz.underlying33 info33 Tryz.t33 Tryz.underlying62 info62 Tryz.t62 Tryz.underlying89 info89 Tryz.t89 Tryz.underlying46 info46 Tryz.t46 Tryz.underlying48 info48 Tryz.t48 Tryz.underlying77 info77 Tryz.t77 Tryz.underlying78 info78 Tryz.t78 Tryz.underlying144 info144 Tryz.t144 Tryz.underlying70 info70 Tryz.t70 Tryz.underlying71 info71 Tryz.t71 Tryz.underlying153 info153 Tryz.t153 Tryz.underlying118 info118 Tryz.t118 Tryz.underlying119 info119 Tryz.t119 Tryz.underlying122 info122 Tryz.t122 Tryz.underlying123 info123 Tryz.t123 Tryz.underlying124 info124 Tryz.t124 Tryz.underlying147 info147 Tryz.t147 Tryz.underlying148 info148 Tryz.t148 Tryz.underlying149 info149 Tryz.t149 Tryz.underlying150 info150 Tryz.t150 Tryz.underlying59 info59 Tryz.t59 Tryz.underlying182 info182 Tryz.t182 Tryz.underlying183 info183 Tryz.t183 Tryz.underlying184 info184 Tryz.t184 Tryz.underlying185 info185 Tryz.t185 Tryz.underlying188 info188 Tryz.t188 Tryz.underlying189 info189 Tryz.t189 Tryz.underlying173 info173 Tryz.t173 Tryz.underlying234 info234 Tryz.t234 Tryz.underlying243 info243 Tryz.t243
def Pk.val(x:Pk):Value:=.agg ⟨x.cells⟩
structure LV where
 lp:Int
 lb:Int
 room:Int
 L:List Pk
structure LAt(U:St)(l r:Nat)(V:LV):Prop where
 core:∃(R:List Pk) (f sp:Nat),U.get l=some (.cells [.int .i64 V.lp,.int .i64 V.lb,.int .i64 V.room,.slice (some ⟨r,0,some sp⟩) R.length R.length,.int .i64 f,.int .i64 V.L.length,.bool true] false)/\U.get r=some (.cells (cellsP R) false)/\Ring R f V.L/\R.length<1000000
 ne:l≠r
 lt:l<U.next/\r<U.next
theorem LAt.keep{U U':St}{l r:Nat}{V:LV}(h:LAt U l r V)(hn:U.next<=U'.next)(hl:U'.get l=U.get l)(hr:U'.get r=U.get r):LAt U' l r V:=by
 obtain⟨R,f,sp,a,b,c⟩:=h.core
 have:=h.lt
 exact⟨⟨R,f,sp,hl.trans a,hr.trans b,c⟩,h.ne,by omega⟩
theorem within98_call(n a b:Int)(U:St):DCall Tryz.prog 97 [.int .i64 n,.int .i64 a,.int .i64 b] U (.ret (.bool (decide (a<=n)&&decide (n<=b)))) U []:=by
 refine pure_call (enter (p:=q8) Tryz.func97 rfl stat97 ?_) rfl
 by_cases h:a<=n
 ·simp only[go_sem,seval,opLen,Tryz.f97,h]
 ·simp only[go_sem,seval,opLen,undef,Tryz.f97,h]
theorem lnone_call{U:St}{l:Nat}{c0 c1 c2 c3 c4 c5:Value}(h:U.get l=some (.cells [c0,c1,c2,c3,c4,c5,.bool true] false)):DCall Tryz.prog 98 [.pointer (some ⟨l,0,none⟩)] U (.ret (.bool false)) U []:=by
 refine pure_call (enter (p:=q8) Tryz.func98 rfl stat98 ?_) rfl
 simp only[go_sem,seval,opLen,Tryz.f98,h]
theorem at_call{U:St}{l r n f k sp:Nat}{c0 c1 c2 c5 c6:Value}(h:U.get l=some (.cells [c0,c1,c2,.slice (some ⟨r,0,some sp⟩) n n,.int .i64 f,c5,c6] false))(hl:l<U.next)(hn:0<n/\n<1000000)(hf:f<n)(hk:k<1000000):
  DCall Tryz.prog 102 [.pointer (some ⟨l,0,none⟩),.int .i64 k] U (.ret (.int .i64 ((f+k) % n:Nat))) U []:=by
 have w1:IntKind.i64.wrap ((f:Int)+(k:Int))=((f+k:Nat):Int):=by
  have:(f:Int)+(k:Int)=((f+k:Nat):Int):=by omega
  rw[this];exact wrapIN (by omega)
 have e1:¬(n:Int)=0:=by omega
 have e2:((f+k:Nat):Int).tmod (n:Int)=(((f+k) % n:Nat):Int):=rfl
 have e3:(f+k) % n<n:=Nat.mod_lt _ hn.1
 have w2:IntKind.i64.wrap (((f+k) % n:Nat):Int)=(((f+k) % n:Nat):Int):=wrapIN (by omega)
 refine pure_call (enter (p:=q8) Tryz.func102 rfl stat102 ?_) rfl
 simp only[go_sem,seval,opLen,Tryz.f102,h,hl,w1,e1,e2,w2]
def PkS(lo:Nat)(U:St)(v:Value)(L:List Pk):Prop:=(v=.slice none 0 0/\L=[])\/∃a,v=.slice (some ⟨a,0,some 5⟩) L.length L.length/\U.get a=some (.cells (cellsP L) false)/\lo<=a/\a<U.next
theorem PkS.keep{lo:Nat}{U U':St}{v:Value}{L:List Pk}(h:PkS lo U v L)(hn:U.next<=U'.next)(hg:∀a,lo<=a->a<U.next->U'.get a=U.get a):PkS lo U' v L:=by
 rcases h with h|⟨a,h1,h2,h3,h4⟩
 ·exact .inl h
 ·exact .inr ⟨a,h1,(hg a h3 h4).trans h2,h3,by omega⟩
theorem und168:(cP Tryz.prog).T.und 59=some (.slice 33):=(cx_und 59).trans Tryz.underlying59
theorem inf54:(cP Tryz.prog).T.info 33=some Tryz.t33:=(cx_info 33).trans info33
theorem pk_first{U:St}{b:Nat}{x:Pk}(hg:U.get b=some (.cells x.cells false)):
  opAppend (cP Tryz.prog).T U 59 59 (.slice none 0 0) (.slice (some ⟨b,0,some 0⟩) 1 1)=some (.new (.cells x.cells false) (.slice (some ⟨U.next,0,some 5⟩) 1 1) [b]):=by
 simp only[Pk.cells]at hg ⊢
 simp only[opAppend,und168,inf54,srcLen,Tryz.t33,srcCells,hg]
 simp [isSeqD,oneCells,plain,plainL,vcells]
theorem pk_more{U:St}{a b:Nat}{L:List Pk}{x:Pk}(ha:U.get a=some (.cells (cellsP L) false))(hg:U.get b=some (.cells x.cells false))(sm:L.length<=1000000):
  opAppend (cP Tryz.prog).T U 59 59 (.slice (some ⟨a,0,some 5⟩) L.length L.length) (.slice (some ⟨b,0,some 0⟩) 1 1)=
   some (.eff (.slice (some ⟨U.next,0,some 5⟩) (L.length+1) (L.length+1)) ((U.new (.cells (cellsP (L++[x])) false)).put a none) [a]):=by
 have l3:¬4294967296<=L.length:=by omega
 have tk:(cellsP L).take (L.length*3)=cellsP L:=List.take_of_length_le (by rw[cellsP_length];omega)
 have ap:cellsP (L++[x])=cellsP L++x.cells:=by rw[cellsP_append];simp [cellsP]
 rw[ap]
 simp only[Pk.cells]at hg ⊢
 simp only[opAppend,und168,inf54,srcLen,Tryz.t33,srcCells,hg,ha]
 simp [isSeqD,oneCells,plain,plainL,vcells,l3,tk,cellsP_length]
 omega
noncomputable def allB:Code:=loopOf (Tryz.f101.body.getD .skip)
structure FA(ts:List Value)(l c i:Nat):Prop where
 size:ts.length=31
 t0:lget ts 0=.pointer (some ⟨l,0,none⟩)
 t3:lget ts 3=.pointer (some ⟨c,0,none⟩)
 t4:lget ts 4=.int .i64 i
def IA(l r c:Nat)(V:LV)(m:Nat)(fr:Fr)(U:St):Prop:=
 ∃ts v,∃i:Nat,fr=⟨ts,[]⟩/\FA ts l c i/\m+i=V.L.length/\LAt U l r V/\c<U.next/\U.get c=some (.cells [v] false)/\PkS (c+1) U v (V.L.take i)
def EA(c:Nat)(V:LV)(x:AX)(fr:Fr)(U:St):Prop:=
 x=.exit 0/\∃ts v,fr=⟨ts,[]⟩/\ts.length=31/\lget ts 3=.pointer (some ⟨c,0,none⟩)/\c<U.next/\U.get c=some (.cells [v] false)/\PkS (c+1) U v V.L
theorem all_loop{l r c:Nat}{V:LV}(hlc:l<c)(hrc:r<c):∀m fr U,IA l r c V m fr U->loopX Tryz.prog false allB fr U (endL (EA c V) λx=>c<=x):=by
 refine loop_ind q8 101 (by kernel_rfl) _ _ _ ?_
 rintro m fr U ⟨ts,v,i,rfl,F,hmi,H,hc,gc,hv⟩
 have e0:=F.t0
 have e3:=F.t3
 have e4:=F.t4
 have el:=F.size
 obtain⟨R,f,sp,gl,gr,hR,hRs⟩:=H.core
 have hl:=H.lt.1
 have hr:=H.lt.2
 have n1:¬c=l:=by omega
 have n2:¬c=r:=by omega
 have n3:¬l=c:=by omega
 have n4:¬r=c:=by omega
 by_cases hi:i<V.L.length
 ·have c0:(i:Int)<(V.L.length:Int):=by omega
  have hx:V.L[i]?=some V.L[i]:=List.getElem?_eq_getElem hi
  generalize V.L[i]=x at hx
  have hidx:=hR.at' i x hx
  have hlt:(f+i) % R.length<R.length:=Nat.mod_lt _ (by have:=hR.lt;omega)
  have hle:=hR.le
  have w1:IntKind.i64.wrap ((i:Int)+1)=((i+1:Nat):Int):=by
   have:(i:Int)+1=((i+1:Nat):Int):=by omega
   rw[this];exact wrapIN (by omega)
  have tk:V.L.take (i+1)=V.L.take i++[x]:=by rw[List.take_add_one,hx];rfl
  have hk:(f+i) % R.length=(f+i) % R.length:=rfl
  obtain⟨idx,hidx'⟩:∃idx,idx=(f+i) % R.length:=⟨_,rfl⟩
  rw[<-hidx']at hidx hlt
  have c1:(0:Int)<=(idx:Int):=by omega
  have c2:(idx:Int)<(R.length:Int):=by omega
  have ex:=cellsP_at' hidx
  have lx:idx*3+3<=(cellsP R).length:=by rw[cellsP_length];omega
  simp only[Pk.cells]at ex
  rcases hv with⟨rfl,hnil⟩|⟨a,rfl,ga,ha1,ha2⟩
  ·have hap:=pk_first (U:=U.new (.cells [.int .i64 x.id,.int .i64 x.flow,.int .i64 x.size] false)) (b:=U.next) (x:=x) (by rw[St.get_new,if_pos rfl];rfl)
   simp only[go_sem,seval,opLen,Pk.cells]at hap
   simp only[go_sem,seval,opLen,undef,allB,loopOf,Tryz.f101,Option.getD,e0,e3,e4,el]
   refine .of (lnone_call gl) ?_
   simp only[go_sem,seval,opLen,e0,e3,e4,el,gl,gc,hl,hc,c0,n1,n2,n3,n4]
   refine .of (at_call gl hl (by omega) hR.lt (by omega)) ?_
   simp only[go_sem,seval,opLen,zerosN,<-hidx',Int.toNat_natCast,e0,e3,e4,el,gl,gr,gc,hl,hr,hc,c0,c1,c2,ex,lx,hap,w1,n1,n2,n3,n4]
   have tk1:V.L.take (i+1)=[x]:=by rw[tk,hnil];rfl
   refine⟨m - 1,by omega,_,.slice (some ⟨U.next+1,0,some 5⟩) 1 1,i+1,rfl,⟨by simp only[List.length_set,el],by simp only[go_sem,seval,opLen,el,e0],by simp only[go_sem,seval,opLen,el,e3],by simp only[go_sem,seval,opLen,el]⟩,by omega,H.keep (by simp only[go_sem,seval,opLen,St.next_put]<;>omega) (by simp only[go_sem,seval,opLen,hl,n1]) (by simp only[go_sem,seval,opLen,hr,n2]),by simp only[go_sem,seval,opLen,St.next_put]<;>omega,by simp only[go_sem,seval,opLen],.inr ⟨U.next+1,?_,?_,by omega,by simp only[go_sem,seval,opLen,St.next_put]<;>omega⟩⟩
   ·rw[tk1];rfl
   ·rw[tk1];simp only[go_sem,seval,opLen,hc,cellsP,Pk.cells]
  ·have hap:=pk_more (U:=U.new (.cells [.int .i64 x.id,.int .i64 x.flow,.int .i64 x.size] false)) (b:=U.next) (x:=x) (a:=a) (L:=V.L.take i) (by rw[St.get_new,if_neg (by omega)];exact ga) (by rw[St.get_new,if_pos rfl];rfl) (by rw[List.length_take];omega)
   have m1:¬a=l:=by omega
   have m2:¬a=r:=by omega
   have m3:¬a=c:=by omega
   have m4:¬c=a:=by omega
   simp only[go_sem,seval,opLen]at hap
   simp only[go_sem,seval,opLen,undef,allB,loopOf,Tryz.f101,Option.getD,e0,e3,e4,el]
   refine .of (lnone_call gl) ?_
   simp only[go_sem,seval,opLen,e0,e3,e4,el,gl,gc,hl,hc,c0,n1,n2,n3,n4]
   refine .of (at_call gl hl (by omega) hR.lt (by omega)) ?_
   simp only[go_sem,seval,opLen,zerosN,<-hidx',Int.toNat_natCast,e0,e3,e4,el,gl,gr,gc,ga,ha2,hl,hr,hc,c0,c1,c2,ex,lx,hap,w1,n1,n2,n3,n4,m1,m2,m3,m4]
   refine⟨?_,m - 1,by omega,_,.slice (some ⟨U.next+1,0,some 5⟩) ((V.L.take i).length+1) ((V.L.take i).length+1),i+1,rfl,⟨by simp only[List.length_set,el],by simp only[go_sem,seval,opLen,el,e0],by simp only[go_sem,seval,opLen,el,e3],by simp only[go_sem,seval,opLen,el]⟩,by omega,H.keep (by simp only[go_sem,seval,opLen,St.next_put]<;>omega) (by simp only[go_sem,seval,opLen,hl,n1,m1]) (by simp only[go_sem,seval,opLen,hr,n2,m2]),by simp only[go_sem,seval,opLen,St.next_put]<;>omega,by simp only[go_sem,seval,opLen],.inr ⟨U.next+1,?_,?_,by omega,by simp only[go_sem,seval,opLen,St.next_put]<;>omega⟩⟩
   ·omega
   ·rw[tk,List.length_append];rfl
   ·rw[tk];simp only[go_sem,seval,opLen,hc,ha2]
 ·have c0:¬(i:Int)<(V.L.length:Int):=by omega
  obtain rfl:i=V.L.length:=by omega
  simp only[go_sem,seval,opLen,undef,allB,loopOf,Tryz.f101,Option.getD,e0,e3,e4,el]
  refine .of (lnone_call gl) ?_
  simp only[go_sem,seval,opLen,e0,e3,e4,el,gl,gc,hl,hc,c0]
  rw[List.take_length]at hv
  exact⟨rfl,_,v,rfl,by simp only[List.length_set,el],by simp only[go_sem,seval,opLen,el,e3],hc,gc,hv⟩
theorem all_call{U:St}{l r:Nat}{V:LV}(H:LAt U l r V):callX Tryz.prog 101 [.pointer (some ⟨l,0,none⟩)] U λe U' lg=>e=.ret (.func (.func 147) ⟨[]⟩ ⟨[.pointer (some ⟨U.next,0,none⟩)]⟩)/\
  ((∀z∈lg,U.next<=z)/\U.next<U'.next/\∃v,U'.get U.next=some (.cells [v] false)/\PkS (U.next+1) U' v V.L):=by
 have hl:=H.lt.1
 have hr:=H.lt.2
 refine enter (p:=q8) Tryz.func101 rfl stat101 ?_
 simp only[go_sem,seval,opLen,Tryz.f101]
 refine loop_then (all_loop (l:=l) (r:=r) (c:=U.next) (V:=V) hl hr V.L.length _ _ ⟨_,.slice none 0 0,0,rfl,⟨rfl,rfl,rfl,rfl⟩,rfl,H.keep (by simp only[go_sem,seval,opLen]) (by simp only[go_sem,seval,opLen,hl]) (by simp only[go_sem,seval,opLen,hr]),by simp only[go_sem,seval,opLen],by simp only[go_sem,seval,opLen],.inl ⟨rfl,rfl⟩⟩) ?_
 intro x fr' U' lg hlg hB h
 obtain⟨rfl,ts,v,rfl,el,e3,hc,gc,hv⟩:=h
 simp only[go_sem,seval,opLen,Tryz.f101,e3,el]
 exact⟨λz hz=>hB z hz,hc,v,gc,hv⟩
structure Yields(y:Nat)(B:Nat->Prop)(L:List Pk)(J:List Pk->St->Prop):Prop where
 round:∀done x rest U,L=done++x :: rest->J done U->roundX Tryz.prog y [x.val] U λe U' lg=>e=.ret (.bool true)/\((∀z∈lg,B z)/\J (done++[x]) U')
 keep:∀done U U',J done U->U.next<=U'.next->(∀z,z<U.next->U'.get z=U.get z)->J done U'
structure FY(ts:List Value)(y:Nat)(v:Value)(n i:Nat):Prop where
 size:ts.length=16
 t0:lget ts 0=.func (.yield y) #[] #[]
 t5:lget ts 5=v
 t6:lget ts 6=.int .i64 n
 t7:lget ts 7=.int .i64 i
def IY(y:Nat)(v:Value)(L:List Pk)(J:List Pk->St->Prop)(m:Nat)(fr:Fr)(U:St):Prop:=
 ∃ts,∃i:Nat,fr=⟨ts,[]⟩/\FY ts y v L.length i/\m+i=L.length/\J (L.take i) U
def EY(L:List Pk)(J:List Pk->St->Prop)(x:AX)(fr:Fr)(U:St):Prop:=x=.exit 0/\fr.ds=[]/\J L U
theorem seq_loop{y n0 lo:Nat}{v:Value}{L:List Pk}{B:Nat->Prop}{J:List Pk->St->Prop}(hY:Yields y B L J)(hB:∀z,n0<=z->B z)(hv:∀done U,J done U->PkS lo U v L/\n0<=U.next)(hL:L.length<1000000):
  ∀m fr U,IY y v L J m fr U->loopX Tryz.prog false (loopOf (Tryz.f147.body.getD .skip)) fr U (endL (EY L J) B):=by
 refine loop_ind q8 147 (by kernel_rfl) _ _ _ ?_
 rintro m fr U ⟨ts,i,rfl,F,hmi,hJ⟩
 have e0:=F.t0
 have e5:=F.t5
 have e6:=F.t6
 have e7:=F.t7
 have el:=F.size
 by_cases hi:i<L.length
 ·have c0:(i:Int)<(L.length:Int):=by omega
  have hx:L[i]?=some L[i]:=List.getElem?_eq_getElem hi
  have hsp:L=L.take i++L[i] :: L.drop (i+1):=by simp
  have tk:L.take (i+1)=L.take i++[L[i]]:=by rw[List.take_add_one,hx];rfl
  generalize L[i]=x at hx hsp tk
  obtain⟨hS,hn0⟩:=hv _ _ hJ
  rcases hS with⟨_,rfl⟩|⟨a,rfl,ga,ha1,ha2⟩
  ·simp at hi
  have c1:(0:Int)<=(i:Int):=by omega
  have ex:=cellsP_at' hx
  have lx:i*3+3<=(cellsP L).length:=by rw[cellsP_length];omega
  simp only[Pk.cells]at ex
  have na:¬U.next=a:=by omega
  have w1:IntKind.i64.wrap ((i:Int)+1)=((i+1:Nat):Int):=by
   have:(i:Int)+1=((i+1:Nat):Int):=by omega
   rw[this];exact wrapIN (by omega)
  simp only[go_sem,seval,opLen,undef,loopOf,Tryz.f147,Option.getD,Int.toNat_natCast,e0,e5,e6,e7,el,ga,ha2,na,c0,c1,ex,lx]
  refine roundX.hid (hY.round _ x _ _ hsp (hY.keep _ U _ hJ ?_ ?_)) ?_
  ·simp only[go_sem,seval,opLen,St.next_put]<;>omega
  ·intro z hz
   simp only[go_sem,seval,opLen,hz]
  intro U1 lg1 hlg1 h1
  obtain⟨hB1,hJ1⟩:=h1
  rw[<-tk]at hJ1
  have hBn:=hB U.next hn0
  refine⟨?_⟩
  simp only[go_sem,seval,opLen,undef,e0,e5,e6,e7,el,w1]
  exact⟨⟨hBn,hB1⟩,m - 1,by omega,_,i+1,rfl,⟨by simp only[List.length_set,el],by simp only[go_sem,seval,opLen,el,e0],by simp only[go_sem,seval,opLen,el,e5],by simp only[go_sem,seval,opLen,el,e6],by simp only[go_sem,seval,opLen,el]⟩,by omega,hJ1⟩
 ·have c0:¬(i:Int)<(L.length:Int):=by omega
  obtain rfl:i=L.length:=by omega
  rw[List.take_length]at hJ
  simp only[go_sem,seval,opLen,undef,loopOf,Tryz.f147,Option.getD,e0,e5,e6,e7,el,c0]
  exact⟨rfl,rfl,hJ⟩
theorem seq_call{y n0 lo c:Nat}{v:Value}{L:List Pk}{B:Nat->Prop}{J:List Pk->St->Prop}(hY:Yields y B L J)(hB:∀z,n0<=z->B z)(hv:∀done U,J done U->PkS lo U v L/\n0<=U.next)(hL:L.length<1000000){U:St}(gc:U.get c=some (.cells [v] false))(h0:J [] U):
  callX Tryz.prog 147 [.func (.yield y) #[] #[],.pointer (some ⟨c,0,none⟩)] U λe U' lg=>e=.ret (.tuple ⟨[]⟩)/\((∀z∈lg,B z)/\J L U'):=by
 have hv0:=(hv _ _ h0).1
 have hlen:v=.slice none 0 0/\L.length=0\/∃a,v=.slice (some ⟨a,0,some 5⟩) L.length L.length:=by
  rcases hv0 with⟨h1,h2⟩|⟨a,h1,_⟩
  ·exact .inl ⟨h1,by rw[h2];rfl⟩
  ·exact .inr ⟨a,h1⟩
 refine enter (p:=q8) Tryz.func147 rfl stat147 ?_
 have key:∀n:Nat,n=L.length->opLen (cP Tryz.prog).T U 59 v=some (.val (.int .i64 n) []):=by
  rintro n rfl
  rcases hlen with⟨rfl,h⟩|⟨a,rfl⟩
  ·rw[h];simp only[opLen,und168];rfl
  ·simp only[opLen,und168]
 have hlen':=key _ rfl
 simp only[go_sem,seval,undef,Tryz.f147,gc]
 refine enscope q8 147 (by kernel_rfl) ?_
 simp only[go_sem,seval,undef,Tryz.f147,gc,hlen']
 refine loop_then (seq_loop hY hB hv hL L.length _ _ ⟨_,0,rfl,⟨rfl,rfl,rfl,rfl,rfl⟩,rfl,h0⟩) ?_
 intro x fr' U' lg hlg hB' h
 obtain⟨rfl,hds,hJ⟩:=h
 obtain⟨ts',ds'⟩:=fr'
 simp only at hds
 subst hds
 simp only[go_sem,seval,opLen,Tryz.f147]
 exact⟨hB',hJ⟩
def findR:Code->Option (Array Tmp×Code×Code)
 |.rangeFunc _ ps a b=>some (ps,a,b)
 |.block _ c=>findR c
 |.scope c=>findR c
 |.loop c=>findR c
 |.seq a b=>match findR a with|some x=>some x|none=>findR b
 |.cond _ a b=>match findR a with|some x=>some x|none=>findR b
 |_=>none
noncomputable def sumA:Code:=match findR (Tryz.f115.body.getD .skip) with|some x=>x.2.1|none=>.skip
noncomputable def sumD:Code:=match findR (Tryz.f115.body.getD .skip) with|some x=>x.2.2|none=>.skip
theorem size131_call(x:Pk)(U:St):DCall Tryz.prog 116 [.agg ⟨[.int .i64 x.id,.int .i64 x.flow,.int .i64 x.size]⟩] U (.ret (.int .i64 x.size)) U []:=by
 refine pure_call (enter (p:=q8) Tryz.func116 rfl stat116 ?_) rfl
 simp only[go_sem,seval,opLen,Tryz.f116]
structure JS(U0:St)(ts:List Value)(done:List Pk)(U:St):Prop where
 nx:U0.next+4<=U.next
 old:∀z,z<U0.next->U.get z=U0.get z
 g3:U.get U0.next=some (.cells [.func (.func 116) ⟨[]⟩ ⟨[]⟩] false)
 g5:U.get (U0.next+1)=some (.cells [.int .i64 (sumP done)] false)
 gd:U.get (U0.next+2)=some (.deferred false)
 gy:U.get (U0.next+3)=some (loopOb .ready none ts #[8] sumA sumD (U0.next+2))
theorem sumP_bound:∀(l:List Pk),(∀x∈l,0<=x.size/\x.size<=2000)->0<=sumP l/\sumP l<=2000*l.length
 |[],_=>by simp [sumP]
 |x :: l,h=>by
  have h1:=sumP_bound l λy hy=>h y (by simp [hy])
  have h2:=h x (by simp)
  simp only[sumP,List.length_cons]
  omega
theorem sum_yields{U0:St}{ts:List Value}{L:List Pk}(hts:ts.length=15)(t3:lget ts 3=.pointer (some ⟨U0.next,0,none⟩))(t5:lget ts 5=.pointer (some ⟨U0.next+1,0,none⟩))(hs:∀x∈L,0<=x.size/\x.size<=2000)(hL:L.length<1000000):
  Yields (U0.next+3) (λz=>U0.next<=z) L (JS U0 ts):=by
 refine⟨λdone x rest U hsp H=>?_,λdone U U' H hn hg=>?_⟩
 ·have hx:=hs x (by rw[hsp];simp)
  have hdn:∀y∈done,0<=y.size/\y.size<=2000:=λy hy=>hs y (by rw[hsp];simp [hy])
  have hb:=sumP_bound done hdn
  have hlen:done.length<1000000:=by
   have:=congrArg List.length hsp
   simp at this;omega
  have w1:IntKind.i64.wrap (sumP done+x.size)=sumP done+x.size:=wrapI (by omega) (by omega)
  have nx:=H.nx
  have g3:=H.g3
  have g5:=H.g5
  have gy:=H.gy
  have k3:U0.next<U.next:=by omega
  have k5:U0.next+1<U.next:=by omega
  have ky:U0.next+3<U.next:=by omega
  have m1:¬U0.next+3=U0.next:=by omega
  have m2:¬U0.next+3=U0.next+1:=by omega
  have m3:¬U.next=U0.next+3:=by omega
  have m4:¬U0.next+3=U.next:=by omega
  refine roundX.enter (p:=q8) (bt:=btAll 115) cP_ok mixed gy rfl (by kernel_rfl) (by kernel_rfl) ?_
  simp only[go_sem,seval,opLen,Pk.val,Pk.cells,sumA,findR,Tryz.f115,Option.getD,roundTs,hts]
  refine midRW.mk ?_ ?_
  ·simp only[go_sem,seval,opLen,ky,m3]
   exact gy
  simp only[go_sem,seval,opLen,sumD,findR,Tryz.f115,Option.getD,hts,t3,t5,g3,g5,k3,k5,ky,m1,m2,m3,m4,w1]
  refine .of (size131_call x _) ?_
  simp only[go_sem,seval,opLen,Option.getD,hts,t3,t5,g3,g5,k3,k5,ky,m1,m2,m3,m4,w1]
  have hsum:sumP (done++[x])=sumP done+x.size:=by rw[sumP_append];simp [sumP]
  refine⟨by simp only[go_sem,seval,opLen,St.next_put]<;>omega,λz hz=>?_,?_,?_,?_,?_⟩
  ·have z1:¬U0.next+3=z:=by omega
   have z2:¬U0.next+1=z:=by omega
   have z3:¬U.next=z:=by omega
   rw[St.get_set,if_neg z1,St.get_set,if_neg z2,St.get_set,if_neg z1,St.get_set,if_neg z3,St.get_new,if_neg z3]
   exact H.old z hz
  ·have z3:¬U.next=U0.next:=by omega
   rw[St.get_set,if_neg m1,St.get_set,if_neg (by omega),St.get_set,if_neg m1,St.get_set,if_neg z3,St.get_new,if_neg z3]
   exact g3
  ·rw[St.get_set,if_neg m2,St.get_set,if_pos rfl,hsum]
  ·have z3:¬U.next=U0.next+2:=by omega
   rw[St.get_set,if_neg (by omega),St.get_set,if_neg (by omega),St.get_set,if_neg (by omega),St.get_set,if_neg z3,St.get_new,if_neg z3]
   exact H.gd
  ·rw[St.get_set,if_pos rfl]
   rfl
 ·have nx:=H.nx
  exact⟨by omega,λz hz=>(hg z (by omega)).trans (H.old z hz),(hg _ (by omega)).trans H.g3,(hg _ (by omega)).trans H.g5,(hg _ (by omega)).trans H.gd,(hg _ (by omega)).trans H.gy⟩
def sumT(U:St)(c:Nat):List Value:=[.func (.func 147) ⟨[]⟩ ⟨[.pointer (some ⟨c,0,none⟩)]⟩,.func (.func 116) ⟨[]⟩ ⟨[]⟩,undef,.pointer (some ⟨U.next,0,none⟩),.int .i64 0,.pointer (some ⟨U.next+1,0,none⟩),undef,.func (.func 147) ⟨[]⟩ ⟨[.pointer (some ⟨c,0,none⟩)]⟩,undef,undef,undef,undef,undef,undef,undef]
theorem sum_call{U:St}{c lo:Nat}{v:Value}{L:List Pk}(gc:U.get c=some (.cells [v] false))(hc:c<U.next)(hv:PkS lo U v L)(hs:∀x∈L,0<=x.size/\x.size<=2000)(hL:L.length<1000000):
  DCall Tryz.prog 115 [.func (.func 147) ⟨[]⟩ ⟨[.pointer (some ⟨c,0,none⟩)]⟩,.func (.func 116) ⟨[]⟩ ⟨[]⟩] U (.ret (.int .i64 (sumP L))) U []:=by
 refine pure_call (callX.enterD (p:=q8) cP_ok mixed Tryz.func115 rfl stat115 ?_) rfl
 simp only[go_sem,seval,opLen,Tryz.f115]
 refine rangeX.of cP_ok (f:=147) (xs:=[]) (ys:=[.pointer (some ⟨c,0,none⟩)]) (by simp only[go_sem,seval,opLen]) body147 ?_
 have hY:=sum_yields (U0:=U) (ts:=sumT U c) (L:=L) rfl rfl rfl hs hL
 refine callX.hid (R:=λU' lg=>(∀z∈lg,U.next<=z)/\JS U (sumT U c) L U') (seq_call (c:=c) (v:=v) (n0:=U.next) (lo:=lo) hY (λz hz=>hz) (λdone U' H=>⟨?_,?_⟩) hL ?_ ⟨?_,?_,?_,?_,?_,?_⟩) ?_
 ·rcases hv with h|⟨a,h1,h2,h3,h4⟩
  ·exact .inl h
  ·exact .inr ⟨a,h1,(H.old a h4).trans h2,h3,by have:=H.nx;omega⟩
 ·have:=H.nx;omega
 ·simp only[go_sem,seval,opLen,hc,gc]
 ·simp only[go_sem,seval,opLen,St.next_put]<;>omega
 ·intro z hz
  simp only[go_sem,seval,opLen,hz]
 ·simp only[go_sem,seval,opLen]
 ·simp only[go_sem,seval,opLen];rfl
 ·simp only[go_sem,seval,opLen]
 ·simp only[go_sem,seval,opLen];rfl
 intro U1 lg1 hlg1 h1
 obtain⟨hB,H⟩:=h1
 have nx:=H.nx
 have g5:=H.g5
 have gd:=H.gd
 have k5:U.next+1<U1.next:=by omega
 have m5:¬U.next+3=U.next+1:=by omega
 refine⟨?_⟩
 refine⟨.ready,none,.norm,H.gy,rfl,rfl,?_⟩
 simp only[go_sem,seval,opLen,k5,g5,m5]
 have kd:¬U.next+3=U.next+2:=by omega
 refine .collected (by simp only[go_sem,seval,opLen,kd,gd]) ?_
 refine .ret cP_ok (by simp only[go_sem,seval,opLen]<;>rfl) ?_
 simp only[go_sem,seval,opLen]
 intro z hz
 rcases hz with(hz|hz)|hz<;>first|exact hB z hz|omega
theorem bytes_call{U:St}{l r:Nat}{V:LV}(H:LAt U l r V)(hs:∀x∈V.L,0<=x.size/\x.size<=2000):DCall Tryz.prog 69 [.pointer (some ⟨l,0,none⟩)] U (.ret (.int .i64 (sumP V.L))) U []:=by
 refine pure_call (enter (p:=q8) Tryz.func69 rfl stat69 ?_) rfl
 simp only[go_sem,seval,opLen,Tryz.f69,body101,body115]
 refine callX.hid (all_call H) ?_
 intro U1 lg1 hlg1 h1
 obtain⟨hB,hn,v,gv,hv⟩:=h1
 have hL:V.L.length<1000000:=by
  obtain⟨R,f,sp,_,_,hR,hRs⟩:=H.core
  have:=hR.le;omega
 refine⟨?_⟩
 simp only[go_sem,seval,opLen,Tryz.f69,body101,body115]
 refine .of (sum_call gv hn hv hs hL) ?_
 simp only[go_sem,seval,opLen,Tryz.f69,body101,body115]
 exact hB
attribute [go_sem] Tryz.underlying234 info234 Tryz.t234 Tryz.underlying188 info188 Tryz.t188 Tryz.underlying189 info189 Tryz.t189
def ItS(lo:Nat)(U:St)(v:Value)(L:List Pk):Prop:=(v=.slice none 0 0/\L=[])\/∃a,v=.slice (some ⟨a,0,some 5⟩) L.length L.length/\U.get a=some (.cells (cellsP L) false)/\lo<=a/\a<U.next
def ItV(lo:Nat)(U:St)(v:Value)(L:List Pk):Prop:=(v=.slice none 0 0/\L=[])\/∃a s cap G,v=.slice (some ⟨a,0,some s⟩) L.length cap/\U.get a=some (.cells (cellsP L++G) false)/\lo<=a/\a<U.next
theorem ItS.keep{lo:Nat}{U U':St}{v:Value}{L:List Pk}(h:ItS lo U v L)(hn:U.next<=U'.next)(hg:∀a,lo<=a->a<U.next->U'.get a=U.get a):ItS lo U' v L:=by
 rcases h with h|⟨a,h1,h2,h3,h4⟩
 ·exact .inl h
 ·exact .inr ⟨a,h1,(hg a h3 h4).trans h2,h3,by omega⟩
theorem und37w:(cP Tryz.prog).T.und 59=some (.slice 33):=(cx_und 59).trans Tryz.underlying59
theorem inf31w:(cP Tryz.prog).T.info 33=some Tryz.t33:=(cx_info 33).trans info33
theorem cellsP_app:∀A B:List Pk,cellsP (A++B)=cellsP A++cellsP B
 |[],B=>rfl
 |x :: A,B=>by simp [cellsP,cellsP_app A B]
theorem it_first{U:St}{b:Nat}{x:Pk}(hg:U.get b=some (.cells x.cells false)):
  opAppend (cP Tryz.prog).T U 59 59 (.slice none 0 0) (.slice (some ⟨b,0,some 0⟩) 1 1)=some (.new (.cells x.cells false) (.slice (some ⟨U.next,0,some 5⟩) 1 1) [b]):=by
 simp only[Pk.cells]at hg ⊢
 simp only[opAppend,und37w,inf31w,srcLen,Tryz.t33,srcCells,hg]
 simp [isSeqD,oneCells,plain,plainL,vcells]
theorem it_more{U:St}{a b:Nat}{L:List Pk}{x:Pk}(ha:U.get a=some (.cells (cellsP L) false))(hg:U.get b=some (.cells x.cells false))(sm:L.length<=1000000):
  opAppend (cP Tryz.prog).T U 59 59 (.slice (some ⟨a,0,some 5⟩) L.length L.length) (.slice (some ⟨b,0,some 0⟩) 1 1)=
   some (.eff (.slice (some ⟨U.next,0,some 5⟩) (L.length+1) (L.length+1)) ((U.new (.cells (cellsP (L++[x])) false)).put a none) [a]):=by
 have l3:¬4294967296<=L.length:=by omega
 have tk:(cellsP L).take (L.length*3)=cellsP L:=List.take_of_length_le (by rw[cellsP_length];omega)
 have ap:cellsP (L++[x])=cellsP L++x.cells:=by rw[cellsP_app];simp [cellsP]
 rw[ap]
 simp only[Pk.cells]at hg ⊢
 simp only[opAppend,und37w,inf31w,srcLen,Tryz.t33,srcCells,hg,ha]
 simp [isSeqD,oneCells,plain,plainL,vcells,l3,tk,cellsP_length]
 omega
structure YieldsI(y:Nat)(B:Nat->Prop)(L:List Pk)(J:List Pk->St->Prop):Prop where
 round:∀done x rest U,L=done++x :: rest->J done U->roundX Tryz.prog y [(.agg ⟨x.cells⟩)] U λe U' lg=>e=.ret (.bool true)/\((∀z∈lg,B z)/\J (done++[x]) U')
 keep:∀done U U',J done U->U.next<=U'.next->(∀z,z<U.next->U'.get z=U.get z)->J done U'
structure FYI(ts:List Value)(y:Nat)(v:Value)(n i:Nat):Prop where
 size:ts.length=16
 t0:lget ts 0=.func (.yield y) #[] #[]
 t5:lget ts 5=v
 t6:lget ts 6=.int .i64 n
 t7:lget ts 7=.int .i64 i
def IYI(y:Nat)(v:Value)(L:List Pk)(J:List Pk->St->Prop)(m:Nat)(fr:Fr)(U:St):Prop:=
 ∃ts,∃i:Nat,fr=⟨ts,[]⟩/\FYI ts y v L.length i/\m+i=L.length/\J (L.take i) U
def EYI(L:List Pk)(J:List Pk->St->Prop)(x:AX)(fr:Fr)(U:St):Prop:=x=.exit 0/\fr.ds=[]/\J L U
theorem seqI_loop{y n0 lo:Nat}{v:Value}{L:List Pk}{B:Nat->Prop}{J:List Pk->St->Prop}(hY:YieldsI y B L J)(hB:∀z,n0<=z->B z)(hv:∀done U,J done U->ItV lo U v L/\n0<=U.next)(hL:L.length<1000000):
  ∀m fr U,IYI y v L J m fr U->loopX Tryz.prog false (loopOf (Tryz.f173.body.getD .skip)) fr U (endL (EYI L J) B):=by
 refine loop_ind q0 173 (by kernel_rfl) _ _ _ ?_
 rintro m fr U ⟨ts,i,rfl,F,hmi,hJ⟩
 have e0:=F.t0
 have e5:=F.t5
 have e6:=F.t6
 have e7:=F.t7
 have el:=F.size
 by_cases hi:i<L.length
 ·have c0:(i:Int)<(L.length:Int):=by omega
  have hx:L[i]?=some L[i]:=List.getElem?_eq_getElem hi
  have hsp:L=L.take i++L[i] :: L.drop (i+1):=by simp
  have tk:L.take (i+1)=L.take i++[L[i]]:=by rw[List.take_add_one,hx];rfl
  generalize L[i]=x at hx hsp tk
  obtain⟨hS,hn0⟩:=hv _ _ hJ
  rcases hS with⟨_,rfl⟩|⟨a,s,cap,G,rfl,ga,ha1,ha2⟩
  ·simp at hi
  have c1:(0:Int)<=(i:Int):=by omega
  have ex:=cellsP_at (G:=G) hx
  have lx:i*3+3<=(cellsP L++G).length:=by rw[List.length_append,cellsP_length];omega
  simp only[Pk.cells]at ex
  have na:¬U.next=a:=by omega
  have w1:IntKind.i64.wrap ((i:Int)+1)=((i+1:Nat):Int):=by
   have:(i:Int)+1=((i+1:Nat):Int):=by omega
   rw[this];exact wrapIN (by omega)
  simp only[go_sem,seval,opLen,undef,loopOf,Tryz.f173,Option.getD,Int.toNat_natCast,e0,e5,e6,e7,el,ga,ha2,na,c0,c1,ex,lx]
  refine roundX.hid (hY.round _ x _ _ hsp (hY.keep _ U _ hJ ?_ ?_)) ?_
  ·simp only[go_sem,seval,opLen,St.next_put]<;>omega
  ·intro z hz
   simp only[go_sem,seval,opLen,hz]
  intro U1 lg1 hlg1 h1
  obtain⟨hB1,hJ1⟩:=h1
  rw[<-tk]at hJ1
  have hBn:=hB U.next hn0
  refine⟨?_⟩
  simp only[go_sem,seval,opLen,undef,e0,e5,e6,e7,el,w1]
  exact⟨⟨hBn,hB1⟩,m - 1,by omega,_,i+1,rfl,⟨by simp only[List.length_set,el],by simp only[go_sem,seval,opLen,el,e0],by simp only[go_sem,seval,opLen,el,e5],by simp only[go_sem,seval,opLen,el,e6],by simp only[go_sem,seval,opLen,el]⟩,by omega,hJ1⟩
 ·have c0:¬(i:Int)<(L.length:Int):=by omega
  obtain rfl:i=L.length:=by omega
  rw[List.take_length]at hJ
  simp only[go_sem,seval,opLen,undef,loopOf,Tryz.f173,Option.getD,e0,e5,e6,e7,el,c0]
  exact⟨rfl,rfl,hJ⟩
theorem seqI_call{y n0 lo c:Nat}{v:Value}{L:List Pk}{B:Nat->Prop}{J:List Pk->St->Prop}(hY:YieldsI y B L J)(hB:∀z,n0<=z->B z)(hv:∀done U,J done U->ItV lo U v L/\n0<=U.next)(hL:L.length<1000000){U:St}(gc:U.get c=some (.cells [v] false))(h0:J [] U):
  callX Tryz.prog 173 [.func (.yield y) #[] #[],.pointer (some ⟨c,0,none⟩)] U λe U' lg=>e=.ret (.tuple ⟨[]⟩)/\((∀z∈lg,B z)/\J L U'):=by
 have hv0:=(hv _ _ h0).1
 have hlen:v=.slice none 0 0/\L.length=0\/∃a s cap,v=.slice (some ⟨a,0,some s⟩) L.length cap:=by
  rcases hv0 with⟨h1,h2⟩|⟨a,s,cap,G,h1,_⟩
  ·exact .inl ⟨h1,by rw[h2];rfl⟩
  ·exact .inr ⟨a,s,cap,h1⟩
 refine enter (p:=q0) Tryz.func173 rfl stat173 ?_
 have key:∀n:Nat,n=L.length->opLen (cP Tryz.prog).T U 59 v=some (.val (.int .i64 n) []):=by
  rintro n rfl
  rcases hlen with⟨rfl,h⟩|⟨a,s,cap,rfl⟩
  ·rw[h];simp only[opLen,und37w];rfl
  ·simp only[opLen,und37w]
 have hlen':=key _ rfl
 simp only[go_sem,seval,callW,q0,undef,Tryz.f173,gc,hlen']
 refine loop_then (seqI_loop hY hB hv hL L.length _ _ ⟨_,0,rfl,⟨rfl,rfl,rfl,rfl,rfl⟩,rfl,h0⟩) ?_
 intro x fr' U' lg hlg hB' h
 obtain⟨rfl,hds,hJ⟩:=h
 obtain⟨ts',ds'⟩:=fr'
 simp only at hds
 subst hds
 simp only[go_sem,seval,opLen,Tryz.f173]
 exact⟨hB',hJ⟩
noncomputable def apIA:Code:=match findR (Tryz.f146.body.getD .skip) with|some x=>x.2.1|none=>.skip
noncomputable def apID:Code:=match findR (Tryz.f146.body.getD .skip) with|some x=>x.2.2|none=>.skip
structure JAI(U0:St)(ts:List Value)(done:List Pk)(U:St):Prop where
 nx:U0.next+3<=U.next
 old:∀z,z<U0.next->U.get z=U0.get z
 g2:∃w,U.get U0.next=some (.cells [w] false)/\ItS (U0.next+3) U w done
 gd:U.get (U0.next+1)=some (.deferred false)
 gy:U.get (U0.next+2)=some (loopOb .ready none ts #[7] apIA apID (U0.next+1))
theorem apI_yields{U0:St}{ts:List Value}{L:List Pk}(hts:ts.length=13)(t2:lget ts 2=.pointer (some ⟨U0.next,0,none⟩))(hL:L.length<1000000):
  YieldsI (U0.next+2) (λz=>U0.next<=z) L (JAI U0 ts):=by
 refine⟨λdone x rest U hsp H=>?_,λdone U U' H hn hg=>?_⟩
 ·have hlen:done.length<1000000:=by
   have:=congrArg List.length hsp
   simp at this;omega
  have nx:=H.nx
  have gy:=H.gy
  obtain⟨w,g2,hw⟩:=H.g2
  have k2:U0.next<U.next:=by omega
  have ky:U0.next+2<U.next:=by omega
  have k2':U0.next<U.next+1:=by omega
  have m1:¬U0.next+2=U0.next:=by omega
  have m3:¬U.next=U0.next+2:=by omega
  have m4:¬U0.next+2=U.next:=by omega
  have m5:¬U0.next+2=U.next+1:=by omega
  refine roundX.enter (p:=q0) (bt:=btAll 146) cP_ok mixed gy rfl (by kernel_rfl) (by kernel_rfl) ?_
  simp only[go_sem,seval,opLen,Pk.cells,apIA,findR,Tryz.f146,Option.getD,roundTs,hts]
  refine midRW.mk ?_ ?_
  ·simp only[go_sem,seval,opLen,ky,m3]
   exact gy
  rcases hw with⟨rfl,rfl⟩|⟨a,rfl,ga,ha1,ha2⟩
  ·have hap:∀U:St,∀b,U.get b=some (.cells x.cells false)->opAppend (cP Tryz.prog).T U 59 59 (.slice none 0 0) (.slice (some ⟨b,0,some 0⟩) 1 1)=some (.new (.cells x.cells false) (.slice (some ⟨U.next,0,some 5⟩) 1 1) [b]):=λU b h=>it_first h
   simp only[Pk.cells]at hap
   simp only[go_sem,seval,opLen,zerosN,apID,findR,Tryz.f146,Option.getD,hts,t2,g2,k2,k2',ky,m1,m3,m4,m5,hap]
   refine⟨by simp only[go_sem,seval,opLen,St.next_put]<;>omega,λz hz=>?_,⟨.slice (some ⟨U.next+2,0,some 5⟩) 1 1,?_,.inr ⟨U.next+2,rfl,?_,by omega,by simp only[go_sem,seval,opLen,St.next_put]<;>omega⟩⟩,?_,?_⟩
   ·have z1:¬U0.next+2=z:=by omega
    have z2:¬U0.next=z:=by omega
    have z3:z<U.next:=by omega
    simp only[go_sem,seval,opLen,z1,z2,z3]
    exact H.old z hz
   ·simp only[go_sem,seval,opLen,m1,k2]
   ·have z1:¬U0.next+2=U.next+2:=by omega
    have z2:¬U0.next=U.next+2:=by omega
    simp only[go_sem,seval,opLen,z1,z2,cellsP,Pk.cells]
   ·have z1:¬U0.next+2=U0.next+1:=by omega
    have z2:¬U0.next=U0.next+1:=by omega
    have z3:U0.next+1<U.next:=by omega
    simp only[go_sem,seval,opLen,z1,z2,z3]
    exact H.gd
   ·rw[St.get_set,if_pos rfl]
    rfl
  ·have hap:∀U:St,∀b,U.get a=some (.cells (cellsP done) false)->U.get b=some (.cells x.cells false)->opAppend (cP Tryz.prog).T U 59 59 (.slice (some ⟨a,0,some 5⟩) done.length done.length) (.slice (some ⟨b,0,some 0⟩) 1 1)=
     some (.eff (.slice (some ⟨U.next,0,some 5⟩) (done.length+1) (done.length+1)) ((U.new (.cells (cellsP (done++[x])) false)).put a none) [a]):=λU b h1 h2=>it_more h1 h2 (by omega)
   simp only[Pk.cells]at hap
   have n1:¬a=U0.next:=by omega
   have n2:¬a=U0.next+2:=by omega
   have n3:¬U0.next+2=a:=by omega
   simp only[go_sem,seval,opLen,zerosN,apID,findR,Tryz.f146,Option.getD,hts,t2,g2,ga,ha2,k2,k2',ky,m1,m3,m4,m5,n1,n2,n3,hap]
   have hdl:(done++[x]).length=done.length+1:=by rw[List.length_append];rfl
   refine⟨by omega,⟨by simp only[go_sem,seval,opLen,St.next_put]<;>omega,λz hz=>?_,⟨.slice (some ⟨U.next+2,0,some 5⟩) (done++[x]).length (done++[x]).length,?_,.inr ⟨U.next+2,rfl,?_,by omega,by simp only[go_sem,seval,opLen,St.next_put]<;>omega⟩⟩,?_,?_⟩⟩
   ·have z1:¬U0.next+2=z:=by omega
    have z2:¬U0.next=z:=by omega
    have z3:z<U.next:=by omega
    have z4:¬a=z:=by omega
    simp only[go_sem,seval,opLen,z1,z2,z3,z4]
    exact H.old z hz
   ·rw[hdl];simp only[go_sem,seval,opLen,m1,k2]
   ·have z1:¬U0.next+2=U.next+2:=by omega
    have z2:¬U0.next=U.next+2:=by omega
    have z4:¬a=U.next+2:=by omega
    simp only[go_sem,seval,opLen,z1,z2,z4]
   ·have z1:¬U0.next+2=U0.next+1:=by omega
    have z2:¬U0.next=U0.next+1:=by omega
    have z3:U0.next+1<U.next:=by omega
    have z4:¬a=U0.next+1:=by omega
    simp only[go_sem,seval,opLen,z1,z2,z3,z4]
    exact H.gd
   ·rw[St.get_set,if_pos rfl]
    rfl
 ·have nx:=H.nx
  obtain⟨w,g2,hw⟩:=H.g2
  exact⟨by omega,λz hz=>(hg z (by omega)).trans (H.old z hz),⟨w,(hg _ (by omega)).trans g2,hw.keep hn λa _ h=>hg a h⟩,(hg _ (by omega)).trans H.gd,(hg _ (by omega)).trans H.gy⟩
def apIT(U:St)(c:Nat):List Value:=[.slice none 0 0,.func (.func 173) ⟨[]⟩ ⟨[.pointer (some ⟨c,0,none⟩)]⟩,.pointer (some ⟨U.next,0,none⟩),undef,.slice none 0 0,undef,.func (.func 173) ⟨[]⟩ ⟨[.pointer (some ⟨c,0,none⟩)]⟩,undef,undef,undef,undef,undef,undef]
def ApRI(U:St)(L:List Pk)(e:AE)(U':St)(lg:Log):Prop:=∃w,e=.ret w/\(∀z∈lg,U.next<=z)/\ItS (U.next+3) U' w L
theorem apI_call{U:St}{c lo:Nat}{v:Value}{L:List Pk}(gc:U.get c=some (.cells [v] false))(hc:c<U.next)(hv:ItV lo U v L)(hL:L.length<1000000):
  callX Tryz.prog 146 [.slice none 0 0,.func (.func 173) ⟨[]⟩ ⟨[.pointer (some ⟨c,0,none⟩)]⟩] U (ApRI U L):=by
 refine callX.enterD (p:=q0) cP_ok mixed Tryz.func146 rfl stat146 ?_
 simp only[go_sem,seval,opLen,Tryz.f146]
 refine rangeX.of cP_ok (f:=173) (xs:=[]) (ys:=[.pointer (some ⟨c,0,none⟩)]) (by simp only[go_sem,seval,opLen]) body173 ?_
 have hY:=apI_yields (U0:=U) (ts:=apIT U c) (L:=L) rfl rfl hL
 refine callX.hid (R:=λU' lg=>(∀z∈lg,U.next<=z)/\JAI U (apIT U c) L U') (seqI_call (c:=c) (v:=v) (n0:=U.next) (lo:=lo) hY (λz hz=>hz) (λdone U' H=>⟨?_,?_⟩) hL ?_ ⟨?_,?_,⟨.slice none 0 0,?_,.inl ⟨rfl,rfl⟩⟩,?_,?_⟩) ?_
 ·rcases hv with h|⟨a,s,cap,G,h1,h2,h3,h4⟩
  ·exact .inl h
  ·exact .inr ⟨a,s,cap,G,h1,(H.old a h4).trans h2,h3,by have:=H.nx;omega⟩
 ·have:=H.nx;omega
 ·simp only[go_sem,seval,opLen,hc,gc]
 ·simp only[go_sem,seval,opLen,St.next_put]<;>omega
 ·intro z hz
  simp only[go_sem,seval,opLen,hz]
 ·simp only[go_sem,seval,opLen]
 ·simp only[go_sem,seval,opLen]
 ·simp only[go_sem,seval,opLen];rfl
 intro U1 lg1 hlg1 h1
 obtain⟨hB,H⟩:=h1
 have nx:=H.nx
 obtain⟨w,g2,hw⟩:=H.g2
 have gd:=H.gd
 have k5:U.next<U1.next:=by omega
 have m5:¬U.next+2=U.next:=by omega
 refine⟨?_⟩
 refine⟨.ready,none,.norm,H.gy,rfl,rfl,?_⟩
 simp only[go_sem,seval,opLen,k5,g2,m5]
 have kd:¬U.next+2=U.next+1:=by omega
 refine .collected (by simp only[go_sem,seval,opLen,kd,gd]) ?_
 refine .ret cP_ok (by simp only[go_sem,seval,opLen]<;>rfl) ?_
 simp only[go_sem,seval,opLen]
 refine⟨w,rfl,λz hz=>?_,hw.keep (by simp only[go_sem,seval,opLen,St.next_put]<;>omega) λa h1 h2=>?_⟩
 ·simp only[List.mem_append,List.mem_cons,List.not_mem_nil,or_false,false_or]at hz
  rcases hz with(hz|hz)|hz<;>first|exact hB z hz|omega
 ·have q1:¬U.next+1=a:=by omega
  have q2:¬U.next+2=a:=by omega
  simp only[go_sem,seval,opLen,q1,q2]
theorem collectI_call{U:St}{c lo:Nat}{v:Value}{L:List Pk}(gc:U.get c=some (.cells [v] false))(hc:c<U.next)(hv:ItV lo U v L)(hL:L.length<1000000):
  callX Tryz.prog 100 [.func (.func 173) ⟨[]⟩ ⟨[.pointer (some ⟨c,0,none⟩)]⟩] U (ApRI U L):=by
 refine enter (p:=q0) Tryz.func100 rfl stat100 ?_
 simp only[go_sem,seval,opLen,Tryz.f100,body146]
 refine callX.hidE (apI_call gc hc hv hL) ?_
 intro e U1 lg1 hlg1 h1
 obtain⟨w,rfl,hB,hw⟩:=h1
 refine⟨?_⟩
 simp only[go_sem,seval,opLen]
 exact⟨w,rfl,hB,hw⟩
theorem CmpOk.pk{U0:St}{a:Nat}{g:FuncId}{ys:List Value}{lt:Pk->Pk->Bool}{p:Pk->Prop}(hb:(cP Tryz.prog).bodies g=true)
  (hc:∀U,Base U0 a U->∀x y:Pk,p x->p y->∃r:Int,DCall Tryz.prog g (.agg ⟨x.cells⟩ :: .agg ⟨y.cells⟩ :: ys) U (.ret (.int .i64 r)) U []/\decide (r<0)=lt x y):CmpOk U0 a g ys lt p:=⟨hb,hc⟩
def SortedP(U:St)(L:List Pk)(lt:Pk->Pk->Bool)(e:AE)(U':St)(lg:Log):Prop:=∃w S,e=.ret w/\(∀z∈lg,U.next<=z)/\S.Perm L/\(S.Pairwise λx y=>lt y x=false)/\ItS U.next U' w S
theorem sortedf_call{U:St}{c lo:Nat}{v:Value}{L:List Pk}{g:FuncId}{ys:List Value}{lt:Pk->Pk->Bool}{p:Pk->Prop}(hc0:∀U1,U.next<=U1.next->(∀z,z<U.next->U1.get z=U.get z)->∀a,U.next<=a->CmpOk U1 a g ys lt p)(hw:Sort.SWO lt)
  (gc:U.get c=some (.cells [v] false)) (hc:c<U.next) (hv:ItV lo U v L) (hL:L.length<256) (ho:∀x∈L,p x):
  callX Tryz.prog 136 [.func (.func 173) ⟨[]⟩ ⟨[.pointer (some ⟨c,0,none⟩)]⟩,.func (.func g) ⟨[]⟩ ⟨ys⟩] U (SortedP U L lt):=by
 refine enter (p:=q0) Tryz.func136 rfl stat136 ?_
 simp only[go_sem,seval,opLen,undef,Tryz.f136,body100]
 refine callX.hidE (collectI_call gc hc hv (by omega)) ?_
 intro e U1 lg1 hlg1 h1
 have hn1:=hlg1.1
 obtain⟨w,rfl,hB,hw1⟩:=h1
 rcases hw1 with⟨rfl,rfl⟩|⟨a,rfl,ga,ha1,ha2⟩
 ·refine⟨?_⟩
  simp only[go_sem,seval,opLen,undef,Tryz.f136,body172]
  refine callX.hidE (show callX Tryz.prog 172 _ _ _ from sortnil_call (E:=Pk) _) ?_
  intro e U2 lg2 hlg2 hA
  obtain⟨rfl,rfl⟩:=hA
  refine⟨?_⟩
  simp only[go_sem,seval,opLen,undef]
  exact⟨_,[],rfl,by simpa using hB,List.Perm.refl _,List.Pairwise.nil,.inl ⟨rfl,rfl⟩⟩
 ·have H:SAt U1 a L.toArray [] p U1:=⟨⟨Nat.le_refl _,λ_ _ _=>rfl⟩,by rw[cellsE_pk];simpa using ga,ha2,λi hi=>ho _ (by
   rw[getElem!_pos L.toArray i hi]
   simp),by simp;omega⟩
  have hck:=hc0 U1 hn1 (λz hz=>hlg1.2 z hz λhm=>by have:=hB z hm;omega) a (by omega)
  have hs:callX Tryz.prog 172 [sliceS a 5 L.toArray.size L.length,.func (.func g) ⟨[]⟩ ⟨ys⟩] U1 (PdqR U1 a [] p lt 0 L.toArray.size L.toArray):=sortfunc_call (s:=5) (cap:=L.length) hck hw H (by simpa using hL)
  simp only[sliceS,List.size_toArray]at hs
  refine⟨?_⟩
  simp only[go_sem,seval,opLen,undef,Tryz.f136,body172]
  refine callX.hidE hs ?_
  intro e U2 lg2 hlg2 hA
  obtain⟨rfl,D,hS,hP,hso⟩:=hA
  refine⟨?_⟩
  simp only[go_sem,seval,opLen,undef]
  have hsz:D.size=L.length:=by have:=hP.1;simpa using this
  obtain⟨hp1,hp2⟩:=perm_sorted (d:=L.toArray) rfl hP hso
  refine⟨_,D.toList,rfl,λz hz=>?_,hp1,hp2,.inr ⟨a,by simp [hsz],by have h:=hS.2.get;rw[cellsE_pk]at h;simpa using h,by omega,?_⟩⟩
  ·simp only[List.mem_append,List.mem_cons,List.not_mem_nil,or_false,false_or]at hz
   rcases hz with hz|hz
   ·exact hB z hz
   ·rcases hS.1 z hz with rfl|hz<;>omega
  ·have:=hS.2.base.nx
   omega
attribute [go_sem] Tryz.underlying263 info263 Tryz.t263 Tryz.underlying229 info229 Tryz.t229 Tryz.underlying230 info230 Tryz.t230
def cellsK:List Ck->List Value
 |[]=>[]
 |x :: xs=>x.cells++cellsK xs
theorem cellsE_ck:∀L:List Ck,cellsE L=cellsK L
 |[]=>rfl
 |x :: L=>by rw[cellsE,cellsK,cellsE_ck L];rfl
theorem cellsK_length(L:List Ck):(cellsK L).length=6*L.length:=by
 rw[<-cellsE_ck,cellsE_length,Nat.mul_comm];rfl
theorem cellsK_at{G:List Value}{L:List Ck}{i:Nat}{x:Ck}(h:L[i]?=some x):((cellsK L++G).drop (i*6)).take 6=x.cells:=by
 rw[<-cellsE_ck];exact cellsE_at h
def ItSK(lo:Nat)(U:St)(v:Value)(L:List Ck):Prop:=(v=.slice none 0 0/\L=[])\/∃a,v=.slice (some ⟨a,0,some 8⟩) L.length L.length/\U.get a=some (.cells (cellsK L) false)/\lo<=a/\a<U.next
def ItVK(lo:Nat)(U:St)(v:Value)(L:List Ck):Prop:=(v=.slice none 0 0/\L=[])\/∃a s cap G,v=.slice (some ⟨a,0,some s⟩) L.length cap/\U.get a=some (.cells (cellsK L++G) false)/\lo<=a/\a<U.next
theorem ItSK.keep{lo:Nat}{U U':St}{v:Value}{L:List Ck}(h:ItSK lo U v L)(hn:U.next<=U'.next)(hg:∀a,lo<=a->a<U.next->U'.get a=U.get a):ItSK lo U' v L:=by
 rcases h with h|⟨a,h1,h2,h3,h4⟩
 ·exact .inl h
 ·exact .inr ⟨a,h1,(hg a h3 h4).trans h2,h3,by omega⟩
theorem ItSK.v{lo:Nat}{U:St}{v:Value}{L:List Ck}(h:ItSK lo U v L):ItVK lo U v L:=by
 rcases h with h|⟨a,h1,h2,h3,h4⟩
 ·exact .inl h
 ·exact .inr ⟨a,8,L.length,[],h1,by simpa using h2,h3,h4⟩
theorem und37wK:(cP Tryz.prog).T.und 26=some (.slice 40):=(cx_und 26).trans Tryz.underlying26
theorem inf31wK:(cP Tryz.prog).T.info 40=some Tryz.t40:=(cx_info 40).trans info40
theorem cellsK_appK:∀A B:List Ck,cellsK (A++B)=cellsK A++cellsK B
 |[],B=>rfl
 |x :: A,B=>by simp [cellsK,cellsK_appK A B]
theorem it_firstK{U:St}{b:Nat}{x:Ck}(hg:U.get b=some (.cells x.cells false)):
  opAppend (cP Tryz.prog).T U 26 26 (.slice none 0 0) (.slice (some ⟨b,0,some 0⟩) 1 1)=some (.new (.cells x.cells false) (.slice (some ⟨U.next,0,some 8⟩) 1 1) [b]):=by
 simp only[Ck.cells]at hg ⊢
 simp only[opAppend,und37wK,inf31wK,srcLen,Tryz.t40,srcCells,hg]
 simp [isSeqD,oneCells,plain,plainL,vcells]
theorem it_moreK{U:St}{a b:Nat}{L:List Ck}{x:Ck}(ha:U.get a=some (.cells (cellsK L) false))(hg:U.get b=some (.cells x.cells false))(sm:L.length<=1000000):
  opAppend (cP Tryz.prog).T U 26 26 (.slice (some ⟨a,0,some 8⟩) L.length L.length) (.slice (some ⟨b,0,some 0⟩) 1 1)=
   some (.eff (.slice (some ⟨U.next,0,some 8⟩) (L.length+1) (L.length+1)) ((U.new (.cells (cellsK (L++[x])) false)).put a none) [a]):=by
 have l3:¬4294967296<=L.length:=by omega
 have tk:(cellsK L).take (L.length*6)=cellsK L:=List.take_of_length_le (by rw[cellsK_length];omega)
 have ap:cellsK (L++[x])=cellsK L++x.cells:=by rw[cellsK_appK];simp [cellsK]
 rw[ap]
 simp only[Ck.cells]at hg ⊢
 simp only[opAppend,und37wK,inf31wK,srcLen,Tryz.t40,srcCells,hg,ha]
 simp [isSeqD,oneCells,plain,plainL,vcells,l3,tk,cellsK_length]
 omega
structure YieldsIK(y:Nat)(B:Nat->Prop)(L:List Ck)(J:List Ck->St->Prop):Prop where
 round:∀done x rest U,L=done++x :: rest->J done U->roundX Tryz.prog y [(.agg ⟨x.cells⟩)] U λe U' lg=>e=.ret (.bool true)/\((∀z∈lg,B z)/\J (done++[x]) U')
 keep:∀done U U',J done U->U.next<=U'.next->(∀z,z<U.next->U'.get z=U.get z)->J done U'
structure FYIK(ts:List Value)(y:Nat)(v:Value)(n i:Nat):Prop where
 size:ts.length=16
 t0:lget ts 0=.func (.yield y) #[] #[]
 t5:lget ts 5=v
 t6:lget ts 6=.int .i64 n
 t7:lget ts 7=.int .i64 i
def IYIK(y:Nat)(v:Value)(L:List Ck)(J:List Ck->St->Prop)(m:Nat)(fr:Fr)(U:St):Prop:=
 ∃ts,∃i:Nat,fr=⟨ts,[]⟩/\FYIK ts y v L.length i/\m+i=L.length/\J (L.take i) U
def EYIK(L:List Ck)(J:List Ck->St->Prop)(x:AX)(fr:Fr)(U:St):Prop:=x=.exit 0/\fr.ds=[]/\J L U
theorem seqI_loopK{y n0 lo:Nat}{v:Value}{L:List Ck}{B:Nat->Prop}{J:List Ck->St->Prop}(hY:YieldsIK y B L J)(hB:∀z,n0<=z->B z)(hv:∀done U,J done U->ItVK lo U v L/\n0<=U.next)(hL:L.length<1000000):
  ∀m fr U,IYIK y v L J m fr U->loopX Tryz.prog false (loopOf (Tryz.f179.body.getD .skip)) fr U (endL (EYIK L J) B):=by
 refine loop_ind q0 179 (by kernel_rfl) _ _ _ ?_
 rintro m fr U ⟨ts,i,rfl,F,hmi,hJ⟩
 have e0:=F.t0
 have e5:=F.t5
 have e6:=F.t6
 have e7:=F.t7
 have el:=F.size
 by_cases hi:i<L.length
 ·have c0:(i:Int)<(L.length:Int):=by omega
  have hx:L[i]?=some L[i]:=List.getElem?_eq_getElem hi
  have hsp:L=L.take i++L[i] :: L.drop (i+1):=by simp
  have tk:L.take (i+1)=L.take i++[L[i]]:=by rw[List.take_add_one,hx];rfl
  generalize L[i]=x at hx hsp tk
  obtain⟨hS,hn0⟩:=hv _ _ hJ
  rcases hS with⟨_,rfl⟩|⟨a,s,cap,G,rfl,ga,ha1,ha2⟩
  ·simp at hi
  have c1:(0:Int)<=(i:Int):=by omega
  have ex:=cellsK_at (G:=G) hx
  have lx:i*6+6<=(cellsK L++G).length:=by rw[List.length_append,cellsK_length];omega
  simp only[Ck.cells]at ex
  have na:¬U.next=a:=by omega
  have w1:IntKind.i64.wrap ((i:Int)+1)=((i+1:Nat):Int):=by
   have:(i:Int)+1=((i+1:Nat):Int):=by omega
   rw[this];exact wrapIN (by omega)
  simp only[go_sem,seval,opLen,undef,loopOf,Tryz.f179,Option.getD,Int.toNat_natCast,e0,e5,e6,e7,el,ga,ha2,na,c0,c1,ex,lx]
  refine roundX.hid (hY.round _ x _ _ hsp (hY.keep _ U _ hJ ?_ ?_)) ?_
  ·simp only[go_sem,seval,opLen,St.next_put]<;>omega
  ·intro z hz
   simp only[go_sem,seval,opLen,hz]
  intro U1 lg1 hlg1 h1
  obtain⟨hB1,hJ1⟩:=h1
  rw[<-tk]at hJ1
  have hBn:=hB U.next hn0
  refine⟨?_⟩
  simp only[go_sem,seval,opLen,undef,e0,e5,e6,e7,el,w1]
  exact⟨⟨hBn,hB1⟩,m - 1,by omega,_,i+1,rfl,⟨by simp only[List.length_set,el],by simp only[go_sem,seval,opLen,el,e0],by simp only[go_sem,seval,opLen,el,e5],by simp only[go_sem,seval,opLen,el,e6],by simp only[go_sem,seval,opLen,el]⟩,by omega,hJ1⟩
 ·have c0:¬(i:Int)<(L.length:Int):=by omega
  obtain rfl:i=L.length:=by omega
  rw[List.take_length]at hJ
  simp only[go_sem,seval,opLen,undef,loopOf,Tryz.f179,Option.getD,e0,e5,e6,e7,el,c0]
  exact⟨rfl,rfl,hJ⟩
theorem seqI_callK{y n0 lo c:Nat}{v:Value}{L:List Ck}{B:Nat->Prop}{J:List Ck->St->Prop}(hY:YieldsIK y B L J)(hB:∀z,n0<=z->B z)(hv:∀done U,J done U->ItVK lo U v L/\n0<=U.next)(hL:L.length<1000000){U:St}(gc:U.get c=some (.cells [v] false))(h0:J [] U):
  callX Tryz.prog 179 [.func (.yield y) #[] #[],.pointer (some ⟨c,0,none⟩)] U λe U' lg=>e=.ret (.tuple ⟨[]⟩)/\((∀z∈lg,B z)/\J L U'):=by
 have hv0:=(hv _ _ h0).1
 have hlen:v=.slice none 0 0/\L.length=0\/∃a s cap,v=.slice (some ⟨a,0,some s⟩) L.length cap:=by
  rcases hv0 with⟨h1,h2⟩|⟨a,s,cap,G,h1,_⟩
  ·exact .inl ⟨h1,by rw[h2];rfl⟩
  ·exact .inr ⟨a,s,cap,h1⟩
 refine enter (p:=q0) Tryz.func179 rfl stat179 ?_
 have key:∀n:Nat,n=L.length->opLen (cP Tryz.prog).T U 26 v=some (.val (.int .i64 n) []):=by
  rintro n rfl
  rcases hlen with⟨rfl,h⟩|⟨a,s,cap,rfl⟩
  ·rw[h];simp only[opLen,und37wK];rfl
  ·simp only[opLen,und37wK]
 have hlen':=key _ rfl
 simp only[go_sem,seval,callW,q0,undef,Tryz.f179,gc,hlen']
 refine loop_then (seqI_loopK hY hB hv hL L.length _ _ ⟨_,0,rfl,⟨rfl,rfl,rfl,rfl,rfl⟩,rfl,h0⟩) ?_
 intro x fr' U' lg hlg hB' h
 obtain⟨rfl,hds,hJ⟩:=h
 obtain⟨ts',ds'⟩:=fr'
 simp only at hds
 subst hds
 simp only[go_sem,seval,opLen,Tryz.f179]
 exact⟨hB',hJ⟩
noncomputable def apIAK:Code:=match findR (Tryz.f194.body.getD .skip) with|some x=>x.2.1|none=>.skip
noncomputable def apIDK:Code:=match findR (Tryz.f194.body.getD .skip) with|some x=>x.2.2|none=>.skip
structure JAIK(U0:St)(ts:List Value)(done:List Ck)(U:St):Prop where
 nx:U0.next+3<=U.next
 old:∀z,z<U0.next->U.get z=U0.get z
 g2:∃w,U.get U0.next=some (.cells [w] false)/\ItSK (U0.next+3) U w done
 gd:U.get (U0.next+1)=some (.deferred false)
 gy:U.get (U0.next+2)=some (loopOb .ready none ts #[7] apIAK apIDK (U0.next+1))
theorem apI_yieldsK{U0:St}{ts:List Value}{L:List Ck}(hts:ts.length=13)(t2:lget ts 2=.pointer (some ⟨U0.next,0,none⟩))(hL:L.length<1000000):
  YieldsIK (U0.next+2) (λz=>U0.next<=z) L (JAIK U0 ts):=by
 refine⟨λdone x rest U hsp H=>?_,λdone U U' H hn hg=>?_⟩
 ·have hlen:done.length<1000000:=by
   have:=congrArg List.length hsp
   simp at this;omega
  have nx:=H.nx
  have gy:=H.gy
  obtain⟨w,g2,hw⟩:=H.g2
  have k2:U0.next<U.next:=by omega
  have ky:U0.next+2<U.next:=by omega
  have k2':U0.next<U.next+1:=by omega
  have m1:¬U0.next+2=U0.next:=by omega
  have m3:¬U.next=U0.next+2:=by omega
  have m4:¬U0.next+2=U.next:=by omega
  have m5:¬U0.next+2=U.next+1:=by omega
  refine roundX.enter (p:=q0) (bt:=btAll 194) cP_ok mixed gy rfl (by kernel_rfl) (by kernel_rfl) ?_
  simp only[go_sem,seval,opLen,Ck.cells,apIAK,findR,Tryz.f194,Option.getD,roundTs,hts]
  refine midRW.mk ?_ ?_
  ·simp only[go_sem,seval,opLen,ky,m3]
   exact gy
  rcases hw with⟨rfl,rfl⟩|⟨a,rfl,ga,ha1,ha2⟩
  ·have hap:∀U:St,∀b,U.get b=some (.cells x.cells false)->opAppend (cP Tryz.prog).T U 26 26 (.slice none 0 0) (.slice (some ⟨b,0,some 0⟩) 1 1)=some (.new (.cells x.cells false) (.slice (some ⟨U.next,0,some 8⟩) 1 1) [b]):=λU b h=>it_firstK h
   simp only[Ck.cells]at hap
   simp only[go_sem,seval,opLen,zerosN,apIDK,findR,Tryz.f194,Option.getD,hts,t2,g2,k2,k2',ky,m1,m3,m4,m5,hap]
   refine⟨by simp only[go_sem,seval,opLen,St.next_put]<;>omega,λz hz=>?_,⟨.slice (some ⟨U.next+2,0,some 8⟩) 1 1,?_,.inr ⟨U.next+2,rfl,?_,by omega,by simp only[go_sem,seval,opLen,St.next_put]<;>omega⟩⟩,?_,?_⟩
   ·have z1:¬U0.next+2=z:=by omega
    have z2:¬U0.next=z:=by omega
    have z3:z<U.next:=by omega
    simp only[go_sem,seval,opLen,z1,z2,z3]
    exact H.old z hz
   ·simp only[go_sem,seval,opLen,m1,k2]
   ·have z1:¬U0.next+2=U.next+2:=by omega
    have z2:¬U0.next=U.next+2:=by omega
    simp only[go_sem,seval,opLen,z1,z2,cellsK,Ck.cells]
   ·have z1:¬U0.next+2=U0.next+1:=by omega
    have z2:¬U0.next=U0.next+1:=by omega
    have z3:U0.next+1<U.next:=by omega
    simp only[go_sem,seval,opLen,z1,z2,z3]
    exact H.gd
   ·rw[St.get_set,if_pos rfl]
    rfl
  ·have hap:∀U:St,∀b,U.get a=some (.cells (cellsK done) false)->U.get b=some (.cells x.cells false)->opAppend (cP Tryz.prog).T U 26 26 (.slice (some ⟨a,0,some 8⟩) done.length done.length) (.slice (some ⟨b,0,some 0⟩) 1 1)=
     some (.eff (.slice (some ⟨U.next,0,some 8⟩) (done.length+1) (done.length+1)) ((U.new (.cells (cellsK (done++[x])) false)).put a none) [a]):=λU b h1 h2=>it_moreK h1 h2 (by omega)
   simp only[Ck.cells]at hap
   have n1:¬a=U0.next:=by omega
   have n2:¬a=U0.next+2:=by omega
   have n3:¬U0.next+2=a:=by omega
   simp only[go_sem,seval,opLen,zerosN,apIDK,findR,Tryz.f194,Option.getD,hts,t2,g2,ga,ha2,k2,k2',ky,m1,m3,m4,m5,n1,n2,n3,hap]
   have hdl:(done++[x]).length=done.length+1:=by rw[List.length_append];rfl
   refine⟨by omega,⟨by simp only[go_sem,seval,opLen,St.next_put]<;>omega,λz hz=>?_,⟨.slice (some ⟨U.next+2,0,some 8⟩) (done++[x]).length (done++[x]).length,?_,.inr ⟨U.next+2,rfl,?_,by omega,by simp only[go_sem,seval,opLen,St.next_put]<;>omega⟩⟩,?_,?_⟩⟩
   ·have z1:¬U0.next+2=z:=by omega
    have z2:¬U0.next=z:=by omega
    have z3:z<U.next:=by omega
    have z4:¬a=z:=by omega
    simp only[go_sem,seval,opLen,z1,z2,z3,z4]
    exact H.old z hz
   ·rw[hdl];simp only[go_sem,seval,opLen,m1,k2]
   ·have z1:¬U0.next+2=U.next+2:=by omega
    have z2:¬U0.next=U.next+2:=by omega
    have z4:¬a=U.next+2:=by omega
    simp only[go_sem,seval,opLen,z1,z2,z4]
   ·have z1:¬U0.next+2=U0.next+1:=by omega
    have z2:¬U0.next=U0.next+1:=by omega
    have z3:U0.next+1<U.next:=by omega
    have z4:¬a=U0.next+1:=by omega
    simp only[go_sem,seval,opLen,z1,z2,z3,z4]
    exact H.gd
   ·rw[St.get_set,if_pos rfl]
    rfl
 ·have nx:=H.nx
  obtain⟨w,g2,hw⟩:=H.g2
  exact⟨by omega,λz hz=>(hg z (by omega)).trans (H.old z hz),⟨w,(hg _ (by omega)).trans g2,hw.keep hn λa _ h=>hg a h⟩,(hg _ (by omega)).trans H.gd,(hg _ (by omega)).trans H.gy⟩
def apITK(U:St)(c:Nat):List Value:=[.slice none 0 0,.func (.func 179) ⟨[]⟩ ⟨[.pointer (some ⟨c,0,none⟩)]⟩,.pointer (some ⟨U.next,0,none⟩),undef,.slice none 0 0,undef,.func (.func 179) ⟨[]⟩ ⟨[.pointer (some ⟨c,0,none⟩)]⟩,undef,undef,undef,undef,undef,undef]
def ApRIK(U:St)(L:List Ck)(e:AE)(U':St)(lg:Log):Prop:=∃w,e=.ret w/\(∀z∈lg,U.next<=z)/\ItSK (U.next+3) U' w L
theorem apI_callK{U:St}{c lo:Nat}{v:Value}{L:List Ck}(gc:U.get c=some (.cells [v] false))(hc:c<U.next)(hv:ItVK lo U v L)(hL:L.length<1000000):
  callX Tryz.prog 194 [.slice none 0 0,.func (.func 179) ⟨[]⟩ ⟨[.pointer (some ⟨c,0,none⟩)]⟩] U (ApRIK U L):=by
 refine callX.enterD (p:=q0) cP_ok mixed Tryz.func194 rfl stat194 ?_
 simp only[go_sem,seval,opLen,Tryz.f194]
 refine rangeX.of cP_ok (f:=179) (xs:=[]) (ys:=[.pointer (some ⟨c,0,none⟩)]) (by simp only[go_sem,seval,opLen]) body179 ?_
 have hY:=apI_yieldsK (U0:=U) (ts:=apITK U c) (L:=L) rfl rfl hL
 refine callX.hid (R:=λU' lg=>(∀z∈lg,U.next<=z)/\JAIK U (apITK U c) L U') (seqI_callK (c:=c) (v:=v) (n0:=U.next) (lo:=lo) hY (λz hz=>hz) (λdone U' H=>⟨?_,?_⟩) hL ?_ ⟨?_,?_,⟨.slice none 0 0,?_,.inl ⟨rfl,rfl⟩⟩,?_,?_⟩) ?_
 ·rcases hv with h|⟨a,s,cap,G,h1,h2,h3,h4⟩
  ·exact .inl h
  ·exact .inr ⟨a,s,cap,G,h1,(H.old a h4).trans h2,h3,by have:=H.nx;omega⟩
 ·have:=H.nx;omega
 ·simp only[go_sem,seval,opLen,hc,gc]
 ·simp only[go_sem,seval,opLen,St.next_put]<;>omega
 ·intro z hz
  simp only[go_sem,seval,opLen,hz]
 ·simp only[go_sem,seval,opLen]
 ·simp only[go_sem,seval,opLen]
 ·simp only[go_sem,seval,opLen];rfl
 intro U1 lg1 hlg1 h1
 obtain⟨hB,H⟩:=h1
 have nx:=H.nx
 obtain⟨w,g2,hw⟩:=H.g2
 have gd:=H.gd
 have k5:U.next<U1.next:=by omega
 have m5:¬U.next+2=U.next:=by omega
 refine⟨?_⟩
 refine⟨.ready,none,.norm,H.gy,rfl,rfl,?_⟩
 simp only[go_sem,seval,opLen,k5,g2,m5]
 have kd:¬U.next+2=U.next+1:=by omega
 refine .collected (by simp only[go_sem,seval,opLen,kd,gd]) ?_
 refine .ret cP_ok (by simp only[go_sem,seval,opLen]<;>rfl) ?_
 simp only[go_sem,seval,opLen]
 refine⟨w,rfl,λz hz=>?_,hw.keep (by simp only[go_sem,seval,opLen,St.next_put]<;>omega) λa h1 h2=>?_⟩
 ·simp only[List.mem_append,List.mem_cons,List.not_mem_nil,or_false,false_or]at hz
  rcases hz with(hz|hz)|hz<;>first|exact hB z hz|omega
 ·have q1:¬U.next+1=a:=by omega
  have q2:¬U.next+2=a:=by omega
  simp only[go_sem,seval,opLen,q1,q2]
theorem collectI_callK{U:St}{c lo:Nat}{v:Value}{L:List Ck}(gc:U.get c=some (.cells [v] false))(hc:c<U.next)(hv:ItVK lo U v L)(hL:L.length<1000000):
  callX Tryz.prog 177 [.func (.func 179) ⟨[]⟩ ⟨[.pointer (some ⟨c,0,none⟩)]⟩] U (ApRIK U L):=by
 refine enter (p:=q0) Tryz.func177 rfl stat177 ?_
 simp only[go_sem,seval,opLen,Tryz.f177,body194]
 refine callX.hidE (apI_callK gc hc hv hL) ?_
 intro e U1 lg1 hlg1 h1
 obtain⟨w,rfl,hB,hw⟩:=h1
 refine⟨?_⟩
 simp only[go_sem,seval,opLen]
 exact⟨w,rfl,hB,hw⟩
def SortedPK(U:St)(L:List Ck)(lt:Ck->Ck->Bool)(e:AE)(U':St)(lg:Log):Prop:=∃w S,e=.ret w/\(∀z∈lg,U.next<=z)/\S.Perm L/\(S.Pairwise λx y=>lt y x=false)/\ItSK U.next U' w S
theorem sortedf_callK{U:St}{c lo:Nat}{v:Value}{L:List Ck}{g:FuncId}{ys:List Value}{lt:Ck->Ck->Bool}{p:Ck->Prop}(hc0:∀U1,U.next<=U1.next->(∀z,z<U.next->U1.get z=U.get z)->∀a,U.next<=a->CmpOk U1 a g ys lt p)(hw:Sort.SWO lt)
  (gc:U.get c=some (.cells [v] false)) (hc:c<U.next) (hv:ItVK lo U v L) (hL:L.length<256) (ho:∀x∈L,p x):
  callX Tryz.prog 143 [.func (.func 179) ⟨[]⟩ ⟨[.pointer (some ⟨c,0,none⟩)]⟩,.func (.func g) ⟨[]⟩ ⟨ys⟩] U (SortedPK U L lt):=by
 refine enter (p:=q0) Tryz.func143 rfl stat143 ?_
 simp only[go_sem,seval,opLen,undef,Tryz.f143,body177]
 refine callX.hidE (collectI_callK gc hc hv (by omega)) ?_
 intro e U1 lg1 hlg1 h1
 have hn1:=hlg1.1
 obtain⟨w,rfl,hB,hw1⟩:=h1
 rcases hw1 with⟨rfl,rfl⟩|⟨a,rfl,ga,ha1,ha2⟩
 ·refine⟨?_⟩
  simp only[go_sem,seval,opLen,undef,Tryz.f143,body178]
  refine callX.hidE (show callX Tryz.prog 178 _ _ _ from sortnil_call (E:=Ck) _) ?_
  intro e U2 lg2 hlg2 hA
  obtain⟨rfl,rfl⟩:=hA
  refine⟨?_⟩
  simp only[go_sem,seval,opLen,undef]
  exact⟨_,[],rfl,by simpa using hB,List.Perm.refl _,List.Pairwise.nil,.inl ⟨rfl,rfl⟩⟩
 ·have H:SAt U1 a L.toArray [] p U1:=⟨⟨Nat.le_refl _,λ_ _ _=>rfl⟩,by rw[cellsE_ck];simpa using ga,ha2,λi hi=>ho _ (by
   rw[getElem!_pos L.toArray i hi]
   simp),by simp;omega⟩
  have hck:=hc0 U1 hn1 (λz hz=>hlg1.2 z hz λhm=>by have:=hB z hm;omega) a (by omega)
  have hs:callX Tryz.prog 178 [sliceS a 8 L.toArray.size L.length,.func (.func g) ⟨[]⟩ ⟨ys⟩] U1 (PdqR U1 a [] p lt 0 L.toArray.size L.toArray):=sortfunc_call (s:=8) (cap:=L.length) hck hw H (by simpa using hL)
  simp only[sliceS,List.size_toArray]at hs
  refine⟨?_⟩
  simp only[go_sem,seval,opLen,undef,Tryz.f143,body178]
  refine callX.hidE hs ?_
  intro e U2 lg2 hlg2 hA
  obtain⟨rfl,D,hS,hP,hso⟩:=hA
  refine⟨?_⟩
  simp only[go_sem,seval,opLen,undef]
  have hsz:D.size=L.length:=by have:=hP.1;simpa using this
  obtain⟨hp1,hp2⟩:=perm_sorted (d:=L.toArray) rfl hP hso
  refine⟨_,D.toList,rfl,λz hz=>?_,hp1,hp2,.inr ⟨a,by simp [hsz],by have h:=hS.2.get;rw[cellsE_ck]at h;simpa using h,by omega,?_⟩⟩
  ·simp only[List.mem_append,List.mem_cons,List.not_mem_nil,or_false,false_or]at hz
   rcases hz with hz|hz
   ·exact hB z hz
   ·rcases hS.1 z hz with rfl|hz<;>omega
  ·have:=hS.2.base.nx
   omega
noncomputable def apA:Code:=match findR (Tryz.f146.body.getD .skip) with|some x=>x.2.1|none=>.skip
noncomputable def apD:Code:=match findR (Tryz.f146.body.getD .skip) with|some x=>x.2.2|none=>.skip
structure JA(U0:St)(ts:List Value)(done:List Pk)(U:St):Prop where
 nx:U0.next+3<=U.next
 old:∀z,z<U0.next->U.get z=U0.get z
 g2:∃w,U.get U0.next=some (.cells [w] false)/\PkS (U0.next+3) U w done
 gd:U.get (U0.next+1)=some (.deferred false)
 gy:U.get (U0.next+2)=some (loopOb .ready none ts #[7] apA apD (U0.next+1))
theorem ap_yields{U0:St}{ts:List Value}{L:List Pk}(hts:ts.length=13)(t2:lget ts 2=.pointer (some ⟨U0.next,0,none⟩))(hL:L.length<1000000):
  Yields (U0.next+2) (λz=>U0.next<=z) L (JA U0 ts):=by
 refine⟨λdone x rest U hsp H=>?_,λdone U U' H hn hg=>?_⟩
 ·have hlen:done.length<1000000:=by
   have:=congrArg List.length hsp
   simp at this;omega
  have nx:=H.nx
  have gy:=H.gy
  obtain⟨w,g2,hw⟩:=H.g2
  have k2:U0.next<U.next:=by omega
  have ky:U0.next+2<U.next:=by omega
  have k2':U0.next<U.next+1:=by omega
  have m1:¬U0.next+2=U0.next:=by omega
  have m3:¬U.next=U0.next+2:=by omega
  have m4:¬U0.next+2=U.next:=by omega
  have m5:¬U0.next+2=U.next+1:=by omega
  refine roundX.enter (p:=q8) (bt:=btAll 146) cP_ok mixed gy rfl (by kernel_rfl) (by kernel_rfl) ?_
  simp only[go_sem,seval,opLen,Pk.val,Pk.cells,apA,findR,Tryz.f146,Option.getD,roundTs,hts]
  refine midRW.mk ?_ ?_
  ·simp only[go_sem,seval,opLen,ky,m3]
   exact gy
  rcases hw with⟨rfl,rfl⟩|⟨a,rfl,ga,ha1,ha2⟩
  ·have hap:∀U:St,∀b,U.get b=some (.cells x.cells false)->opAppend (cP Tryz.prog).T U 59 59 (.slice none 0 0) (.slice (some ⟨b,0,some 0⟩) 1 1)=some (.new (.cells x.cells false) (.slice (some ⟨U.next,0,some 5⟩) 1 1) [b]):=λU b h=>pk_first h
   simp only[Pk.cells]at hap
   simp only[go_sem,seval,opLen,zerosN,apD,findR,Tryz.f146,Option.getD,hts,t2,g2,k2,k2',ky,m1,m3,m4,m5,hap]
   refine⟨by simp only[go_sem,seval,opLen,St.next_put]<;>omega,λz hz=>?_,⟨.slice (some ⟨U.next+2,0,some 5⟩) 1 1,?_,.inr ⟨U.next+2,rfl,?_,by omega,by simp only[go_sem,seval,opLen,St.next_put]<;>omega⟩⟩,?_,?_⟩
   ·have z1:¬U0.next+2=z:=by omega
    have z2:¬U0.next=z:=by omega
    have z3:z<U.next:=by omega
    simp only[go_sem,seval,opLen,z1,z2,z3]
    exact H.old z hz
   ·simp only[go_sem,seval,opLen,m1,k2]
   ·have z1:¬U0.next+2=U.next+2:=by omega
    have z2:¬U0.next=U.next+2:=by omega
    simp only[go_sem,seval,opLen,z1,z2,cellsP,Pk.cells]
   ·have z1:¬U0.next+2=U0.next+1:=by omega
    have z2:¬U0.next=U0.next+1:=by omega
    have z3:U0.next+1<U.next:=by omega
    simp only[go_sem,seval,opLen,z1,z2,z3]
    exact H.gd
   ·rw[St.get_set,if_pos rfl]
    rfl
  ·have hap:∀U:St,∀b,U.get a=some (.cells (cellsP done) false)->U.get b=some (.cells x.cells false)->opAppend (cP Tryz.prog).T U 59 59 (.slice (some ⟨a,0,some 5⟩) done.length done.length) (.slice (some ⟨b,0,some 0⟩) 1 1)=
     some (.eff (.slice (some ⟨U.next,0,some 5⟩) (done.length+1) (done.length+1)) ((U.new (.cells (cellsP (done++[x])) false)).put a none) [a]):=λU b h1 h2=>pk_more h1 h2 (by omega)
   simp only[Pk.cells]at hap
   have n1:¬a=U0.next:=by omega
   have n2:¬a=U0.next+2:=by omega
   have n3:¬U0.next+2=a:=by omega
   simp only[go_sem,seval,opLen,zerosN,apD,findR,Tryz.f146,Option.getD,hts,t2,g2,ga,ha2,k2,k2',ky,m1,m3,m4,m5,n1,n2,n3,hap]
   have hdl:(done++[x]).length=done.length+1:=by rw[List.length_append];rfl
   refine⟨by omega,⟨by simp only[go_sem,seval,opLen,St.next_put]<;>omega,λz hz=>?_,⟨.slice (some ⟨U.next+2,0,some 5⟩) (done++[x]).length (done++[x]).length,?_,.inr ⟨U.next+2,rfl,?_,by omega,by simp only[go_sem,seval,opLen,St.next_put]<;>omega⟩⟩,?_,?_⟩⟩
   ·have z1:¬U0.next+2=z:=by omega
    have z2:¬U0.next=z:=by omega
    have z3:z<U.next:=by omega
    have z4:¬a=z:=by omega
    simp only[go_sem,seval,opLen,z1,z2,z3,z4]
    exact H.old z hz
   ·rw[hdl];simp only[go_sem,seval,opLen,m1,k2]
   ·have z1:¬U0.next+2=U.next+2:=by omega
    have z2:¬U0.next=U.next+2:=by omega
    have z4:¬a=U.next+2:=by omega
    simp only[go_sem,seval,opLen,z1,z2,z4]
   ·have z1:¬U0.next+2=U0.next+1:=by omega
    have z2:¬U0.next=U0.next+1:=by omega
    have z3:U0.next+1<U.next:=by omega
    have z4:¬a=U0.next+1:=by omega
    simp only[go_sem,seval,opLen,z1,z2,z3,z4]
    exact H.gd
   ·rw[St.get_set,if_pos rfl]
    rfl
 ·have nx:=H.nx
  obtain⟨w,g2,hw⟩:=H.g2
  exact⟨by omega,λz hz=>(hg z (by omega)).trans (H.old z hz),⟨w,(hg _ (by omega)).trans g2,hw.keep hn λa _ h=>hg a h⟩,(hg _ (by omega)).trans H.gd,(hg _ (by omega)).trans H.gy⟩
def apT(U:St)(c:Nat):List Value:=[.slice none 0 0,.func (.func 147) ⟨[]⟩ ⟨[.pointer (some ⟨c,0,none⟩)]⟩,.pointer (some ⟨U.next,0,none⟩),undef,.slice none 0 0,undef,.func (.func 147) ⟨[]⟩ ⟨[.pointer (some ⟨c,0,none⟩)]⟩,undef,undef,undef,undef,undef,undef]
def ApR(U:St)(L:List Pk)(e:AE)(U':St)(lg:Log):Prop:=∃w,e=.ret w/\(∀z∈lg,U.next<=z)/\PkS (U.next+3) U' w L
theorem ap_call{U:St}{c lo:Nat}{v:Value}{L:List Pk}(gc:U.get c=some (.cells [v] false))(hc:c<U.next)(hv:PkS lo U v L)(hL:L.length<1000000):
  callX Tryz.prog 146 [.slice none 0 0,.func (.func 147) ⟨[]⟩ ⟨[.pointer (some ⟨c,0,none⟩)]⟩] U (ApR U L):=by
 refine callX.enterD (p:=q8) cP_ok mixed Tryz.func146 rfl stat146 ?_
 simp only[go_sem,seval,opLen,Tryz.f146]
 refine rangeX.of cP_ok (f:=147) (xs:=[]) (ys:=[.pointer (some ⟨c,0,none⟩)]) (by simp only[go_sem,seval,opLen]) body147 ?_
 have hY:=ap_yields (U0:=U) (ts:=apT U c) (L:=L) rfl rfl hL
 refine callX.hid (R:=λU' lg=>(∀z∈lg,U.next<=z)/\JA U (apT U c) L U') (seq_call (c:=c) (v:=v) (n0:=U.next) (lo:=lo) hY (λz hz=>hz) (λdone U' H=>⟨?_,?_⟩) hL ?_ ⟨?_,?_,⟨.slice none 0 0,?_,.inl ⟨rfl,rfl⟩⟩,?_,?_⟩) ?_
 ·rcases hv with h|⟨a,h1,h2,h3,h4⟩
  ·exact .inl h
  ·exact .inr ⟨a,h1,(H.old a h4).trans h2,h3,by have:=H.nx;omega⟩
 ·have:=H.nx;omega
 ·simp only[go_sem,seval,opLen,hc,gc]
 ·simp only[go_sem,seval,opLen,St.next_put]<;>omega
 ·intro z hz
  simp only[go_sem,seval,opLen,hz]
 ·simp only[go_sem,seval,opLen]
 ·simp only[go_sem,seval,opLen]
 ·simp only[go_sem,seval,opLen];rfl
 intro U1 lg1 hlg1 h1
 obtain⟨hB,H⟩:=h1
 have nx:=H.nx
 obtain⟨w,g2,hw⟩:=H.g2
 have gd:=H.gd
 have k5:U.next<U1.next:=by omega
 have m5:¬U.next+2=U.next:=by omega
 refine⟨?_⟩
 refine⟨.ready,none,.norm,H.gy,rfl,rfl,?_⟩
 simp only[go_sem,seval,opLen,k5,g2,m5]
 have kd:¬U.next+2=U.next+1:=by omega
 refine .collected (by simp only[go_sem,seval,opLen,kd,gd]) ?_
 refine .ret cP_ok (by simp only[go_sem,seval,opLen]<;>rfl) ?_
 simp only[go_sem,seval,opLen]
 refine⟨w,rfl,λz hz=>?_,hw.keep (by simp only[go_sem,seval,opLen,St.next_put]<;>omega) λa h1 h2=>?_⟩
 ·simp only[List.mem_append,List.mem_cons,List.not_mem_nil,or_false,false_or]at hz
  rcases hz with(hz|hz)|hz<;>first|exact hB z hz|omega
 ·have q1:¬U.next+1=a:=by omega
  have q2:¬U.next+2=a:=by omega
  simp only[go_sem,seval,opLen,q1,q2]
theorem collect_call{U:St}{c lo:Nat}{v:Value}{L:List Pk}(gc:U.get c=some (.cells [v] false))(hc:c<U.next)(hv:PkS lo U v L)(hL:L.length<1000000):
  callX Tryz.prog 100 [.func (.func 147) ⟨[]⟩ ⟨[.pointer (some ⟨c,0,none⟩)]⟩] U (ApR U L):=by
 refine enter (p:=q8) Tryz.func100 rfl stat100 ?_
 simp only[go_sem,seval,opLen,Tryz.f100,body146]
 refine callX.hidE (ap_call gc hc hv hL) ?_
 intro e U1 lg1 hlg1 h1
 obtain⟨w,rfl,hB,hw⟩:=h1
 refine⟨?_⟩
 simp only[go_sem,seval,opLen]
 exact⟨w,rfl,hB,hw⟩
theorem zeros_pk:∀n,zerosN [.int .i64 0,.int .i64 0,.int .i64 0] n=cellsP (List.replicate n Pk.zero)
 |0=>rfl
 |n+1=>by
  have:=zeros_pk n
  simp only[zerosN,this,List.replicate_succ,cellsP,Pk.cells,Pk.zero]
theorem pk_make{U:St}{n:Nat}(hn:n<1000000):opMakeSlice (cP Tryz.prog).T U 59 (.int .i64 n) (.int .i64 n)=some (.new (.cells (cellsP (List.replicate n Pk.zero)) false) (.slice (some ⟨U.next,0,some 0⟩) n n) []):=by
 have h1:(0:Int)<=n:=by omega
 have h2:(n:Int)<4294967296:=by omega
 simp only[opMakeSlice,und168,inf54,Tryz.t33]
 simp [plain,plainL,vcells,zeros_pk,h1,h2]
theorem over_zero:∀(L:List Pk) (n:Nat),L.length<=n->over (cellsP (List.replicate n Pk.zero)) 0 (cellsP L)=cellsP (L++List.replicate (n - L.length) Pk.zero)
 |[],n,_=>by simp only[cellsP,List.length_nil,Nat.sub_zero,List.nil_append];cases cellsP (List.replicate n Pk.zero)<;>rfl
 |x :: L,0,h=>by simp at h
 |x :: L,n+1,h=>by
  have:=over_zero L n (by simpa using h)
  simp only[List.replicate_succ,cellsP,Pk.cells,Pk.zero,List.cons_append,List.nil_append,over,List.length_cons,Nat.add_sub_add_right]at this ⊢
  rw[this]
theorem oneCells_pk:∀L:List Pk,oneCells (cellsP L)=true
 |[]=>rfl
 |x :: L=>by simp [cellsP,Pk.cells,oneCells,oneCells_pk L]
theorem pk_copy{U:St}{a b n cap:Nat}{L:List Pk}(gb:U.get b=some (.cells (cellsP (List.replicate n Pk.zero)) false))(ga:U.get a=some (.cells (cellsP L) false))(h0:1<=L.length)(hn:L.length<=n):
  opCopy (cP Tryz.prog).T U 59 (.slice (some ⟨b,0,some 0⟩) n n) (.slice (some ⟨a,0,some 5⟩) L.length cap)=some (.eff (.int .i64 L.length) (U.set b (.cells (cellsP (L++List.replicate (n - L.length) Pk.zero)) false)) [b]):=by
 have h1:Nat.min L.length n=L.length:=Nat.min_eq_left hn
 have h2:¬L.length*3=0:=by omega
 have h3:L.length*3<=(cellsP L).length:=by rw[cellsP_length];omega
 have h4:(cellsP L).take (L.length*3)=cellsP L:=List.take_of_length_le (by rw[cellsP_length];omega)
 have h5:L.length*3<=(cellsP (List.replicate n Pk.zero)).length:=by rw[cellsP_length,List.length_replicate];omega
 have h6:L.length≠0:=by omega
 simp only[opCopy,und168,inf54,Tryz.t33,srcLen,srcCells,h1,ga,gb,h2,if_false,Nat.zero_add,List.drop_zero,h3,if_true,h4,h5,oneCells_pk,ne_eq,h6,not_false_eq_true,and_self,over_zero L n hn]
theorem pk_copy1{U:St}{a b n cap:Nat}{vs ws:List Value}(gb:U.get b=some (.cells vs false))(ga:U.get a=some (.cells ws false)):opCopy (cP Tryz.prog).T U 59 (.slice (some ⟨b,0,some 0⟩) n n) (.slice (some ⟨a,0,some 5⟩) 0 cap)=some (.val (.int .i64 0) []):=by
 have h1:Nat.min 0 n=0:=Nat.min_eq_left (Nat.zero_le _)
 simp only[opCopy,und168,inf54,Tryz.t33,srcLen,srcCells,h1,gb]
 simp
theorem pk_copy0{U:St}{b n:Nat}{vs:List Value}(gb:U.get b=some (.cells vs false)):opCopy (cP Tryz.prog).T U 59 (.slice (some ⟨b,0,some 0⟩) n n) (.slice none 0 0)=some (.val (.int .i64 0) []):=by
 have h1:Nat.min 0 n=0:=Nat.min_eq_left (Nat.zero_le _)
 simp only[opCopy,und168,inf54,Tryz.t33,srcLen,srcCells,h1,gb]
 simp
def LayR(U:St)(l n:Nat)(V:LV)(U':St)(lg:Log):Prop:=(∀z∈lg,z=l\/U.next<=z)/\U.next<U'.next/\∃R,R.length=n/\U'.get l=some (.cells [.int .i64 V.lp,.int .i64 V.lb,.int .i64 V.room,.slice (some ⟨U.next,0,some 0⟩) n n,.int .i64 (0:Nat),.int .i64 V.L.length,.bool true] false)/\U'.get U.next=some (.cells (cellsP R) false)/\Ring R 0 V.L
theorem llay_call{U:St}{l lo n:Nat}{lp lb room:Int}{s f m w:Value}{L:List Pk}(gl:U.get l=some (.cells [.int .i64 lp,.int .i64 lb,.int .i64 room,s,f,m,.bool true] false))(hl:l<U.next)(hw:PkS lo U w L)(hlo:l<lo)(hn:2<=n/\n<1000000)(hL:L.length<=n):
  callX Tryz.prog 99 [.pointer (some ⟨l,0,none⟩),w,.int .i64 n] U λe U' lg=>e=.ret (.tuple ⟨[]⟩)/\LayR U l n ⟨lp,lb,room,L⟩ U' lg:=by
 have c1:(1:Int)<(n:Int):=by omega
 have hmk:=pk_make (U:=U) hn.2
 have n1:¬U.next=l:=by omega
 have n2:¬l=U.next:=by omega
 have R:=Ring.lay L n hL (by omega)
 have hlen:(L++List.replicate (n - L.length) Pk.zero).length=n:=by simp;omega
 by_cases hLn:L=[]
 ·subst hLn
  have key:∀w:Value,(w=.slice none 0 0\/∃a,w=.slice (some ⟨a,0,some 5⟩) 0 0/\U.get a=some (.cells [] false)/\lo<=a/\a<U.next)->callX Tryz.prog 99 [.pointer (some ⟨l,0,none⟩),w,.int .i64 n] U λe U' lg=>e=.ret (.tuple ⟨[]⟩)/\LayR U l n ⟨lp,lb,room,[]⟩ U' lg:=by
   intro w hw
   have hlw:opLen (cP Tryz.prog).T ((U.new (.cells (cellsP (List.replicate n Pk.zero)) false)).set l (.cells [.int .i64 lp,.int .i64 lb,.int .i64 room,.slice (some ⟨U.next,0,some 0⟩) n n,f,m,.bool true] false)) 59 w=some (.val (.int .i64 0) []):=by
    rcases hw with rfl|⟨a,rfl,_⟩<;>simp only[opLen,und168]<;>rfl
   have hcp:opCopy (cP Tryz.prog).T ((U.new (.cells (cellsP (List.replicate n Pk.zero)) false)).set l (.cells [.int .i64 lp,.int .i64 lb,.int .i64 room,.slice (some ⟨U.next,0,some 0⟩) n n,f,m,.bool true] false)) 59 (.slice (some ⟨U.next,0,some 0⟩) n n) w=some (.val (.int .i64 0) []):=by
    rcases hw with rfl|⟨a,rfl,ga,ha1,ha2⟩
    ·exact pk_copy0 (by rw[St.get_set,if_neg n2,St.get_new,if_pos rfl])
    ·exact pk_copy1 (by rw[St.get_set,if_neg n2,St.get_new,if_pos rfl]) (by rw[St.get_set,if_neg (by omega),St.get_new,if_neg (by omega)];exact ga)
   refine enter (p:=q8) Tryz.func99 rfl stat99 ?_
   simp only[go_sem,seval,undef,opMax,Tryz.f99,gl,hl,c1,n1,n2,hmk,hcp,hlw]
   refine⟨λz hz=>by simp at hz;exact .inl hz,by simp only[go_sem,seval,opLen]<;>omega,_,hlen,?_,?_,R⟩
   ·rw[St.get_set,if_pos rfl];rfl
   ·simp only[go_sem,seval,opLen,n2,List.length_nil,Nat.sub_zero]
  rcases hw with⟨rfl,_⟩|⟨a,rfl,ga,ha1,ha2⟩
  ·exact key _ (.inl rfl)
  ·exact key _ (.inr ⟨a,rfl,ga,ha1,ha2⟩)
 have h1:1<=L.length:=by cases L<;>simp_all
 rcases hw with⟨rfl,rfl⟩|⟨a,rfl,ga,ha1,ha2⟩
 ·simp at hLn
 ·have hcp:∀U:St,∀b,U.get b=some (.cells (cellsP (List.replicate n Pk.zero)) false)->U.get a=some (.cells (cellsP L) false)->opCopy (cP Tryz.prog).T U 59 (.slice (some ⟨b,0,some 0⟩) n n) (.slice (some ⟨a,0,some 5⟩) L.length L.length)=some (.eff (.int .i64 L.length) (U.set b (.cells (cellsP (L++List.replicate (n - L.length) Pk.zero)) false)) [b]):=λU b h2 h3=>pk_copy h2 h3 h1 hL
  have n3:¬l=a:=by omega
  refine enter (p:=q8) Tryz.func99 rfl stat99 ?_
  simp only[go_sem,seval,opLen,undef,opMax,Tryz.f99,gl,hl,c1,n1,n2,n3,ga,ha2,hmk,hcp]
  refine⟨λz hz=>by simp at hz;omega,by simp only[go_sem,seval,opLen]<;>omega,_,hlen,?_,?_,R⟩
  ·rw[St.get_set,if_pos rfl];rfl
  ·simp only[go_sem,seval,opLen,n2]
def LPutR(U:St)(l r:Nat)(V:LV)(x:Pk)(U':St)(lg:Log):Prop:=(∀z∈lg,z=l\/z=r\/U.next<=z)/\∃r',(r'=r\/U.next<=r')/\LAt U' l r' {V with L:=V.L++[x]}
theorem lput_free{U:St}{l r:Nat}{V:LV}(H:LAt U l r V){x:Pk}(h1:0<=x.id/\x.id<=4611686018427387904)(h2:0<=x.flow/\x.flow<=2147483647)(h3:1<=x.size/\x.size<=2000)(hs:∀y∈V.L,0<=y.size/\y.size<=2000)(hroom:x.size<=V.room - sumP V.L)(hr:-1000000000000<=V.room/\V.room<=1000000000000)
  (n f sp:Nat) (R:List Pk) (hRn:R.length=n) (gl:U.get l=some (.cells [.int .i64 V.lp,.int .i64 V.lb,.int .i64 V.room,.slice (some ⟨r,0,some sp⟩) n n,.int .i64 f,.int .i64 V.L.length,.bool true] false)) (gr:U.get r=some (.cells (cellsP R) false)) (hR:Ring R f V.L) (hn:n<1000000) (hlt:V.L.length<n):
  callX Tryz.prog 53 [.pointer (some ⟨l,0,none⟩),x.val] U λe U' lg=>e=.ret (.int .i64 0)/\LPutR U l r V x U' lg:=by
 have hl:=H.lt.1
 have hrr:=H.lt.2
 have hf:=hR.lt
 have hsum:=sumP_bound V.L hs
 obtain⟨idx,hidx⟩:∃idx,idx=(f+V.L.length) % n:=⟨_,rfl⟩
 have hil:idx<n:=by rw[hidx];exact Nat.mod_lt _ (by omega)
 have w1:IntKind.i64.wrap (V.room - sumP V.L)=V.room - sumP V.L:=wrapI (by omega) (by omega)
 have w2:IntKind.i64.wrap ((V.L.length:Int)+1)=((V.L.length+1:Nat):Int):=by
  have:(V.L.length:Int)+1=((V.L.length+1:Nat):Int):=by omega
  rw[this];exact wrapIN (by omega)
 have c1:¬V.room - sumP V.L<x.size:=by omega
 have c2:((V.L.length:Int)==(n:Int))=false:=by rw[beq_eq_false_iff_ne];omega
 have c3:(0:Int)<=(idx:Int):=by omega
 have c4:(idx:Int)<(n:Int):=by omega
 have n1:¬l=r:=H.ne
 have n2:¬r=l:=λe=>H.ne e.symm
 have n3:¬U.next=l:=by omega
 have n4:¬U.next=r:=by omega
 have lx:idx*3+3<=(cellsP R).length:=by rw[cellsP_length];omega
 have ov:=overP_at' (L:=R) x (by omega:idx<R.length)
 simp only[Pk.cells]at ov
 refine enter (p:=q8) Tryz.func53 rfl stat53 ?_
 simp only[go_sem,seval,opLen,undef,Pk.val,Pk.cells,Tryz.f53,body97,body98,body69,body102]
 refine .of (lnone_call (l:=l) (by simp only[go_sem,seval,opLen,hl,gl];rfl)) ?_
 simp only[go_sem,seval,opLen,undef,body97,body98,body69,body102]
 refine .of (within98_call _ _ _ _) ?_
 simp only[go_sem,seval,opLen,undef,h1.1,h1.2,body97,body98,body69,body102]
 refine .of (within98_call _ _ _ _) ?_
 simp only[go_sem,seval,opLen,undef,h2.1,h2.2,body97,body98,body69,body102]
 refine .of (within98_call _ _ _ _) ?_
 simp only[go_sem,seval,opLen,undef,h3.1,h3.2,gl,hl,body97,body98,body69,body102]
 refine .of (bytes_call (H.keep (by simp only[go_sem,seval,opLen]) (by simp only[go_sem,seval,opLen,hl]) (by simp only[go_sem,seval,opLen,hrr])) hs) ?_
 simp only[go_sem,seval,opLen,undef,gl,hl,w1,c1,c2,body97,body98,body69,body102]
 refine .of (at_call (l:=l) (r:=r) (n:=n) (f:=f) (k:=V.L.length) (by simp only[go_sem,seval,opLen,hl,gl];rfl) (by simp only[go_sem,seval,opLen];omega) (by omega) (by omega) (by omega)) ?_
 simp only[go_sem,seval,opLen,undef,<-hidx,Int.toNat_natCast,gl,gr,hl,hrr,c3,c4,n1,n2,n3,n4,lx,ov,w2,body97,body98,body69,body102]
 have hput:=hR.put (by omega) x
 rw[hRn,<-hidx]at hput
 have hll:(V.L++[x]).length=V.L.length+1:=by rw[List.length_append];rfl
 have hRl:(R.set idx x).length=n:=by rw[List.length_set,hRn]
 refine⟨λz hz=>by simp at hz;omega,r,.inl rfl,⟨R.set idx x,f,sp,?_,?_,hput,by omega⟩,H.ne,by simp only[go_sem,seval,opLen,St.next_put]<;>omega⟩
 ·rw[hRl,hll,St.get_set,if_pos rfl]
 ·simp only[go_sem,seval,opLen,hrr,n1]
theorem lput_full{U:St}{l r:Nat}{V:LV}(H:LAt U l r V){x:Pk}(h1:0<=x.id/\x.id<=4611686018427387904)(h2:0<=x.flow/\x.flow<=2147483647)(h3:1<=x.size/\x.size<=2000)(hs:∀y∈V.L,0<=y.size/\y.size<=2000)(hroom:x.size<=V.room - sumP V.L)(hr:-1000000000000<=V.room/\V.room<=1000000000000)
  (n f sp:Nat) (gl:U.get l=some (.cells [.int .i64 V.lp,.int .i64 V.lb,.int .i64 V.room,.slice (some ⟨r,0,some sp⟩) n n,.int .i64 f,.int .i64 V.L.length,.bool true] false)) (hn:n<400000) (hpos:0<n) (hlt:V.L.length=n):
  callX Tryz.prog 53 [.pointer (some ⟨l,0,none⟩),x.val] U λe U' lg=>e=.ret (.int .i64 0)/\LPutR U l r V x U' lg:=by
 have hl:=H.lt.1
 have hrr:=H.lt.2
 have hsum:=sumP_bound V.L hs
 have w1:IntKind.i64.wrap (V.room - sumP V.L)=V.room - sumP V.L:=wrapI (by omega) (by omega)
 have w2:IntKind.i64.wrap ((V.L.length:Int)+1)=((V.L.length+1:Nat):Int):=by
  have:(V.L.length:Int)+1=((V.L.length+1:Nat):Int):=by omega
  rw[this];exact wrapIN (by omega)
 have w3:IntKind.i64.wrap (2*(V.L.length:Int))=((2*n:Nat):Int):=by
  have:2*(V.L.length:Int)=((2*n:Nat):Int):=by omega
  rw[this];exact wrapIN (by omega)
 have c1:¬V.room - sumP V.L<x.size:=by omega
 have c2:((V.L.length:Int)==(n:Int))=true:=by rw[beq_iff_eq];omega
 have n1:¬l=r:=H.ne
 have n3:¬U.next=l:=by omega
 refine enter (p:=q8) Tryz.func53 rfl stat53 ?_
 simp only[go_sem,seval,opLen,undef,Pk.val,Pk.cells,Tryz.f53,body97,body98,body69,body102]
 refine .of (lnone_call (l:=l) (by simp only[go_sem,seval,opLen,hl,gl];rfl)) ?_
 simp only[go_sem,seval,opLen,undef,body97,body98,body69,body102]
 refine .of (within98_call _ _ _ _) ?_
 simp only[go_sem,seval,opLen,undef,h1.1,h1.2,body97,body98,body69,body102]
 refine .of (within98_call _ _ _ _) ?_
 simp only[go_sem,seval,opLen,undef,h2.1,h2.2,body97,body98,body69,body102]
 refine .of (within98_call _ _ _ _) ?_
 simp only[go_sem,seval,opLen,undef,h3.1,h3.2,gl,hl,body97,body98,body69,body102]
 refine .of (bytes_call (H.keep (by simp only[go_sem,seval,opLen]) (by simp only[go_sem,seval,opLen,hl]) (by simp only[go_sem,seval,opLen,hrr])) hs) ?_
 simp only[go_sem,seval,opLen,undef,gl,hl,w1,c1,c2,body97,body98,body69,body101,body102]
 refine callX.hid (all_call (H.keep (by simp only[go_sem,seval,opLen]) (by simp only[go_sem,seval,opLen,hl]) (by simp only[go_sem,seval,opLen,hrr]))) ?_
 intro U1 lg1 hlg1 hA
 obtain⟨hB1,nx1,v,gv,hv⟩:=hA
 simp only[go_sem,seval,opLen]at hB1 nx1 gv hv
 have hL:V.L.length<1000000:=by omega
 refine⟨?_⟩
 simp only[go_sem,seval,opLen,undef,body97,body98,body69,body100,body101,body102]
 refine callX.hidE (collect_call gv nx1 hv hL) ?_
 intro e U2 lg2 hlg2 hC
 obtain⟨w,rfl,hB2,hw⟩:=hC
 have kp:∀c,c<U.next+1->U2.get c=U1.get c/\U1.get c=(U.new (.cells [.int .i64 x.id,.int .i64 x.flow,.int .i64 x.size] false)).get c:=λc hc=>⟨hlg2.2 c (by omega) λhm=>by have:=hB2 c hm;omega,hlg1.2 c (by simp only[go_sem,seval,opLen];omega) λhm=>by have:=hB1 c hm;omega⟩
 have gl2:U2.get l=some (.cells [.int .i64 V.lp,.int .i64 V.lb,.int .i64 V.room,.slice (some ⟨r,0,some sp⟩) n n,.int .i64 f,.int .i64 V.L.length,.bool true] false):=by
  obtain⟨a,b⟩:=kp l (by omega)
  rw[a,b,St.get_new,if_neg n3];exact gl
 have gx2:U2.get U.next=some (.cells [.int .i64 x.id,.int .i64 x.flow,.int .i64 x.size] false):=by
  obtain⟨a,b⟩:=kp U.next (by omega)
  rw[a,b,St.get_new,if_pos rfl]
 have nx2:U1.next<=U2.next:=hlg2.1
 have hl2:l<U2.next:=by omega
 refine⟨?_⟩
 simp only[go_sem,seval,opLen,undef,gl2,hl2,w3,body97,body98,body69,body99,body100,body101,body102]
 refine callX.hid (llay_call (n:=2*n) gl2 hl2 hw (by omega) (by omega) (by omega)) ?_
 intro U3 lg3 hlg3 hY
 obtain⟨hB3,hr3,R,hRn,gl3,gr3,hR⟩:=hY
 have nx3:U2.next<=U3.next:=hlg3.1
 have hl3:l<U3.next:=by omega
 have hx3:U.next<U3.next:=by omega
 have gx3:U3.get U.next=some (.cells [.int .i64 x.id,.int .i64 x.flow,.int .i64 x.size] false):=(hlg3.2 _ (by omega) λhm=>by have:=hB3 _ hm;omega).trans gx2
 have an1:(lg1.any λc=>c==l)=false:=List.any_eq_false.2 λc hc=>by have:=hB1 c hc;simp;omega
 have an2:(lg2.any λc=>c==l)=false:=List.any_eq_false.2 λc hc=>by have:=hB2 c hc;simp;omega
 have q1:¬U.next+1<=l:=by omega
 have q2:¬U1.next<=l:=by omega
 refine⟨?_⟩
 simp only[go_sem,seval,opLen,undef,gl3,hl3,an1,an2,q1,q2,body97,body98,body69,body99,body100,body101,body102]
 refine .of (at_call (l:=l) (r:=U2.next) (n:=2*n) (f:=0) (k:=V.L.length) gl3 (by omega) (by omega) (by omega) (by omega)) ?_
 have hidx:V.L.length % (2*n)=n:=by rw[hlt];exact Nat.mod_eq_of_lt (by omega)
 have hR':Ring R 0 V.L:=hR
 have c3:(0:Int)<=(n:Int):=by omega
 have c4:(n:Int)<((2*n:Nat):Int):=by omega
 have lx:n*3+3<=(cellsP R).length:=by rw[cellsP_length];omega
 have ov:=overP_at' (L:=R) x (by omega:n<R.length)
 simp only[Pk.cells]at ov
 have m1:¬l=U2.next:=by omega
 have m2:¬U2.next=l:=by omega
 have m3:¬U2.next=U.next:=by omega
 have m4:¬U.next=U2.next:=by omega
 simp only[go_sem,seval,opLen,undef,hidx,Int.toNat_natCast,gl3,gr3,gx3,hl3,hr3,hx3,c3,c4,m1,m2,m3,m4,n3,lx,ov,w2,body97,body98,body69,body102]
 have hput:=hR'.put (by omega) x
 rw[hRn,Nat.zero_add,hidx]at hput
 have hll:(V.L++[x]).length=V.L.length+1:=by rw[List.length_append];rfl
 have hRl:(R.set n x).length=2*n:=by rw[List.length_set,hRn]
 refine⟨λz hz=>?_,U2.next,.inr (by omega),⟨R.set n x,0,0,?_,?_,hput,by omega⟩,m1,by simp only[go_sem,seval,opLen,St.next_put]<;>omega⟩
 ·simp only[List.mem_append,List.mem_cons,List.not_mem_nil,or_false]at hz
  rcases hz with((hz|hz)|hz)|hz|hz
  ·have:=hB1 z hz;omega
  ·have:=hB2 z hz;omega
  ·have:=hB3 z hz;omega
  ·omega
  ·omega
 ·rw[hRl,hll,St.get_set,if_pos rfl];rfl
 ·simp only[go_sem,seval,opLen,hr3,m1]
theorem lput_call{U:St}{l r:Nat}{V:LV}(H:LAt U l r V){x:Pk}(h1:0<=x.id/\x.id<=4611686018427387904)(h2:0<=x.flow/\x.flow<=2147483647)(h3:1<=x.size/\x.size<=2000)(hs:∀y∈V.L,0<=y.size/\y.size<=2000)(hroom:x.size<=V.room - sumP V.L)(hr:-1000000000000<=V.room/\V.room<=1000000000000)(hn:V.L.length<400000):
  callX Tryz.prog 53 [.pointer (some ⟨l,0,none⟩),x.val] U λe U' lg=>e=.ret (.int .i64 0)/\LPutR U l r V x U' lg:=by
 obtain⟨R,f,sp,gl,gr,hR,hRs⟩:=H.core
 by_cases e:V.L.length<R.length
 ·exact lput_free H h1 h2 h3 hs hroom hr R.length f sp R rfl gl gr hR hRs e
 ·have:=hR.le
  have:=hR.lt
  exact lput_full H h1 h2 h3 hs hroom hr R.length f sp gl (by omega) (by omega) (by omega)
theorem lnew_call{U:St}{room:Int}(h:0<=room/\room<=1000000000):callX Tryz.prog 49 [.int .i64 room] U λe U' lg=>e=.ret (.tuple ⟨[.pointer (some ⟨U.next+1,0,none⟩),.int .i64 0]⟩)/\((∀z∈lg,U.next<=z)/\LAt U' (U.next+1) U.next ⟨0,0,room,[]⟩):=by
 have hmk:=pk_make (U:=U) (n:=1) (by omega)
 simp only[Int.cast_ofNat_Int]at hmk
 refine enter (p:=q8) Tryz.func49 rfl stat49 ?_
 simp only[go_sem,seval,opLen,undef,Tryz.f49,body97]
 refine .of (within98_call _ _ _ _) ?_
 simp only[go_sem,seval,opLen,undef,h.1,h.2,hmk,body97]
 refine⟨⟨List.replicate 1 Pk.zero,0,0,?_,?_,⟨by simp,by simp,λi x h=>by simp at h⟩,by simp⟩,by omega,by simp only[go_sem,seval,opLen]<;>omega⟩
 ·simp only[go_sem,seval,opLen]
 ·simp only[go_sem,seval,opLen]
theorem lfirst_call{U:St}{l r:Nat}{V:LV}(H:LAt U l r V){x:Pk}{L:List Pk}(hL:V.L=x :: L):DCall Tryz.prog 156 [.pointer (some ⟨l,0,none⟩)] U (.ret (.tuple ⟨[x.val,.bool true]⟩)) U []:=by
 obtain⟨R,f,sp,gl,gr,hR,hRs⟩:=H.core
 have hl:=H.lt.1
 have hrr:=H.lt.2
 have hf:=hR.lt
 have hx:=hR.at' 0 x (by rw[hL];rfl)
 rw[Nat.add_zero,Nat.mod_eq_of_lt hf]at hx
 have ex:=cellsP_at' hx
 have lx:f*3+3<=(cellsP R).length:=by rw[cellsP_length];omega
 simp only[Pk.cells]at ex
 have c1:(0:Int)<=(f:Int):=by omega
 have c2:(f:Int)<(R.length:Int):=by omega
 have c3:((V.L.length:Int)==0)=false:=by rw[beq_eq_false_iff_ne,hL,List.length_cons];omega
 have n1:¬U.next=l:=by omega
 have n2:¬U.next=r:=by omega
 refine pure_call (enter (p:=q8) Tryz.func156 rfl stat156 ?_) rfl
 simp only[go_sem,seval,opLen,undef,Pk.val,Pk.cells,Tryz.f156,body98]
 refine .of (lnone_call (l:=l) (by simp only[go_sem,seval,opLen,hl,gl];rfl)) ?_
 simp only[go_sem,seval,opLen,undef,Int.toNat_natCast,gl,gr,hl,hrr,c1,c2,c3,ex,lx,n1,n2,body98]
theorem lfirst_none{U:St}{l r:Nat}{V:LV}(H:LAt U l r V)(hL:V.L=[]):DCall Tryz.prog 156 [.pointer (some ⟨l,0,none⟩)] U (.ret (.tuple ⟨[Pk.zero.val,.bool false]⟩)) U []:=by
 obtain⟨R,f,sp,gl,gr,hR,hRs⟩:=H.core
 have hl:=H.lt.1
 have c3:((V.L.length:Int)==0)=true:=by rw[hL];rfl
 refine pure_call (enter (p:=q8) Tryz.func156 rfl stat156 ?_) rfl
 simp only[go_sem,seval,opLen,undef,Pk.val,Pk.cells,Pk.zero,Tryz.f156,body98]
 refine .of (lnone_call (l:=l) (by simp only[go_sem,seval,opLen,hl,gl];rfl)) ?_
 simp only[go_sem,seval,opLen,undef,gl,hl,c3,body98]
def LTakeR(U:St)(l r:Nat)(V:LV)(L:List Pk)(U':St)(lg:Log):Prop:=(∀z∈lg,z=l\/U.next<=z)/\LAt U' l r {V with L:=L}
theorem ltake_call{U:St}{l r:Nat}{V:LV}(H:LAt U l r V){x:Pk}{L:List Pk}(hL:V.L=x :: L):callX Tryz.prog 120 [.pointer (some ⟨l,0,none⟩)] U λe U' lg=>e=.ret (.tuple ⟨[x.val,.bool true]⟩)/\LTakeR U l r V L U' lg:=by
 obtain⟨R,f,sp,gl,gr,hR,hRs⟩:=H.core
 have hl:=H.lt.1
 have hrr:=H.lt.2
 have hf:=hR.lt
 have n1:¬U.next=l:=by omega
 have n2:¬U.next=r:=by omega
 have n3:¬l=r:=H.ne
 have w1:IntKind.i64.wrap ((V.L.length:Int) - 1)=(L.length:Int):=by
  have:(V.L.length:Int) - 1=(L.length:Int):=by rw[hL,List.length_cons];omega
  rw[this];exact wrapIN (by have:=hR.le;rw[hL,List.length_cons]at this;omega)
 refine enter (p:=q8) Tryz.func120 rfl stat120 ?_
 simp only[go_sem,seval,opLen,undef,Pk.val,Pk.cells,Tryz.f120,body102,body156]
 refine .of (lfirst_call (H.keep (by simp only[go_sem,seval,opLen]) (by simp only[go_sem,seval,opLen,hl]) (by simp only[go_sem,seval,opLen,hrr])) hL) ?_
 simp only[go_sem,seval,opLen,undef,Pk.val,Pk.cells,body102,body156]
 refine .of (at_call (l:=l) (r:=r) (n:=R.length) (f:=f) (k:=1) (by simp only[go_sem,seval,opLen,hl,gl];rfl) (by simp only[go_sem,seval,opLen];omega) (by omega) hf (by omega)) ?_
 simp only[go_sem,seval,opLen,undef,gl,hl,n1,n2,n3,w1,body102,body156]
 have hR':Ring R f (x :: L):=hL▸hR
 refine⟨λz hz=>by simp at hz;omega,⟨R,(f+1) % R.length,sp,?_,?_,hR'.take,hRs⟩,H.ne,by simp only[go_sem,seval,opLen,St.next_put]<;>omega⟩
 ·rw[St.get_set,if_neg n1,St.get_set,if_pos rfl]
 ·simp only[go_sem,seval,opLen,hrr,n3]
  exact gr
theorem ltake_none{U:St}{l r:Nat}{V:LV}(H:LAt U l r V)(hL:V.L=[]):DCall Tryz.prog 120 [.pointer (some ⟨l,0,none⟩)] U (.ret (.tuple ⟨[Pk.zero.val,.bool false]⟩)) U []:=by
 have hl:=H.lt.1
 have hrr:=H.lt.2
 refine pure_call (enter (p:=q8) Tryz.func120 rfl stat120 ?_) rfl
 simp only[go_sem,seval,opLen,undef,Pk.val,Pk.cells,Pk.zero,Tryz.f120,body102,body156]
 refine .of (lfirst_none (H.keep (by simp only[go_sem,seval,opLen]) (by simp only[go_sem,seval,opLen,hl]) (by simp only[go_sem,seval,opLen,hrr])) hL) ?_
 simp only[go_sem,seval,opLen,undef,Pk.val,Pk.cells,Pk.zero,body102,body156]
theorem QAt.in_lt{U:St}{b:QB}{Q:QV}(H:QAt U b Q){c:Nat}(h:Foot b Q c):c<U.next:=by
 rcases h with h|⟨k,x,hx,rfl⟩
 ·exact H.lt c h
 ·exact(H.fl k x hx).2.1
def OnV.cells(o:OnV):List Value:=[.int .i64 o.pk.id,.int .i64 o.pk.flow,.int .i64 o.pk.size,.bool o.prom,.int .i64 o.n,.int .i64 o.d,.int .i64 o.fin,.int .i64 o.left]
structure PV where
 Q:QV
 V:LV
 on:Option OnV
 rate:Int
 most:Int
 now:Int
structure PB where
 p:Nat
 l:Nat
 r:Nat
 o:Option Nat
 b:QB
def onPtr:Option Nat->Value
 |none=>.pointer none
 |some o=>.pointer (some ⟨o,0,none⟩)
def PFoot(B:PB)(Q:QV)(c:Nat):Prop:=c=B.p\/c=B.l\/c=B.r\/B.o=some c\/Foot B.b Q c
structure OnAt(U:St)(B:PB)(Q:QV)(on:Option OnV):Prop where
 has:B.o.isSome=on.isSome
 get:∀o x,B.o=some o->on=some x->U.get o=some (.cells x.cells false)/\o<U.next/\o≠B.p/\o≠B.l/\o≠B.r/\¬Foot B.b Q o
structure PAt(U:St)(B:PB)(S:PV):Prop where
 gp:U.get B.p=some (.cells [.pointer (some ⟨B.b.q,0,none⟩),.pointer (some ⟨B.l,0,none⟩),.int .i64 S.rate,.int .i64 S.most,.int .i64 S.now,onPtr B.o] false)
 q:QAt U B.b S.Q
 l:LAt U B.l B.r S.V
 on:OnAt U B S.Q S.on
 lt:B.p<U.next
 pl:B.p≠B.l
 pr:B.p≠B.r
 pf:¬Foot B.b S.Q B.p
 lf:¬Foot B.b S.Q B.l
 rf:¬Foot B.b S.Q B.r
theorem PAt.in_lt{U:St}{B:PB}{S:PV}(H:PAt U B S){c:Nat}(h:PFoot B S.Q c):c<U.next:=by
 rcases h with rfl|rfl|rfl|h|h
 ·exact H.lt
 ·exact H.l.lt.1
 ·exact H.l.lt.2
 ·have:=H.on.has
  rw[h]at this
  cases hx:S.on with
  |none=>rw[hx]at this;cases this
  |some x=>exact(H.on.get c x h hx).2.1
 ·exact H.q.in_lt h
theorem PAt.keep {U U' : St} {B : PB} {S : PV} (H : PAt U B S) (hn : U.next ≤ U'.next) (hg : ∀ c, PFoot B S.Q c → U'.get c = U.get c) : PAt U' B S :=
  { H with
    gp := (hg _ (.inl rfl)).trans H.gp
    q := H.q.keep hn fun c hc => hg c (.inr (.inr (.inr (.inr hc))))
    l := H.l.keep hn (hg _ (.inr (.inl rfl))) (hg _ (.inr (.inr (.inl rfl))))
    on := ⟨H.on.has, fun o x h1 h2 => by
      obtain ⟨a, b, c⟩ := H.on.get o x h1 h2
      exact ⟨(hg o (.inr (.inr (.inr (.inl h1))))).trans a, by omega, c⟩⟩
    lt := by have := H.lt; omega }
theorem within67_call(n a b:Int)(U:St):DCall Tryz.prog 50 [.int .i64 n,.int .i64 a,.int .i64 b] U (.ret (.bool (decide (a<=n)&&decide (n<=b)))) U []:=by
 refine pure_call (enter (p:=q8) Tryz.func50 rfl stat50 ?_) rfl
 by_cases h:a<=n
 ·simp only[go_sem,seval,opLen,Tryz.f50,h]
 ·simp only[go_sem,seval,opLen,undef,Tryz.f50,h]
theorem pnone_call{U:St}{p q:Nat}{c1 c2 c3 c4 c5:Value}(h:U.get p=some (.cells [.pointer (some ⟨q,0,none⟩),c1,c2,c3,c4,c5] false)):DCall Tryz.prog 51 [.pointer (some ⟨p,0,none⟩)] U (.ret (.bool false)) U []:=by
 refine pure_call (enter (p:=q8) Tryz.func51 rfl stat51 ?_) rfl
 simp only[go_sem,seval,opLen,Tryz.f51,h]
def P0(rate most now room:Int):PV:=⟨Q0,⟨0,0,room,[]⟩,none,rate,most,now⟩
def PNewR(U:St)(rate most now room:Int)(e:AE)(U':St)(lg:Log):Prop:=
 ∃B:PB,e=.ret (.tuple ⟨[.pointer (some ⟨B.p,0,none⟩),.int .i64 0]⟩)/\(∀z∈lg,U.next<=z)/\PAt U' B (P0 rate most now room)/\∀c,PFoot B Q0 c->U.next<=c
theorem foot_q0{b:QB}{c:Nat}:Foot b Q0 c↔c∈b.core:=by
 constructor
 ·rintro(h|⟨k,x,hx,_⟩)
  ·exact h
  ·cases hx
 ·exact .inl
theorem pnew_call {U : St} {rate most room now : Int} (h1 : 1 ≤ rate ∧ rate ≤ 1000000) (h2 : 1 ≤ most ∧ most ≤ 2000) (h3 : 0 ≤ room ∧ room ≤ 1000000000) (h4 : 0 ≤ now ∧ now ≤ 2147483647) :
    callX Tryz.prog 14 [.int .i64 rate, .int .i64 most, .int .i64 room, .int .i64 now] U (PNewR U rate most now room) := by
  refine enter (p := q8) Tryz.func14 rfl stat14 ?_
  simp only [go_sem, seval, opLen, undef, Tryz.f14, body9, body49, body50]
  refine callX.hid (lnew_call h3) ?_
  intro U1 lg1 hlg1 hA
  obtain ⟨hB1, HL⟩ := hA
  have nx1 := HL.lt.1
  refine ⟨?_⟩
  simp only [go_sem, seval, opLen, undef, body9, body49, body50]
  refine .of (within67_call _ _ _ _) ?_
  simp only [go_sem, seval, opLen, undef, h1.1, h1.2, body9, body49, body50]
  refine .of (within67_call _ _ _ _) ?_
  simp only [go_sem, seval, opLen, undef, h2.1, h2.2, body9, body49, body50]
  refine .of (within67_call _ _ _ _) ?_
  simp only [go_sem, seval, opLen, undef, h4.1, h4.2, body9, body49, body50]
  refine callX.hid (qnew_call U1) ?_
  intro U2 lg2 hlg2 hN
  obtain ⟨hB2, HQ⟩ := hN
  refine ⟨?_⟩
  simp only [go_sem, seval, opLen, undef, body9, body49, body50]
  have nx2 := hlg2.1
  have ltq := HQ.lt
  simp only [QB.core, List.mem_cons, List.not_mem_nil, or_false] at ltq
  have lt4 := ltq (U1.next + 4) (.inl rfl)
  have kp : ∀ c, c < U1.next → U2.get c = U1.get c := fun c hc => hlg2.2 c hc fun hm => by have := hB2 c hm; omega
  have hfoot : ∀ c, Foot ⟨U1.next + 4, U1.next + 2, U1.next + 3, U1.next + 1, U1.next, []⟩ Q0 c → U1.next ≤ c ∧ c < U2.next := fun c hc => by
    have h1 := HQ.in_lt hc
    rw [foot_q0] at hc
    simp only [QB.core, List.mem_cons, List.not_mem_nil, or_false] at hc
    omega
  refine ⟨⟨U2.next, U.next + 1, U.next, none, ⟨U1.next + 4, U1.next + 2, U1.next + 3, U1.next + 1, U1.next, []⟩⟩, rfl, fun z hz => ?_, ?_, fun c hc => ?_⟩
  · rcases List.mem_append.1 hz with hz | hz
    · exact hB1 z hz
    · have := hB2 z hz; omega
  · exact { gp := by rw [St.get_new, if_pos rfl]; rfl
            q := HQ.keep (by rw [St.next_new]; omega) fun c hc => by rw [St.get_new, if_neg (by have := hfoot c hc; omega)]
            l := HL.keep (by rw [St.next_new]; omega) (by rw [St.get_new, if_neg (by omega)]; exact kp _ (by omega)) (by rw [St.get_new, if_neg (by omega)]; exact kp _ (by omega))
            on := ⟨rfl, fun o x h => by cases h⟩
            lt := by rw [St.next_new]; exact Nat.lt_succ_self _
            pl := by show U2.next ≠ U.next + 1; omega
            pr := by show U2.next ≠ U.next; omega
            pf := fun h => by have := hfoot _ h; exact absurd this.2 (Nat.lt_irrefl _)
            lf := fun h => by have := (hfoot (U.next + 1) h).1; omega
            rf := fun h => by have := (hfoot U.next h).1; omega }
  · rcases hc with h | h | h | h | h
    · have h : c = U2.next := h
      omega
    · have h : c = U.next + 1 := h
      omega
    · have h : c = U.next := h
      omega
    · cases h
    · have := (hfoot c h).1; omega
def PNotR(U:St)(e:AE)(_:St)(lg:Log):Prop:=e=.ret (.tuple ⟨[.pointer none,.int .i64 2]⟩)/\∀z∈lg,U.next<=z
theorem pnew_not{U:St}{rate most room now:Int}(h1:¬(1<=rate/\rate<=1000000))(h3:0<=room/\room<=1000000000):
  callX Tryz.prog 14 [.int .i64 rate,.int .i64 most,.int .i64 room,.int .i64 now] U (PNotR U):=by
 have hb:(decide (1<=rate)&&decide (rate<=1000000))=false:=by
  rw[Bool.and_eq_false_iff,decide_eq_false_iff_not,decide_eq_false_iff_not]
  omega
 refine enter (p:=q8) Tryz.func14 rfl stat14 ?_
 simp only[go_sem,seval,opLen,undef,Tryz.f14,body9,body49,body50]
 refine callX.hid (lnew_call h3) ?_
 intro U1 lg1 hlg1 hA
 obtain⟨hB1,HL⟩:=hA
 refine⟨?_⟩
 simp only[go_sem,seval,opLen,undef,body9,body49,body50]
 refine .of (within67_call _ _ _ _) ?_
 simp only[go_sem,seval,opLen,undef,hb,body9,body49,body50]
 exact⟨rfl,hB1⟩
theorem PAt.line {U U' : St} {B : PB} {S : PV} {r' : Nat} {V' : LV} (H : PAt U B S) (hn : U.next ≤ U'.next) (hg : ∀ c, c < U.next → c ≠ B.l → c ≠ B.r → U'.get c = U.get c) (hl : LAt U' B.l r' V') (hr : r' = B.r ∨ U.next ≤ r') : PAt U' { B with r := r' } { S with V := V' } := by
  have hp := H.lt
  have hpl := H.pl
  have hpr := H.pr
  have hfo : ∀ c, Foot B.b S.Q c → c ≠ B.l ∧ c ≠ B.r := fun c hc => ⟨fun e => H.lf (e ▸ hc), fun e => H.rf (e ▸ hc)⟩
  exact { gp := (hg _ hp hpl hpr).trans H.gp
          q := H.q.keep hn fun c hc => hg c (H.q.in_lt hc) (hfo c hc).1 (hfo c hc).2
          l := hl
          on := ⟨H.on.has, fun o x h1 h2 => by
            obtain ⟨a, b, c1, c2, c3, c4⟩ := H.on.get o x h1 h2
            exact ⟨(hg o b c2 c3).trans a, by omega, c1, c2, by show o ≠ r'; omega, c4⟩⟩
          lt := by have := H.lt; show B.p < _; omega
          pl := hpl
          pr := by show B.p ≠ r'; omega
          pf := H.pf
          lf := H.lf
          rf := fun h => by
            have h : Foot B.b S.Q r' := h
            rcases hr with rfl | hr
            · exact H.rf h
            · have := H.q.in_lt h; omega }
theorem PAt.queue {U U' : St} {B : PB} {S : PV} {b' : QB} {Q' : QV} (H : PAt U B S) (hn : U.next ≤ U'.next) (hg : ∀ c, c < U.next → ¬ Foot B.b S.Q c → U'.get c = U.get c) (hq : QAt U' b' Q') (hbq : b'.q = B.b.q) (hf : ∀ c, Foot b' Q' c → Foot B.b S.Q c ∨ U.next ≤ c) : PAt U' { B with b := b' } { S with Q := Q' } := by
  have hll := H.l.lt
  have no : ∀ c, c < U.next → ¬ Foot B.b S.Q c → ¬ Foot b' Q' c := fun c hc hn h => by
    rcases hf c h with h | h
    · exact hn h
    · omega
  exact { gp := by show U'.get B.p = some (.cells [.pointer (some ⟨b'.q, 0, none⟩), _, _, _, _, _] false); rw [hbq]; exact (hg _ H.lt H.pf).trans H.gp
          q := hq
          l := H.l.keep hn (hg _ hll.1 H.lf) (hg _ hll.2 H.rf)
          on := ⟨H.on.has, fun o x h1 h2 => by
            obtain ⟨a, b, c1, c2, c3, c4⟩ := H.on.get o x h1 h2
            exact ⟨(hg o b c4).trans a, by omega, c1, c2, c3, no o b c4⟩⟩
          lt := by have := H.lt; show B.p < _; omega
          pl := H.pl
          pr := H.pr
          pf := no _ H.lt H.pf
          lf := no _ hll.1 H.lf
          rf := no _ hll.2 H.rf }
structure TE(U:St)(b:QB)(Q:QV)(qb bx:Nat):Prop where
 q:QAt U b Q
 gb:U.get qb=some (.cells [.pointer (some ⟨b.q,0,none⟩)] false)
 gx:U.get bx=some (.cells [.func (.func 87) ⟨[]⟩ ⟨[.pointer (some ⟨qb,0,none⟩)]⟩] false)
 lt:qb<U.next/\bx<U.next
theorem TE.keep{U U':St}{b:QB}{Q:QV}{qb bx:Nat}(T:TE U b Q qb bx)(hn:U.next<=U'.next)(hg:∀z,z<U.next->U'.get z=U.get z):TE U' b Q qb bx:=
 ⟨T.q.keep hn λc hc=>hg c (T.q.in_lt hc),(hg _ T.lt.1).trans T.gb,(hg _ T.lt.2).trans T.gx,by have:=T.lt;omega⟩
theorem turn_call{U:St}{b:QB}{Q:QV}{qb:Nat}(H:QAt U b Q)(gb:U.get qb=some (.cells [.pointer (some ⟨b.q,0,none⟩)] false))(hqb:qb<U.next){x:Pk}{n:Nat}{it:Item}(hi:Q.L[n]?=some it)(hid:it.id=x.id):
  DCall Tryz.prog 87 [.agg ⟨x.cells⟩,.pointer (some ⟨qb,0,none⟩)] U (.ret (.int .i64 it.turn)) U []:=by
 have gq:=H.gq
 have hq:b.q<U.next:=H.lt _ (by simp [QB.core])
 have hx:HX (U.new (.cells x.cells false)) b.h b.m b.A Q.L Q.t:=H.hx.keep (by simp) λc hc=>by
  have:=H.hx.lt c hc
  rw[St.get_new,if_neg (by omega)]
 have hg:=HX.get hx hi
 rw[hid]at hg
 simp only[Pk.cells,Item.cells]at hg ⊢
 refine pure_call (enter (p:=q8) Tryz.func87 rfl stat87 ?_) rfl
 simp only[go_sem,seval,opLen,undef,Tryz.f87,gb,gq,hqb,hq]
 refine .of hg ?_
 simp only[go_sem,seval,opLen,undef,zerosN,Tryz.f87,gb,gq,hqb,hq]
theorem cmpk_call{U:St}{b:QB}{Q:QV}{qb bx:Nat}(T:TE U b Q qb bx){x y:Pk}{i j:Nat}{u v:Item}(hu:Q.L[i]?=some u)(hux:u.id=x.id)(hv:Q.L[j]?=some v)(hvy:v.id=y.id):
  DCall Tryz.prog 138 [.agg ⟨x.cells⟩,.agg ⟨y.cells⟩,.pointer (some ⟨bx,0,none⟩)] U (.ret (.int .i64 (cmpI u.turn v.turn))) U []:=by
 have T2:TE ((U.new (.cells x.cells false)).new (.cells y.cells false)) b Q qb bx:=T.keep (by simp;omega) λz hz=>by
  rw[St.get_new,if_neg (by simp;omega),St.get_new,if_neg (by omega)]
 have d1:=turn_call T2.q T2.gb T2.lt.1 hu hux
 have d2:=turn_call T2.q T2.gb T2.lt.1 hv hvy
 have gx:=T.gx
 have l1:=T.lt.1
 have l2:=T.lt.2
 simp only[Pk.cells]at d1 d2 ⊢
 refine pure_call (enter (p:=q8) Tryz.func138 rfl stat138 ?_) rfl
 simp only[go_sem,seval,opLen,undef,Tryz.f138,gx,l2]
 refine .of d1 ?_
 simp only[go_sem,seval,opLen,undef,Tryz.f138,gx,l2]
 refine .of d2 ?_
 simp only[go_sem,seval,opLen,undef,Tryz.f138,gx,l2]
def ltT(tn:Int->Int)(x y:Pk):Bool:=decide (tn x.id<tn y.id)
def InQ(Q:QV)(x:Pk):Prop:=∃(i:Nat) (it:Item),Q.L[i]?=some it/\it.id=x.id
theorem by_ok{U U1:St}{b:QB}{Q:QV}{qb bx a:Nat}{tn:Int->Int}(T:TE U b Q qb bx)(htn:∀it∈Q.L,tn it.id=it.turn)(hn:U.next<=U1.next)(hg:∀z,z<U.next->U1.get z=U.get z)(ha:U.next<=a):
  CmpOk U1 a 138 [.pointer (some ⟨bx,0,none⟩)] (ltT tn) (InQ Q):=
 .pk body138 λU2 hB x y ⟨i,u,hu,hux⟩ ⟨j,v,hv,hvy⟩=>⟨_,cmpk_call (T.keep (by have:=hB.nx;omega) λz hz=>(hB.get z (by omega) (by omega)).trans (hg z hz)) hu hux hv hvy,by
  have e1:=htn u (List.mem_of_getElem? hu)
  have e2:=htn v (List.mem_of_getElem? hv)
  rw[hux]at e1
  rw[hvy]at e2
  simp only[ltT,cmpI,e1,e2]
  by_cases h:u.turn<v.turn
  ·simp [h]
  ·simp only[h,if_false]
   split<;>simp⟩
theorem swo_ltT(tn:Int->Int):Sort.SWO (ltT tn):=by
 constructor
 ·intro x;simp [ltT]
 ·intro x y z h1 h2;simp only[ltT,decide_eq_true_eq]at *;omega
 ·intro x y z h1 h2;simp only[ltT,decide_eq_false_iff_not]at *;omega
def OrdR(U:St)(L:List Pk)(tn:Int->Int)(e:AE)(U':St)(lg:Log):Prop:=
 ∃w S,e=.ret w/\(∀z∈lg,U.next<=z)/\S.Perm L/\(S.Pairwise λx y=>tn x.id<=tn y.id)/\ItS U.next U' w S
theorem values_call(sa:Option Addr)(sl sc:Nat)(U:St):callX Tryz.prog 137 [.slice sa sl sc] U λe U' lg=>e=.ret (.func (.func 173) ⟨[]⟩ ⟨[.pointer (some ⟨U.next,0,none⟩)]⟩)/\(lg=[]/\U'=U.new (.cells [.slice sa sl sc] false)):=by
 refine enter (p:=q8) Tryz.func137 rfl stat137 ?_
 simp only[go_sem,seval,opLen,undef,Tryz.f137]
theorem ordered_call{U:St}{b:QB}{Q:QV}{qb lo:Nat}(H:QAt U b Q)(gb:U.get qb=some (.cells [.pointer (some ⟨b.q,0,none⟩)] false))(hqb:qb<U.next){v:Value}{L:List Pk}(hv:ItV lo U v L)(hL:L.length<256)
  {tn:Int->Int} (htn:∀it∈Q.L,tn it.id=it.turn) (hp:∀x∈L,InQ Q x):
  callX Tryz.prog 86 [v,.func (.func 87) ⟨[]⟩ ⟨[.pointer (some ⟨qb,0,none⟩)]⟩] U (OrdR U L tn):=by
 obtain⟨sa,sl,sc,rfl⟩:∃sa sl sc,v=.slice sa sl sc:=by
  rcases hv with⟨rfl,_⟩|⟨a,s,cap,G,rfl,_⟩
  ·exact⟨_,_,_,rfl⟩
  ·exact⟨_,_,_,rfl⟩
 refine enter (p:=q8) Tryz.func86 rfl stat86 ?_
 simp only[go_sem,seval,opLen,undef,Tryz.f86]
 refine callX.hidE (values_call sa sl sc _) ?_
 intro e U1 lg1 hlg1 h1
 obtain⟨rfl,rfl,rfl⟩:=h1
 refine⟨?_⟩
 simp only[go_sem,seval,opLen,undef,Tryz.f86]
 have T:TE ((U.new (.cells [.func (.func 87) ⟨[]⟩ ⟨[.pointer (some ⟨qb,0,none⟩)]⟩] false)).new (.cells [.slice sa sl sc] false)) b Q qb U.next:=by
  refine⟨H.keep (by simp;omega) λc hc=>?_,?_,?_,?_⟩
  ·have:=H.in_lt hc
   rw[St.get_new,if_neg (by simp;omega),St.get_new,if_neg (by omega)]
  ·rw[St.get_new,if_neg (by simp;omega),St.get_new,if_neg (by omega)];exact gb
  ·rw[St.get_new,if_neg (by simp),St.get_new,if_pos rfl]
  ·simp;omega
 have hv':ItV lo ((U.new (.cells [.func (.func 87) ⟨[]⟩ ⟨[.pointer (some ⟨qb,0,none⟩)]⟩] false)).new (.cells [.slice sa sl sc] false)) (.slice sa sl sc) L:=by
  rcases hv with h|⟨a,s,cap,G,h1,h2,h3,h4⟩
  ·exact .inl h
  ·refine .inr ⟨a,s,cap,G,h1,?_,h3,by simp;omega⟩
   rw[St.get_new,if_neg (by simp;omega),St.get_new,if_neg (by omega)]
   exact h2
 have hs:=sortedf_call (lt:=ltT tn) (p:=InQ Q) (λU1 hn hg a ha=>by_ok T htn hn hg ha) (swo_ltT tn) (c:=U.next+1) (by rw[St.get_new,if_pos (by simp)]) (by simp) hv' hL hp
 refine callX.hidE hs ?_
 intro e U2 lg2 hlg2 hA
 obtain⟨w,S,rfl,hB,hP,hS,hw⟩:=hA
 refine⟨?_⟩
 simp only[go_sem,seval,opLen,undef]
 simp only[St.next_new]at hB hw
 refine⟨w,S,rfl,λz hz=>by have:=hB z (by simpa using hz);omega,hP,hS.imp λ{x y} h=>by simp only[ltT,decide_eq_false_iff_not]at h;omega,?_⟩
 rcases hw with h|⟨a,h1,h2,h3,h4⟩
 ·exact .inl h
 ·exact .inr ⟨a,h1,h2,by omega,h4⟩
noncomputable def dropBody:Code:=Tryz.f39.body.getD .skip
noncomputable def dropB1:Code:=loopOf (nthC 3 dropBody)
theorem dropB1_is:dropB1=.seq (nthC 0 dropB1) (dropC 1 dropB1):=by rfl
def pkE(e:MapEntry):Pk:=
 match e.val with
 |.agg ⟨[.int _ a,.int _ b,.int _ c]⟩=>⟨a,b,c⟩
 |_=>Pk.zero
def ofF(f:Int)(es:List MapEntry):List Pk:=(es.map pkE).filter λx=>decide (x.flow=f)
def EsOk(es:List MapEntry)(Q:QV):Prop:=∀e∈es,e.val=.agg ⟨(pkE e).cells⟩/\e.key=.int .i64 (pkE e).id/\Q.P (pkE e).id=some ((pkE e).flow,(pkE e).size)
theorem esOk_of{es:List MapEntry}{Q:QV}(hk:KI es)(hl:∀k,lkV es k=(Q.P k).map (packOf k)):EsOk es Q:=λe he=>by
 obtain⟨k,h1⟩:=hk.ints e he
 have h2:=lkV_of_key hk e he h1
 rw[hl]at h2
 cases hP:Q.P k with
 |none=>rw[hP]at h2;cases h2
 |some x=>
  obtain⟨fl,sz⟩:=x
  rw[hP]at h2
  simp only[Option.map_some,packOf,Option.some.injEq]at h2
  have h3:pkE e=⟨k,fl,sz⟩:=by unfold pkE;rw[<-h2]
  rw[h3]
  exact⟨h2.symm,h1,hP⟩
structure FR1(ts:List Value)(f:Int)(qb itb:Nat)(v:Value):Prop where
 size:ts.length=68
 t1:lget ts 1=.int .i64 f
 t2:lget ts 2=.pointer (some ⟨qb,0,none⟩)
 t6:lget ts 6=v
 t26:lget ts 26=.pointer (some ⟨itb,0,none⟩)
structure D1(U:St)(b:QB)(Q:QV)(qb itb lo ck:Nat)(es:List MapEntry)(f:Int)(seen:List Nat)(v:Value)(D:List Pk):Prop where
 q:QAt U b Q
 gb:U.get qb=some (.cells [.pointer (some ⟨b.q,0,none⟩)] false)
 gm:U.get b.pm=some (.map es ck)
 gi:U.get itb=some (.mapIter (some b.pm) ck ⟨seen⟩ ck)
 lt:qb<itb/\itb<lo/\lo<=U.next
 ft:∀c,Foot b Q c->c<qb
 v:PkS lo U v D
 perm:(D++ofF f (leftE seen es)).Perm (ofF f es)
theorem D1.next{U U':St}{b:QB}{Q:QV}{qb itb lo ck:Nat}{es:List MapEntry}{f:Int}{seen:List Nat}{v v':Value}{D D':List Pk}(H:D1 U b Q qb itb lo ck es f seen v D)(hbr:Br es ck){e:MapEntry}(he:e∈leftE seen es)
  (hn:U.next<=U'.next) (hg:∀c,c<lo->c≠itb->U'.get c=U.get c) (gi:U'.get itb=some (.mapIter (some b.pm) ck ⟨seen++[e.born]⟩ ck)) (hv:PkS lo U' v' D') (hD:D'=D++(if(pkE e).flow=f then[pkE e] else[])):
  D1 U' b Q qb itb lo ck es f (seen++[e.born]) v' D':=by
 have lt:=H.lt
 refine⟨H.q.keep hn λc hc=>?_,(hg qb (by omega) (by omega)).trans H.gb,?_,gi,by omega,H.ft,hv,?_⟩
 ·have:=H.ft c hc
  exact hg c (by omega) (by omega)
 ·have:=H.ft b.pm (.inl (by simp [QB.core]))
  exact(hg _ (by omega) (by omega)).trans H.gm
 ·refine List.Perm.trans ?_ H.perm
  have h1:=leftE_step hbr.1 he
  have h2:(ofF f (leftE seen es)).Perm (ofF f (e :: leftE (seen++[e.born]) es)):=(h1.map pkE).filter _
  rw[hD,List.append_assoc]
  refine List.Perm.append_left D (List.Perm.trans ?_ h2.symm)
  unfold ofF
  rw[List.map_cons,List.filter_cons]
  by_cases hf:(pkE e).flow=f<;>simp [hf]
theorem drop_r7{U:St}{b:QB}{Q:QV}{qb itb lo ck:Nat}{es:List MapEntry}{f:Int}{seen:List Nat}{v:Value}{D:List Pk}{ts:List Value}{K:RR->Prop}(H:D1 U b Q qb itb lo ck es f seen v D)(hbr:Br es ck)(F:FR1 ts f qb itb v)(hne:leftE seen es≠[])
  (h:∀e∈leftE seen es,∀ts',FR1 ts' f qb itb v->lget ts' 28=.bool true->K ⟨.norm,⟨ts',[]⟩,stepSt U itb b.pm ck seen ck e,[itb]⟩):codeS Tryz.prog false (nthC 0 dropB1) ⟨ts,[]⟩ U K:=by
 have e1:=F.t1
 have e2:=F.t2
 have e6:=F.t6
 have e26:=F.t26
 have el:=F.size
 have hold:allOld ck es=true:=by
  have:∀l:List MapEntry,(∀e∈l,e.born<ck)->allOld ck l=true:=λl=>by
   induction l with
   |nil=>intro _;rfl
   |cons x l ih=>
    intro hl
    simp only[allOld,Bool.and_eq_true,Nat.blt_eq]
    exact⟨hl x (by simp),ih λy hy=>hl y (by simp [hy])⟩
  exact this es hbr.2
 simp only[dropB1,dropBody,nthC,loopOf,Tryz.f39,Option.getD]
 refine codeS.next cP_ok q8 rfl rfl rfl (by simp only[go_sem,seval,opLen,e26]) H.gi H.gm hold (Nat.le_refl _) hne λe he=>?_
 simp only[go_sem,seval,opLen,undef,stepTup,el]
 exact h e he _ ⟨by simp only[List.length_set,el],by simp only[go_sem,seval,opLen,el,e1],by simp only[go_sem,seval,opLen,el,e2],by simp only[go_sem,seval,opLen,el,e6],by simp only[go_sem,seval,opLen,el,e26]⟩ (by simp only[go_sem,seval,opLen,el])
theorem drop_r7e{U:St}{b:QB}{Q:QV}{qb itb lo ck:Nat}{es:List MapEntry}{f:Int}{seen:List Nat}{v:Value}{D:List Pk}{ts:List Value}{K:RR->Prop}(H:D1 U b Q qb itb lo ck es f seen v D)(hbr:Br es ck)(F:FR1 ts f qb itb v)(hne:leftE seen es=[])
  (h:∀ts',FR1 ts' f qb itb v->lget ts' 28=.bool false->K ⟨.norm,⟨ts',[]⟩,U,[]⟩):codeS Tryz.prog false (nthC 0 dropB1) ⟨ts,[]⟩ U K:=by
 have e1:=F.t1
 have e2:=F.t2
 have e6:=F.t6
 have e26:=F.t26
 have el:=F.size
 simp only[dropB1,dropBody,nthC,loopOf,Tryz.f39,Option.getD]
 refine codeS.next_end cP_ok q8 rfl rfl rfl (by simp only[go_sem,seval,opLen,e26]) H.gi H.gm hne hbr.2 ?_
 simp only[go_sem,seval,opLen,undef,el]
 exact h _ ⟨by simp only[List.length_set,el],by simp only[go_sem,seval,opLen,el,e1],by simp only[go_sem,seval,opLen,el,e2],by simp only[go_sem,seval,opLen,el,e6],by simp only[go_sem,seval,opLen,el,e26]⟩ (by simp only[go_sem,seval,opLen,el])
theorem drop_b1{U:St}{b:QB}{Q:QV}{qb itb lo ck:Nat}{es:List MapEntry}{f:Int}{seen:List Nat}{v:Value}{D:List Pk}{ts:List Value}{K:RR->Prop}(H:D1 U b Q qb itb lo ck es f seen v D)(hbr:Br es ck)(hes:EsOk es Q)(hD:D.length<=1000000)(F:FR1 ts f qb itb v){e:MapEntry}(he:e∈leftE seen es)(h28:lget ts 28=.bool true)
  (k:∀ts' v' D' U' lg,FR1 ts' f qb itb v'->D1 U' b Q qb itb lo ck es f (seen++[e.born]) v' D'->(∀z∈lg,itb<=z)->U.next<=U'.next->K ⟨.norm,⟨ts',[]⟩,U',lg⟩):
  wp (cP Tryz.prog) q8 (btAll 39) false (dropC 1 dropB1) ⟨ts,[]⟩ (stepSt U itb b.pm ck seen ck e) K:=by
 have e1:=F.t1
 have e2:=F.t2
 have e6:=F.t6
 have e26:=F.t26
 have el:=F.size
 have lt:=H.lt
 have hem:=(leftE_mem he).1
 obtain⟨hval,hkey,hP⟩:=hes e hem
 have gi':(stepSt U itb b.pm ck seen ck e).get itb=some (.mapIter (some b.pm) ck ⟨seen++[e.born]⟩ ck):=by unfold stepSt;rw[St.get_set,if_pos rfl]
 have gm':(stepSt U itb b.pm ck seen ck e).get b.pm=some (.map es ck):=by
  have:=H.ft b.pm (.inl (by simp [QB.core]))
  unfold stepSt;rw[St.get_set,if_neg (by omega)];exact H.gm
 have hent:=opEntry_is gi' gm' hbr.1 hem
 rw[hval]at hent
 have nx:(stepSt U itb b.pm ck seen ck e).next=U.next:=by unfold stepSt;rfl
 have gs:∀c,c≠itb->(stepSt U itb b.pm ck seen ck e).get c=U.get c:=λc hc=>by unfold stepSt;rw[St.get_set,if_neg (Ne.symm hc)]
 generalize hx:pkE e=x at *
 generalize hs:stepSt U itb b.pm ck seen ck e=U1 at *
 simp only[Pk.cells]at hent
 by_cases hf:x.flow=f
 ·rcases H.v with⟨rfl,rfl⟩|⟨a,rfl,ga,ha1,ha2⟩
  ·have hap:∀U:St,∀b,U.get b=some (.cells x.cells false)->opAppend (cP Tryz.prog).T U 59 59 (.slice none 0 0) (.slice (some ⟨b,0,some 0⟩) 1 1)=some (.new (.cells x.cells false) (.slice (some ⟨U.next,0,some 5⟩) 1 1) [b]):=λU b h=>pk_first h
   simp only[Pk.cells]at hap
   simp only[go_sem,seval,opLen,undef,zerosN,dropB1,dropBody,nthC,dropC,loopOf,Tryz.f39,Option.getD,e1,e2,e6,e26,el,h28,hent,hf,hap]
   refine k _ _ [x] _ _ ⟨by simp only[List.length_set,el],by simp only[go_sem,seval,opLen,el,e1],by simp only[go_sem,seval,opLen,el,e2],by simp only[go_sem,seval,opLen,el],by simp only[go_sem,seval,opLen,el,e26]⟩ (H.next hbr he (by simp only[go_sem,seval,opLen,St.next_put]<;>omega) (λc h1 h2=>?_) ?_ (.inr ⟨U1.next+2,rfl,?_,by omega,by simp only[go_sem,seval,opLen,St.next_put]<;>omega⟩) (by rw[hx,if_pos hf];rfl)) ?_ ?_
   ·have z:c<U1.next:=by omega
    simp only[go_sem,seval,opLen,z]
    exact gs c h2
   ·have z:itb<U1.next:=by omega
    simp only[go_sem,seval,opLen,z]
    exact gi'
   ·simp only[go_sem,seval,opLen,cellsP,Pk.cells,hf]
   ·intro z hz
    simp only[go_sem,seval,opLen]at hz
    omega
   ·simp only[go_sem,seval,opLen,St.next_put]<;>omega
  ·have hap:∀U:St,∀b,U.get a=some (.cells (cellsP D) false)->U.get b=some (.cells x.cells false)->opAppend (cP Tryz.prog).T U 59 59 (.slice (some ⟨a,0,some 5⟩) D.length D.length) (.slice (some ⟨b,0,some 0⟩) 1 1)=
     some (.eff (.slice (some ⟨U.next,0,some 5⟩) (D.length+1) (D.length+1)) ((U.new (.cells (cellsP (D++[x])) false)).put a none) [a]):=λU b h1 h2=>pk_more h1 h2 hD
   have ga':U1.get a=some (.cells (cellsP D) false):=(gs a (by omega)).trans ga
   have z1:a<U1.next:=by omega
   simp only[Pk.cells]at hap
   simp only[go_sem,seval,opLen,undef,zerosN,dropB1,dropBody,nthC,dropC,loopOf,Tryz.f39,Option.getD,e1,e2,e6,e26,el,h28,hent,hf,ga',z1,hap]
   have hdl:(D++[x]).length=D.length+1:=by rw[List.length_append];rfl
   refine k _ (.slice (some ⟨U1.next+2,0,some 5⟩) (D++[x]).length (D++[x]).length) (D++[x]) _ _ ⟨by simp only[List.length_set,el],by simp only[go_sem,seval,opLen,el,e1],by simp only[go_sem,seval,opLen,el,e2],by rw[hdl];simp only[go_sem,seval,opLen,el],by simp only[go_sem,seval,opLen,el,e26]⟩ (H.next hbr he (by simp only[go_sem,seval,opLen,St.next_put]<;>omega) (λc h1 h2=>?_) ?_ (.inr ⟨U1.next+2,rfl,?_,by omega,by simp only[go_sem,seval,opLen,St.next_put]<;>omega⟩) (by rw[hx,if_pos hf])) ?_ ?_
   ·have z:c<U1.next:=by omega
    have z2:¬a=c:=by omega
    simp only[go_sem,seval,opLen,z,z2]
    exact gs c h2
   ·have z:itb<U1.next:=by omega
    have z2:¬a=itb:=by omega
    simp only[go_sem,seval,opLen,z,z2]
    exact gi'
   ·have z2:¬a=U1.next+2:=by omega
    simp only[go_sem,seval,opLen,z2]
   ·intro z hz
    simp only[go_sem,seval,opLen]at hz
    omega
   ·simp only[go_sem,seval,opLen,St.next_put]<;>omega
 ·have hb:(x.flow==f)=false:=by simpa using hf
  simp only[go_sem,seval,opLen,undef,zerosN,dropB1,dropBody,nthC,dropC,loopOf,Tryz.f39,Option.getD,e1,e2,e6,e26,el,h28,hent,hf,hb]
  refine k _ v D _ _ ⟨by simp only[List.length_set,el],by simp only[go_sem,seval,opLen,el,e1],by simp only[go_sem,seval,opLen,el,e2],by simp only[go_sem,seval,opLen,el,e6],by simp only[go_sem,seval,opLen,el,e26]⟩ (H.next hbr he (by simp only[go_sem,seval,opLen,St.next_put]<;>omega) (λc h1 h2=>?_) ?_ (H.v.keep (by simp only[go_sem,seval,opLen,St.next_put]<;>omega) λc h1 h2=>?_) (by rw[hx,if_neg hf];simp)) ?_ ?_
  ·have z:c<U1.next:=by omega
   simp only[go_sem,seval,opLen,z]
   exact gs c h2
  ·have z:itb<U1.next:=by omega
   simp only[go_sem,seval,opLen,z]
   exact gi'
  ·have z:c<U1.next:=by omega
   simp only[go_sem,seval,opLen,z]
   exact gs c (by omega)
  ·intro z hz
   simp only[go_sem,seval,opLen]at hz
   omega
  ·simp only[go_sem,seval,opLen,St.next_put]<;>omega
theorem dropB1_stat:statAll (btAll 39) (dropC 1 dropB1)=true:=by kernel_rfl
theorem drop_loop1{b:QB}{Q:QV}{qb itb lo ck:Nat}{es:List MapEntry}{f:Int}(hbr:Br es ck)(hes:EsOk es Q)(hL:es.length<=1000000):∀(m:Nat) (U:St) (seen:List Nat) (v:Value) (D:List Pk) (ts:List Value) (S:RR->Prop),(leftE seen es).length=m->FR1 ts f qb itb v->D1 U b Q qb itb lo ck es f seen v D->
  (∀ts' v' D' U' lg seen',FR1 ts' f qb itb v'->D1 U' b Q qb itb lo ck es f seen' v' D'->leftE seen' es=[]->(∀z∈lg,itb<=z)->U.next<=U'.next->S ⟨.exit 1,⟨ts',[]⟩,U',lg⟩)->loopS Tryz.prog false dropB1 ⟨ts,[]⟩ U S:=by
 intro m
 induction m with
 |zero=>
  intro U seen v D ts S hm F H h
  have hl:leftE seen es=[]:=List.eq_nil_of_length_eq_zero hm
  refine loopS.step ?_
  have:=codeS.seq (P:=Tryz.prog) (rnd:=false) (fr:=⟨ts,[]⟩) (U:=U) (S:=thenW (loopS Tryz.prog false dropB1) S) (drop_r7e H hbr F hl λts' F' h28=>(show codeS Tryz.prog false (dropC 1 dropB1) ⟨ts',[]⟩ U (preW [] (thenW (loopS Tryz.prog false dropB1) S)) from codeS.of_wp cP_ok mixed dropB1_stat (p:=q8) (by
   have el:=F'.size
   simp only[go_sem,seval,opLen,undef,zerosN,dropB1,dropBody,nthC,dropC,loopOf,Tryz.f39,Option.getD,el,h28]
   exact h ts' v D U [] seen F' H hl (by simp) (Nat.le_refl _))))
  rw[<-dropB1_is]at this
  exact this
 |succ m ih=>
  intro U seen v D ts S hm F H h
  have hl:leftE seen es≠[]:=by intro e;rw[e]at hm;simp at hm
  have hD:D.length<=1000000:=by
   have h1:=H.perm.length_eq
   have h2:(ofF f es).length<=es.length:=by unfold ofF;exact Nat.le_trans (List.length_filter_le _ _) (by simp)
   rw[List.length_append]at h1
   omega
  refine loopS.step ?_
  have:=codeS.seq (P:=Tryz.prog) (rnd:=false) (fr:=⟨ts,[]⟩) (U:=U) (S:=thenW (loopS Tryz.prog false dropB1) S) (drop_r7 H hbr F hl λe he ts' F' h28=>(show codeS Tryz.prog false (dropC 1 dropB1) ⟨ts',[]⟩ (stepSt U itb b.pm ck seen ck e) (preW [itb] (thenW (loopS Tryz.prog false dropB1) S)) from codeS.of_wp cP_ok mixed dropB1_stat (p:=q8) (drop_b1 H hbr hes hD F' he h28 λts2 v2 D2 U2 lg2 F2 H2 hlg2 hn2=>(show loopS Tryz.prog false dropB1 ⟨ts2,[]⟩ U2 (preW ([itb]++lg2) S) from ih U2 _ v2 D2 ts2 _ (by
    have:=(leftE_step hbr.1 he).length_eq
    simp only[List.length_cons]at this
    omega) F2 H2 λts3 v3 D3 U3 lg3 seen3 F3 H3 hl3 hlg3 hn3=>h ts3 v3 D3 U3 _ seen3 F3 H3 hl3 (λz hz=>by
     rcases List.mem_append.1 hz with hz|hz
     ·rcases List.mem_append.1 hz with hz|hz
      ·simp at hz;omega
      ·exact hlg2 z hz
     ·exact hlg3 z hz) (by omega)))))
  rw[<-dropB1_is]at this
  exact this
theorem updF_id{α:Type}{F:Int->Option α}{k:Int}{x:α}(h:F k=some x):updF F k (some x)=F:=funext λk'=>by
 unfold updF
 by_cases e:k'=k
 ·rw[if_pos e,e,h]
 ·rw[if_neg e]
theorem QAt.drop1{U U':St}{b:QB}{Q:QV}(H:QAt U b Q){flow:Int}{x:FlowV}{P':Int->Option (Int×Int)}{np':Nat}{L':List Item}(hF:Q.F flow=some x)(hx':HX U' b.h b.m b.A L' Q.t)
  (kc:∀c,c<U.next->¬b.pm=c->c∉b.h :: b.m :: b.A->U'.get c=U.get c) (nx:U.next<=U'.next) (mp':MapAt U' b.pm (λk=>(P' k).map (packOf k)) np'):QAt U' b {Q with P:=P',np:=np',L:=L'}:=by
 obtain⟨gx,hxl,hxc⟩:=H.fl flow x hF
 have inh:∀c∈b.h :: b.m :: b.A,c∈b.core:=λc hc=>by simp only[QB.core,List.mem_cons]at hc ⊢;rcases hc with h|h|h<;>simp [h]
 have kx:=kc x.blk hxl (λe=>hxc (by simp [QB.core,e])) λhm=>hxc (inh _ hm)
 have:=H.change (x':=x) (A':=b.A) (t':=Q.t) hF rfl hx' (λc hc=>.inl hc) (λc h1 _ h2 h3=>kc c h1 h2 h3) nx (kx.trans gx) mp'
 rw[updF_id hF]at this
 exact this
theorem QAt.dropF {U U' : St} {b : QB} {Q : QV} (H : QAt U b Q) {flow : Int} {x : FlowV} (hF : Q.F flow = some x) (kc : ∀ c, c < U.next → c ≠ b.fm → U'.get c = U.get c) (nx : U.next ≤ U'.next) (mf' : MapAt U' b.fm (fun k => (updF Q.F flow none k).map ptrOf) (Q.nf - 1)) :
    QAt U' b { Q with F := updF Q.F flow none, nf := Q.nf - 1 } := by
  have ne := H.ne
  have lt := H.lt
  have sub : ∀ k y, updF Q.F flow none k = some y → Q.F k = some y := fun k y h => by
    by_cases e : k = flow
    · subst e; rw [updF_same] at h; cases h
    · rwa [updF_other _ _ e] at h
  exact { gq := (kc _ (lt _ (by simp [QB.core])) ne.q_fm).trans H.gq
          hx := H.hx.keep nx fun c hc => kc c (H.hx.lt c hc) (by
            simp only [List.mem_cons] at hc
            rcases hc with rfl | rfl | hc
            · exact ne.fm_h.symm
            · exact ne.fm_m.symm
            · exact fun e => (ne.A c hc).2.1 e)
          mf := mf'
          mp := H.mp.keep (kc _ (lt _ (by simp [QB.core])) ne.fm_pm.symm)
          fl := fun k y hy => by
            obtain ⟨a1, a2, a3⟩ := H.fl k y (sub k y hy)
            exact ⟨(kc _ a2 fun e => a3 (by simp [QB.core, e])).trans a1, by omega, a3⟩
          inj := fun k k' y y' hy hy' h => H.inj k k' y y' (sub k y hy) (sub k' y' hy') h
          nodup := H.nodup
          lt := fun c hc => by have := lt c hc; omega }
def dropV(Q:QV)(D:List Pk)(L':List Item):QV:={Q with P:=λk=>if k∈D.map Pk.id then none else Q.P k,np:=Q.np - D.length,L:=L'}
theorem HX.pos{U:St}{h m:Nat}{A:List Nat}{L:List Item}{t:Int}(H:HX U h m A L t):AllPos L:=H.toV.pos
theorem HX.dist{U:St}{h m:Nat}{A:List Nat}{L:List Item}{t:Int}(H:HX U h m A L t):Dist L:=H.toV.dist
noncomputable def dropB3:Code:=loopOf (nthC 5 dropBody)
structure FR3(ts:List Value)(f:Int)(qb:Nat)(w:Value)(n i:Nat):Prop where
 size:ts.length=68
 t1:lget ts 1=.int .i64 f
 t2:lget ts 2=.pointer (some ⟨qb,0,none⟩)
 t6:lget ts 6=w
 t42:lget ts 42=w
 t43:lget ts 43=.int .i64 n
 t44:lget ts 44=.int .i64 i
structure Left(L L':List Item)(D:List Pk):Prop where
 hp:Hp L'
 mem:∀z,z∈L'↔z∈L/\z.id∉D.map Pk.id
structure D3(U:St)(b:QB)(Q:QV)(qb lo:Nat)(w:Value)(Sl:List Pk)(i:Nat):Prop where
 q:∃L',QAt U b (dropV Q (Sl.take i) L')/\Left Q.L L' (Sl.take i)
 gb:U.get qb=some (.cells [.pointer (some ⟨b.q,0,none⟩)] false)
 lt:qb<lo/\lo<=U.next
 ft:∀c,Foot b Q c->c<qb
 w:ItS lo U w Sl
theorem Left.step{L L':List Item}{D:List Pk}(h:Left L L' D)(hp:AllPos L')(hd:Dist L'){n:Nat}{it:Item}{x:Pk}(hi:L'[n]?=some it)(hid:it.id=x.id):Left L (outL L' n) (D++[x]):=
 ⟨out_heap h.hp hp hi,λz=>by
  rw[outL_mem hd hi,h.mem z,List.map_append,List.mem_append,not_or,hid]
  constructor
  ·rintro⟨⟨a,b⟩,c⟩;exact⟨a,b,by simpa using c⟩
  ·rintro⟨a,b,c⟩;exact⟨⟨a,b⟩,by simpa using c⟩⟩
def ID3(b:QB)(Q:QV)(qb lo:Nat)(w:Value)(Sl:List Pk)(f:Int)(m:Nat)(fr:Fr)(U:St):Prop:=
 ∃ts,∃i:Nat,fr=⟨ts,[]⟩/\FR3 ts f qb w Sl.length i/\m+i=Sl.length/\D3 U b Q qb lo w Sl i
def ED3(b:QB)(Q:QV)(qb lo:Nat)(w:Value)(Sl:List Pk)(f:Int)(x:AX)(fr:Fr)(U:St):Prop:=
 x=.exit 3/\∃ts,fr=⟨ts,[]⟩/\FR3 ts f qb w Sl.length Sl.length/\D3 U b Q qb lo w Sl Sl.length
theorem drop_loop3{b:QB}{Q:QV}{qb lo:Nat}{w:Value}{Sl:List Pk}{f:Int}{xf:FlowV}(hF:Q.F f=some xf)(hS:Sl.length<256)(hnd:(Sl.map Pk.id).Nodup)(hin:∀x∈Sl,InQ Q x/\Q.P x.id=some (x.flow,x.size)):
  ∀m fr U,ID3 b Q qb lo w Sl f m fr U->loopX Tryz.prog false dropB3 fr U (endL (ED3 b Q qb lo w Sl f) λz=>Foot b Q z\/qb<=z):=by
 refine loop_ind q8 39 (by kernel_rfl) _ _ _ ?_
 rintro m fr U ⟨ts,i,rfl,F,hmi,H⟩
 have e1:=F.t1
 have e2:=F.t2
 have e6:=F.t6
 have e42:=F.t42
 have e43:=F.t43
 have e44:=F.t44
 have el:=F.size
 by_cases hi:i<Sl.length
 ·have c0:(i:Int)<(Sl.length:Int):=by omega
  have c1:(0:Int)<=(i:Int):=by omega
  have w1:IntKind.i64.wrap ((i:Int)+1)=((i+1:Nat):Int):=by
   have:(i:Int)+1=((i+1:Nat):Int):=by omega
   rw[this];exact wrapIN (by omega)
  have hx:Sl[i]?=some Sl[i]:=List.getElem?_eq_getElem hi
  generalize Sl[i]=x at hx
  have tk:Sl.take (i+1)=Sl.take i++[x]:=by rw[List.take_add_one,hx];rfl
  have hxm:=List.mem_of_getElem? hx
  obtain⟨⟨n0,it,hit,hid⟩,hPx⟩:=hin x hxm
  have hnot:x.id∉(Sl.take i).map Pk.id:=λhm=>by
   have h1:(Sl.take (i+1)).map Pk.id=(Sl.take i).map Pk.id++[x.id]:=by rw[tk,List.map_append];rfl
   have h2:((Sl.take (i+1)).map Pk.id).Nodup:=hnd.sublist ((List.take_sublist _ _).map _)
   rw[h1,List.nodup_append]at h2
   exact h2.2.2 _ hm _ (by simp) rfl
  obtain⟨L',HQ,HL⟩:=H.q
  have hmem:it∈L':=(HL.mem it).2 ⟨List.mem_of_getElem? hit,by rw[hid];exact hnot⟩
  obtain⟨n,hn⟩:=List.getElem?_of_mem hmem
  rcases H.w with⟨_,rfl⟩|⟨a,rfl,ga,ha1,ha2⟩
  ·simp at hi
  have gb:=H.gb
  have lt:=H.lt
  have gq:=HQ.gq
  obtain⟨ep,cp,gp,hkp,hlp,hlenp,hbp⟩:=HQ.mp
  have hq:b.q<U.next:=HQ.lt _ (by simp [QB.core])
  have hpm:b.pm<U.next:=HQ.lt _ (by simp [QB.core])
  have hqb:qb<U.next:=by omega
  have hP':(dropV Q (Sl.take i) L').P x.id=some (x.flow,x.size):=by
   show(if x.id∈(Sl.take i).map Pk.id then none else Q.P x.id)=_
   rw[if_neg hnot];exact hPx
  obtain⟨jp,ep',hfindp,hevp,hjp,hkeyp⟩:=findV_some und2' (i:=0) (v:=packOf x.id (x.flow,x.size)) hkp ((hlp x.id).trans (by show Option.map _ ((dropV Q (Sl.take i) L').P x.id)=_;rw[hP'];rfl))
  have ex:=cellsP_at' hx
  have lx:i*3+3<=(cellsP Sl).length:=by rw[cellsP_length];omega
  simp only[Pk.cells]at ex
  have ne:=HQ.ne
  have hA:=HQ.hx.lt
  have inh:∀c∈b.h :: b.m :: b.A,c∈b.core:=λc hc=>by simp only[QB.core,List.mem_cons]at hc ⊢;rcases hc with h|h|h<;>simp [h]
  have fq:∀c∈b.core,c<qb:=λc hc=>H.ft c (.inl hc)
  have qA:qb∉b.h :: b.m :: b.A:=λhm=>by have:=fq _ (inh _ hm);omega
  have nq:b.q∉b.h :: b.m :: b.A:=λhm=>by
   simp only[List.mem_cons]at hm
   rcases hm with h|h|h
   ·exact ne.q_h h
   ·exact ne.q_m h
   ·exact(ne.A _ h).1 rfl
  have np:b.pm∉b.h :: b.m :: b.A:=λhm=>by
   simp only[List.mem_cons]at hm
   rcases hm with h|h|h
   ·exact ne.pm_h h
   ·exact ne.pm_m h
   ·exact(ne.A _ h).2.2.1 rfl
  have n1:¬b.pm=qb:=λe=>by have:=fq b.pm (by simp [QB.core]);omega
  have n2:¬b.pm=b.q:=ne.q_pm.symm
  simp only[go_sem,seval,opLen,undef,zerosN,dropB3,dropBody,nthC,loopOf,Tryz.f39,Option.getD,Int.toNat_natCast,e1,e2,e6,e42,e43,e44,el,c0,c1,ga,ha2,ex,lx,gb,gq,hq,hqb]
  obtain⟨Uz,hUz⟩:∃Uz,Uz=((U.new (.cells [.int .i64 0,.int .i64 0,.int .i64 0] false)).set U.next (.cells [.int .i64 x.id,.int .i64 x.flow,.int .i64 x.size] false)):=⟨_,rfl⟩
  have zn:Uz.next=U.next+1:=by rw[hUz];rfl
  have zg:∀c,c<U.next->Uz.get c=U.get c:=λc hc=>by rw[hUz,St.get_set,if_neg (by omega),St.get_new,if_neg (by omega)]
  have zx:Uz.get U.next=some (.cells [.int .i64 x.id,.int .i64 x.flow,.int .i64 x.size] false):=by rw[hUz,St.get_set,if_pos rfl]
  rw[<-hUz]
  have hx0:HX Uz b.h b.m b.A L' Q.t:=HQ.hx.keep (by omega) λc hc=>zg c (hA c hc)
  have hdr:=HX.drop hx0 hn
  rw[hid]at hdr
  refine callX.hidE hdr ?_
  intro e U1 lg1 hlg1 hR
  obtain⟨rfl,hlg,hx1⟩:=hR
  have nx:=hlg1.1
  have k1:∀c,c<U.next->c∉b.h :: b.m :: b.A->U1.get c=U.get c:=λc h1 h2=>by
   rw[hlg1.2 c (by omega) λhm=>h2 (hlg c hm),zg c h1]
  have kn:U1.get U.next=some (.cells [.int .i64 x.id,.int .i64 x.flow,.int .i64 x.size] false):=by
   rw[hlg1.2 _ (by omega) λhm=>by have:=hA _ (hlg _ hm);omega,zx]
  have gq1:=(k1 b.q hq nq).trans gq
  have gb1:=(k1 qb hqb qA).trans gb
  have gp1:=(k1 b.pm hpm np).trans gp
  have hq1:b.q<U1.next:=by omega
  have hqb1:qb<U1.next:=by omega
  have hpm1:b.pm<U1.next:=by omega
  have hn1:U.next<U1.next:=by omega
  refine⟨?_⟩
  simp only[go_sem,seval,opLen,undef,zerosN,packOf,Int.toNat_natCast,e1,e2,e6,e42,e43,e44,el,c0,c1,gb1,gq1,gp1,kn,hq1,hqb1,hpm1,hn1,hfindp,hevp,und2',w1,n1,n2]
  obtain⟨kd1,kd2⟩:=delV_KI hkp hjp hkeyp
  have kd3:=delV_length hjp
  have pmx:∀c,qb<=c->¬b.pm=c:=λc hc e=>by have:=fq b.pm (by simp [QB.core]);omega
  have inx:∀c,qb<=c->c∉b.h :: b.m :: b.A:=λc hc hm=>by have:=fq _ (inh _ hm);omega
  have h1:HX (U1.set b.pm (.map (delE ep jp) cp)) b.h b.m b.A (outL L' n) Q.t:=hx1.keep (Nat.le_refl _) λc hc=>by
   rw[St.get_set,if_neg (show ¬b.pm=c from λe=>np (e▸hc))]
  have h2:=HQ.drop1 (U':=U1.set b.pm (.map (delE ep jp) cp)) (P':=λk=>if k∈(Sl.take (i+1)).map Pk.id then none else Q.P k) (np':=Q.np - (Sl.take (i+1)).length) (flow:=f) (x:=xf) hF h1 (λc h1 h2 h3=>by
   rw[St.get_set,if_neg h2];exact k1 c h1 h3) (by show U.next<=U1.next;omega) ⟨delE ep jp,cp,by rw[St.get_set,if_pos rfl],kd1,λk=>by
    rw[kd2]
    show _=Option.map (packOf k) (if k∈(Sl.take (i+1)).map Pk.id then none else Q.P k)
    have hm:k∈(Sl.take (i+1)).map Pk.id↔k∈(Sl.take i).map Pk.id\/k=x.id:=by
     rw[tk,List.map_append,List.mem_append]
     simp
    by_cases e:k=x.id
    ·rw[if_pos e,if_pos (hm.2 (.inr e))];rfl
    ·rw[if_neg e,hlp]
     show Option.map (packOf k) (if k∈(Sl.take i).map Pk.id then none else Q.P k)=_
     by_cases e2:k∈(Sl.take i).map Pk.id
     ·rw[if_pos e2,if_pos (hm.2 (.inl e2))]
     ·rw[if_neg e2,if_neg λh=>(hm.1 h).elim e2 e],by
    have h3:ep.length=Q.np - (Sl.take i).length:=hlenp
    simp only[List.length_take]at h3 ⊢
    omega,hbp.del⟩
  have h3:=HL.step (x:=x) (HX.pos HQ.hx) (HX.dist HQ.hx) hn hid
  rw[<-tk]at h3
  refine⟨⟨.inr (by omega),λz hz=>?_⟩,m - 1,by omega,_,i+1,rfl,⟨by simp only[List.length_set,el],by simp only[go_sem,seval,opLen,el,e1],by simp only[go_sem,seval,opLen,el,e2],by simp only[go_sem,seval,opLen,el,e6],by simp only[go_sem,seval,opLen,el,e42],by simp only[go_sem,seval,opLen,el,e43],by simp only[go_sem,seval,opLen,el]⟩,by omega,⟨outL L' n,h2,h3⟩,?_,⟨lt.1,by show lo<=U1.next;omega⟩,H.ft,.inr ⟨a,rfl,?_,ha1,by show a<U1.next;omega⟩⟩
  ·rcases hz with hz|rfl
   ·exact .inl (.inl (inh _ (hlg z hz)))
   ·exact .inl (.inl (by simp [QB.core]))
  ·rw[St.get_set,if_neg n1];exact gb1
  ·rw[St.get_set,if_neg (pmx a (by omega)),k1 a ha2 (inx a (by omega))];exact ga
 ·have c0:¬(i:Int)<(Sl.length:Int):=by omega
  obtain rfl:i=Sl.length:=by omega
  simp only[go_sem,seval,opLen,undef,zerosN,dropB3,dropBody,nthC,loopOf,Tryz.f39,Option.getD,e1,e2,e6,e42,e43,e44,el,c0]
  exact⟨rfl,_,rfl,⟨by simp only[List.length_set,el],by simp only[go_sem,seval,opLen,el,e1],by simp only[go_sem,seval,opLen,el,e2],by simp only[go_sem,seval,opLen,el,e6],by simp only[go_sem,seval,opLen,el,e42],by simp only[go_sem,seval,opLen,el,e43],by simp only[go_sem,seval,opLen,el,e44]⟩,H⟩
structure Dropped(U:St)(b:QB)(Q:QV)(f:Int)(tn:Int->Int)(U':St)(lg:Log)(w:Value)(Sl:List Pk)(L':List Item):Prop where
 lg:∀z∈lg,Foot b Q z\/U.next<=z
 w:ItS U.next U' w Sl
 q:QAt U' b {dropV Q Sl L' with F:=updF Q.F f none,nf:=Q.nf - 1}
 left:Left Q.L L' Sl
 mem:∀x,x∈Sl↔Q.P x.id=some (x.flow,x.size)/\x.flow=f
 nd:(Sl.map Pk.id).Nodup
 ord:Sl.Pairwise λx y=>tn x.id<=tn y.id
 len:Sl.length<256
def DropR(U:St)(b:QB)(Q:QV)(f:Int)(tn:Int->Int)(e:AE)(U':St)(lg:Log):Prop:=
 ∃w Sl L',e=.ret (.tuple ⟨[w,.int .i64 0]⟩)/\Dropped U b Q f tn U' lg w Sl L'
theorem ofF_mem{es:List MapEntry}{Q:QV}{f:Int}(hes:EsOk es Q)(hk:KI es)(hl:∀k,lkV es k=(Q.P k).map (packOf k))(x:Pk):x∈ofF f es↔Q.P x.id=some (x.flow,x.size)/\x.flow=f:=by
 unfold ofF
 simp only[List.mem_filter,List.mem_map,decide_eq_true_eq]
 constructor
 ·rintro⟨⟨e,he,rfl⟩,h⟩;exact⟨(hes e he).2.2,h⟩
 ·rintro⟨h,hf⟩
  refine⟨?_,hf⟩
  have h1:=hl x.id
  rw[h]at h1
  obtain⟨j,e,_,h2,h3,h4⟩:=findV_some (T:=⟨λ_=>some {(default:TypeInfo) with desc:=.int .i64},λ_=>none,λ_=>none⟩) (kt:=0) (kk:=.i64) rfl (i:=0) hk h1
  refine⟨e,List.mem_of_getElem? h3,?_⟩
  unfold pkE
  rw[h2]
  rfl
theorem ofF_nodup{es:List MapEntry}{Q:QV}{f:Int}(hes:EsOk es Q)(hk:KI es):((ofF f es).map Pk.id).Nodup:=by
 have h1:(es.map λe=>(pkE e).id).Nodup:=by
  unfold List.Nodup
  rw[List.pairwise_map]
  refine hk.nodup.imp_of_mem λ{a c} ha hc h e=>h ?_
  rw[(hes a ha).2.1,(hes c hc).2.1,e]
 unfold ofF
 refine h1.sublist ?_
 rw[show(es.map λe=>(pkE e).id)=(es.map pkE).map Pk.id by rw[List.map_map];rfl]
 exact(List.filter_sublist).map _
theorem dropBody_is:dropBody=.seq (nthC 0 dropBody) (.seq (nthC 1 dropBody) (.seq (nthC 2 dropBody) (.seq (.seq (nthC 0 (nthC 3 dropBody)) (.block 1 (.loop dropB1))) (dropC 4 dropBody)))):=by rfl
theorem dropS0:statAll (btAll 39) (nthC 0 dropBody)=true:=by kernel_rfl
theorem dropS1:statAll (btAll 39) (nthC 1 dropBody)=true:=by kernel_rfl
theorem dropS2:statAll (btAll 39) (nthC 2 dropBody)=true:=by kernel_rfl
theorem dropS3:statAll (btAll 39) (nthC 0 (nthC 3 dropBody))=true:=by kernel_rfl
theorem dropS4:statAll (btAll 39) (dropC 4 dropBody)=true:=by kernel_rfl
theorem drop_rest{U0 U:St}{b:QB}{Q:QV}{itb lo ck:Nat}{es:List MapEntry}{f:Int}{seen:List Nat}{v:Value}{D:List Pk}{ts:List Value}{tn:Int->Int}{K:RR->Prop}(H:D1 U b Q U0.next itb lo ck es f seen v D)(hl:leftE seen es=[])(F:FR1 ts f U0.next itb v){xf:FlowV}(hF:Q.F f=some xf)
  (hes:EsOk es Q) (hk:KI es) (hlk:∀k,lkV es k=(Q.P k).map (packOf k)) (hnp:es.length<256) (hpl:∀id p,Q.P id=some p->∃(n:Nat) (it:Item),Q.L[n]?=some it/\it.id=id) (htn:∀it∈Q.L,tn it.id=it.turn) (hhp:Hp Q.L)
  (k:∀ts' U' lg w Sl L',lget ts' 4=w->lget ts' 5=.int .i64 0->ts'.length=68->Dropped U0 b Q f tn U' lg w Sl L'->K ⟨.ret,⟨ts',[]⟩,U',lg⟩):wp (cP Tryz.prog) q8 (btAll 39) false (dropC 4 dropBody) ⟨ts,[]⟩ U K:=by
 have e1:=F.t1
 have e2:=F.t2
 have e6:=F.t6
 have el:=F.size
 have lt:=H.lt
 have hqb:U0.next<U.next:=by omega
 have gb:=H.gb
 have hperm:D.Perm (ofF f es):=by
  have:=H.perm
  rw[hl]at this
  simpa [ofF]using this
 have hDl:D.length<256:=by
  have h1:=hperm.length_eq
  have h2:(ofF f es).length<=es.length:=by unfold ofF;exact Nat.le_trans (List.length_filter_le _ _) (by simp)
  omega
 have hIn:∀x,x∈ofF f es->InQ Q x/\Q.P x.id=some (x.flow,x.size):=λx hx=>by
  have h1:=((ofF_mem hes hk hlk x).1 hx).1
  exact⟨hpl _ _ h1,h1⟩
 have hv:ItV lo U v D:=by
  rcases H.v with h|⟨a,h1,h2,h3,h4⟩
  ·exact .inl h
  ·exact .inr ⟨a,5,D.length,[],h1,by simpa using h2,h3,h4⟩
 have hord:=ordered_call H.q gb hqb hv hDl htn λx hx=>(hIn x (hperm.mem_iff.1 hx)).1
 simp only[go_sem,seval,opLen,undef,zerosN,dropBody,dropC,Tryz.f39,Option.getD,e1,e2,e6,el]
 refine callX.hidE hord ?_
 intro e U1 lg1 hlg1 hR
 obtain⟨w,Sl,rfl,hB,hP1,hO,hw⟩:=hR
 have hSl:Sl.length<256:=by rw[hP1.length_eq];exact hDl
 have hP2:Sl.Perm (ofF f es):=hP1.trans hperm
 have hnd:(Sl.map Pk.id).Nodup:=(hP2.map Pk.id).nodup_iff.2 (ofF_nodup hes hk)
 have kp:∀c,c<U.next->U1.get c=U.get c:=λc hc=>hlg1.2 c hc λhm=>by have:=hB c hm;omega
 have nx:=hlg1.1
 have H3:D3 U1 b Q U0.next U.next w Sl 0:=by
  refine⟨⟨Q.L,?_,hhp,λz=>by simp⟩,(kp _ hqb).trans gb,by omega,H.ft,hw⟩
  have h1:QAt U1 b Q:=H.q.keep nx λc hc=>kp c (H.q.in_lt hc)
  have h2:dropV Q (Sl.take 0) Q.L=Q:=by simp [dropV]
  rw[h2];exact h1
 obtain⟨sa,rfl,hol⟩:∃sa,w=.slice sa Sl.length Sl.length/\∀U,opLen (cP Tryz.prog).T U 59 (.slice sa Sl.length Sl.length)=some (.val (.int .i64 (Sl.length:Nat)) []):=by
  rcases hw with⟨rfl,rfl⟩|⟨a,rfl,_⟩
  ·exact⟨_,rfl,λU=>by simp only[opLen,und168];rfl⟩
  ·exact⟨_,rfl,λU=>by simp only[opLen,und168]⟩
 refine⟨?_⟩
 simp only[go_sem,seval,undef,zerosN,e1,e2,e6,el,hol]
 refine loop_then (drop_loop3 (lo:=U.next) (w:=.slice sa Sl.length Sl.length) (f:=f) hF hSl hnd (λx hx=>hIn x (hP2.mem_iff.1 hx)) Sl.length _ _ ⟨_,0,rfl,⟨by simp only[List.length_set,el],by simp only[go_sem,seval,opLen,el,e1],by simp only[go_sem,seval,opLen,el,e2],by simp only[go_sem,seval,opLen,el],by simp only[go_sem,seval,opLen,el],by simp only[go_sem,seval,opLen,el],by simp only[go_sem,seval,opLen,el]⟩,by omega,H3⟩) ?_
 intro x fr' U2 lg2 hlg2 hB2 h
 obtain⟨rfl,ts2,rfl,F2,H2⟩:=h
 have f1:=F2.t1
 have f2:=F2.t2
 have f6:=F2.t6
 have fl:=F2.size
 obtain⟨L',HQ,HL⟩:=H2.q
 rw[List.take_length]at HQ HL
 have gq:=HQ.gq
 have gb2:=H2.gb
 obtain⟨ef,cf,gf,hkf,hlf,hlenf,hbf⟩:=HQ.mf
 have hF2:(dropV Q Sl L').F f=some xf:=hF
 obtain⟨jf,ef',hfindf,hevf,hjf,hkeyf⟩:=findV_some und2' (i:=0) (v:=ptrOf xf) hkf ((hlf f).trans (by show Option.map ptrOf ((dropV Q Sl L').F f)=_;rw[hF2];rfl))
 have hq:b.q<U2.next:=HQ.lt _ (by simp [QB.core])
 have hfm:b.fm<U2.next:=HQ.lt _ (by simp [QB.core])
 have hqb2:U0.next<U2.next:=by have:=H2.lt;omega
 have nf1:b.fm<U0.next:=H.ft _ (.inl (by simp [QB.core]))
 simp only[go_sem,seval,opLen,undef,zerosN,f1,f2,f6,fl,gb2,gq,gf,hq,hfm,hqb2,hfindf,hevf,und2']
 obtain⟨kd1,kd2⟩:=delV_KI hkf hjf hkeyf
 have kd3:=delV_length hjf
 have hfin:=HQ.dropF (U':=U2.set b.fm (.map (delE ef jf) cf)) hF2 (λc h1 h2=>by rw[St.get_set,if_neg (Ne.symm h2)]) (Nat.le_refl _) ⟨delE ef jf,cf,by rw[St.get_set,if_pos rfl],kd1,λk=>by
  rw[kd2,hlf]
  show(if k=f then none else Option.map ptrOf ((dropV Q Sl L').F k))=Option.map ptrOf (updF (dropV Q Sl L').F f none k)
  by_cases e:k=f
  ·subst e;rw[if_pos rfl,updF_same];rfl
  ·rw[if_neg e,updF_other _ _ e],by have:ef.length=(dropV Q Sl L').nf:=hlenf;omega,hbf.del⟩
 refine k _ _ _ (.slice sa Sl.length Sl.length) Sl L' (by simp only[go_sem,seval,opLen,fl,f6]) (by simp only[go_sem,seval,opLen,fl]) (by simp only[List.length_set,fl]) ⟨λz hz=>?_,?_,hfin,HL,λx=>(hP2.mem_iff).trans (ofF_mem hes hk hlk x),hnd,hO,hSl⟩
 ·simp only[List.mem_append,List.mem_cons,List.not_mem_nil,or_false]at hz
  rcases hz with hz|hz|hz
  ·have:=hB z hz;exact .inr (by omega)
  ·rcases hB2 z hz with h|h
   ·exact .inl h
   ·exact .inr h
  ·exact .inl (.inl (by simp [QB.core,hz]))
 ·rcases H2.w with h|⟨a,h1,h2,h3,h4⟩
  ·exact .inl h
  ·exact .inr ⟨a,h1,by rw[St.get_set,if_neg (by omega)];exact h2,by omega,h4⟩
theorem drop_call{U:St}{b:QB}{Q:QV}(H:QAt U b Q){f:Int}{xf:FlowV}{tn:Int->Int}(hF:Q.F f=some xf)(hnp:Q.np<256)(hpl:∀id p,Q.P id=some p->∃(n:Nat) (it:Item),Q.L[n]?=some it/\it.id=id)(htn:∀it∈Q.L,tn it.id=it.turn)(hhp:Hp Q.L):
  callN Tryz.prog 39 [.pointer (some ⟨b.q,0,none⟩),.int .i64 f] U (DropR U b Q f tn):=by
 have gq:=H.gq
 obtain⟨es,ck,gf,hki,hlk,hlen,hbr⟩:=H.mf
 obtain⟨ep,cp,gp,hkp,hlp,hlenp,hbp⟩:=H.mp
 have hq:b.q<U.next:=H.lt _ (by simp [QB.core])
 have hfm:b.fm<U.next:=H.lt _ (by simp [QB.core])
 have hpm:b.pm<U.next:=H.lt _ (by simp [QB.core])
 obtain⟨j,e,hfind,hev,_,_⟩:=findV_some und2' (i:=0) (v:=ptrOf xf) hki ((hlk f).trans (by show(Q.F f).map ptrOf=_;rw[hF];rfl))
 have gq1:(U.new (.cells [.pointer (some ⟨b.q,0,none⟩)] false)).get b.q=some (.cells [.pointer (some ⟨b.h,0,none⟩),.map (some b.fm),.map (some b.pm)] false):=by rw[St.get_new,if_neg (by omega)];exact gq
 refine callN.enter cP_ok Tryz.func39 rfl ?_
 show codeS Tryz.prog false dropBody _ _ _
 rw[dropBody_is]
 refine codeS.pre cP_ok mixed dropS0 (p:=q8) (λfr U Q=>wp (cP Tryz.prog) q8 (btAll 39) false (nthC 1 dropBody) fr U (thenW (λfr U Q=>wp (cP Tryz.prog) q8 (btAll 39) false (nthC 2 dropBody) fr U (thenW (λfr U Q=>wp (cP Tryz.prog) q8 (btAll 39) false (nthC 0 (nthC 3 dropBody)) fr U (thenW (codeS Tryz.prog false (.block 1 (.loop dropB1))) (thenW (codeS Tryz.prog false (dropC 4 dropBody)) Q))) Q)) Q)) ?_
  (λfr U Q h=>codeS.pre cP_ok mixed dropS1 (p:=q8) _ h λfr U Q h=>codeS.pre cP_ok mixed dropS2 (p:=q8) _ h λfr U Q h=>codeS.seq (codeS.seq (codeS.of_wp cP_ok mixed dropS3 h)))
 generalize hB1:codeS Tryz.prog false (.block 1 (.loop dropB1))=B1
 generalize hB2:codeS Tryz.prog false (dropC 4 dropBody)=B2
 simp only[go_sem,seval,opLen,undef,zerosN,dropBody,nthC,Tryz.f39,Option.getD]
 refine .of (qnone_call gq1) ?_
 simp only[go_sem,seval,opLen,undef,zerosN,ptrOf,opRange,gq,gf,gp,hq,hfm,hpm,hfind,hev,und2']
 subst hB1
 refine codeS.block (codeS.loop (drop_loop1 hbp (esOk_of hkp hlp) (by omega) (leftE [] ep).length _ [] (.slice none 0 0) [] _ _ (qb:=U.next) (itb:=U.next+1) (lo:=U.next+2) (b:=b) (f:=f) rfl ⟨rfl,rfl,rfl,rfl,rfl⟩ ⟨?_,?_,?_,?_,?_,?_,.inl ⟨rfl,rfl⟩,?_⟩ ?_))
 ·exact H.keep (by simp;omega) λc hc=>by
   have:=H.in_lt hc
   rw[St.get_new,if_neg (by simp;omega),St.get_new,if_neg (by omega)]
 ·rw[St.get_new,if_neg (by simp),St.get_new,if_pos rfl]
 ·rw[St.get_new,if_neg (by simp;omega),St.get_new,if_neg (by omega)];exact gp
 ·rw[St.get_new,if_pos (by simp)]
 ·simp
 ·exact λc hc=>H.in_lt hc
 ·have:leftE [] ep=ep:=by
   have:∀l:List MapEntry,leftE [] l=l:=λl=>by
    induction l with
    |nil=>rfl
    |cons x l ih=>show x :: leftE [] l=_;rw[ih]
   exact this ep
  rw[this]
  exact List.Perm.refl _
 intro ts' v' D' U' lg seen' F' H' hl' hlg' hn'
 simp only[go_sem,seval,opLen,AX.inBlock]
 subst hB2
 simp only[St.next_new]at hn'
 refine codeS.of_wp cP_ok mixed dropS4 (p:=q8) (drop_rest H' hl' F' hF (esOk_of hkp hlp) hkp hlp (by omega) hpl htn hhp ?_)
 intro ts2 U2 lg2 w Sl L' h4 h5 hl2 hD
 simp only[go_sem,seval,opLen,h4,h5,hl2]
 refine⟨w,Sl,L',rfl,{hD with lg:=λz hz=>?_}⟩
 simp only[List.mem_append]at hz
 rcases hz with hz|hz
 ·have:=hlg' z hz;exact .inr (by omega)
 ·exact hD.lg z hz
end Go.Ab
