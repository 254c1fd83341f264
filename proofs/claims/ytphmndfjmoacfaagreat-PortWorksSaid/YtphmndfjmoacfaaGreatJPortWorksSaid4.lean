/- PortWorksSaid: part 5 of 8 of the proof that it returns true for every input and leaves its arguments as they were; no condition. -/
import Derived.Test.YtphmndfjmoacfaaGreatJPortWorksSaid3
import Derived.Test.YtphmndfjmoacfaaGreatJPortWorksSaid2
import Derived.Sort.AssemblyPlain
set_option maxHeartbeats 6400000
set_option maxRecDepth 20000
set_option linter.unusedSimpArgs false
set_option linter.unusedVariables false
namespace Go.Ab
open Go.Proofs
noncomputable def cE:Cx:=withExt (cP Tryz.prog) extAt
theorem cE_ok:cE.Ok Tryz.prog:=withExt_ok cP_ok extAt_ok
theorem cE_und(t:TypeId):cE.T.und t=(cP Tryz.prog).T.und t:=withExt_und _ _ t
theorem cE_info(t:TypeId):cE.T.info t=(cP Tryz.prog).T.info t:=withExt_info _ _ t
theorem cE_flat(t:TypeId):cE.T.flat t=(cP Tryz.prog).T.flat t:=withExt_flat _ _ t
theorem cE_bodies(g:FuncId):cE.bodies g=(cP Tryz.prog).bodies g:=withExt_bodies _ _ g
theorem ext142is:extAt 182=some .add64:=by kernel_rfl
theorem cE_ext142:cE.T.ext 182=some .add64:=(withExt_ext _ _ 182).trans ext142is
theorem nobody142:(cP Tryz.prog).bodies 182=false:=by kernel_rfl
theorem plus_call(a b:Nat)(U:St)(h:a+b<18446744073709551616):DCall Tryz.prog 165 [.agg ⟨[.int .u64 0,.int .u64 a]⟩,.agg ⟨[.int .u64 0,.int .u64 b]⟩] U (.ret (.agg ⟨[.int .u64 0,.int .u64 ((a+b:Nat):Int)]⟩)) U []:=by
 have e6:((a+b:Nat):Int)=(a:Int)+b:=by omega
 have e7:((a:Int)+b) / 18446744073709551616=0:=by omega
 have e8:((a:Int)+b) % 18446744073709551616=(a:Int)+b:=by omega
 have a0:(0:Int)<=a:=by omega
 have b0:(0:Int)<=b:=by omega
 rw[e6]
 refine pure_call (callX.enter (p:=q8) (bt:=btAll 165) cE_ok mixed Tryz.func165 rfl stat165 ?_) rfl
 simp only[go_sem,seval,opLen,cE_und,cE_info,cE_flat,cE_bodies,cE_ext142,nobody142,extA,a0,b0,e7,e8,Int.add_zero,Int.zero_add,Int.zero_emod,Tryz.f165,Tryz.underlying4,info4,Tryz.t4,Tryz.underlying196,info196,Tryz.t196,Tryz.underlying245,info245,Tryz.t245,Tryz.underlying246,info246,Tryz.t246,Tryz.underlying254,info254,Tryz.t254]
theorem div64_call(lo y:Nat)(U:St)(h1:lo<18446744073709551616)(h2:0<y)(h3:y<18446744073709551616):DCall Tryz.prog 185 [.int .u64 0,.int .u64 lo,.int .u64 y] U (.ret (.tuple ⟨[.int .u64 ((lo / y:Nat):Int),.int .u64 ((lo % y:Nat):Int)]⟩)) U []:=by
 have e0:((y:Int)==0)=false:=by simp;omega
 have e1:¬(y:Int)<=0:=by omega
 have e2:¬(y:Int)=0:=by omega
 have t1:(lo:Int).tdiv y=((lo / y:Nat):Int):=by rw[Int.tdiv_eq_ediv_of_nonneg (by omega)];rfl
 have t2:(lo:Int).tmod y=((lo % y:Nat):Int):=by rw[Int.tmod_eq_emod_of_nonneg (by omega)];rfl
 have l1:lo / y<=lo:=Nat.div_le_self _ _
 have w1:IntKind.u64.wrap ((lo / y:Nat):Int)=((lo / y:Nat):Int):=wrapUN (by omega)
 have w2:IntKind.u64.wrap ((lo % y:Nat):Int)=((lo % y:Nat):Int):=wrapUN (by have:=Nat.mod_le lo y;omega)
 refine pure_call (enter (p:=q8) Tryz.func185 rfl stat185 ?_) rfl
 simp only[go_sem,seval,opLen,e0,e1,e2,t1,t2,w1,w2,Tryz.f185,Tryz.underlying4,info4,Tryz.t4,Tryz.underlying196,info196,Tryz.t196,Tryz.underlying245,info245,Tryz.t245,Tryz.underlying246,info246,Tryz.t246,Tryz.underlying254,info254,Tryz.t254,Tryz.underlying275,info275,Tryz.t275,Tryz.underlying281,info281,Tryz.t281]
theorem left_call(n y:Nat)(U:St)(h1:n<18446744073709551616)(h2:0<y)(h3:y<18446744073709551616):DCall Tryz.prog 167 [.agg ⟨[.int .u64 0,.int .u64 n]⟩,.int .u64 y] U (.ret (.int .u64 ((n % y:Nat):Int))) U []:=by
 have e0:¬(y:Int)=0:=by omega
 have z:Int.tmod 0 (y:Int)=0:=Int.zero_tmod _
 refine pure_call (enter (p:=q8) Tryz.func167 rfl stat167 ?_) rfl
 simp only[go_sem,seval,opLen,callW,q8,p8,p7,p6,p5,p4,p3,p2,p1,Tryz.f167,Tryz.underlying4,info4,Tryz.t4,Tryz.underlying196,info196,Tryz.t196,Tryz.underlying245,info245,Tryz.t245,Tryz.underlying246,info246,Tryz.t246,Tryz.underlying254,info254,Tryz.t254,body184]
 refine enter (p:=q8) Tryz.func184 rfl stat184 ?_
 simp only[go_sem,seval,opLen,callW,q8,p8,p7,p6,p5,p4,p3,p2,p1,e0,z,Tryz.f184,Tryz.underlying4,info4,Tryz.t4,Tryz.underlying196,info196,Tryz.t196,Tryz.underlying245,info245,Tryz.t245,Tryz.underlying246,info246,Tryz.t246,Tryz.underlying254,info254,Tryz.t254,body185]
 refine .of (div64_call _ _ _ h1 h2 h3) ?_
 simp only[go_sem,seval,opLen,Tryz.underlying4,info4,Tryz.t4,Tryz.underlying196,info196,Tryz.t196,Tryz.underlying245,info245,Tryz.t245,Tryz.underlying246,info246,Tryz.t246,Tryz.underlying254,info254,Tryz.t254]
theorem by_call(n y:Nat)(U:St)(h1:n<18446744073709551616)(h2:0<y)(h3:y<18446744073709551616):DCall Tryz.prog 168 [.agg ⟨[.int .u64 0,.int .u64 n]⟩,.int .u64 y] U (.ret (.tuple ⟨[.int .u64 ((n / y:Nat):Int),.int .u64 ((n % y:Nat):Int)]⟩)) U []:=by
 have e0:(0:Int)<y:=by omega
 refine pure_call (enter (p:=q8) Tryz.func168 rfl stat168 ?_) rfl
 simp only[go_sem,seval,opLen,callW,q8,p8,p7,p6,p5,p4,p3,p2,p1,e0,Tryz.f168,Tryz.underlying4,info4,Tryz.t4,Tryz.underlying196,info196,Tryz.t196,Tryz.underlying245,info245,Tryz.t245,Tryz.underlying246,info246,Tryz.t246,Tryz.underlying254,info254,Tryz.t254,body127,body185]
 refine .of (div64_call _ _ _ h1 h2 h3) ?_
 simp only[go_sem,seval,opLen,Tryz.underlying4,info4,Tryz.t4,Tryz.underlying196,info196,Tryz.t196,Tryz.underlying245,info245,Tryz.t245,Tryz.underlying246,info246,Tryz.t246,Tryz.underlying254,info254,Tryz.t254]
theorem wide_low{n:Nat}(h:n<18446744073709551616):wideV n=.agg ⟨[.int .u64 0,.int .u64 n]⟩:=by
 have e1:(n:Int) / 18446744073709551616=0:=by omega
 have e3:(n:Int) % 18446744073709551616=n:=by omega
 unfold wideV
 rw[e1,e3]
theorem added_walk(an ad bn bd G X Y H T Z:Nat)(U:St)(hT:(X+Y) / H=T)(hZ:ad / G*(bd / H)=Z)(hG:Nat.gcd ad bd=G)(hX:an*(bd / G)=X)(hY:bn*(ad / G)=Y)(hH:Nat.gcd G (X+Y)=H)(h1:an<9223372036854775808)(h2:0<ad)(h3:ad<9223372036854775808)(h4:bn<9223372036854775808)(h5:0<bd)(h6:bd<9223372036854775808)
  (h7:X+Y<9223372036854775808) (h8:Z<9223372036854775808) (h9:X+Y=0->Z=1):
  callX Tryz.prog 131 [.agg ⟨[.int .i64 an,.int .i64 ad]⟩,.agg ⟨[.int .i64 bn,.int .i64 bd]⟩] U (Ans U (.agg ⟨[.int .i64 T,.int .i64 Z]⟩)):=by
 have g0:0<G:=hG▸Nat.gcd_pos_of_pos_left _ h2
 have g1:G<=ad:=hG▸Nat.gcd_le_left _ h2
 have g2:¬(G:Int)=0:=by omega
 have k0:0<H:=hH▸Nat.gcd_pos_of_pos_left _ g0
 have k1:H<=G:=hH▸Nat.gcd_le_left _ g0
 have k2:¬(H:Int)=0:=by omega
 have f1:¬(an:Int)<0:=by omega
 have f2:¬(bn:Int)<0:=by omega
 have w1:an<18446744073709551616:=by omega
 have w2:bn<18446744073709551616:=by omega
 have w3:ad<18446744073709551616:=by omega
 have w4:bd<18446744073709551616:=by omega
 have d1:(bd:Int).tdiv G=((bd / G:Nat):Int):=by rw[Int.tdiv_eq_ediv_of_nonneg (by omega)];rfl
 have d2:(ad:Int).tdiv G=((ad / G:Nat):Int):=by rw[Int.tdiv_eq_ediv_of_nonneg (by omega)];rfl
 have l1:bd / G<=bd:=Nat.div_le_self _ _
 have l2:ad / G<=ad:=Nat.div_le_self _ _
 have w5:bd / G<18446744073709551616:=by omega
 have w6:ad / G<18446744073709551616:=by omega
 have oN:∀k:Nat,k<18446744073709551616->okU (k:Int)=true:=λk hk=>by simp [okU];omega
 have oI:∀k:Nat,k<9223372036854775808->okI (k:Int)=true:=λk hk=>by simp [okI];omega
 have u1:=oN _ w1
 have u2:=oN _ w2
 have u3:=oN _ w3
 have u4:=oN _ w4
 have u5:=oN _ w5
 have u6:=oN _ w6
 have i1:=oI _ h1
 have i2:=oI _ h4
 have c1:(Int.gcd (ad:Int) (bd:Int):Int)=(G:Int):=by rw[Int.gcd_natCast_natCast,hG]
 have n1:((an:Int).natAbs:Int)=an:=by omega
 have n2:((bn:Int).natAbs:Int)=bn:=by omega
 have x1:(an:Int)*((bd / G:Nat):Int)=(X:Int):=by rw[<-Int.natCast_mul,hX]
 have y1:(bn:Int)*((ad / G:Nat):Int)=(Y:Int):=by rw[<-Int.natCast_mul,hY]
 have vx:=wide_low (n:=X) (by omega)
 have vy:=wide_low (n:=Y) (by omega)
 refine Ans.of (enter (p:=q8) Tryz.func131 rfl stat131 ?_)
 simp only[go_sem,seval,opLen,callW,q8,p8,p7,p6,p5,p4,p3,p2,p1,Tryz.f131,vx,vy,n1,n2,c1,d1,d2,x1,y1,g2,f1,f2,w1,w2,w3,w4,w5,w6,u1,u2,u3,u4,u5,u6,i1,i2,Tryz.underlying2,info2,Tryz.t2,Tryz.underlying4,info4,Tryz.t4,Tryz.underlying38,info38,Tryz.t38,Tryz.underlying47,info47,Tryz.t47,Tryz.underlying196,info196,Tryz.t196,Tryz.underlying245,info245,Tryz.t245,Tryz.underlying246,info246,Tryz.t246,Tryz.underlying254,info254,Tryz.t254,body162,body129,body127,body159,body160,body163,body165,body166,body167,body168]
 have m1:(X+Y) % G<=X+Y:=Nat.mod_le _ _
 have u7:=oN _ (show(X+Y) % G<18446744073709551616 by omega)
 have u8:=oN _ (show G<18446744073709551616 by omega)
 have c2:(Int.gcd (G:Int) (((X+Y) % G:Nat):Int):Int)=(H:Int):=by
  rw[Int.gcd_natCast_natCast,<-hH,Nat.gcd_comm G,<-Nat.gcd_rec,Nat.gcd_comm]
 have d3:(bd:Int).tdiv H=((bd / H:Nat):Int):=by rw[Int.tdiv_eq_ediv_of_nonneg (by omega)];rfl
 have l3:bd / H<=bd:=Nat.div_le_self _ _
 have w7:bd / H<18446744073709551616:=by omega
 have u9:=oN _ w7
 have z1:((ad / G:Nat):Int)*((bd / H:Nat):Int)=(Z:Int):=by rw[<-Int.natCast_mul,hZ]
 have vz:=wide_low (n:=Z) (by omega)
 have l4:T<=X+Y:=hT▸Nat.div_le_self _ _
 refine .of (plus_call X Y _ (by omega)) ?_
 simp only[go_sem,seval,opLen,callW,q8,p8,p7,p6,p5,p4,p3,p2,p1,f1,f2,Tryz.underlying2,info2,Tryz.t2,Tryz.underlying4,info4,Tryz.t4,Tryz.underlying38,info38,Tryz.t38,Tryz.underlying47,info47,Tryz.t47,Tryz.underlying196,info196,Tryz.t196,Tryz.underlying245,info245,Tryz.t245,Tryz.underlying246,info246,Tryz.t246,Tryz.underlying254,info254,Tryz.t254,body162,body129,body127,body159,body160,body163,body165,body166,body167,body168]
 refine .of (left_call (X+Y) G _ (by omega) g0 (by omega)) ?_
 simp only[go_sem,seval,opLen,callW,q8,p8,p7,p6,p5,p4,p3,p2,p1,u7,u8,c2,Tryz.underlying2,info2,Tryz.t2,Tryz.underlying4,info4,Tryz.t4,Tryz.underlying38,info38,Tryz.t38,Tryz.underlying47,info47,Tryz.t47,Tryz.underlying196,info196,Tryz.t196,Tryz.underlying245,info245,Tryz.t245,Tryz.underlying246,info246,Tryz.t246,Tryz.underlying254,info254,Tryz.t254,body162,body129,body127,body159,body160,body163,body165,body166,body167,body168]
 refine .of (by_call (X+Y) H _ (by omega) k0 (by omega)) ?_
 simp only[go_sem,seval,opLen,callW,q8,p8,p7,p6,p5,p4,p3,p2,p1,d2,d3,g2,k2,w3,w4,w6,w7,u6,u9,z1,vz,Tryz.underlying2,info2,Tryz.t2,Tryz.underlying4,info4,Tryz.t4,Tryz.underlying38,info38,Tryz.t38,Tryz.underlying47,info47,Tryz.t47,Tryz.underlying196,info196,Tryz.t196,Tryz.underlying245,info245,Tryz.t245,Tryz.underlying246,info246,Tryz.t246,Tryz.underlying254,info254,Tryz.t254,body162,body129,body127,body159,body160,body163,body165,body166,body167,body168]
 have fl:=flat191
 by_cases hz:X+Y=0
 ·have hT0:T=0:=by rw[<-hT,hz,Nat.zero_div]
  simp only[go_sem,seval,opLen,callW,q8,p8,p7,p6,p5,p4,p3,p2,p1,eqCells,fl,hz,h9 hz,hT0,Nat.zero_div,Int.natCast_zero,Int.natCast_one,Tryz.underlying2,info2,Tryz.t2,Tryz.underlying4,info4,Tryz.t4,Tryz.underlying38,info38,Tryz.t38,Tryz.underlying47,info47,Tryz.t47,Tryz.underlying196,info196,Tryz.t196,Tryz.underlying245,info245,Tryz.t245,Tryz.underlying246,info246,Tryz.t246,Tryz.underlying254,info254,Tryz.t254,body162,body129,body127,body159,body160,body163,body165,body166,body167,body168]
 ·have ez:(((X+Y:Nat):Int)==0)=false:=by simp;omega
  simp only[go_sem,seval,opLen,callW,q8,p8,p7,p6,p5,p4,p3,p2,p1,eqCells,fl,ez,hT,Tryz.underlying2,info2,Tryz.t2,Tryz.underlying4,info4,Tryz.t4,Tryz.underlying38,info38,Tryz.t38,Tryz.underlying47,info47,Tryz.t47,Tryz.underlying196,info196,Tryz.t196,Tryz.underlying245,info245,Tryz.t245,Tryz.underlying246,info246,Tryz.t246,Tryz.underlying254,info254,Tryz.t254,body162,body129,body127,body159,body160,body163,body165,body166,body167,body168]
  refine .of (told_call _ _ false _ (by omega) (by omega) (by omega) (by omega)) ?_
  simp only[go_sem,seval,opLen,Tryz.underlying2,info2,Tryz.t2,Tryz.underlying4,info4,Tryz.t4,Tryz.underlying38,info38,Tryz.t38,Tryz.underlying47,info47,Tryz.t47,Tryz.underlying196,info196,Tryz.t196,Tryz.underlying245,info245,Tryz.t245,Tryz.underlying246,info246,Tryz.t246,Tryz.underlying254,info254,Tryz.t254]
def fracV(a r:Nat):Value:=.agg ⟨[.int .i64 (fN a r:Int),.int .i64 (fD a r:Int)]⟩
theorem okR_frac{a r:Nat}(hr:0<r)(ha:a<9223372036854775808)(hr2:r<9223372036854775808):okR (fN a r:Int) (fD a r:Int)=true:=by
 have h1:=fN_le a r
 have h2:=fD_le a r
 have h3:=fD_pos (a:=a) hr
 have h4:=f_coprime (a:=a) hr
 simp only[okR,okI,Bool.and_eq_true,decide_eq_true_eq,chk,Int.gcd_natCast_natCast]
 refine⟨⟨⟨?_,?_⟩,⟨?_,?_⟩⟩,?_,?_,h4⟩<;>omega
theorem added_call(a b r:Nat)(U:St)(hr:0<r)(hr2:r<9223372036854775808)(hab:a+b<9223372036854775808):
  callX Tryz.prog 131 [fracV a r,fracV b r] U (Ans U (fracV (a+b) r)):=by
 obtain⟨s1,s2⟩:=sum_is (a:=a) (b:=b) hr
 have b1:=fN_le a r
 have b2:=fN_le b r
 have b3:=fD_le a r
 have b4:=fD_le b r
 have b5:=fD_le (a+b) r
 have b6:=sX_le (a:=a) (b:=b) hr
 have b7:=sY_le (a:=a) (b:=b) hr
 have h9:sX a b r+sY a b r=0->fD a r / sG a b r*(fD b r / sH a b r)=1:=λh=>by
  rw[s2]
  rw[h,Nat.zero_div]at s1
  have h0:a+b=0:=by have:=fN_mul (a+b) r;rw[<-s1,Nat.zero_mul]at this;exact this.symm
  rw[h0]
  unfold fD
  rw[Nat.gcd_zero_left]
  exact Nat.div_self hr
 have:=added_walk (fN a r) (fD a r) (fN b r) (fD b r) (sG a b r) (sX a b r) (sY a b r) (sH a b r) _ _ U rfl rfl rfl rfl rfl rfl (by omega) (fD_pos hr) (by omega) (by omega) (fD_pos hr) (by omega) (by omega) (by rw[s2];omega) h9
 rw[s1,s2]at this
 exact this
theorem two1_call{p q s:Nat}{a b r:Nat}{U:St}(hp:p<U.next)(hq:q<U.next)(hs:s<U.next)(gp:U.get p=some (.cells [.int .i64 (fN a r:Int),.int .i64 (fD a r:Int)] false))(gq:U.get q=some (.cells [.int .i64 (fN b r:Int),.int .i64 (fD b r:Int)] false))
  (gs:U.get s=some (.cells [.func (.func 131) ⟨[]⟩ ⟨[]⟩] false)) (hr:0<r) (hr2:r<9223372036854775808) (hab:a+b<9223372036854775808):
  callX Tryz.prog 164 [.pointer (some ⟨p,0,none⟩),.pointer (some ⟨q,0,none⟩),.pointer (some ⟨s,0,none⟩)] U (Ans U (.agg ⟨[.int .i64 (fN (a+b) r:Int),.int .i64 (fD (a+b) r:Int)]⟩)):=by
 have k1:=okR_frac (a:=a) hr (by omega) hr2
 have k2:=okR_frac (a:=b) hr (by omega) hr2
 simp only[okR,Bool.and_eq_true,decide_eq_true_eq]at k1 k2
 have ha:=(added_call a b r · hr hr2 hab)
 simp only[fracV]at ha
 refine Ans.of (enter (p:=q8) Tryz.func164 rfl stat164 ?_)
 simp only[go_sem,seval,opLen,callW,q8,p8,p7,p6,p5,p4,p3,p2,p1,Tryz.f164,zerosN,gp,gq,gs,hp,hq,hs,Tryz.underlying2,info2,Tryz.t2,Tryz.underlying4,info4,Tryz.t4,Tryz.underlying208,info208,Tryz.t208,Tryz.underlying37,info37,Tryz.t37,Tryz.underlying38,info38,Tryz.t38,Tryz.underlying47,info47,Tryz.t47,Tryz.underlying196,info196,Tryz.t196,Tryz.underlying216,info216,Tryz.t216,body131,body158]
 refine .of (both_call _ _ _ _ _ _ (by simp only[go_sem,seval,opLen]) (by simp only[go_sem,seval,opLen]) k1.1.1 k1.1.2 k2.1.1 k2.1.2 k1.2 k2.2) ?_
 simp only[go_sem,seval,opLen,callW,q8,p8,p7,p6,p5,p4,p3,p2,p1,gp,gq,gs,hp,hq,hs,Tryz.underlying2,info2,Tryz.t2,Tryz.underlying4,info4,Tryz.t4,Tryz.underlying208,info208,Tryz.t208,Tryz.underlying38,info38,Tryz.t38,Tryz.underlying47,info47,Tryz.t47,Tryz.underlying196,info196,Tryz.t196,Tryz.underlying216,info216,Tryz.t216,body131,body158]
 refine callX.ret (ha _) ?_
 intro U' l hl ⟨h1,h2,h3⟩
 simp only[St.next_new]at h1 h2 h3
 have g0:=h3 U.next (by omega)
 simp only[go_sem,seval,opLen]at g0
 simp only[go_sem,seval,opLen,g0,Tryz.underlying2,info2,Tryz.t2,Tryz.underlying4,info4,Tryz.t4,Tryz.underlying208,info208,Tryz.t208,Tryz.underlying38,info38,Tryz.t38,Tryz.underlying47,info47,Tryz.t47,Tryz.underlying196,info196,Tryz.t196,Tryz.underlying216,info216,Tryz.t216]
 intro c hc
 rcases hc with hc|hc
 ·have:=h1 c hc;omega
 ·omega
theorem addF_call(a b r:Nat)(U:St)(hr:0<r)(hr2:r<9223372036854775808)(hab:a+b<9223372036854775808):
  DCall Tryz.prog 78 [.agg ⟨[.int .i64 (fN a r:Int),.int .i64 (fD a r:Int)]⟩,.agg ⟨[.int .i64 (fN b r:Int),.int .i64 (fD b r:Int)]⟩] U (.ret (.tuple ⟨[.agg ⟨[.int .i64 (fN (a+b) r:Int),.int .i64 (fD (a+b) r:Int)]⟩,.int .i64 0]⟩)) U []:=by
 refine pure_call (enter (p:=q8) Tryz.func78 rfl stat78 ?_) rfl
 simp only[go_sem,seval,opLen,callW,q8,p8,p7,p6,p5,p4,p3,p2,p1,Tryz.f78,Tryz.underlying2,info2,Tryz.t2,Tryz.underlying4,info4,Tryz.t4,Tryz.underlying208,info208,Tryz.t208,Tryz.underlying38,info38,Tryz.t38,Tryz.underlying47,info47,Tryz.t47,Tryz.underlying62,info62,Tryz.t62,Tryz.underlying196,info196,Tryz.t196,Tryz.underlying210,info210,Tryz.t210,Tryz.underlying216,info216,Tryz.t216,body130,body131]
 refine enter (p:=q8) Tryz.func130 rfl stat130 ?_
 simp only[go_sem,seval,opLen,callW,q8,p8,p7,p6,p5,p4,p3,p2,p1,Tryz.f130,Tryz.underlying2,info2,Tryz.t2,Tryz.underlying4,info4,Tryz.t4,Tryz.underlying208,info208,Tryz.t208,Tryz.underlying38,info38,Tryz.t38,Tryz.underlying47,info47,Tryz.t47,Tryz.underlying62,info62,Tryz.t62,Tryz.underlying196,info196,Tryz.t196,Tryz.underlying210,info210,Tryz.t210,Tryz.underlying214,info214,Tryz.t214,Tryz.underlying216,info216,Tryz.t216,body125,body164]
 refine .of (try_rat body164 (two1_call (a:=a) (b:=b) (r:=r) ?_ ?_ ?_ ?_ ?_ ?_ hr hr2 hab)) ?_
 ·simp only[go_sem,seval,opLen]
 ·simp only[go_sem,seval,opLen]
 ·simp only[go_sem,seval,opLen]
 ·simp only[go_sem,seval,opLen]
 ·simp only[go_sem,seval,opLen]
 ·simp only[go_sem,seval,opLen]
 ·simp only[go_sem,seval,opLen,Tryz.underlying2,info2,Tryz.t2,Tryz.underlying4,info4,Tryz.t4,Tryz.underlying208,info208,Tryz.t208,Tryz.underlying38,info38,Tryz.t38,Tryz.underlying47,info47,Tryz.t47,Tryz.underlying62,info62,Tryz.t62,Tryz.underlying196,info196,Tryz.t196,Tryz.underlying210,info210,Tryz.t210,Tryz.underlying214,info214,Tryz.t214,Tryz.underlying216,info216,Tryz.t216]
def Q0:QV:=⟨λ_=>none,0,λ_=>none,0,[],0⟩
theorem und2':(cP Tryz.prog).T.und 2=some (.int .i64):=(cx_und 2).trans Tryz.underlying2
theorem may_call(f r m:Int)(U:St)(h:(0<=f/\f<=2147483647)/\(1<=r/\r<=1000000)/\(0<=m/\m<=1000000000)):DCall Tryz.prog 73 [.int .i64 f,.int .i64 r,.int .i64 m] U (.ret (.bool true)) U []:=by
 obtain⟨⟨h1,h2⟩,⟨h3,h4⟩,h5,h6⟩:=h
 refine pure_call (enter (p:=q8) Tryz.func73 rfl stat73 ?_) rfl
 simp only[go_sem,seval,opLen,callW,q8,p8,p7,p6,p5,p4,p3,p2,p1,Tryz.f73,Tryz.underlying2,info2,Tryz.t2,Tryz.underlying4,info4,Tryz.t4,body74]
 refine .of (within_call _ _ _ _) ?_
 simp only[go_sem,seval,opLen,callW,q8,p8,p7,p6,p5,p4,p3,p2,p1,h1,h2,Tryz.underlying2,info2,Tryz.t2,Tryz.underlying4,info4,Tryz.t4,body74]
 refine .of (within_call _ _ _ _) ?_
 simp only[go_sem,seval,opLen,callW,q8,p8,p7,p6,p5,p4,p3,p2,p1,h3,h4,Tryz.underlying2,info2,Tryz.t2,Tryz.underlying4,info4,Tryz.t4,body74]
 refine .of (within_call _ _ _ _) ?_
 simp only[go_sem,seval,opLen,callW,q8,p8,p7,p6,p5,p4,p3,p2,p1,h5,h6,Tryz.underlying2,info2,Tryz.t2,Tryz.underlying4,info4,Tryz.t4,body74]
theorem qnone_call{U:St}{q fm pm h:Nat}(gq:U.get q=some (.cells [.pointer (some ⟨h,0,none⟩),.map (some fm),.map (some pm)] false)):DCall Tryz.prog 48 [.pointer (some ⟨q,0,none⟩)] U (.ret (.bool false)) U []:=by
 refine pure_call (enter (p:=q8) Tryz.func48 rfl stat48 ?_) rfl
 simp only[go_sem,seval,opLen,callW,q8,p8,p7,p6,p5,p4,p3,p2,p1,gq,Option.isNone_some,Tryz.f48,Tryz.underlying4,info4,Tryz.t4,Tryz.underlying91,info91,Tryz.t91,Tryz.underlying24,info24,Tryz.t24,Tryz.underlying93,info93,Tryz.t93,Tryz.underlying94,info94,Tryz.t94,Tryz.underlying95,info95,Tryz.t95,Tryz.underlying96,info96,Tryz.t96]
def AddR(U:St)(b:QB)(Q:QV)(flow rate room now:Int)(U':St)(l:Log):Prop:=
 (∀c∈l,c∈b.core\/U.next<=c)/\∃blk,U.next<=blk/\QAt U' b {Q with F:=updF Q.F flow (some ⟨blk,rate,room,0,now,1⟩),nf:=Q.nf+1}
theorem qadd_state {U : St} {b : QB} {Q : QV} (H : QAt U b Q) {flow rate room now : Int} {es : List MapEntry} {ck : Nat} (gf : U.get b.fm = some (.map es ck)) (hki : KI es) (hlk : ∀ k, lkV es k = (Q.F k).map ptrOf) (hlen : es.length = Q.nf) (hbr : Br es ck) (hF : Q.F flow = none) :
    AddR U b Q flow rate room now ((U.new (.cells [.int .i64 flow, .int .i64 rate, .int .i64 room, .int .i64 0, .int .i64 now, .int .i64 1] false)).set b.fm (.map (pushE es ⟨.int .i64 flow, .pointer (some ⟨U.next, 0, none⟩), ck⟩) (ck + 1))) [b.fm] := by
  have hfm : b.fm < U.next := H.lt _ (by simp [QB.core])
  have ne := H.ne
  have hno : lkV es flow = none := by rw [hlk, hF]; rfl
  refine ⟨fun c hc => .inl (by simp at hc; simp [QB.core, hc]), U.next, Nat.le_refl _, ?_⟩
  generalize hUs : (U.new (.cells [.int .i64 flow, .int .i64 rate, .int .i64 room, .int .i64 0, .int .i64 now, .int .i64 1] false)).set b.fm (.map (pushE es ⟨.int .i64 flow, .pointer (some ⟨U.next, 0, none⟩), ck⟩) (ck + 1)) = U'
  have nx : U'.next = U.next + 1 := by rw [← hUs]; rfl
  have g : ∀ c, c < U.next → c ≠ b.fm → U'.get c = U.get c := fun c h1 h2 => by rw [← hUs, St.get_set, if_neg (Ne.symm h2), St.get_new, if_neg (by omega)]
  have gn : U'.get U.next = some (.cells [.int .i64 flow, .int .i64 rate, .int .i64 room, .int .i64 0, .int .i64 now, .int .i64 1] false) := by rw [← hUs, St.get_set, if_neg (by omega), St.get_new, if_pos rfl]
  have gm : U'.get b.fm = some (.map (pushE es ⟨.int .i64 flow, .pointer (some ⟨U.next, 0, none⟩), ck⟩) (ck + 1)) := by rw [← hUs, St.get_set, if_pos rfl]
  have lt := H.lt
  exact { gq := (g _ (lt _ (by simp [QB.core])) ne.q_fm).trans H.gq
          hx := H.hx.keep (by omega) fun c hc => g c (H.hx.lt c hc) (by
            simp only [List.mem_cons] at hc
            rcases hc with rfl | rfl | hc
            · exact ne.fm_h.symm
            · exact ne.fm_m.symm
            · exact (ne.A c hc).2.1)
          mf := ⟨_, _, gm, pushV_KI hki hno, fun k => by
            rw [pushV_lk hki hno]
            show _ = (updF Q.F flow _ k).map ptrOf
            by_cases e : k = flow
            · subst e; rw [if_pos rfl, updF_same]; rfl
            · rw [if_neg e, updF_other _ _ e, hlk], by rw [pushV_length, hlen], hbr.push _ _⟩
          mp := H.mp.keep (g _ (lt _ (by simp [QB.core])) ne.fm_pm.symm)
          fl := fun k x hx => by
            have hx : updF Q.F flow _ k = some x := hx
            by_cases e : k = flow
            · subst e
              rw [updF_same] at hx
              cases hx
              exact ⟨gn, by show U.next < U'.next; omega, fun hm => by have := lt _ hm; exact absurd this (Nat.lt_irrefl _)⟩
            · rw [updF_other _ _ e] at hx
              obtain ⟨a1, a2, a3⟩ := H.fl k x hx
              exact ⟨(g _ a2 fun e' => a3 (by simp [QB.core, e'])).trans a1, by omega, a3⟩
          inj := fun k k' x x' hx hx' hb => by
            have h1 : updF Q.F flow _ k = some x := hx
            have h2 : updF Q.F flow _ k' = some x' := hx'
            clear hx hx'
            by_cases e : k = flow <;> by_cases e' : k' = flow
            · rw [e, e']
            · rw [e, updF_same] at h1
              rw [updF_other _ _ e'] at h2
              cases h1
              have := (H.fl k' x' h2).2.1
              have hb : U.next = x'.blk := hb
              omega
            · rw [e', updF_same] at h2
              rw [updF_other _ _ e] at h1
              cases h2
              have := (H.fl k x h1).2.1
              have hb : x.blk = U.next := hb
              omega
            · rw [updF_other _ _ e] at h1
              rw [updF_other _ _ e'] at h2
              exact H.inj k k' x x' h1 h2 hb
          nodup := H.nodup
          lt := fun c hc => by have := lt c hc; omega }
theorem qadd_call{U:St}{b:QB}{Q:QV}(H:QAt U b Q)(flow rate room now:Int)(h:(0<=flow/\flow<=2147483647)/\(1<=rate/\rate<=1000000)/\(0<=room/\room<=1000000000))(hnow:0<=now/\now<=2147483647)(hF:Q.F flow=none)(hn:Q.nf<32):
  callX Tryz.prog 32 [.pointer (some ⟨b.q,0,none⟩),.int .i64 flow,.int .i64 rate,.int .i64 room,.int .i64 now] U λe U' l=>e=.ret (.int .i64 0)/\AddR U b Q flow rate room now U' l:=by
 have gq:=H.gq
 obtain⟨es,ck,gf,hki,hlk,hlen,hbr⟩:=H.mf
 have hq:b.q<U.next:=H.lt _ (by simp [QB.core])
 have hfm:b.fm<U.next:=H.lt _ (by simp [QB.core])
 have hfind:=findV_none und2' (i:=0) hki ((hlk flow).trans (by show(Q.F flow).map ptrOf=none;rw[hF];rfl))
 have hn':¬(32:Int)<=es.length:=by omega
 refine enter (p:=q8) Tryz.func32 rfl stat32 ?_
 simp only[go_sem,seval,opLen,callW,q8,p8,p7,p6,p5,p4,p3,p2,p1,Tryz.f32,Tryz.underlying2,info2,Tryz.t2,Tryz.underlying3,info3,Tryz.t3,Tryz.underlying4,info4,Tryz.t4,Tryz.underlying38,info38,Tryz.t38,Tryz.underlying47,info47,Tryz.t47,Tryz.underlying24,info24,Tryz.t24,Tryz.underlying93,info93,Tryz.t93,Tryz.underlying96,info96,Tryz.t96,Tryz.underlying117,info117,Tryz.t117,body48,body73,body74,body75]
 refine enscope q8 32 (by kernel_rfl) ?_
 simp only[go_sem,seval,opLen,callW,q8,p8,p7,p6,p5,p4,p3,p2,p1,Tryz.underlying2,info2,Tryz.t2,Tryz.underlying3,info3,Tryz.t3,Tryz.underlying4,info4,Tryz.t4,Tryz.underlying38,info38,Tryz.t38,Tryz.underlying47,info47,Tryz.t47,Tryz.underlying24,info24,Tryz.t24,Tryz.underlying93,info93,Tryz.t93,Tryz.underlying96,info96,Tryz.t96,Tryz.underlying117,info117,Tryz.t117,body48,body73,body74,body75]
 refine .of (qnone_call gq) ?_
 simp only[go_sem,seval,opLen,callW,q8,p8,p7,p6,p5,p4,p3,p2,p1,Tryz.underlying2,info2,Tryz.t2,Tryz.underlying3,info3,Tryz.t3,Tryz.underlying4,info4,Tryz.t4,Tryz.underlying38,info38,Tryz.t38,Tryz.underlying47,info47,Tryz.t47,Tryz.underlying24,info24,Tryz.t24,Tryz.underlying93,info93,Tryz.t93,Tryz.underlying96,info96,Tryz.t96,Tryz.underlying117,info117,Tryz.t117,body48,body73,body74,body75]
 refine .of (may_call _ _ _ _ h) ?_
 simp only[go_sem,seval,opLen,callW,q8,p8,p7,p6,p5,p4,p3,p2,p1,Tryz.underlying2,info2,Tryz.t2,Tryz.underlying3,info3,Tryz.t3,Tryz.underlying4,info4,Tryz.t4,Tryz.underlying38,info38,Tryz.t38,Tryz.underlying47,info47,Tryz.t47,Tryz.underlying24,info24,Tryz.t24,Tryz.underlying93,info93,Tryz.t93,Tryz.underlying96,info96,Tryz.t96,Tryz.underlying117,info117,Tryz.t117,body48,body73,body74,body75]
 refine .of (within_call _ _ _ _) ?_
 simp only[go_sem,seval,opLen,callW,q8,p8,p7,p6,p5,p4,p3,p2,p1,hnow.1,hnow.2,gq,gf,hfind,hn',und2',Tryz.underlying2,info2,Tryz.t2,Tryz.underlying3,info3,Tryz.t3,Tryz.underlying4,info4,Tryz.t4,Tryz.underlying38,info38,Tryz.t38,Tryz.underlying47,info47,Tryz.t47,Tryz.underlying24,info24,Tryz.t24,Tryz.underlying93,info93,Tryz.t93,Tryz.underlying96,info96,Tryz.t96,Tryz.underlying117,info117,Tryz.t117,Tryz.underlying40,info40,Tryz.t40,body48,body73,body74,body75]
 refine .of (whole_call' _ _) ?_
 simp only[go_sem,seval,opLen,callW,q8,p8,p7,p6,p5,p4,p3,p2,p1,hnow.1,hnow.2,gq,gf,hq,hfm,hfind,hn',und2',Tryz.underlying2,info2,Tryz.t2,Tryz.underlying3,info3,Tryz.t3,Tryz.underlying4,info4,Tryz.t4,Tryz.underlying38,info38,Tryz.t38,Tryz.underlying47,info47,Tryz.t47,Tryz.underlying24,info24,Tryz.t24,Tryz.underlying93,info93,Tryz.t93,Tryz.underlying96,info96,Tryz.t96,Tryz.underlying117,info117,Tryz.t117,Tryz.underlying40,info40,Tryz.t40,body48,body73,body74,body75]
 exact qadd_state H gf hki hlk hlen hbr hF
def NewR(U:St)(U':St)(l:Log):Prop:=(∀c∈l,U.next<=c)/\QAt U' ⟨U.next+4,U.next+2,U.next+3,U.next+1,U.next,[]⟩ Q0
theorem qnew_call (U : St) : callX Tryz.prog 9 [] U fun e U' l => e = .ret (.pointer (some ⟨U.next + 4, 0, none⟩)) ∧ NewR U U' l := by
  refine enter (p := q8) Tryz.func9 rfl stat9 ?_
  simp only [go_sem, seval, opLen, callW, q8, p8, p7, p6, p5, p4, p3, p2, p1, Tryz.f9, Tryz.underlying2, info2, Tryz.t2, Tryz.underlying3, info3, Tryz.t3, Tryz.underlying4, info4, Tryz.t4, Tryz.underlying38, info38, Tryz.t38, Tryz.underlying47, info47, Tryz.t47, Tryz.underlying24, info24, Tryz.t24, Tryz.underlying93, info93, Tryz.t93, Tryz.underlying96, info96, Tryz.t96, Tryz.underlying117, info117, Tryz.t117, body35]
  refine .of (new_call U) ?_
  simp only [go_sem, seval, opLen, callW, q8, p8, p7, p6, p5, p4, p3, p2, p1, Tryz.f9, Tryz.underlying2, info2, Tryz.t2, Tryz.underlying3, info3, Tryz.t3, Tryz.underlying4, info4, Tryz.t4, Tryz.underlying38, info38, Tryz.t38, Tryz.underlying91, info91, Tryz.t91, Tryz.underlying47, info47, Tryz.t47, Tryz.underlying24, info24, Tryz.t24, Tryz.underlying93, info93, Tryz.t93, Tryz.underlying94, info94, Tryz.t94, Tryz.underlying95, info95, Tryz.t95, Tryz.underlying96, info96, Tryz.t96, Tryz.underlying117, info117, Tryz.t117, body35]
  refine ⟨fun c hc => by simp at hc, ?_⟩
  generalize hUs : (((((U.new (.map [] 0)).new (.cells [.map (some U.next), .slice none 0 0, .int .i64 0] false)).new (.map [] 0)).new (.map [] 0)).new (.cells [.pointer (some ⟨U.next + 1, 0, none⟩), .map (some (U.next + 2)), .map (some (U.next + 3))] false)) = U'
  have nx : U'.next = U.next + 5 := by rw [← hUs]; rfl
  have g0 : U'.get U.next = some (.map [] 0) := by rw [← hUs]; simp only [go_sem, seval, opLen]
  have g1 : U'.get (U.next + 1) = some (.cells [.map (some U.next), .slice none 0 0, .int .i64 0] false) := by rw [← hUs]; simp only [go_sem, seval, opLen]
  have g2 : U'.get (U.next + 2) = some (.map [] 0) := by rw [← hUs]; simp only [go_sem, seval, opLen]
  have g3 : U'.get (U.next + 3) = some (.map [] 0) := by rw [← hUs]; simp only [go_sem, seval, opLen]
  have g4 : U'.get (U.next + 4) = some (.cells [.pointer (some ⟨U.next + 1, 0, none⟩), .map (some (U.next + 2)), .map (some (U.next + 3))] false) := by rw [← hUs]; simp only [go_sem, seval, opLen]
  exact { gq := g4
          hx := .inl ⟨rfl, rfl, ⟨g1, ⟨0, g0⟩, by show U.next + 1 ≠ U.next; omega, by show U.next + 1 < U'.next ∧ U.next < U'.next; omega⟩⟩
          mf := ⟨[], 0, g2, KI.nil, fun k => rfl, rfl, Br.nil 0⟩
          mp := ⟨[], 0, g3, KI.nil, fun k => rfl, rfl, Br.nil 0⟩
          fl := fun k x hx => by cases hx
          inj := fun k k' x x' hx => by cases hx
          nodup := by simp only [QB.core, List.nodup_cons, List.mem_cons, List.not_mem_nil, or_false]; refine ⟨?_, ?_, ?_, ?_, ?_⟩ <;> first | omega | (refine ⟨?_, ?_⟩ <;> simp)
          lt := fun c hc => by simp only [QB.core, List.mem_cons, List.not_mem_nil, or_false] at hc; omega }
theorem HX.drop{U:St}{h m:Nat}{A:List Nat}{L:List Item}{t:Int}(H:HX U h m A L t){n:Nat}{x:Item}(hx:L[n]?=some x):
  callX Tryz.prog 89 [.pointer (some ⟨h,0,none⟩),.int .i64 x.id] U λe U' l=>e=.ret (.int .i64 0)/\((∀c∈l,c∈h :: m :: A)/\HX U' h m A (outL L n) t):=by
 rcases H with⟨rfl,rfl,H⟩|⟨a,cap,rfl,H⟩
 ·simp at hx
 ·obtain⟨U',d,b3⟩:=H.drop hx
  refine .of d ⟨rfl,λc hc=>?_,.inr ⟨a,cap,rfl,b3⟩⟩
  simp at hc ⊢;omega
theorem HX.get{U:St}{h m:Nat}{A:List Nat}{L:List Item}{t:Int}(H:HX U h m A L t){n:Nat}{x:Item}(hx:L[n]?=some x):
  DCall Tryz.prog 88 [.pointer (some ⟨h,0,none⟩),.int .i64 x.id] U (.ret (.tuple ⟨[.agg ⟨x.cells⟩,.bool true]⟩)) U []:=by
 rcases H with⟨rfl,_,H⟩|⟨a,cap,_,H⟩
 ·simp at hx
 ·exact H.get hx
theorem makeN_call(s r:Nat)(U:St)(hs:s<9223372036854775808)(hr:0<r)(hr2:r<9223372036854775808):
  DCall Tryz.prog 77 [.int .i64 (s:Int),.int .i64 (r:Int)] U (.ret (.tuple ⟨[.agg ⟨[.int .i64 (fN s r:Int),.int .i64 (fD s r:Int)]⟩,.int .i64 0]⟩)) U []:=by
 have:=make_call (s:Int) (r:Int) U (by omega) (by omega) (by omega) (by omega)
 rw[Int.gcd_natCast_natCast]at this
 exact this
theorem greater_frac{S R now:Nat}(hR:0<R):(if 0<cmpR (fN S R:Int) (fD S R:Int) (now:Int) 1 then Value.agg ⟨[.int .i64 (fN S R:Int),.int .i64 (fD S R:Int)]⟩ else Value.agg ⟨[.int .i64 (now:Int),.int .i64 1]⟩)=.agg ⟨[.int .i64 (fN (max (now*R) S) R:Int),.int .i64 (fD (max (now*R) S) R:Int)]⟩:=by
 have hc:=f_cross S R
 have hd:=fD_pos (a:=S) hR
 have key:0<cmpR (fN S R:Int) (fD S R:Int) (now:Int) 1↔now*R<S:=by
  unfold cmpR
  have e1:(fN S R:Int)*1=((fN S R:Nat):Int):=by omega
  have e2:(now:Int)*(fD S R:Int)=((now*fD S R:Nat):Int):=(Int.natCast_mul _ _).symm
  rw[e1,e2]
  have m1:now*fD S R<fN S R↔now*R<S:=by
   constructor
   ·intro h
    have h2:now*fD S R*R<fN S R*R:=Nat.mul_lt_mul_of_pos_right h hR
    rw[hc]at h2
    have h3:now*R*fD S R<S*fD S R:=by
     have:now*R*fD S R=now*fD S R*R:=by rw[Nat.mul_assoc,Nat.mul_comm R,<-Nat.mul_assoc]
     omega
    exact Nat.lt_of_mul_lt_mul_right h3
   ·intro h
    have h2:now*R*fD S R<S*fD S R:=Nat.mul_lt_mul_of_pos_right h hd
    rw[<-hc]at h2
    have h3:now*fD S R*R<fN S R*R:=by
     have:now*R*fD S R=now*fD S R*R:=by rw[Nat.mul_assoc,Nat.mul_comm R,<-Nat.mul_assoc]
     omega
    exact Nat.lt_of_mul_lt_mul_right h3
  rw[<-m1]
  split
  ·omega
  ·split<;>omega
 by_cases h:now*R<S
 ·rw[if_pos (key.2 h),Nat.max_eq_right (by omega)]
 ·rw[if_neg (λk=>h (key.1 k)),Nat.max_eq_left (by omega),(f_whole hR).1,(f_whole hR).2]
  rfl
def PutR(U:St)(b:QB)(Q:QV)(id flow size:Int)(x:FlowV)(n d:Int)(U':St)(l:Log):Prop:=
 (∀c∈l,Foot b Q c\/U.next<=c)/\∃A',(∀c∈A',c∈b.A\/U.next<=c)/\
  QAt U' {b with A:=A'} {Q with F:=updF Q.F flow (some {x with bytes:=x.bytes+size,n:=n,d:=d}),P:=updF Q.P id (some (flow,size)),np:=Q.np+1,L:=riseL (Q.L.length+1) (Q.L++[⟨id,n,d,Q.t+1⟩]) Q.L.length,t:=Q.t+1}
theorem qput_state {U U' : St} {b : QB} {Q : QV} (H : QAt U b Q) {id flow size n d : Int} {x : FlowV} {A' : List Nat} {l : Log} {ep : List MapEntry} {cp K : Nat} {v : AObj} (hF : Q.F flow = some x) (hK : 1 < K)
    (hkp : KI ep) (hlp : ∀ k, lkV ep k = (Q.P k).map (packOf k)) (hlen : ep.length = Q.np) (hbp : Br ep cp) (hP : Q.P id = none)
    (hx' : HX U' b.h b.m A' (riseL (Q.L.length + 1) (Q.L ++ [⟨id, n, d, Q.t + 1⟩]) Q.L.length) (Q.t + 1)) (hA : ∀ c ∈ A', c ∈ b.A ∨ U.next + K ≤ c) (hl : ∀ c ∈ l, Foot b Q c ∨ U.next ≤ c)
    (kc : ∀ c, c < U.next → ¬ x.blk = c → ¬ b.pm = c → c ∉ b.h :: b.m :: b.A → U'.get c = U.get c) (nx : U.next + K ≤ U'.next)
    (kx : U'.get x.blk = some (.cells [.int .i64 flow, .int .i64 x.rate, .int .i64 x.room, .int .i64 (x.bytes + size), .int .i64 n, .int .i64 d] false))
    (kpm : U'.get b.pm = some (.map (pushE ep ⟨.int .i64 id, .agg ⟨[.int .i64 id, .int .i64 flow, .int .i64 size]⟩, cp⟩) (cp + 1))) :
    PutR U b Q id flow size x n d (U'.set (U.next + 1) v) l := by
  have ne := H.ne
  have lt := H.lt
  obtain ⟨gx, hxl, hxc⟩ := H.fl flow x hF
  have hno : lkV ep id = none := by rw [hlp, hP]; rfl
  have sf : ∀ c, c ≠ U.next + 1 → (U'.set (U.next + 1) v).get c = U'.get c := fun c hc => by rw [St.get_set, if_neg (Ne.symm hc)]
  have core : ∀ c ∈ b.core, c < U.next := lt
  have lo : ∀ c, c < U.next → (U'.set (U.next + 1) v).get c = U'.get c := fun c hc => sf c (by omega)
  have inh : ∀ c ∈ b.h :: b.m :: b.A, c ∈ b.core := fun c hc => by simp only [QB.core, List.mem_cons] at hc ⊢; rcases hc with h | h | h <;> simp [h]
  have xq : ¬ x.blk = b.q := fun e => hxc (by simp [QB.core, e])
  have xf : ¬ x.blk = b.fm := fun e => hxc (by simp [QB.core, e])
  have nq : b.q ∉ b.h :: b.m :: b.A := fun hm => by
    simp only [List.mem_cons] at hm
    rcases hm with h | h | h
    · exact ne.q_h h
    · exact ne.q_m h
    · exact (ne.A _ h).1 rfl
  have nf : b.fm ∉ b.h :: b.m :: b.A := fun hm => by
    simp only [List.mem_cons] at hm
    rcases hm with h | h | h
    · exact ne.fm_h h
    · exact ne.fm_m h
    · exact (ne.A _ h).2.1 rfl
  refine ⟨hl, A', fun c hc => by rcases hA c hc with h | h; exact .inl h; exact .inr (by omega), ?_⟩
  have newcore : ∀ c, c ∈ ({ b with A := A' } : QB).core → c ∈ b.core ∨ U.next + K ≤ c := fun c hc => by
    simp only [QB.core, List.mem_cons] at hc ⊢
    rcases hc with h | h | h | h | h | h
    · simp [h]
    · simp [h]
    · simp [h]
    · simp [h]
    · simp [h]
    · rcases hA c h with h | h
      · simp [h]
      · exact .inr h
  exact { gq := (lo _ (lt _ (by simp [QB.core]))).trans ((kc _ (lt _ (by simp [QB.core])) xq ne.q_pm.symm nq).trans H.gq)
          hx := hx'.keep (Nat.le_refl _) fun c hc => sf c (by
            rcases newcore c (by simp only [QB.core, List.mem_cons] at hc ⊢; rcases hc with h | h | h <;> simp [h]) with h | h
            · have := lt c h; omega
            · omega)
          mf := by
            obtain ⟨es, ck, gf, a, f, g⟩ := H.mf
            refine ⟨es, ck, (lo _ (lt _ (by simp [QB.core]))).trans ((kc _ (lt _ (by simp [QB.core])) xf ne.fm_pm.symm nf).trans gf), a, fun k => ?_, g⟩
            rw [f]
            show (Q.F k).map ptrOf = (updF Q.F flow _ k).map ptrOf
            by_cases e : k = flow
            · subst e; rw [updF_same, hF]; rfl
            · rw [updF_other _ _ e]
          mp := ⟨_, _, (lo _ (lt _ (by simp [QB.core]))).trans kpm, pushV_KI hkp hno, fun k => by
            rw [pushV_lk hkp hno]
            show _ = (updF Q.P id _ k).map (packOf k)
            by_cases e : k = id
            · subst e; rw [if_pos rfl, updF_same]; rfl
            · rw [if_neg e, updF_other _ _ e, hlp], by rw [pushV_length, hlen], hbp.push _ _⟩
          fl := fun k y hy => by
            have h1 : updF Q.F flow _ k = some y := hy
            clear hy
            by_cases e : k = flow
            · subst e
              rw [updF_same] at h1
              cases h1
              refine ⟨(lo _ hxl).trans kx, by show x.blk < U'.next; omega, fun hm => ?_⟩
              rcases newcore _ hm with h | h
              · exact hxc h
              · have h : U.next + K ≤ x.blk := h
                omega
            · rw [updF_other _ _ e] at h1
              obtain ⟨a1, a2, a3⟩ := H.fl k y h1
              refine ⟨(lo _ a2).trans ((kc _ a2 (fun e' => e (H.inj _ _ _ _ h1 hF e'.symm)) (fun e' => a3 (by simp [QB.core, e'])) (fun hm => a3 (inh _ hm))).trans a1), by show y.blk < U'.next; omega, fun hm => ?_⟩
              rcases newcore _ hm with h | h
              · exact a3 h
              · omega
          inj := fun k k' y y' hy hy' hb => by
            have h1 : updF Q.F flow _ k = some y := hy
            have h2 : updF Q.F flow _ k' = some y' := hy'
            clear hy hy'
            by_cases e : k = flow <;> by_cases e' : k' = flow
            · rw [e, e']
            · rw [e, updF_same] at h1
              rw [updF_other _ _ e'] at h2
              cases h1
              rw [e]
              exact H.inj _ _ _ _ hF h2 hb
            · rw [e', updF_same] at h2
              rw [updF_other _ _ e] at h1
              cases h2
              rw [e']
              exact H.inj _ _ _ _ h1 hF hb
            · rw [updF_other _ _ e] at h1
              rw [updF_other _ _ e'] at h2
              exact H.inj k k' y y' h1 h2 hb
          nodup := ne.core (n := U.next) (fun c hc => by rcases hA c hc with h | h; exact .inl h; exact .inr (by omega)) lt hx'.nodup
          lt := fun c hc => by
            rcases newcore c hc with h | h
            · have := lt c h; show c < U'.next; omega
            · have h3 := hx'.lt
              simp only [QB.core, List.mem_cons] at hc
              rcases hc with h | h | h | h | h | h
              · have := lt b.q (by simp [QB.core]); show c < U'.next; omega
              · have := lt b.fm (by simp [QB.core]); show c < U'.next; omega
              · have := lt b.pm (by simp [QB.core]); show c < U'.next; omega
              · exact h3 c (by simp [h])
              · exact h3 c (by simp [h])
              · exact h3 c (by simp [h]) }
theorem keep_log{U U':St}{l:Log}{B:List Nat}(hl:Logged U U' l)(h:∀c∈l,c∈B\/U.next<=c):∀c,c<U.next->c∉B->U'.get c=U.get c:=λc hc hn=>
 hl.2 c hc λhm=>by
  rcases h c hm with h|h
  ·exact hn h
  ·omega
theorem qput_call{U:St}{b:QB}{Q:QV}(H:QAt U b Q)(id flow:Int)(size now S R:Nat){x:FlowV}(hF:Q.F flow=some x)(hP:Q.P id=none)(hid:0<=id/\id<=4611686018427387904)(hfl:0<=flow/\flow<=2147483647)(hsz:1<=size/\size<=2000)(hnow:now<=2147483647)
  (hx1:x.rate=R) (hx2:x.n=fN S R) (hx3:x.d=fD S R) (hR:1<=R/\R<=1000000) (hS:S<1000000000000000000) (hb:-100000000<=x.bytes/\x.bytes<=100000000) (hr:0<=x.room/\x.room<=1000000000) (hroom:x.bytes+size<=x.room) (hnp:Q.np<50000) (hnew:∀y∈Q.L,y.id≠id) (hL:Q.L.length<1000) (ht:0<=Q.t/\Q.t<1000000):
  callX Tryz.prog 33 [.pointer (some ⟨b.q,0,none⟩),.agg ⟨[.int .i64 id,.int .i64 flow,.int .i64 size]⟩,.int .i64 now] U λe U' l=>
   e=.ret (.tuple ⟨[.agg ⟨[.int .i64 (fN (max (now*R) S+size) R:Int),.int .i64 (fD (max (now*R) S+size) R:Int)]⟩,.int .i64 0]⟩)/\PutR U b Q id flow size x (fN (max (now*R) S+size) R) (fD (max (now*R) S+size) R) U' l:=by
 have gq:=H.gq
 obtain⟨es,ck,gf,hki,hlk,hlen,hbr⟩:=H.mf
 obtain⟨ep,cp,gp,hkp,hlp,hlenp,hbp⟩:=H.mp
 obtain⟨gx,hxl,hxc⟩:=H.fl flow x hF
 have hq:b.q<U.next:=H.lt _ (by simp [QB.core])
 have hfm:b.fm<U.next:=H.lt _ (by simp [QB.core])
 have hpm:b.pm<U.next:=H.lt _ (by simp [QB.core])
 obtain⟨j,e,hfind,hev,_,_⟩:=findV_some und2' (i:=0) (v:=ptrOf x) hki ((hlk flow).trans (by show(Q.F flow).map ptrOf=_;rw[hF];rfl))
 have hfindp:=findV_none und2' (i:=0) hkp ((hlp id).trans (by show(Q.P id).map (packOf id)=none;rw[hP];rfl))
 have hn':¬(50000:Int)<=ep.length:=by omega
 have hM:max (now*R) S+size<2000000000000000000:=by
  have:now*R<=2147483647*1000000:=Nat.mul_le_mul hnow hR.2
  omega
 obtain⟨M,hMe⟩:∃M,max (now*R) S=M:=⟨_,rfl⟩
 have hgr:=greater_frac (S:=S) (R:=R) (now:=now) (by omega)
 rw[hMe]at hM hgr ⊢
 rw[<-hx2,<-hx3]at hgr
 have s1:(1:Int)<=(size:Int):=by omega
 have s2:(size:Int)<=2000:=by omega
 have w1:IntKind.i64.wrap (x.room - x.bytes)=x.room - x.bytes:=wrapI (by omega) (by omega)
 have w2:IntKind.i64.wrap (x.bytes+size)=x.bytes+size:=wrapI (by omega) (by omega)
 have l1:¬x.room - x.bytes<size:=by omega
 have l2:(0:Int)<=now:=by omega
 have l3:(now:Int)<=2147483647:=by omega
 have k1:okR (now:Int) 1=true:=by simp [okR,okI,chk];omega
 have k2:okR x.n x.d=true:=by rw[hx2,hx3];exact okR_frac (by omega) (by omega) (by omega)
 simp only[FlowV.cells]at gx
 have ne:=H.ne
 have n1:¬x.blk=b.q:=λe'=>hxc (by simp [QB.core,e'])
 have n2:¬x.blk=b.pm:=λe'=>hxc (by simp [QB.core,e'])
 have n3:¬b.q=b.pm:=ne.q_pm
 have n4:¬b.pm=b.q:=ne.q_pm.symm
 have n5:¬b.q=x.blk:=λe'=>n1 e'.symm
 have n6:¬b.pm=x.blk:=λe'=>n2 e'.symm
 refine enter (p:=q8) Tryz.func33 rfl stat33 ?_
 simp only[go_sem,seval,opLen,callW,q8,p8,p7,p6,p5,p4,p3,p2,p1,Tryz.f33]
 refine .of (qnone_call (q:=b.q) (by simp only[go_sem,seval,opLen,hq,gq];rfl)) ?_
 simp only[go_sem,seval,opLen,callW,q8,p8,p7,p6,p5,p4,p3,p2,p1,ptrOf,gq,gf,gp,hq,hfm,hpm,hfind,hev,hfindp,und2']
 refine .of (within_call _ _ _ _) ?_
 simp only[go_sem,seval,opLen,callW,q8,p8,p7,p6,p5,p4,p3,p2,p1,hid.1,hid.2]
 refine .of (within_call _ _ _ _) ?_
 simp only[go_sem,seval,opLen,callW,q8,p8,p7,p6,p5,p4,p3,p2,p1,hfl.1,hfl.2]
 refine .of (within_call _ _ _ _) ?_
 simp only[go_sem,seval,opLen,callW,q8,p8,p7,p6,p5,p4,p3,p2,p1,s1,s2]
 refine .of (within_call _ _ _ _) ?_
 simp only[go_sem,seval,opLen,callW,q8,p8,p7,p6,p5,p4,p3,p2,p1,l2,l3,l1,w1,gx,hxl,gq,gp,hq,hpm,hn']
 refine .of (whole_call' _ _) ?_
 simp only[go_sem,seval,opLen,callW,q8,p8,p7,p6,p5,p4,p3,p2,p1,zerosN,gx,hxl]
 refine .of (greatest_call (by simp only[go_sem,seval,opLen]) (by simp only[go_sem,seval,opLen]) k1 k2) ?_
 simp only[go_sem,seval,opLen,callW,q8,p8,p7,p6,p5,p4,p3,p2,p1,hgr,gx,hxl,hx1]
 refine .of (makeN_call size R _ (by omega) (by omega) (by omega)) ?_
 simp only[go_sem,seval,opLen,callW,q8,p8,p7,p6,p5,p4,p3,p2,p1,gx,hxl]
 refine .of (addF_call M size R _ (by omega) (by omega) (by omega)) ?_
 simp only[go_sem,seval,opLen,callW,q8,p8,p7,p6,p5,p4,p3,p2,p1,gx,hxl,w2,gq,gp,hq,hpm,hfindp,und2',n1,n2,n3,n4,n5,n6]
 have hx:=H.hx
 have hA:=H.hx.lt
 refine callX.ret (HX.put (hx.keep ?_ ?_) id _ _ hid.1 hid.2 (okR_frac (by omega) (by omega) (by omega)) ht.1 ht.2 hnew hL) ?_
 ·simp only[go_sem,seval,opLen]
 ·intro c hc
  have hlt:=hA c hc
  have m1:¬x.blk=c:=λe'=>hxc (by rw[e'];simp only[QB.core,List.mem_cons]at hc ⊢;rcases hc with h|h|h<;>simp [h])
  have m2:¬b.pm=c:=λe'=>by
   simp only[List.mem_cons]at hc
   rcases hc with h|h|h
   ·exact ne.pm_h (e'.trans h)
   ·exact ne.pm_m (e'.trans h)
   ·exact(ne.A c h).2.2.1 e'.symm
  simp only[go_sem,seval,opLen,hlt,m1,m2]
 intro U' l hl ⟨hlg,A',hA',hx'⟩
 have nx:=hl.1
 have kp:=keep_log hl hlg
 have hA2:∀c∈A',c∈b.A\/U.next+7<=c:=λc hc=>by
  have:=hA' c hc
  simp only[go_sem,seval,opLen]at this
  exact this
 have hl2:∀c∈l,c∈b.h :: b.m :: b.A\/U.next+7<=c:=λc hc=>by
  rcases hlg c hc with h|h
  ·exact .inl h
  ·simp only[go_sem,seval,opLen]at h
   exact .inr h
 have k6:=kp (U.next+6) (by simp only[go_sem,seval,opLen]) λhm=>by have:=hA _ hm;omega
 have k1:=kp (U.next+1) (by simp only[go_sem,seval,opLen]) λhm=>by have:=hA _ hm;omega
 have kx:=kp x.blk (by simp only[go_sem,seval,opLen,hxl]) λhm=>hxc (by simp only[QB.core,List.mem_cons]at hm ⊢;rcases hm with h|h|h<;>simp [h])
 have kpm:=kp b.pm (by simp only[go_sem,seval,opLen,hpm]) λhm=>by
  simp only[List.mem_cons]at hm
  rcases hm with h|h|h
  ·exact ne.pm_h h
  ·exact ne.pm_m h
  ·exact(ne.A _ h).2.2.1 rfl
 have kc:∀c,c<U.next->¬x.blk=c->¬b.pm=c->c∉b.h :: b.m :: b.A->U'.get c=U.get c:=λc c1 c2 c3 c4=>by
  have:=kp c (by simp only[go_sem,seval,opLen,c1]) c4
  simp only[go_sem,seval,opLen,c1,c2,c3]at this
  exact this
 simp only[go_sem,seval,opLen,hxl,hpm,n1,n2,n3,n4,n5,n6]at nx k6 k1 kx kpm
 clear kp hl hlg hA'
 simp only[go_sem,seval,opLen,k6,k1,Nat.add_eq]
 refine qput_state H (K:=7) hF (by omega) hkp hlp hlenp hbp hP hx' hA2 (λc hc=>?_) kc nx kx kpm
 simp only[List.mem_cons,List.mem_append,List.not_mem_nil,or_false]at hc
 have fx:Foot b Q x.blk:=.inr ⟨flow,x,hF,rfl⟩
 rcases hc with h|h|h|h|h|h|h|h|h
 ·exact .inr (by omega)
 ·exact .inr (by omega)
 ·exact .inr (by omega)
 ·exact .inr (by omega)
 ·exact .inl (h▸fx)
 ·exact .inl (h▸fx)
 ·exact .inl (.inl (by simp [QB.core,h]))
 ·rcases hl2 c h with h|h
  ·exact .inl (.inl (by simp only[QB.core,List.mem_cons]at h ⊢;rcases h with h|h|h<;>simp [h]))
  ·exact .inr (by omega)
 ·exact .inr (by omega)
theorem qlen_call{U:St}{b:QB}{Q:QV}(H:QAt U b Q):DCall Tryz.prog 25 [.pointer (some ⟨b.q,0,none⟩)] U (.ret (.int .i64 Q.L.length)) U []:=by
 have gq:=H.gq
 refine pure_call (enter (p:=q8) Tryz.func25 rfl stat25 ?_) rfl
 simp only[go_sem,seval,opLen,callW,q8,p8,p7,p6,p5,p4,p3,p2,p1,Tryz.f25]
 refine .of (qnone_call gq) ?_
 simp only[go_sem,seval,opLen,callW,q8,p8,p7,p6,p5,p4,p3,p2,p1,gq]
 refine .of (len_hv H.hx.toV) ?_
 simp only[go_sem,seval,opLen]
theorem QAt.change {U U' : St} {b : QB} {Q : QV} (H : QAt U b Q) {flow : Int} {x x' : FlowV} {A' : List Nat} {P' : Int → Option (Int × Int)} {np' : Nat} {L' : List Item} {t' : Int} (hF : Q.F flow = some x) (hblk : x'.blk = x.blk)
    (hx' : HX U' b.h b.m A' L' t') (hA : ∀ c ∈ A', c ∈ b.A ∨ U.next ≤ c)
    (kc : ∀ c, c < U.next → ¬ x.blk = c → ¬ b.pm = c → c ∉ b.h :: b.m :: b.A → U'.get c = U.get c) (nx : U.next ≤ U'.next)
    (kx : U'.get x.blk = some (.cells (x'.cells flow) false)) (mp' : MapAt U' b.pm (fun k => (P' k).map (packOf k)) np') :
    QAt U' { b with A := A' } { Q with F := updF Q.F flow (some x'), P := P', np := np', L := L', t := t' } := by
  have ne := H.ne
  have lt := H.lt
  obtain ⟨gx, hxl, hxc⟩ := H.fl flow x hF
  have inh : ∀ c ∈ b.h :: b.m :: b.A, c ∈ b.core := fun c hc => by simp only [QB.core, List.mem_cons] at hc ⊢; rcases hc with h | h | h <;> simp [h]
  have xq : ¬ x.blk = b.q := fun e => hxc (by simp [QB.core, e])
  have xf : ¬ x.blk = b.fm := fun e => hxc (by simp [QB.core, e])
  have nq : b.q ∉ b.h :: b.m :: b.A := fun hm => by
    simp only [List.mem_cons] at hm
    rcases hm with h | h | h
    · exact ne.q_h h
    · exact ne.q_m h
    · exact (ne.A _ h).1 rfl
  have nf : b.fm ∉ b.h :: b.m :: b.A := fun hm => by
    simp only [List.mem_cons] at hm
    rcases hm with h | h | h
    · exact ne.fm_h h
    · exact ne.fm_m h
    · exact (ne.A _ h).2.1 rfl
  have newcore : ∀ c, c ∈ ({ b with A := A' } : QB).core → c ∈ b.core ∨ U.next ≤ c := fun c hc => by
    simp only [QB.core, List.mem_cons] at hc ⊢
    rcases hc with h | h | h | h | h | h
    · simp [h]
    · simp [h]
    · simp [h]
    · simp [h]
    · simp [h]
    · rcases hA c h with h | h
      · simp [h]
      · exact .inr h
  exact { gq := (kc _ (lt _ (by simp [QB.core])) xq ne.q_pm.symm nq).trans H.gq
          hx := hx'
          mf := by
            obtain ⟨es, ck, gf, a, f, g⟩ := H.mf
            refine ⟨es, ck, (kc _ (lt _ (by simp [QB.core])) xf ne.fm_pm.symm nf).trans gf, a, fun k => ?_, g⟩
            rw [f]
            show (Q.F k).map ptrOf = (updF Q.F flow _ k).map ptrOf
            by_cases e : k = flow
            · subst e; rw [updF_same, hF]; simp only [Option.map, ptrOf, hblk]
            · rw [updF_other _ _ e]
          mp := mp'
          fl := fun k y hy => by
            have h1 : updF Q.F flow _ k = some y := hy
            clear hy
            by_cases e : k = flow
            · subst e
              rw [updF_same] at h1
              cases h1
              rw [hblk]
              refine ⟨kx, by omega, fun hm => ?_⟩
              rcases newcore _ hm with h | h
              · exact hxc h
              · omega
            · rw [updF_other _ _ e] at h1
              obtain ⟨a1, a2, a3⟩ := H.fl k y h1
              refine ⟨(kc _ a2 (fun e' => e (H.inj _ _ _ _ h1 hF e'.symm)) (fun e' => a3 (by simp [QB.core, e'])) (fun hm => a3 (inh _ hm))).trans a1, by omega, fun hm => ?_⟩
              rcases newcore _ hm with h | h
              · exact a3 h
              · omega
          inj := fun k k' y y' hy hy' hb => by
            have h1 : updF Q.F flow _ k = some y := hy
            have h2 : updF Q.F flow _ k' = some y' := hy'
            clear hy hy'
            by_cases e : k = flow <;> by_cases e' : k' = flow
            · rw [e, e']
            · rw [e, updF_same] at h1
              rw [updF_other _ _ e'] at h2
              cases h1
              rw [e]
              exact H.inj _ _ _ _ hF h2 (hblk.symm.trans hb)
            · rw [e', updF_same] at h2
              rw [updF_other _ _ e] at h1
              cases h2
              rw [e']
              exact H.inj _ _ _ _ h1 hF (hb.trans hblk)
            · rw [updF_other _ _ e] at h1
              rw [updF_other _ _ e'] at h2
              exact H.inj k k' y y' h1 h2 hb
          nodup := ne.core (n := U.next) hA lt hx'.nodup
          lt := fun c hc => by
            have h3 := hx'.lt
            simp only [QB.core, List.mem_cons] at hc
            rcases hc with h | h | h | h | h | h
            · have := lt b.q (by simp [QB.core]); omega
            · have := lt b.fm (by simp [QB.core]); omega
            · have := lt b.pm (by simp [QB.core]); omega
            · exact h3 c (by simp [h])
            · exact h3 c (by simp [h])
            · exact h3 c (by simp [h]) }
def TakeR(U:St)(b:QB)(Q:QV)(id flow size:Int)(x:FlowV)(U':St)(l:Log):Prop:=
 (∀c∈l,Foot b Q c\/U.next<=c)/\QAt U' b {Q with F:=updF Q.F flow (some {x with bytes:=x.bytes - size}),P:=updF Q.P id none,np:=Q.np - 1,L:=outL Q.L 0}
theorem qtake_call{U:St}{b:QB}{Q:QV}(H:QAt U b Q){y:Item}(hy:Q.L[0]?=some y){flow size:Int}(hP:Q.P y.id=some (flow,size)){x:FlowV}(hF:Q.F flow=some x)(hsz:0<=size/\size<=2000)(hb:-100000000<=x.bytes/\x.bytes<=100000000):
  callX Tryz.prog 34 [.pointer (some ⟨b.q,0,none⟩)] U λe U' l=>
   e=.ret (.tuple ⟨[.agg ⟨[.int .i64 y.id,.int .i64 flow,.int .i64 size]⟩,.agg ⟨[.int .i64 y.n,.int .i64 y.d]⟩,.bool true]⟩)/\TakeR U b Q y.id flow size x U' l:=by
 have gq:=H.gq
 obtain⟨es,ck,gf,hki,hlk,hlen,hbr⟩:=H.mf
 obtain⟨ep,cp,gp,hkp,hlp,hlenp,hbp⟩:=H.mp
 obtain⟨gx,hxl,hxc⟩:=H.fl flow x hF
 have hq:b.q<U.next:=H.lt _ (by simp [QB.core])
 have hfm:b.fm<U.next:=H.lt _ (by simp [QB.core])
 have hpm:b.pm<U.next:=H.lt _ (by simp [QB.core])
 obtain⟨j,e,hfind,hev,_,_⟩:=findV_some und2' (i:=0) (v:=ptrOf x) hki ((hlk flow).trans (by show(Q.F flow).map ptrOf=_;rw[hF];rfl))
 obtain⟨jp,ep',hfindp,hevp,hjp,hkeyp⟩:=findV_some und2' (i:=0) (v:=packOf y.id (flow,size)) hkp ((hlp y.id).trans (by show(Q.P y.id).map (packOf y.id)=_;rw[hP];rfl))
 have w2:IntKind.i64.wrap (x.bytes - size)=x.bytes - size:=wrapI (by omega) (by omega)
 have l0:((Q.L.length:Int)==0)=false:=by
  have:=(List.getElem?_eq_some_iff.1 hy).1
  rw[beq_eq_false_iff_ne];omega
 have ne:=H.ne
 have hx:=H.hx
 have hA:=H.hx.lt
 have n1:¬x.blk=b.q:=λe'=>hxc (by simp [QB.core,e'])
 have n2:¬x.blk=b.pm:=λe'=>hxc (by simp [QB.core,e'])
 have n3:¬b.q=b.pm:=ne.q_pm
 have n4:¬b.pm=b.q:=ne.q_pm.symm
 have n5:¬b.q=x.blk:=λe'=>n1 e'.symm
 have n6:¬b.pm=x.blk:=λe'=>n2 e'.symm
 have n7:¬b.pm=b.fm:=ne.fm_pm.symm
 have n8:¬x.blk=b.fm:=λe'=>hxc (by simp [QB.core,e'])
 simp only[FlowV.cells]at gx
 have inh:∀c∈b.h :: b.m :: b.A,c∈b.core:=λc hc=>by simp only[QB.core,List.mem_cons]at hc ⊢;rcases hc with h|h|h<;>simp [h]
 have nq:b.q∉b.h :: b.m :: b.A:=λhm=>by
  simp only[List.mem_cons]at hm
  rcases hm with h|h|h
  ·exact ne.q_h h
  ·exact ne.q_m h
  ·exact(ne.A _ h).1 rfl
 have nf:b.fm∉b.h :: b.m :: b.A:=λhm=>by
  simp only[List.mem_cons]at hm
  rcases hm with h|h|h
  ·exact ne.fm_h h
  ·exact ne.fm_m h
  ·exact(ne.A _ h).2.1 rfl
 have np:b.pm∉b.h :: b.m :: b.A:=λhm=>by
  simp only[List.mem_cons]at hm
  rcases hm with h|h|h
  ·exact ne.pm_h h
  ·exact ne.pm_m h
  ·exact(ne.A _ h).2.2.1 rfl
 refine enter (p:=q8) Tryz.func34 rfl stat34 ?_
 simp only[go_sem,seval,opLen,callW,q8,p8,p7,p6,p5,p4,p3,p2,p1,Tryz.f34]
 refine .of (qnone_call (q:=b.q) (by simp only[go_sem,seval,opLen,hq,gq];rfl)) ?_
 simp only[go_sem,seval,opLen,callW,q8,p8,p7,p6,p5,p4,p3,p2,p1]
 refine .of (qlen_call (H.keep ?_ ?_)) ?_
 ·simp only[go_sem,seval,opLen]
 ·intro c hc
  have:c<U.next:=by
   rcases hc with hc|⟨k,z,hz,rfl⟩
   ·exact H.lt c hc
   ·exact(H.fl k z hz).2.1
  simp only[go_sem,seval,opLen,this]
 simp only[go_sem,seval,opLen,callW,q8,p8,p7,p6,p5,p4,p3,p2,p1,l0,gq,hq]
 refine callX.ret (HX.take (hx.keep ?_ ?_) hy) ?_
 ·simp only[go_sem,seval,opLen]
 ·intro c hc
  have:=hA c hc
  simp only[go_sem,seval,opLen,this]
 intro U' l hl ⟨hlg,hx'⟩
 have nx:=hl.1
 have kp:=keep_log hl hlg
 have hl2:∀c∈l,c∈b.h :: b.m :: b.A\/U.next+2<=c:=λc hc=>by
  rcases hlg c hc with h|h
  ·exact .inl h
  ·simp only[go_sem,seval,opLen]at h
   exact .inr h
 have k0:=kp U.next (by simp only[go_sem,seval,opLen]) λhm=>by have:=hA _ hm;omega
 have k1:=kp (U.next+1) (by simp only[go_sem,seval,opLen]) λhm=>by have:=hA _ hm;omega
 have kc:∀c,c<U.next->c∉b.h :: b.m :: b.A->U'.get c=U.get c:=λc c1 c4=>by
  have:=kp c (by simp only[go_sem,seval,opLen,c1]) c4
  simp only[go_sem,seval,opLen,c1]at this
  exact this
 have gq':=(kc b.q hq nq).trans gq
 have gf':=(kc b.fm hfm nf).trans gf
 have gp':=(kc b.pm hpm np).trans gp
 have gx':=(kc x.blk hxl λhm=>hxc (inh _ hm)).trans gx
 simp only[go_sem,seval,opLen]at nx k0 k1
 clear kp hl hlg
 have hq':b.q<U'.next:=by omega
 have hfm':b.fm<U'.next:=by omega
 have hpm':b.pm<U'.next:=by omega
 have hxl':x.blk<U'.next:=by omega
 have h0':U.next<U'.next:=by omega
 have h1':U.next+1<U'.next:=by omega
 simp only[go_sem,seval,opLen,callW,q8,p8,p7,p6,p5,p4,p3,p2,p1,packOf,ptrOf,k0,k1,gq',gf',gp',gx',hq',hfm',hpm',hxl',h0',h1',hfind,hev,hfindp,hevp,und2',w2,n1,n2,n3,n4,n5,n6,n7,n8,hq,hfm,hpm,hxl]
 obtain⟨kd1,kd2⟩:=delV_KI hkp hjp hkeyp
 have kd3:=delV_length hjp
 have fx:Foot b Q x.blk:=.inr ⟨flow,x,hF,rfl⟩
 refine⟨λc hc=>?_,H.change (x':={x with bytes:=x.bytes - size}) (A':=b.A) hF rfl ?_ (λc hc=>.inl hc) ?_ ?_ ?_ ?_⟩
 ·simp only[List.mem_cons,List.mem_append,List.not_mem_nil,or_false]at hc
  rcases hc with(h|h)|h|h|h|h|h
  ·rcases hl2 c h with h|h
   ·exact .inl (.inl (inh c h))
   ·exact .inr (by omega)
  ·exact .inr (by omega)
  ·exact .inr (by omega)
  ·exact .inl (.inl (by simp [QB.core,h]))
  ·exact .inl (h▸fx)
  ·exact .inr (by omega)
  ·exact .inr (by omega)
 ·refine hx'.keep (by simp only[go_sem,seval,opLen]) λc hc=>?_
  have c1:=hA c hc
  have c2:c<U'.next:=by omega
  have c3:¬b.pm=c:=λe'=>np (e'▸hc)
  have c4:¬x.blk=c:=λe'=>hxc (e'▸inh c hc)
  simp only[go_sem,seval,opLen,c1,c2,c3,c4]
 ·intro c c1 c2 c3 c4
  have c5:c<U'.next:=by omega
  simp only[go_sem,seval,opLen,c1,c2,c3,c5]
  exact kc c c1 c4
 ·simp only[go_sem,seval,opLen];omega
 ·simp only[go_sem,seval,opLen,FlowV.cells,hxl,hxl',n1,n2]
 ·refine⟨delE ep jp,cp,by simp only[go_sem,seval,opLen,hpm,hpm',n2],kd1,λk=>?_,by omega,hbp.del⟩
  rw[kd2]
  show _=(updF Q.P y.id none k).map (packOf k)
  by_cases e':k=y.id
  ·subst e';rw[if_pos rfl,updF_same];rfl
  ·rw[if_neg e',updF_other _ _ e',hlp]
theorem qtake_empty{U:St}{b:QB}{Q:QV}(H:QAt U b Q)(hL:Q.L=[]):
  callX Tryz.prog 34 [.pointer (some ⟨b.q,0,none⟩)] U λe U' l=>e=.ret (.tuple ⟨[.agg ⟨[.int .i64 0,.int .i64 0,.int .i64 0]⟩,.agg ⟨[.int .i64 0,.int .i64 0]⟩,.bool false]⟩)/\∀c∈l,U.next<=c:=by
 have gq:=H.gq
 have hq:b.q<U.next:=H.lt _ (by simp [QB.core])
 refine enter (p:=q8) Tryz.func34 rfl stat34 ?_
 simp only[go_sem,seval,opLen,callW,q8,p8,p7,p6,p5,p4,p3,p2,p1,Tryz.f34]
 refine .of (qnone_call (q:=b.q) (by simp only[go_sem,seval,opLen,hq,gq];rfl)) ?_
 simp only[go_sem,seval,opLen,callW,q8,p8,p7,p6,p5,p4,p3,p2,p1]
 refine .of (qlen_call (H.keep ?_ ?_)) ?_
 ·simp only[go_sem,seval,opLen]
 ·intro c hc
  have:c<U.next:=by
   rcases hc with hc|⟨k,z,hz,rfl⟩
   ·exact H.lt c hc
   ·exact(H.fl k z hz).2.1
  simp only[go_sem,seval,opLen,this]
 have l0:((([]:List Item).length:Int)==0)=true:=rfl
 rw[hL]
 simp only[go_sem,seval,opLen,callW,q8,p8,p7,p6,p5,p4,p3,p2,p1,zerosN,l0,undef]
theorem known33_call(U:St):DCall Tryz.prog 16 [] U (.ret (.bool true)) U []:=whole_call (n:=300) (d:=30) (by kernel_rfl) rfl rfl U
attribute [go_sem] callW q0 lget_put lgetq_put List.length_set Tryz.underlying2 info2 Tryz.t2 Tryz.underlying3 info3 Tryz.t3 Tryz.underlying4 info4 Tryz.t4 Tryz.underlying5 info5 Tryz.t5 Tryz.underlying9 info9 Tryz.t9 Tryz.underlying38 info38 Tryz.t38 Tryz.underlying37 info37 Tryz.t37 Tryz.underlying158 info158 Tryz.t158 Tryz.underlying33 info33 Tryz.t33 Tryz.underlying59 info59 Tryz.t59 Tryz.underlying189 info189 Tryz.t189 Tryz.underlying217 info217 Tryz.t217 Tryz.underlying196 info196 Tryz.t196 Tryz.underlying224 info224 Tryz.t224 Tryz.underlying239 info239 Tryz.t239 Tryz.underlying275 info275 Tryz.t275 Tryz.underlying286 info286 Tryz.t286 Tryz.underlying287 info287 Tryz.t287 Tryz.underlying300 info300 Tryz.t300 Tryz.underlying304 info304 Tryz.t304 Tryz.underlying313 info313 Tryz.t313 Tryz.underlying314 info314 Tryz.t314
structure Nums where
 f:Nat->Nat
 e:Nat
 s:Nat
 y:Nat->Nat
def famB(g:Nat):Bool:=[172,190,199,200,201,202,203,204,205,206,220,223,224,236].any (Nat.beq g)
def Nums.fn(N:Nums)(g:Nat):Nat:=bif famB g then N.f g else g
def Nums.ty(N:Nums)(t:Nat):Nat:=bif Nat.beq t 33 then N.e else bif Nat.beq t 59 then N.s else t
section
variable (N:Nums)
def rX:Operand->Operand
 |.func g=>.func (N.fn g)
 |x=>x
def rCall:Call->Call
 |⟨.value x,xs,ts⟩=>⟨.value (rX N x),xs,⟨ts.toList.map N.y⟩⟩
 |⟨.builtin b,xs,ts⟩=>⟨.builtin b,xs,⟨ts.toList.map N.ty⟩⟩
 |c=>c
def rP:Op->Op
 |.load t x=>.load (N.ty t) x
 |.store t x y=>.store (N.ty t) x y
 |.indexAddr t x y=>.indexAddr (N.ty t) x y
 |.call c=>.call (rCall N c)
 |x=>x
def rL:List Oper->List Oper
 |[]=>[]
 |⟨d,o,t,ps,a,g⟩ :: r=>⟨d,rP N o,N.y t,ps,a,g⟩ :: rL r
def rn:Code->Code
 |.region i ops d=>.region i ⟨rL N ops.toList⟩ d
 |.seq a b=>.seq (rn a) (rn b)
 |.cond c a b=>.cond c (rn a) (rn b)
 |.block i b=>.block i (rn b)
 |.loop b=>.loop (rn b)
 |.scope b=>.scope (rn b)
 |c=>c
end
structure FnOk(N:Nums)(g:Nat):Prop where
 get:∃h b c,Tryz.prog.funcs[N.f g]?=some h/\Tryz.prog.funcs[g]?=some b/\b.body=some c/\h.body=some (rn N c)/\h.ntmps=b.ntmps/\h.results=b.results/\statAll (btAll (N.f g)) (rn N c)=true
 body:(cP Tryz.prog).bodies (N.f g)=true
 bt:∀r,(r==1000000)=false->btAll (N.f g) r=btAll g r
class SE (E:Type) extends Inhabited E where
 nums:Nums
 cells:E->List Value
 w:Nat
 inf:TypeInfo
 flds:Array Field
 len:∀x,(cells x).length=w
 one:∀x,oneCells (cells x)=true
 hI:Tryz.prog.info? nums.e=some inf
 hU:Tryz.prog.underlying nums.e=some (.struct flds)
 hS:Tryz.prog.underlying nums.s=some (.slice nums.e)
 hw:inf.size=w
 ok:∀g,famB g=true->FnOk nums g
section
variable (E:Type) [SE E]
def fE(g:Nat):Nat:=(SE.nums E).f g
def tE:Nat:=(SE.nums E).e
def sE:Nat:=(SE.nums E).s
def rE(c:Code):Code:=rn (SE.nums E) c
def LE(l:List Oper):List Oper:=rL (SE.nums E) l
def pE(o:Op):Op:=rP (SE.nums E) o
def yE(t:Nat):Nat:=(SE.nums E).y t
def wE:Nat:=SE.w E
theorem infoE:Tryz.prog.info? (tE E)=some (SE.inf E):=SE.hI
theorem undE:Tryz.prog.underlying (tE E)=some (.struct (SE.flds E)):=SE.hU
theorem undS:Tryz.prog.underlying (sE E)=some (.slice (tE E)):=SE.hS
theorem sizeE:(SE.inf E).size=wE E:=SE.hw
variable {E}
theorem lenE(x:E):(SE.cells x).length=wE E:=SE.len x
theorem oneE(x:E):oneCells (SE.cells x)=true:=SE.one x
theorem bodyE172:(cP Tryz.prog).bodies (fE E 172)=true:=(SE.ok (E:=E) 172 rfl).body
theorem bodyE190:(cP Tryz.prog).bodies (fE E 190)=true:=(SE.ok (E:=E) 190 rfl).body
theorem bodyE199:(cP Tryz.prog).bodies (fE E 199)=true:=(SE.ok (E:=E) 199 rfl).body
theorem bodyE200:(cP Tryz.prog).bodies (fE E 200)=true:=(SE.ok (E:=E) 200 rfl).body
theorem bodyE201:(cP Tryz.prog).bodies (fE E 201)=true:=(SE.ok (E:=E) 201 rfl).body
theorem bodyE202:(cP Tryz.prog).bodies (fE E 202)=true:=(SE.ok (E:=E) 202 rfl).body
theorem bodyE203:(cP Tryz.prog).bodies (fE E 203)=true:=(SE.ok (E:=E) 203 rfl).body
theorem bodyE204:(cP Tryz.prog).bodies (fE E 204)=true:=(SE.ok (E:=E) 204 rfl).body
theorem bodyE205:(cP Tryz.prog).bodies (fE E 205)=true:=(SE.ok (E:=E) 205 rfl).body
theorem bodyE206:(cP Tryz.prog).bodies (fE E 206)=true:=(SE.ok (E:=E) 206 rfl).body
theorem bodyE220:(cP Tryz.prog).bodies (fE E 220)=true:=(SE.ok (E:=E) 220 rfl).body
theorem bodyE223:(cP Tryz.prog).bodies (fE E 223)=true:=(SE.ok (E:=E) 223 rfl).body
theorem bodyE224:(cP Tryz.prog).bodies (fE E 224)=true:=(SE.ok (E:=E) 224 rfl).body
theorem bodyE236:(cP Tryz.prog).bodies (fE E 236)=true:=(SE.ok (E:=E) 236 rfl).body
theorem btE172{r:Nat}(h:(r==1000000)=false):btAll (fE E 172) r=btAll 172 r:=(SE.ok (E:=E) 172 rfl).bt r h
theorem btE190{r:Nat}(h:(r==1000000)=false):btAll (fE E 190) r=btAll 190 r:=(SE.ok (E:=E) 190 rfl).bt r h
theorem btE199{r:Nat}(h:(r==1000000)=false):btAll (fE E 199) r=btAll 199 r:=(SE.ok (E:=E) 199 rfl).bt r h
theorem btE200{r:Nat}(h:(r==1000000)=false):btAll (fE E 200) r=btAll 200 r:=(SE.ok (E:=E) 200 rfl).bt r h
theorem btE201{r:Nat}(h:(r==1000000)=false):btAll (fE E 201) r=btAll 201 r:=(SE.ok (E:=E) 201 rfl).bt r h
theorem btE202{r:Nat}(h:(r==1000000)=false):btAll (fE E 202) r=btAll 202 r:=(SE.ok (E:=E) 202 rfl).bt r h
theorem btE203{r:Nat}(h:(r==1000000)=false):btAll (fE E 203) r=btAll 203 r:=(SE.ok (E:=E) 203 rfl).bt r h
theorem btE204{r:Nat}(h:(r==1000000)=false):btAll (fE E 204) r=btAll 204 r:=(SE.ok (E:=E) 204 rfl).bt r h
theorem btE205{r:Nat}(h:(r==1000000)=false):btAll (fE E 205) r=btAll 205 r:=(SE.ok (E:=E) 205 rfl).bt r h
theorem btE206{r:Nat}(h:(r==1000000)=false):btAll (fE E 206) r=btAll 206 r:=(SE.ok (E:=E) 206 rfl).bt r h
theorem btE220{r:Nat}(h:(r==1000000)=false):btAll (fE E 220) r=btAll 220 r:=(SE.ok (E:=E) 220 rfl).bt r h
theorem btE223{r:Nat}(h:(r==1000000)=false):btAll (fE E 223) r=btAll 223 r:=(SE.ok (E:=E) 223 rfl).bt r h
theorem btE224{r:Nat}(h:(r==1000000)=false):btAll (fE E 224) r=btAll 224 r:=(SE.ok (E:=E) 224 rfl).bt r h
theorem btE236{r:Nat}(h:(r==1000000)=false):btAll (fE E 236) r=btAll 236 r:=(SE.ok (E:=E) 236 rfl).bt r h
end
section eqs
variable {P:Program} {E:Type} [SE E] {C:Cx} {p:PureTab P} {bt:Nat->List Nat} {rnd:Bool} {fr:Fr} {U:St} {Q:RR->Prop} {x y z:Operand} {t u:Nat}
theorem pE_loadE:pE E (.load 33 x)=.load (tE E) x:=(rfl)
theorem pE_storeE:pE E (.store 33 x y)=.store (tE E) x y:=(rfl)
theorem pE_index:pE E (.indexAddr 59 x y)=.indexAddr (sE E) x y:=(rfl)
theorem pE_load3:pE E (.load 3 x)=.load 3 x:=(rfl)
theorem pE_store3:pE E (.store 3 x y)=.store 3 x y:=(rfl)
theorem pE_load300:pE E (.load 300 x)=.load 300 x:=(rfl)
theorem pE_store300:pE E (.store 300 x y)=.store 300 x y:=(rfl)
theorem pE_call172{xs:Array Operand}{ts:List Nat}:pE E (.call ⟨.value (.func 172),xs,⟨ts⟩⟩)=.call ⟨.value (.func (fE E 172)),xs,⟨ts.map (yE E)⟩⟩:=(rfl)
theorem pE_call190{xs:Array Operand}{ts:List Nat}:pE E (.call ⟨.value (.func 190),xs,⟨ts⟩⟩)=.call ⟨.value (.func (fE E 190)),xs,⟨ts.map (yE E)⟩⟩:=(rfl)
theorem pE_call199{xs:Array Operand}{ts:List Nat}:pE E (.call ⟨.value (.func 199),xs,⟨ts⟩⟩)=.call ⟨.value (.func (fE E 199)),xs,⟨ts.map (yE E)⟩⟩:=(rfl)
theorem pE_call200{xs:Array Operand}{ts:List Nat}:pE E (.call ⟨.value (.func 200),xs,⟨ts⟩⟩)=.call ⟨.value (.func (fE E 200)),xs,⟨ts.map (yE E)⟩⟩:=(rfl)
theorem pE_call201{xs:Array Operand}{ts:List Nat}:pE E (.call ⟨.value (.func 201),xs,⟨ts⟩⟩)=.call ⟨.value (.func (fE E 201)),xs,⟨ts.map (yE E)⟩⟩:=(rfl)
theorem pE_call202{xs:Array Operand}{ts:List Nat}:pE E (.call ⟨.value (.func 202),xs,⟨ts⟩⟩)=.call ⟨.value (.func (fE E 202)),xs,⟨ts.map (yE E)⟩⟩:=(rfl)
theorem pE_call203{xs:Array Operand}{ts:List Nat}:pE E (.call ⟨.value (.func 203),xs,⟨ts⟩⟩)=.call ⟨.value (.func (fE E 203)),xs,⟨ts.map (yE E)⟩⟩:=(rfl)
theorem pE_call204{xs:Array Operand}{ts:List Nat}:pE E (.call ⟨.value (.func 204),xs,⟨ts⟩⟩)=.call ⟨.value (.func (fE E 204)),xs,⟨ts.map (yE E)⟩⟩:=(rfl)
theorem pE_call205{xs:Array Operand}{ts:List Nat}:pE E (.call ⟨.value (.func 205),xs,⟨ts⟩⟩)=.call ⟨.value (.func (fE E 205)),xs,⟨ts.map (yE E)⟩⟩:=(rfl)
theorem pE_call206{xs:Array Operand}{ts:List Nat}:pE E (.call ⟨.value (.func 206),xs,⟨ts⟩⟩)=.call ⟨.value (.func (fE E 206)),xs,⟨ts.map (yE E)⟩⟩:=(rfl)
theorem pE_call220{xs:Array Operand}{ts:List Nat}:pE E (.call ⟨.value (.func 220),xs,⟨ts⟩⟩)=.call ⟨.value (.func (fE E 220)),xs,⟨ts.map (yE E)⟩⟩:=(rfl)
theorem pE_call223{xs:Array Operand}{ts:List Nat}:pE E (.call ⟨.value (.func 223),xs,⟨ts⟩⟩)=.call ⟨.value (.func (fE E 223)),xs,⟨ts.map (yE E)⟩⟩:=(rfl)
theorem pE_call224{xs:Array Operand}{ts:List Nat}:pE E (.call ⟨.value (.func 224),xs,⟨ts⟩⟩)=.call ⟨.value (.func (fE E 224)),xs,⟨ts.map (yE E)⟩⟩:=(rfl)
theorem pE_call236{xs:Array Operand}{ts:List Nat}:pE E (.call ⟨.value (.func 236),xs,⟨ts⟩⟩)=.call ⟨.value (.func (fE E 236)),xs,⟨ts.map (yE E)⟩⟩:=(rfl)
theorem pE_call191{xs:Array Operand}{ts:List Nat}:pE E (.call ⟨.value (.func 191),xs,⟨ts⟩⟩)=.call ⟨.value (.func 191),xs,⟨ts.map (yE E)⟩⟩:=(rfl)
theorem pE_call221{xs:Array Operand}{ts:List Nat}:pE E (.call ⟨.value (.func 221),xs,⟨ts⟩⟩)=.call ⟨.value (.func 221),xs,⟨ts.map (yE E)⟩⟩:=(rfl)
theorem pE_call222{xs:Array Operand}{ts:List Nat}:pE E (.call ⟨.value (.func 222),xs,⟨ts⟩⟩)=.call ⟨.value (.func 222),xs,⟨ts.map (yE E)⟩⟩:=(rfl)
theorem pE_callT{xs:Array Operand}{ts:List Nat}{k:Nat}:pE E (.call ⟨.value (.tmp k),xs,⟨ts⟩⟩)=.call ⟨.value (.tmp k),xs,⟨ts.map (yE E)⟩⟩:=(rfl)
theorem pE_len{xs:Array Operand}:pE E (.call ⟨.builtin .len,xs,⟨[59]⟩⟩)=.call ⟨.builtin .len,xs,⟨[sE E]⟩⟩:=(rfl)
theorem pE_move:pE E (.move x)=.move x:=(rfl)
theorem pE_assign:pE E (.assign x)=.assign x:=(rfl)
theorem pE_pick:pE E (.pick x y z)=.pick x y z:=(rfl)
theorem pE_alloc:pE E (.alloc t)=.alloc t:=(rfl)
theorem pE_binOp{b:BinOp}:pE E (.binOp b t x y u)=.binOp b t x y u:=(rfl)
theorem pE_unOp{b:UnOp}:pE E (.unOp b t x)=.unOp b t x:=(rfl)
theorem pE_convert:pE E (.convert t u x)=.convert t u x:=(rfl)
theorem pE_extract:pE E (.extract x t)=.extract x t:=(rfl)
theorem pE_box:pE E (.box t x)=.box t x:=(rfl)
theorem pE_nilCheck:pE E (.nilCheck x)=.nilCheck x:=(rfl)
def opsE(E:Type)[SE E](C:Cx)(p:PureTab P)(rnd:Bool)(ops:List Oper)(Q:RR->Prop)(l:List Oper)(fr:Fr)(U:St)(lg:Log):Prop:=wOps C p rnd (LE E ops) Q (LE E l) fr U lg
def drawE(E:Type)[SE E](C:Cx)(p:PureTab P)(ops:List Oper)(K:DK)(l:List Oper)(k:Nat)(ts:List Value)(U:St)(lg:Log)(acc:Loud):Prop:=wDrawn C p (LE E ops) K (LE E l) k ts U lg acc
theorem rL_get(N:Nums):∀(l:List Oper) (j:Nat),((rL N l)[j]?).map Oper.dst=(l[j]?).map Oper.dst
 |[],j=>rfl
 |⟨d,o,t,ps,a,g⟩ :: r,0=>rfl
 |⟨d,o,t,ps,a,g⟩ :: r,j+1=>by
  simp only[rL,List.getElem?_cons_succ]
  exact rL_get N r j
theorem yielded_rL(N:Nums)(l:List Oper)(ts:List Value)(j:Nat):yieldedA (rL N l) ts j=yieldedA l ts j:=by
 have h:=rL_get N l j
 unfold yieldedA
 cases h1:(rL N l)[j]? with
 |none=>cases h2:l[j]? with
  |none=>rfl
  |some o=>rw[h1,h2]at h;cases h
 |some o'=>cases h2:l[j]? with
  |none=>rw[h1,h2]at h;cases h
  |some o=>
   rw[h1,h2]at h
   have e:o'.dst=o.dst:=Option.some.inj h
   simp only[e]
theorem wanted_rL(N:Nums)(l:List Oper)(o o':Oper)(hg:o'.guard=o.guard)(ts:List Value):wantedA (rL N l) o' ts=wantedA l o ts:=by
 unfold wantedA
 rw[hg]
 cases o.guard with
 |none=>rfl
 |some jw=>obtain⟨j,w⟩:=jw;simp only[yielded_rL]
theorem opsE_nil{ops:List Oper}{lg:Log}:opsE E C p rnd ops Q [] fr U lg=Q ⟨.norm,fr,U,lg⟩:=(rfl)
theorem opsE_cons{ops r:List Oper}{d:Option Tmp}{o:Op}{ps:String}{a:Array Edge}{g:Option (Nat×Bool)}{lg:Log}:
  opsE E C p rnd ops Q (⟨d,o,t,ps,a,g⟩ :: r) fr U lg=opsW p rnd d fr U lg (opsE E C p rnd ops Q r) Q (wantK C.T C.bodies ⟨d,pE E o,yE E t,ps,a,g⟩ fr.ts U (wantedA ops ⟨d,o,t,ps,a,g⟩ fr.ts)):=by
 rw[<-wanted_rL (SE.nums E) ops ⟨d,o,t,ps,a,g⟩ ⟨d,pE E o,yE E t,ps,a,g⟩ rfl]
 rfl
theorem drawE_nil{ops:List Oper}{K:DK}{kn:Nat}{ts:List Value}{lg:Log}{acc:Loud}:drawE E C p ops K [] kn ts U lg acc=K ts U lg acc:=(rfl)
theorem drawE_cons{ops r:List Oper}{d:Option Tmp}{o:Op}{ps:String}{a:Array Edge}{g:Option (Nat×Bool)}{K:DK}{kn:Nat}{ts:List Value}{lg:Log}{acc:Loud}:
  drawE E C p ops K (⟨d,o,t,ps,a,g⟩ :: r) kn ts U lg acc=drawnW p kn d ts U acc lg (drawE E C p ops K r (kn+1)) (wantK C.T C.bodies ⟨d,pE E o,yE E t,ps,a,g⟩ ts U (wantedA ops ⟨d,o,t,ps,a,g⟩ ts)):=by
 rw[<-wanted_rL (SE.nums E) ops ⟨d,o,t,ps,a,g⟩ ⟨d,pE E o,yE E t,ps,a,g⟩ rfl]
 rfl
theorem rE_ops{id:Nat}{ops:List Oper}:wp C p bt rnd (rE E (.region id ⟨ops⟩ false)) fr U Q=opsE E C p rnd ops Q ops fr U []:=(rfl)
theorem rE_drawn{id:Nat}{ops:List Oper}:wp C p bt rnd (rE E (.region id ⟨ops⟩ true)) fr U Q=drawE E C p ops (λts U' lg acc=>dynL (bt id) acc=true/\Q ⟨.norm,{fr with ts:=ts},U',lg⟩) ops 0 fr.ts U [] []:=(rfl)
theorem rE_skip:wp C p bt rnd (rE E .skip) fr U Q=Q ⟨.norm,fr,U,[]⟩:=(rfl)
theorem rE_exit{i:Nat}:wp C p bt rnd (rE E (.exit i)) fr U Q=Q ⟨.exit i,fr,U,[]⟩:=(rfl)
theorem rE_ret:wp C p bt rnd (rE E .ret) fr U Q=Q ⟨.ret,fr,U,[]⟩:=(rfl)
theorem rE_seq{a b:Code}:wp C p bt rnd (rE E (.seq a b)) fr U Q=wp C p bt rnd (rE E a) fr U (thenW (wp C p bt rnd (rE E b)) Q):=(rfl)
theorem rE_cond{c:Operand}{a b:Code}:wp C p bt rnd (rE E (.cond c a b)) fr U Q=condW (wp C p bt rnd (rE E a) fr U Q) (wp C p bt rnd (rE E b) fr U Q) (ev fr.ts c):=(rfl)
theorem rE_block{id:Nat}{b:Code}:wp C p bt rnd (rE E (.block id b)) fr U Q=wp C p bt rnd (rE E b) fr U (blockW id Q):=(rfl)
theorem rE_loop{b:Code}:wp C p bt rnd (rE E (.loop b)) fr U Q=loopX P rnd (rE E b) fr U Q:=(rfl)
theorem opsE_congr{ops r:List Oper}{fr':Fr}{U':St}{lg lg':Log}(h:fr=fr')(h':U=U')(h2:lg=lg'):opsE E C p rnd ops Q r fr U lg=opsE E C p rnd ops Q r fr' U' lg':=by rw[h,h',h2]
theorem drawE_congr{ops r:List Oper}{K:DK}{kn kn':Nat}{ts ts':List Value}{U':St}{lg lg':Log}{acc acc':Loud}(h0:kn=kn')(h:ts=ts')(h':U=U')(h2:lg=lg')(h3:acc=acc'):drawE E C p ops K r kn ts U lg acc=drawE E C p ops K r kn' ts' U' lg' acc':=by rw[h0,h,h',h2,h3]
end eqs
attribute [congr] opsE_congr drawE_congr
attribute [go_sem] infoE undE undS sizeE lenE oneE opsE_nil opsE_cons drawE_nil drawE_cons rE_ops rE_drawn rE_skip rE_exit rE_ret rE_seq rE_cond rE_block rE_loop pE_loadE pE_storeE pE_index pE_load3 pE_store3 pE_load300 pE_store300 pE_call172 pE_call190 pE_call199 pE_call200 pE_call201 pE_call202 pE_call203 pE_call204 pE_call205 pE_call206 pE_call220 pE_call223 pE_call224 pE_call236 pE_call191 pE_call221 pE_call222 pE_callT pE_len pE_move pE_assign pE_pick pE_alloc pE_binOp pE_unOp pE_convert pE_extract pE_box pE_nilCheck bodyE172 btE172 bodyE190 btE190 bodyE199 btE199 bodyE200 btE200 bodyE201 btE201 bodyE202 btE202 bodyE203 btE203 bodyE204 btE204 bodyE205 btE205 bodyE206 btE206 bodyE220 btE220 bodyE223 btE223 bodyE224 btE224 bodyE236 btE236
def thenOf:Code->Code
 |.cond _ a _=>a
 |c=>c
attribute [go_sem] thenOf
section
variable {E:Type} [SE E] {bt:Nat->List Nat}
theorem st_cond{x:Operand}{a b:Code}(h:statAll bt (rE E (.cond x a b))=true):statAll bt (rE E a)=true/\statAll bt (rE E b)=true:=by
 simpa [rE,rn,statAll]using h
theorem st_thenOf{c:Code}(h:statAll bt (rE E c)=true):statAll bt (rE E (thenOf c))=true:=by
 cases c<;>first|exact h|exact(st_cond h).1
theorem st_seq{a b:Code}(h:statAll bt (rE E (.seq a b))=true):statAll bt (rE E a)=true/\statAll bt (rE E b)=true:=by
 simpa [rE,rn,statAll]using h
theorem st_blockOf:∀{c:Code},statAll bt (rE E c)=true->statAll bt (rE E (blockOf c))=true:=λ{c} h=>by
 cases c<;>first|exact h|simpa [rE,rn,statAll,blockOf]using h
theorem st_nthC:∀{n:Nat} {c:Code},statAll bt (rE E c)=true->statAll bt (rE E (nthC n c))=true
 |0,c,h=>by cases c<;>first|exact h|exact(st_seq h).1
 |n+1,.seq a b,h=>st_nthC (n:=n) (c:=b) (st_seq h).2
 |n+1,.skip,h|n+1,.region ..,h|n+1,.cond ..,h|n+1,.block ..,h|n+1,.loop _,h|n+1,.rangeFunc ..,h|n+1,.exit _,h|n+1,.scope _,h|n+1,.label _,h|n+1,.goto _,h|n+1,.ret,h|n+1,.refuse _,h=>h
theorem st_dropC:∀{n:Nat} {c:Code},statAll bt (rE E c)=true->statAll bt (rE E (dropC n c))=true
 |0,c,h=>by cases c<;>exact h
 |n+1,.seq a b,h=>st_dropC (n:=n) (c:=b) (st_seq h).2
 |n+1,.skip,h|n+1,.region ..,h|n+1,.cond ..,h|n+1,.block ..,h|n+1,.loop _,h|n+1,.rangeFunc ..,h|n+1,.exit _,h|n+1,.scope _,h|n+1,.label _,h|n+1,.goto _,h|n+1,.ret,h|n+1,.refuse _,h=>h
theorem st_loopOf:∀{c:Code},statAll bt (rE E c)=true->statAll bt (rE E (loopOf c))=true:=λ{c} h=>by
 induction c with
 |seq a b iha ihb=>
  simp only[loopOf]
  split
  ·exact ihb (st_seq h).2
  ·exact iha (st_seq h).1
 |block i b ih=>exact ih h
 |scope b ih=>exact ih h
 |loop b ih=>exact h
 |_=>rfl
theorem stG{g:Nat}{b:Func}(hf:Tryz.prog.funcs[g]?=some b)(hg:famB g=true)(hb:b.body.isSome=true):statAll (btAll (fE E g)) (rE E (b.body.getD .skip))=true:=by
 obtain⟨h,b',c,h1,h2,h3,h4,h5,h6,h7⟩:=(SE.ok (E:=E) g hg).get
 rw[hf]at h2
 cases h2
 rw[h3]
 exact h7
theorem enterE{p:PureTab Tryz.prog}{g:Nat}{b:Func}{c:Code}{args:List Value}{U:St}{K:AE->St->Log->Prop}(hf:Tryz.prog.funcs[g]?=some b)(hg:famB g=true)(hb:b.body=some c)
  (h:wp (cP Tryz.prog) p (btAll (fE E g)) false (rE E c) (start args b.ntmps) U (endW (cP Tryz.prog) b.results.toList K)):callX Tryz.prog (fE E g) args U K:=by
 obtain⟨h',b',c',h1,h2,h3,h4,h5,h6,h7⟩:=(SE.ok (E:=E) g hg).get
 rw[hf]at h2
 cases h2
 rw[hb]at h3
 cases h3
 refine enter (p:=p) h1 h4 h7 ?_
 rw[h5,h6]
 exact h
end
section
variable {E:Type} [SE E]
def cellsE:List E->List Value
 |[]=>[]
 |x :: xs=>SE.cells x++cellsE xs
theorem cellsE_length:∀L:List E,(cellsE L).length=L.length*wE E
 |[]=>by simp [cellsE]
 |x :: xs=>by rw[cellsE,List.length_append,lenE,cellsE_length xs,List.length_cons,Nat.add_mul];omega
theorem cellsE_at{G:List Value}:∀{L:List E} {i:Nat} {x:E},L[i]?=some x->((cellsE L++G).drop (i*wE E)).take (wE E)=SE.cells x
 |[],_,_,h=>by simp at h
 |y :: L,0,x,h=>by
  simp only[List.getElem?_cons_zero,Option.some.injEq]at h
  subst h
  rw[Nat.zero_mul,List.drop_zero,cellsE,List.append_assoc,<-lenE y,List.take_left]
 |y :: L,i+1,x,h=>by
  simp only[List.getElem?_cons_succ]at h
  have h2:=cellsE_at (G:=G) h
  have e:(i+1)*wE E=wE E+i*wE E:=by rw[Nat.add_mul];omega
  rw[e,<-List.drop_drop,cellsE,List.append_assoc,<-lenE y,List.drop_left,lenE y]
  exact h2
theorem over_append:∀(a vs:List Value) (k:Nat) (ns:List Value),over (a++vs) (a.length+k) ns=a++over vs k ns
 |[],vs,k,ns=>by simp
 |x :: a,vs,k,ns=>by
  have e:(x :: a).length+k=(a.length+k)+1:=by simp;omega
  rw[e,List.cons_append,over,over_append a vs k ns]
  rfl
theorem over_take:∀(a b vs:List Value),a.length=b.length->over (a++vs) 0 b=b++vs
 |[],[],vs,_=>by simp [over]
 |[],_ :: _,vs,h=>by simp at h
 |_ :: _,[],vs,h=>by simp at h
 |x :: a,y :: b,vs,h=>by
  rw[List.cons_append,over,over_take a b vs (by simpa using h)]
  rfl
theorem overE_at{G:List Value}:∀{L:List E} {i:Nat} (x:E),i<L.length->over (cellsE L++G) (i*wE E) (SE.cells x)=cellsE (L.set i x)++G
 |[],_,_,h=>by simp at h
 |y :: L,0,x,h=>by
  rw[Nat.zero_mul,cellsE,List.append_assoc,over_take _ _ _ (by rw[lenE,lenE]),List.set_cons_zero,cellsE,List.append_assoc]
 |y :: L,i+1,x,h=>by
  have h2:=overE_at (G:=G) (L:=L) (i:=i) x (by simpa using h)
  have e:(i+1)*wE E=wE E+i*wE E:=by rw[Nat.add_mul];omega
  rw[e,List.set_cons_succ,cellsE,cellsE,List.append_assoc,List.append_assoc,<-h2,<-lenE y,over_append,lenE y]
end
end Go.Ab
namespace Go.Ab
open Go.Proofs
variable {E:Type} [SE E]
theorem arr_get{d:Array E}{i:Nat}(h:i<d.size):d.toList[i]?=some d[i]!:=by
 rw[getElem!_pos d i h,Array.getElem?_toList,Array.getElem?_eq_getElem h]
theorem arr_at{d:Array E}{G:List Value}{i:Nat}(h:i<d.size):((cellsE d.toList++G).drop (i*wE E)).take (wE E)=SE.cells d[i]!:=cellsE_at (arr_get h)
theorem arr_over{d:Array E}{G:List Value}{i:Nat}(x:E)(h:i<d.size):over (cellsE d.toList++G) (i*wE E) (SE.cells x)=cellsE (d.setIfInBounds i x).toList++G:=by
 rw[overE_at (L:=d.toList) x (by simpa using h)]
 simp
theorem arr_fit{d:Array E}{G:List Value}{i:Nat}(h:i<d.size):i*wE E+wE E<=(cellsE d.toList++G).length:=by
 have h1:(i+1)*wE E<=d.size*wE E:=Nat.mul_le_mul_right _ h
 rw[Nat.add_mul]at h1
 rw[List.length_append,cellsE_length,Array.length_toList]
 omega
structure Base(U0:St)(a:Nat)(U:St):Prop where
 nx:U0.next<=U.next
 get:∀c,c<U0.next->c≠a->U.get c=U0.get c
theorem Base.set{U0:St}{a:Nat}{U:St}(h:Base U0 a U)(o:AObj):Base U0 a (U.set a o):=⟨h.nx,λc h1 h2=>by rw[St.get_set,if_neg (Ne.symm h2)];exact h.get c h1 h2⟩
theorem Base.new{U0:St}{a:Nat}{U:St}(h:Base U0 a U)(o:AObj):Base U0 a (U.new o):=⟨by rw[St.next_new];have:=h.nx;omega,λc h1 h2=>by rw[St.get_new,if_neg (by have:=h.nx;omega)];exact h.get c h1 h2⟩
structure CmpOk(U0:St)(a:Nat)(g:FuncId)(ys:List Value)(lt:E->E->Bool)(p:E->Prop):Prop where
 body:(cP Tryz.prog).bodies g=true
 call:∀U,Base U0 a U->∀x y,p x->p y->∃r:Int,DCall Tryz.prog g (.agg ⟨SE.cells x⟩ :: .agg ⟨SE.cells y⟩ :: ys) U (.ret (.int .i64 r)) U []/\decide (r<0)=lt x y
structure SAt(U0:St)(a:Nat)(d:Array E)(G:List Value)(p:E->Prop)(U:St):Prop where
 base:Base U0 a U
 get:U.get a=some (.cells (cellsE d.toList++G) false)
 lt:a<U0.next
 all:∀i,i<d.size->p d[i]!
 small:d.size<1000000
theorem swp_size{d:Array E}{i j:Nat}:(Sort.swp d i j).size=d.size:=by simp [Sort.swp]
theorem swp_all{d:Array E}{p:E->Prop}{i j:Nat}(hi:i<d.size)(hj:j<d.size)(h:∀i,i<d.size->p d[i]!):∀k,k<(Sort.swp d i j).size->p (Sort.swp d i j)[k]!:=λk hk=>by
 rw[swp_size]at hk
 by_cases e1:k=j
 ·rw[e1,Sort.swp_right d i j hj];exact h i hi
 ·by_cases e2:k=i
  ·rw[e2,Sort.swp_left d i j hi (λe=>e1 (e2.trans e))];exact h j hj
  ·rw[Sort.swp_other d i j k e2 e1];exact h k hk
theorem SAt.swp{U0:St}{a:Nat}{d:Array E}{G:List Value}{p:E->Prop}{U:St}(h:SAt U0 a d G p U){i j:Nat}(hi:i<d.size)(hj:j<d.size)(o:AObj):
  SAt U0 a (Sort.swp d i j) G p ((U.set a o).set a (.cells (cellsE ((d.setIfInBounds i d[j]!).setIfInBounds j d[i]!).toList++G) false)):=
 ⟨(h.base.set _).set _,by rw[St.get_set,if_pos rfl];rfl,h.lt,swp_all hi hj h.all,by rw[swp_size];exact h.small⟩
def sliceS(a:Nat)(s:Nat)(n cap:Nat):Value:=.slice (some ⟨a,0,some s⟩) n cap
end Go.Ab
namespace Go.Ab
open Go.Proofs
variable {E:Type} [SE E]
noncomputable def insOutB:Code:=loopOf (Tryz.f199.body.getD .skip)
structure FI(ts:List Value)(dv cv:Value)(a b i:Nat):Prop where
 size:ts.length=53
 t0:lget ts 0=dv
 t1:lget ts 1=.int .i64 a
 t2:lget ts 2=.int .i64 b
 t3:lget ts 3=cv
 t8:lget ts 8=.int .i64 i
section
variable {U0:St} {k s n cap:Nat} {g:FuncId} {ys:List Value} {lt:E->E->Bool} {p:E->Prop} {G:List Value}
def IIn(U0:St)(k s n cap:Nat)(g:FuncId)(ys:List Value)(lt:E->E->Bool)(p:E->Prop)(G:List Value)(a b i:Nat)(D:Array E)(m:Nat)(fr:Fr)(U:St):Prop:=
 ∃ts d,fr=⟨ts,[]⟩/\FI ts (sliceS k s n cap) (.func (.func g) ⟨[]⟩ ⟨ys⟩) a b i/\lget ts 9=.int .i64 (m:Nat)/\m<=i/\SAt U0 k d G p U/\d.size=n/\Sort.insInner lt a m d=D
def EIn(U0:St)(k s n cap:Nat)(g:FuncId)(ys:List Value)(p:E->Prop)(G:List Value)(a b i:Nat)(D:Array E)(x:AX)(fr:Fr)(U:St):Prop:=
 x=.exit 2/\∃ts,fr=⟨ts,[]⟩/\FI ts (sliceS k s n cap) (.func (.func g) ⟨[]⟩ ⟨ys⟩) a b i/\SAt U0 k D G p U/\D.size=n
noncomputable def insInB:Code:=loopOf (nthC 1 (blockOf (nthC 1 insOutB)))
theorem ins_in(hc:CmpOk U0 k g ys lt p){a b i:Nat}(hib:i<b)(hbn:b<=n){D:Array E}:∀m fr U,IIn U0 k s n cap g ys lt p G a b i D m fr U->loopX Tryz.prog false (rE E insInB) fr U (endL (EIn U0 k s n cap g ys p G a b i D) λz=>z=k\/U0.next<=z):=by
 refine loop_ind q0 (fE E 199) (st_loopOf (st_nthC (st_blockOf (st_nthC (st_loopOf (stG Tryz.func199 rfl rfl)))))) _ _ _ ?_
 rintro m fr U ⟨ts,d,rfl,F,h9,hmi,H,hdn,hD⟩
 have e0:=F.t0
 have e1:=F.t1
 have e2:=F.t2
 have e3:=F.t3
 have e8:=F.t8
 have el:=F.size
 simp only[sliceS]at e0
 by_cases ha:a<m
 ·obtain⟨j,rfl⟩:∃j,m=j+1:=⟨m - 1,by omega⟩
  obtain⟨r,hd,hr⟩:=hc.call U H.base d[j+1]! d[j]! (H.all _ (by omega)) (H.all _ (by omega))
  have hb:=hc.body
  have g1:=H.get
  have x1:=arr_at (d:=d) (G:=G) (i:=j+1) (by omega)
  have x2:=arr_at (d:=d) (G:=G) (i:=j) (by omega)
  have l1:(j+1)*wE E+wE E<=(cellsE d.toList++G).length:=arr_fit (by first|omega|(simp;omega))
  have l2:j*wE E+wE E<=(cellsE d.toList++G).length:=arr_fit (by first|omega|(simp;omega))
  have c0:(a:Int)<((j+1:Nat):Int):=by omega
  have c1:(0:Int)<=((j+1:Nat):Int):=by omega
  have c2:((j+1:Nat):Int)<(n:Int):=by omega
  have c3:(0:Int)<=(j:Int):=by omega
  have c4:(j:Int)<(n:Int):=by omega
  have w1:IntKind.i64.wrap (((j+1:Nat):Int) - 1)=(j:Int):=by
   have:((j+1:Nat):Int) - 1=(j:Int):=by omega
   rw[this];exact wrapIN (by have:=H.small;omega)
  have nk:¬U.next<=k:=by have:=H.lt;have:=H.base.nx;omega
  have o1:=arr_over (d:=d) (G:=G) (i:=j+1) d[j]! (by omega)
  have o2:=arr_over (d:=d.setIfInBounds (j+1) d[j]!) (G:=G) (i:=j) d[j+1]! (by simp;omega)
  have l3:j*wE E+wE E<=(cellsE (d.setIfInBounds (j+1) d[j]!).toList++G).length:=arr_fit (by first|omega|(simp;omega))
  by_cases hr0:r<0
  ·simp only[go_sem,seval,opLen,undef,insInB,insOutB,blockOf,nthC,loopOf,Tryz.f199,Option.getD,Int.toNat_natCast,e0,e1,e2,e3,e8,el,h9,g1,hb,x1,x2,l1,l2,l3,o1,o2,c0,c1,c2,c3,c4,w1,nk]
   refine .of hd ?_
   simp only[go_sem,seval,opLen,undef,insInB,insOutB,blockOf,nthC,loopOf,Tryz.f199,Option.getD,Int.toNat_natCast,e0,e1,e2,e3,e8,el,h9,g1,hb,x1,x2,l1,l2,l3,o1,o2,c0,c1,c2,c3,c4,w1,nk,hr0]
   have hlt:lt d[j+1]! d[j]! = true:=by rw[<-hr];simp [hr0]
   refine⟨.inl trivial,j,by omega,_,Sort.swp d (j+1) j,rfl,⟨by simp only[List.length_set,el],by simp only[go_sem,seval,opLen,el,e0]<;>rfl,by simp only[go_sem,seval,opLen,el,e1],by simp only[go_sem,seval,opLen,el,e2],by simp only[go_sem,seval,opLen,el,e3],by simp only[go_sem,seval,opLen,el,e8]⟩,by simp only[go_sem,seval,opLen,el],by omega,H.swp (by omega) (by omega) _,by rw[swp_size];exact hdn,?_⟩
   rw[<-hD]
   simp only[Sort.insInner]
   rw[if_pos]
   simp [hlt,ha]
  ·simp only[go_sem,seval,opLen,undef,insInB,insOutB,blockOf,nthC,loopOf,Tryz.f199,Option.getD,Int.toNat_natCast,e0,e1,e2,e3,e8,el,h9,g1,hb,x1,x2,l1,l2,l3,o1,o2,c0,c1,c2,c3,c4,w1,nk]
   refine .of hd ?_
   simp only[go_sem,seval,opLen,undef,insInB,insOutB,blockOf,nthC,loopOf,Tryz.f199,Option.getD,Int.toNat_natCast,e0,e1,e2,e3,e8,el,h9,g1,hb,x1,x2,l1,l2,l3,o1,o2,c0,c1,c2,c3,c4,w1,nk,hr0]
   have hlt:lt d[j+1]! d[j]! = false:=by rw[<-hr];simp [hr0]
   have hDd:D=d:=by
    rw[<-hD]
    simp only[Sort.insInner]
    rw[if_neg]
    simp [hlt]
   exact⟨rfl,_,rfl,⟨by simp only[List.length_set,el],by simp only[go_sem,seval,opLen,el,e0]<;>rfl,by simp only[go_sem,seval,opLen,el,e1],by simp only[go_sem,seval,opLen,el,e2],by simp only[go_sem,seval,opLen,el,e3],by simp only[go_sem,seval,opLen,el,e8]⟩,hDd▸H,hDd▸hdn⟩
 ·have c0:¬(a:Int)<((m:Nat):Int):=by omega
  have hDd:D=d:=by
   rw[<-hD]
   cases m with
   |zero=>rfl
   |succ j=>
    simp only[Sort.insInner]
    rw[if_neg]
    simp
    intro h;omega
  simp only[go_sem,seval,opLen,undef,insInB,insOutB,blockOf,nthC,loopOf,Tryz.f199,Option.getD,Int.toNat_natCast,e0,e1,e2,e3,e8,el,h9,c0]
  exact⟨rfl,_,rfl,⟨by simp only[List.length_set,el],by simp only[go_sem,seval,opLen,el,e0]<;>rfl,by simp only[go_sem,seval,opLen,el,e1],by simp only[go_sem,seval,opLen,el,e2],by simp only[go_sem,seval,opLen,el,e3],by simp only[go_sem,seval,opLen,el,e8]⟩,hDd▸H,hDd▸hdn⟩
def IOut(U0:St)(k s n cap:Nat)(g:FuncId)(ys:List Value)(lt:E->E->Bool)(p:E->Prop)(G:List Value)(a b:Nat)(D:Array E)(m:Nat)(fr:Fr)(U:St):Prop:=
 ∃ts d,∃i:Nat,fr=⟨ts,[]⟩/\FI ts (sliceS k s n cap) (.func (.func g) ⟨[]⟩ ⟨ys⟩) a b i/\m=b - i/\SAt U0 k d G p U/\d.size=n/\Sort.insOuter lt a b i d=D
def EOut(U0:St)(k:Nat)(p:E->Prop)(G:List Value)(D:Array E)(x:AX)(fr:Fr)(U:St):Prop:=
 x=.exit 0/\fr.ds=[]/\SAt U0 k D G p U
theorem ins_out(hc:CmpOk U0 k g ys lt p){a b:Nat}(hbn:b<=n)(hn:n<1000000){D:Array E}:∀m fr U,IOut U0 k s n cap g ys lt p G a b D m fr U->loopX Tryz.prog false (rE E insOutB) fr U (endL (EOut U0 k p G D) λz=>z=k\/U0.next<=z):=by
 refine loop_ind q0 (fE E 199) (st_loopOf (stG Tryz.func199 rfl rfl)) _ _ _ ?_
 rintro m fr U ⟨ts,d,i,rfl,F,hm,H,hdn,hD⟩
 have e0:=F.t0
 have e1:=F.t1
 have e2:=F.t2
 have e3:=F.t3
 have e8:=F.t8
 have el:=F.size
 by_cases hi:i<b
 ·have c0:(i:Int)<(b:Int):=by omega
  have w1:IntKind.i64.wrap ((i:Int)+1)=((i+1:Nat):Int):=by
   have:(i:Int)+1=((i+1:Nat):Int):=by omega
   rw[this];exact wrapIN (by omega)
  simp only[go_sem,seval,opLen,undef,insOutB,loopOf,Tryz.f199,Option.getD,e0,e1,e2,e3,e8,el,c0]
  refine loop_then (ins_in (s:=s) (n:=n) (cap:=cap) (G:=G) hc (a:=a) (b:=b) (i:=i) hi hbn (D:=Sort.insInner lt a i d) i _ _ ⟨_,d,rfl,⟨by simp only[List.length_set,el],by simp only[go_sem,seval,opLen,el,e0]<;>rfl,by simp only[go_sem,seval,opLen,el,e1],by simp only[go_sem,seval,opLen,el,e2],by simp only[go_sem,seval,opLen,el,e3],by simp only[go_sem,seval,opLen,el,e8]⟩,by simp only[go_sem,seval,opLen,el],Nat.le_refl _,H,hdn,rfl⟩) ?_
  intro x fr' U' lg hlg hB h
  obtain⟨rfl,ts',rfl,F',H',hs'⟩:=h
  have f0:=F'.t0
  have f1:=F'.t1
  have f2:=F'.t2
  have f3:=F'.t3
  have f8:=F'.t8
  have fl:=F'.size
  simp only[go_sem,seval,opLen,undef,f0,f1,f2,f3,f8,fl,w1]
  refine⟨hB,b - (i+1),by omega,_,_,i+1,rfl,⟨by simp only[List.length_set,fl],by simp only[go_sem,seval,opLen,fl,f0]<;>rfl,by simp only[go_sem,seval,opLen,fl,f1],by simp only[go_sem,seval,opLen,fl,f2],by simp only[go_sem,seval,opLen,fl,f3],by simp only[go_sem,seval,opLen,fl,f8]⟩,rfl,H',hs',?_⟩
  rw[<-hD,Sort.insOuter.eq_def lt a b i d,if_pos hi]
 ·have c0:¬(i:Int)<(b:Int):=by omega
  simp only[go_sem,seval,opLen,undef,insOutB,loopOf,Tryz.f199,Option.getD,e0,e1,e2,e3,e8,el,c0]
  have hDd:D=d:=by rw[<-hD,Sort.insOuter.eq_def lt a b i d,if_neg hi]
  exact⟨rfl,rfl,hDd▸H⟩
def SortR(U0:St)(k:Nat)(G:List Value)(p:E->Prop)(D:Array E)(U':St)(lg:Log):Prop:=(∀z∈lg,z=k\/U0.next<=z)/\SAt U0 k D G p U'
theorem ins_call(hc:CmpOk U0 k g ys lt p){a b:Nat}{d:Array E}{U:St}(H:SAt U0 k d G p U)(hab:a<=b)(hbn:b<=d.size):
  callX Tryz.prog (fE E 199) [sliceS k s d.size cap,.int .i64 a,.int .i64 b,.func (.func g) ⟨[]⟩ ⟨ys⟩] U λe U' lg=>e=.ret (.tuple ⟨[]⟩)/\SortR U0 k G p (Sort.insertionSort lt d a b) U' lg:=by
 have w1:IntKind.i64.wrap ((a:Int)+1)=((a+1:Nat):Int):=by
  have:(a:Int)+1=((a+1:Nat):Int):=by omega
  rw[this];exact wrapIN (by have:=H.small;omega)
 refine enterE (E:=E) (p:=q0) Tryz.func199 rfl rfl ?_
 simp only[go_sem,seval,opLen,undef,sliceS,Tryz.f199,w1]
 refine loop_then (ins_out (s:=s) (n:=d.size) (cap:=cap) (G:=G) hc (a:=a) (b:=b) hbn H.small (D:=Sort.insertionSort lt d a b) _ _ _ ⟨_,d,a+1,rfl,⟨rfl,rfl,rfl,rfl,rfl,rfl⟩,rfl,H,rfl,rfl⟩) ?_
 intro x fr' U' lg hlg hB h
 obtain⟨rfl,hds,H'⟩:=h
 obtain⟨ts',ds'⟩:=fr'
 simp only at hds
 subst hds
 simp only[go_sem,seval,opLen]
 exact⟨hB,H'⟩
end
end Go.Ab
namespace Go.Ab
open Go.Proofs
variable {E:Type} [SE E]
noncomputable def siftB:Code:=loopOf (Tryz.f220.body.getD .skip)
structure FD(ts:List Value)(dv cv:Value)(hi first root:Nat):Prop where
 size:ts.length=82
 t0:lget ts 0=dv
 t2:lget ts 2=.int .i64 hi
 t3:lget ts 3=.int .i64 first
 t4:lget ts 4=cv
 t10:lget ts 10=.int .i64 root
section
variable {U0:St} {k s n cap:Nat} {g:FuncId} {ys:List Value} {lt:E->E->Bool} {p:E->Prop} {G:List Value}
def IDn(U0:St)(k s n cap:Nat)(g:FuncId)(ys:List Value)(lt:E->E->Bool)(p:E->Prop)(G:List Value)(hi first:Nat)(D:Array E)(m:Nat)(fr:Fr)(U:St):Prop:=
 ∃ts d,∃root:Nat,fr=⟨ts,[]⟩/\FD ts (sliceS k s n cap) (.func (.func g) ⟨[]⟩ ⟨ys⟩) hi first root/\m=hi - root/\root<1000000/\SAt U0 k d G p U/\d.size=n/\Sort.siftDown lt hi first root d=D
def EDn(U0:St)(k:Nat)(p:E->Prop)(G:List Value)(D:Array E)(x:AX)(fr:Fr)(U:St):Prop:=
 (x=.exit 0\/x=.ret)/\fr.ds=[]/\SAt U0 k D G p U
theorem sift_loop(hc:CmpOk U0 k g ys lt p){hi first:Nat}(hn:first+hi<=n){D:Array E}:∀m fr U,IDn U0 k s n cap g ys lt p G hi first D m fr U->loopX Tryz.prog false (rE E siftB) fr U (endL (EDn U0 k p G D) λz=>z=k\/U0.next<=z):=by
 refine loop_ind q0 (fE E 220) (st_loopOf (stG Tryz.func220 rfl rfl)) _ _ _ ?_
 rintro m fr U ⟨ts,d,root,rfl,F,hm,hrt,H,hdn,hD⟩
 have e0:=F.t0
 have e2:=F.t2
 have e3:=F.t3
 have e4:=F.t4
 have e10:=F.t10
 have el:=F.size
 have hsm:=H.small
 have hb:=hc.body
 have g1:=H.get
 have nk:¬U.next<=k:=by have:=H.lt;have:=H.base.nx;omega
 have w1:IntKind.i64.wrap (2*(root:Int))=((2*root:Nat):Int):=by
  have:2*(root:Int)=((2*root:Nat):Int):=by omega
  rw[this];exact wrapIN (by omega)
 have w2:IntKind.i64.wrap (((2*root:Nat):Int)+1)=((2*root+1:Nat):Int):=by
  have:((2*root:Nat):Int)+1=((2*root+1:Nat):Int):=by omega
  rw[this];exact wrapIN (by omega)
 have w3:IntKind.i64.wrap (((2*root+1:Nat):Int)+1)=((2*root+2:Nat):Int):=by
  have:((2*root+1:Nat):Int)+1=((2*root+2:Nat):Int):=by omega
  rw[this];exact wrapIN (by omega)
 simp only[sliceS]at e0
 by_cases h1:hi<=2*root+1
 ·have c0:(hi:Int)<=((2*root+1:Nat):Int):=by omega
  have hDd:D=d:=by rw[<-hD,Sort.siftDown.eq_def lt hi first root d,dif_pos (by omega)]
  simp only[go_sem,seval,opLen,undef,siftB,loopOf,Tryz.f220,Option.getD,e0,e2,e3,e4,e10,el,w1,w2,c0]
  exact⟨.inl rfl,rfl,hDd▸H⟩
 have c0:¬(hi:Int)<=((2*root+1:Nat):Int):=by omega
 have hA:first+root<d.size:=by omega
 have hB:first+(2*root+1)<d.size:=by omega
 have wA:IntKind.i64.wrap ((first:Int)+(root:Int))=((first+root:Nat):Int):=by
  have:(first:Int)+(root:Int)=((first+root:Nat):Int):=by omega
  rw[this];exact wrapIN (by omega)
 have wB:IntKind.i64.wrap ((first:Int)+((2*root+1:Nat):Int))=((first+(2*root+1):Nat):Int):=by
  have:(first:Int)+((2*root+1:Nat):Int)=((first+(2*root+1):Nat):Int):=by omega
  rw[this];exact wrapIN (by omega)
 have wC:IntKind.i64.wrap ((first:Int)+((2*root+2:Nat):Int))=((first+(2*root+2):Nat):Int):=by
  have:(first:Int)+((2*root+2:Nat):Int)=((first+(2*root+2):Nat):Int):=by omega
  rw[this];exact wrapIN (by omega)
 have wD:IntKind.i64.wrap (((first+(2*root+1):Nat):Int)+1)=((first+(2*root+2):Nat):Int):=by
  have:((first+(2*root+1):Nat):Int)+1=((first+(2*root+2):Nat):Int):=by omega
  rw[this];exact wrapIN (by omega)
 have pA:(0:Int)<=((first+root:Nat):Int):=by omega
 have pB:(0:Int)<=((first+(2*root+1):Nat):Int):=by omega
 have pC:(0:Int)<=((first+(2*root+2):Nat):Int):=by omega
 have qA:((first+root:Nat):Int)<(n:Int):=by omega
 have qB:((first+(2*root+1):Nat):Int)<(n:Int):=by omega
 have xA:=arr_at (d:=d) (G:=G) (i:=first+root) hA
 have xB:=arr_at (d:=d) (G:=G) (i:=first+(2*root+1)) hB
 have lA:(first+root)*wE E+wE E<=(cellsE d.toList++G).length:=arr_fit (by first|omega|(simp;omega))
 have lB:(first+(2*root+1))*wE E+wE E<=(cellsE d.toList++G).length:=arr_fit (by first|omega|(simp;omega))
 by_cases h2:2*root+2<hi
 ·have c1:((2*root+2:Nat):Int)<(hi:Int):=by omega
  have hC:first+(2*root+2)<d.size:=by omega
  have qC:((first+(2*root+2):Nat):Int)<(n:Int):=by omega
  have xC:=arr_at (d:=d) (G:=G) (i:=first+(2*root+2)) hC
  have lC:(first+(2*root+2))*wE E+wE E<=(cellsE d.toList++G).length:=arr_fit (by first|omega|(simp;omega))
  obtain⟨r1,hd1,hr1⟩:=hc.call U H.base d[first+(2*root+1)]! d[first+(2*root+2)]! (H.all _ hB) (H.all _ hC)
  by_cases hr:r1<0
  ·obtain⟨r2,hd2,hr2⟩:=hc.call U H.base d[first+root]! d[first+(2*root+2)]! (H.all _ hA) (H.all _ hC)
   have o1:=arr_over (d:=d) (G:=G) (i:=first+root) d[first+(2*root+2)]! hA
   have o2:=arr_over (d:=d.setIfInBounds (first+root) d[first+(2*root+2)]!) (G:=G) (i:=first+(2*root+2)) d[first+root]! (by simp;omega)
   have l3:(first+(2*root+2))*wE E+wE E<=(cellsE (d.setIfInBounds (first+root) d[first+(2*root+2)]!).toList++G).length:=arr_fit (by first|omega|(simp;omega))
   by_cases hr0:r2<0
   ·simp only[go_sem,seval,opLen,undef,siftB,loopOf,Tryz.f220,Option.getD,Int.toNat_natCast,e0,e2,e3,e4,e10,el,hb,g1,nk,w1,w2,w3,wA,wB,wC,wD,pA,pB,pC,qA,qB,xA,xB,lA,lB,c0,o1,o2,l3,c1,qC,xC,lC,hr]
    refine .of hd1 ?_
    simp only[go_sem,seval,opLen,undef,siftB,loopOf,Tryz.f220,Option.getD,Int.toNat_natCast,e0,e2,e3,e4,e10,el,hb,g1,nk,w1,w2,w3,wA,wB,wC,wD,pA,pB,pC,qA,qB,xA,xB,lA,lB,c0,o1,o2,l3,c1,qC,xC,lC,hr]
    refine .of hd2 ?_
    simp only[go_sem,seval,opLen,undef,siftB,loopOf,Tryz.f220,Option.getD,Int.toNat_natCast,e0,e2,e3,e4,e10,el,hb,g1,nk,w1,w2,w3,wA,wB,wC,wD,pA,pB,pC,qA,qB,xA,xB,lA,lB,c0,o1,o2,l3,hr0,c1,qC,xC,lC,hr]
    have hlt2:lt d[first+root]! d[first+(2*root+2)]! = true:=by rw[<-hr2];simp [hr0]
    refine⟨.inl trivial,hi - (2*root+2),by omega,_,Sort.swp d (first+root) (first+(2*root+2)),2*root+2,rfl,⟨by simp only[List.length_set,el],by simp only[go_sem,seval,opLen,el,e0]<;>rfl,by simp only[go_sem,seval,opLen,el,e2],by simp only[go_sem,seval,opLen,el,e3],by simp only[go_sem,seval,opLen,el,e4],by simp only[go_sem,seval,opLen,el]⟩,rfl,by omega,H.swp hA hC _,by rw[swp_size];exact hdn,?_⟩
    rw[<-hD,Sort.siftDown.eq_def lt hi first root d,dif_neg (by omega)]
    have hlt1:lt d[first+(2*root+1)]! d[first+(2*root+1)+1]! = true:=by show lt _ d[first+(2*root+2)]! = true;rw[<-hr1];simp [hr]
    rw[if_pos (by rw[hlt1];simp;omega)]
    rw[if_neg (by simp [hlt2]),dif_pos h2]
   ·simp only[go_sem,seval,opLen,undef,siftB,loopOf,Tryz.f220,Option.getD,Int.toNat_natCast,e0,e2,e3,e4,e10,el,hb,g1,nk,w1,w2,w3,wA,wB,wC,wD,pA,pB,pC,qA,qB,xA,xB,lA,lB,c0,o1,o2,l3,c1,qC,xC,lC,hr]
    refine .of hd1 ?_
    simp only[go_sem,seval,opLen,undef,siftB,loopOf,Tryz.f220,Option.getD,Int.toNat_natCast,e0,e2,e3,e4,e10,el,hb,g1,nk,w1,w2,w3,wA,wB,wC,wD,pA,pB,pC,qA,qB,xA,xB,lA,lB,c0,o1,o2,l3,c1,qC,xC,lC,hr]
    refine .of hd2 ?_
    simp only[go_sem,seval,opLen,undef,siftB,loopOf,Tryz.f220,Option.getD,Int.toNat_natCast,e0,e2,e3,e4,e10,el,hb,g1,nk,w1,w2,w3,wA,wB,wC,wD,pA,pB,pC,qA,qB,xA,xB,lA,lB,c0,o1,o2,l3,hr0,c1,qC,xC,lC,hr]
    have hlt2:lt d[first+root]! d[first+(2*root+2)]! = false:=by rw[<-hr2];simp [hr0]
    have hDd:D=d:=by
     rw[<-hD,Sort.siftDown.eq_def lt hi first root d,dif_neg (by omega)]
     have hlt1:lt d[first+(2*root+1)]! d[first+(2*root+1)+1]! = true:=by show lt _ d[first+(2*root+2)]! = true;rw[<-hr1];simp [hr]
     rw[if_pos (by rw[hlt1];simp;omega)]
     rw[if_pos (by simp [hlt2])]
    exact⟨.inr rfl,rfl,hDd▸H⟩
  ·obtain⟨r2,hd2,hr2⟩:=hc.call U H.base d[first+root]! d[first+(2*root+1)]! (H.all _ hA) (H.all _ hB)
   have o1:=arr_over (d:=d) (G:=G) (i:=first+root) d[first+(2*root+1)]! hA
   have o2:=arr_over (d:=d.setIfInBounds (first+root) d[first+(2*root+1)]!) (G:=G) (i:=first+(2*root+1)) d[first+root]! (by simp;omega)
   have l3:(first+(2*root+1))*wE E+wE E<=(cellsE (d.setIfInBounds (first+root) d[first+(2*root+1)]!).toList++G).length:=arr_fit (by first|omega|(simp;omega))
   by_cases hr0:r2<0
   ·simp only[go_sem,seval,opLen,undef,siftB,loopOf,Tryz.f220,Option.getD,Int.toNat_natCast,e0,e2,e3,e4,e10,el,hb,g1,nk,w1,w2,w3,wA,wB,wC,wD,pA,pB,pC,qA,qB,xA,xB,lA,lB,c0,o1,o2,l3,c1,qC,xC,lC,hr]
    refine .of hd1 ?_
    simp only[go_sem,seval,opLen,undef,siftB,loopOf,Tryz.f220,Option.getD,Int.toNat_natCast,e0,e2,e3,e4,e10,el,hb,g1,nk,w1,w2,w3,wA,wB,wC,wD,pA,pB,pC,qA,qB,xA,xB,lA,lB,c0,o1,o2,l3,c1,qC,xC,lC,hr]
    refine .of hd2 ?_
    simp only[go_sem,seval,opLen,undef,siftB,loopOf,Tryz.f220,Option.getD,Int.toNat_natCast,e0,e2,e3,e4,e10,el,hb,g1,nk,w1,w2,w3,wA,wB,wC,wD,pA,pB,pC,qA,qB,xA,xB,lA,lB,c0,o1,o2,l3,hr0,c1,qC,xC,lC,hr]
    have hlt2:lt d[first+root]! d[first+(2*root+1)]! = true:=by rw[<-hr2];simp [hr0]
    refine⟨.inl trivial,hi - (2*root+1),by omega,_,Sort.swp d (first+root) (first+(2*root+1)),2*root+1,rfl,⟨by simp only[List.length_set,el],by simp only[go_sem,seval,opLen,el,e0]<;>rfl,by simp only[go_sem,seval,opLen,el,e2],by simp only[go_sem,seval,opLen,el,e3],by simp only[go_sem,seval,opLen,el,e4],by simp only[go_sem,seval,opLen,el]⟩,rfl,by omega,H.swp hA hB _,by rw[swp_size];exact hdn,?_⟩
    rw[<-hD,Sort.siftDown.eq_def lt hi first root d,dif_neg (by omega)]
    have hlt1:lt d[first+(2*root+1)]! d[first+(2*root+1)+1]! = false:=by show lt _ d[first+(2*root+2)]! = false;rw[<-hr1];simp [hr]
    rw[if_neg (by rw[hlt1];simp)]
    rw[if_neg (by simp [hlt2])]
   ·simp only[go_sem,seval,opLen,undef,siftB,loopOf,Tryz.f220,Option.getD,Int.toNat_natCast,e0,e2,e3,e4,e10,el,hb,g1,nk,w1,w2,w3,wA,wB,wC,wD,pA,pB,pC,qA,qB,xA,xB,lA,lB,c0,o1,o2,l3,c1,qC,xC,lC,hr]
    refine .of hd1 ?_
    simp only[go_sem,seval,opLen,undef,siftB,loopOf,Tryz.f220,Option.getD,Int.toNat_natCast,e0,e2,e3,e4,e10,el,hb,g1,nk,w1,w2,w3,wA,wB,wC,wD,pA,pB,pC,qA,qB,xA,xB,lA,lB,c0,o1,o2,l3,c1,qC,xC,lC,hr]
    refine .of hd2 ?_
    simp only[go_sem,seval,opLen,undef,siftB,loopOf,Tryz.f220,Option.getD,Int.toNat_natCast,e0,e2,e3,e4,e10,el,hb,g1,nk,w1,w2,w3,wA,wB,wC,wD,pA,pB,pC,qA,qB,xA,xB,lA,lB,c0,o1,o2,l3,hr0,c1,qC,xC,lC,hr]
    have hlt2:lt d[first+root]! d[first+(2*root+1)]! = false:=by rw[<-hr2];simp [hr0]
    have hDd:D=d:=by
     rw[<-hD,Sort.siftDown.eq_def lt hi first root d,dif_neg (by omega)]
     have hlt1:lt d[first+(2*root+1)]! d[first+(2*root+1)+1]! = false:=by show lt _ d[first+(2*root+2)]! = false;rw[<-hr1];simp [hr]
     rw[if_neg (by rw[hlt1];simp)]
     rw[if_pos (by simp [hlt2])]
    exact⟨.inr rfl,rfl,hDd▸H⟩
 ·have c1:¬((2*root+2:Nat):Int)<(hi:Int):=by omega
  obtain⟨r2,hd2,hr2⟩:=hc.call U H.base d[first+root]! d[first+(2*root+1)]! (H.all _ hA) (H.all _ hB)
  have o1:=arr_over (d:=d) (G:=G) (i:=first+root) d[first+(2*root+1)]! hA
  have o2:=arr_over (d:=d.setIfInBounds (first+root) d[first+(2*root+1)]!) (G:=G) (i:=first+(2*root+1)) d[first+root]! (by simp;omega)
  have l3:(first+(2*root+1))*wE E+wE E<=(cellsE (d.setIfInBounds (first+root) d[first+(2*root+1)]!).toList++G).length:=arr_fit (by first|omega|(simp;omega))
  by_cases hr0:r2<0
  ·simp only[go_sem,seval,opLen,undef,siftB,loopOf,Tryz.f220,Option.getD,Int.toNat_natCast,e0,e2,e3,e4,e10,el,hb,g1,nk,w1,w2,w3,wA,wB,wC,wD,pA,pB,pC,qA,qB,xA,xB,lA,lB,c0,o1,o2,l3,c1]
   refine .of hd2 ?_
   simp only[go_sem,seval,opLen,undef,siftB,loopOf,Tryz.f220,Option.getD,Int.toNat_natCast,e0,e2,e3,e4,e10,el,hb,g1,nk,w1,w2,w3,wA,wB,wC,wD,pA,pB,pC,qA,qB,xA,xB,lA,lB,c0,o1,o2,l3,hr0,c1]
   have hlt2:lt d[first+root]! d[first+(2*root+1)]! = true:=by rw[<-hr2];simp [hr0]
   refine⟨.inl trivial,hi - (2*root+1),by omega,_,Sort.swp d (first+root) (first+(2*root+1)),2*root+1,rfl,⟨by simp only[List.length_set,el],by simp only[go_sem,seval,opLen,el,e0]<;>rfl,by simp only[go_sem,seval,opLen,el,e2],by simp only[go_sem,seval,opLen,el,e3],by simp only[go_sem,seval,opLen,el,e4],by simp only[go_sem,seval,opLen,el]⟩,rfl,by omega,H.swp hA hB _,by rw[swp_size];exact hdn,?_⟩
   rw[<-hD,Sort.siftDown.eq_def lt hi first root d,dif_neg (by omega)]
   rw[if_neg (by simp;omega)]
   rw[if_neg (by simp [hlt2])]
  ·simp only[go_sem,seval,opLen,undef,siftB,loopOf,Tryz.f220,Option.getD,Int.toNat_natCast,e0,e2,e3,e4,e10,el,hb,g1,nk,w1,w2,w3,wA,wB,wC,wD,pA,pB,pC,qA,qB,xA,xB,lA,lB,c0,o1,o2,l3,c1]
   refine .of hd2 ?_
   simp only[go_sem,seval,opLen,undef,siftB,loopOf,Tryz.f220,Option.getD,Int.toNat_natCast,e0,e2,e3,e4,e10,el,hb,g1,nk,w1,w2,w3,wA,wB,wC,wD,pA,pB,pC,qA,qB,xA,xB,lA,lB,c0,o1,o2,l3,hr0,c1]
   have hlt2:lt d[first+root]! d[first+(2*root+1)]! = false:=by rw[<-hr2];simp [hr0]
   have hDd:D=d:=by
    rw[<-hD,Sort.siftDown.eq_def lt hi first root d,dif_neg (by omega)]
    rw[if_neg (by simp;omega)]
    rw[if_pos (by simp [hlt2])]
   exact⟨.inr rfl,rfl,hDd▸H⟩
theorem sift_call(hc:CmpOk U0 k g ys lt p){lo hi first:Nat}{d:Array E}{U:St}(H:SAt U0 k d G p U)(hn:first+hi<=d.size)(hlo:lo<1000000):
  callX Tryz.prog (fE E 220) [sliceS k s d.size cap,.int .i64 lo,.int .i64 hi,.int .i64 first,.func (.func g) ⟨[]⟩ ⟨ys⟩] U λe U' lg=>e=.ret (.tuple ⟨[]⟩)/\SortR U0 k G p (Sort.siftDown lt hi first lo d) U' lg:=by
 refine enterE (E:=E) (p:=q0) Tryz.func220 rfl rfl ?_
 simp only[go_sem,seval,opLen,undef,sliceS,Tryz.f220]
 refine loop_then (sift_loop (s:=s) (n:=d.size) (cap:=cap) (G:=G) hc (hi:=hi) (first:=first) hn (D:=Sort.siftDown lt hi first lo d) _ _ _ ⟨_,d,lo,rfl,⟨rfl,rfl,rfl,rfl,rfl,rfl⟩,rfl,hlo,H,rfl,rfl⟩) ?_
 intro x fr' U' lg hlg hB h
 obtain⟨hx,hds,H'⟩:=h
 obtain⟨ts',ds'⟩:=fr'
 simp only at hds
 subst hds
 rcases hx with rfl|rfl
 ·simp only[go_sem,seval,opLen]
  exact⟨hB,H'⟩
 ·simp only[go_sem,seval,opLen]
  exact⟨hB,H'⟩
end
end Go.Ab
namespace Go.Ab
open Go.Proofs
variable {E:Type} [SE E]
noncomputable def hpB1:Code:=loopOf (nthC 3 (Tryz.f200.body.getD .skip))
noncomputable def hpB2:Code:=loopOf (dropC 4 (Tryz.f200.body.getD .skip))
structure FH(ts:List Value)(dv cv:Value)(first hi:Nat):Prop where
 size:ts.length=60
 t0:lget ts 0=dv
 t3:lget ts 3=cv
 t8:lget ts 8=.int .i64 first
 t9:lget ts 9=.int .i64 0
 t10:lget ts 10=.int .i64 hi
section
variable {U0:St} {k s n cap:Nat} {g:FuncId} {ys:List Value} {lt:E->E->Bool} {p:E->Prop} {G:List Value}
def IH1(U0:St)(k s n cap:Nat)(g:FuncId)(ys:List Value)(lt:E->E->Bool)(p:E->Prop)(G:List Value)(first hi:Nat)(D:Array E)(m:Nat)(fr:Fr)(U:St):Prop:=
 ∃ts d,fr=⟨ts,[]⟩/\FH ts (sliceS k s n cap) (.func (.func g) ⟨[]⟩ ⟨ys⟩) first hi/\lget ts 11=.int .i64 ((m:Int) - 1)/\m<=n+1/\SAt U0 k d G p U/\d.size=n/\Sort.heapBuild lt hi first m d=D
def EH1(U0:St)(k s n cap:Nat)(g:FuncId)(ys:List Value)(p:E->Prop)(G:List Value)(first hi:Nat)(D:Array E)(x:AX)(fr:Fr)(U:St):Prop:=
 x=.exit 0/\∃ts,fr=⟨ts,[]⟩/\FH ts (sliceS k s n cap) (.func (.func g) ⟨[]⟩ ⟨ys⟩) first hi/\SAt U0 k D G p U/\D.size=n
def IH2(U0:St)(k s n cap:Nat)(g:FuncId)(ys:List Value)(lt:E->E->Bool)(p:E->Prop)(G:List Value)(first hi:Nat)(D:Array E)(m:Nat)(fr:Fr)(U:St):Prop:=
 ∃ts d,fr=⟨ts,[]⟩/\FH ts (sliceS k s n cap) (.func (.func g) ⟨[]⟩ ⟨ys⟩) first hi/\lget ts 12=.int .i64 ((m:Int) - 1)/\m<=hi/\SAt U0 k d G p U/\d.size=n/\Sort.heapPop lt first m d=D
def EH2(U0:St)(k:Nat)(p:E->Prop)(G:List Value)(D:Array E)(x:AX)(fr:Fr)(U:St):Prop:=
 x=.exit 2/\fr.ds=[]/\SAt U0 k D G p U
theorem sift_size{hi first:Nat}:∀(m root:Nat) (d:Array E),hi - root<=m->(Sort.siftDown lt hi first root d).size=d.size:=by
 intro m
 induction m with
 |zero=>
  intro root d h
  rw[Sort.siftDown.eq_def,dif_pos (by omega)]
 |succ m ih=>
  intro root d h
  rw[Sort.siftDown.eq_def]
  split
  ·rfl
  ·split
   ·split
    ·rfl
    ·split
     ·rw[ih _ _ (by omega),swp_size]
     ·rfl
   ·split
    ·rfl
    ·rw[ih _ _ (by omega),swp_size]
theorem hp_build(hc:CmpOk U0 k g ys lt p){first hi:Nat}(hn:first+hi<=n)(hsm:n<500000){D:Array E}:∀m fr U,IH1 U0 k s n cap g ys lt p G first hi D m fr U->loopX Tryz.prog false (rE E hpB1) fr U (endL (EH1 U0 k s n cap g ys p G first hi D) λz=>z=k\/U0.next<=z):=by
 refine loop_ind q0 (fE E 200) (st_loopOf (st_nthC (stG Tryz.func200 rfl rfl))) _ _ _ ?_
 rintro m fr U ⟨ts,d,rfl,F,h11,hmn,H,hdn,hD⟩
 have e0:=F.t0
 have e3:=F.t3
 have e8:=F.t8
 have e9:=F.t9
 have e10:=F.t10
 have el:=F.size
 cases m with
 |zero=>
  have c0:¬(0:Int)<=((0:Nat):Int) - 1:=by omega
  simp only[Int.cast_ofNat_Int]at h11 c0
  simp only[go_sem,seval,opLen,undef,hpB1,nthC,loopOf,Tryz.f200,Option.getD,e0,e3,e8,e9,e10,el,h11,c0]
  exact⟨rfl,_,rfl,⟨by simp only[List.length_set,el],by simp only[go_sem,seval,opLen,el,e0],by simp only[go_sem,seval,opLen,el,e3],by simp only[go_sem,seval,opLen,el,e8],by simp only[go_sem,seval,opLen,el,e9],by simp only[go_sem,seval,opLen,el,e10]⟩,hD▸H,hD▸hdn⟩
 |succ i=>
  have ei:((i+1:Nat):Int) - 1=(i:Int):=by omega
  rw[ei]at h11
  have c0:(0:Int)<=(i:Int):=by omega
  have w1:IntKind.i64.wrap ((i:Int) - 1)=(i:Int) - 1:=wrapI (by omega) (by omega)
  simp only[go_sem,seval,opLen,undef,hpB1,nthC,loopOf,Tryz.f200,Option.getD,e0,e3,e8,e9,e10,el,h11,c0,body220]
  refine callX.hid (show callX Tryz.prog (fE E 220) [sliceS k s n cap,.int .i64 i,.int .i64 hi,.int .i64 first,.func (.func g) ⟨[]⟩ ⟨ys⟩] U _ from hdn▸sift_call (s:=s) (cap:=cap) (G:=G) hc (lo:=i) (hi:=hi) (first:=first) H (by omega) (by omega)) ?_
  intro U1 lg1 hlg1 hA
  obtain⟨hB,H1⟩:=hA
  refine⟨?_⟩
  simp only[go_sem,seval,opLen,undef,e0,e3,e8,e9,e10,el,h11,w1]
  refine⟨hB,i,by omega,_,_,rfl,⟨by simp only[List.length_set,el],by simp only[go_sem,seval,opLen,el,e0],by simp only[go_sem,seval,opLen,el,e3],by simp only[go_sem,seval,opLen,el,e8],by simp only[go_sem,seval,opLen,el,e9],by simp only[go_sem,seval,opLen,el,e10]⟩,by simp only[go_sem,seval,opLen,el],by omega,H1,by rw[sift_size _ _ _ (Nat.le_refl _)];exact hdn,hD⟩
theorem hp_pop(hc:CmpOk U0 k g ys lt p){first hi:Nat}(hn:first+hi<=n)(hsm:n<500000){D:Array E}:∀m fr U,IH2 U0 k s n cap g ys lt p G first hi D m fr U->loopX Tryz.prog false (rE E hpB2) fr U (endL (EH2 U0 k p G D) λz=>z=k\/U0.next<=z):=by
 refine loop_ind q0 (fE E 200) (st_loopOf (st_dropC (stG Tryz.func200 rfl rfl))) _ _ _ ?_
 rintro m fr U ⟨ts,d,rfl,F,h12,hmn,H,hdn,hD⟩
 have e0:=F.t0
 have e3:=F.t3
 have e8:=F.t8
 have e9:=F.t9
 have e10:=F.t10
 have el:=F.size
 simp only[sliceS]at e0
 cases m with
 |zero=>
  have c0:¬(0:Int)<=((0:Nat):Int) - 1:=by omega
  simp only[Int.cast_ofNat_Int]at h12 c0
  simp only[go_sem,seval,opLen,undef,hpB2,dropC,loopOf,Tryz.f200,Option.getD,e0,e3,e8,e9,e10,el,h12,c0]
  exact⟨rfl,rfl,hD▸H⟩
 |succ i=>
  have ei:((i+1:Nat):Int) - 1=(i:Int):=by omega
  rw[ei]at h12
  have hA:first<d.size:=by omega
  have hB:first+i<d.size:=by omega
  have c0:(0:Int)<=(i:Int):=by omega
  have c1:(0:Int)<=(first:Int):=by omega
  have c2:(first:Int)<(n:Int):=by omega
  have c3:(0:Int)<=((first+i:Nat):Int):=by omega
  have c4:((first+i:Nat):Int)<(n:Int):=by omega
  have w1:IntKind.i64.wrap ((i:Int) - 1)=(i:Int) - 1:=wrapI (by omega) (by omega)
  have w2:IntKind.i64.wrap ((first:Int)+(i:Int))=((first+i:Nat):Int):=by
   have:(first:Int)+(i:Int)=((first+i:Nat):Int):=by omega
   rw[this];exact wrapIN (by omega)
  have g1:=H.get
  have nk:¬U.next<=k:=by have:=H.lt;have:=H.base.nx;omega
  have x1:=arr_at (d:=d) (G:=G) (i:=first) hA
  have x2:=arr_at (d:=d) (G:=G) (i:=first+i) hB
  have l1:first*wE E+wE E<=(cellsE d.toList++G).length:=arr_fit (by first|omega|(simp;omega))
  have l2:(first+i)*wE E+wE E<=(cellsE d.toList++G).length:=arr_fit (by first|omega|(simp;omega))
  have o1:=arr_over (d:=d) (G:=G) (i:=first) d[first+i]! hA
  have o2:=arr_over (d:=d.setIfInBounds first d[first+i]!) (G:=G) (i:=first+i) d[first]! (by simp;omega)
  have l3:(first+i)*wE E+wE E<=(cellsE (d.setIfInBounds first d[first+i]!).toList++G).length:=arr_fit (by first|omega|(simp;omega))
  simp only[go_sem,seval,opLen,undef,hpB2,dropC,loopOf,Tryz.f200,Option.getD,Int.toNat_natCast,e0,e3,e8,e9,e10,el,h12,c0,c1,c2,c3,c4,w1,w2,g1,nk,x1,x2,l1,l2,l3,o1,o2,body220]
  have H1:=H.swp (i:=first) (j:=first+i) hA hB (.cells (cellsE (d.setIfInBounds first d[first+i]!).toList++G) false)
  have hs1:(Sort.swp d first (first+i)).size=n:=by rw[swp_size];exact hdn
  refine callX.hid (show callX Tryz.prog (fE E 220) [sliceS k s n cap,.int .i64 (0:Nat),.int .i64 i,.int .i64 first,.func (.func g) ⟨[]⟩ ⟨ys⟩] _ _ from hs1▸sift_call (s:=s) (cap:=cap) (G:=G) hc (lo:=0) (hi:=i) (first:=first) H1 (by rw[hs1];omega) (by omega)) ?_
  intro U1 lg1 hlg1 hA
  obtain⟨hB,H2⟩:=hA
  refine⟨?_⟩
  simp only[go_sem,seval,opLen,undef,e0,e3,e8,e9,e10,el,h12,w1]
  exact⟨⟨.inl trivial,.inl trivial,hB⟩,i,by omega,_,_,rfl,⟨by simp only[List.length_set,el],by simp only[go_sem,seval,opLen,el,e0]<;>rfl,by simp only[go_sem,seval,opLen,el,e3],by simp only[go_sem,seval,opLen,el,e8],by simp only[go_sem,seval,opLen,el,e9],by simp only[go_sem,seval,opLen,el,e10]⟩,by simp only[go_sem,seval,opLen,el],by omega,H2,by rw[sift_size _ _ _ (Nat.le_refl _)];exact hs1,hD⟩
theorem heap_call(hc:CmpOk U0 k g ys lt p){a b:Nat}{d:Array E}{U:St}(H:SAt U0 k d G p U)(hab:a<=b)(hbn:b<=d.size)(hsm:d.size<500000):
  callX Tryz.prog (fE E 200) [sliceS k s d.size cap,.int .i64 a,.int .i64 b,.func (.func g) ⟨[]⟩ ⟨ys⟩] U λe U' lg=>e=.ret (.tuple ⟨[]⟩)/\SortR U0 k G p (Sort.heapSort lt d a b) U' lg:=by
 have w1:IntKind.i64.wrap ((b:Int) - (a:Int))=((b - a:Nat):Int):=by
  have:(b:Int) - (a:Int)=((b - a:Nat):Int):=by omega
  rw[this];exact wrapIN (by omega)
 have w2:IntKind.i64.wrap (((b - a:Nat):Int) - 1)=((b - a:Nat):Int) - 1:=wrapI (by omega) (by omega)
 have w3:IntKind.i64.wrap ((((b - a:Nat):Int) - 1).tdiv 2)=(((b - a - 1) / 2+1:Nat):Int) - 1:=by
  have e:(((b - a:Nat):Int) - 1).tdiv 2=(((b - a - 1) / 2+1:Nat):Int) - 1:=by
   by_cases h:b - a=0
   ·rw[h];decide
   ·rw[Int.tdiv_eq_ediv_of_nonneg (by omega)];omega
  rw[e];exact wrapI (by omega) (by omega)
 have nz:¬(2:Int)=0:=by decide
 refine enterE (E:=E) (p:=q0) Tryz.func200 rfl rfl ?_
 simp only[go_sem,seval,opLen,undef,sliceS,Tryz.f200,w1,w2,w3,nz]
 refine loop_then (hp_build (s:=s) (n:=d.size) (cap:=cap) (G:=G) hc (first:=a) (hi:=b - a) (by omega) hsm (D:=Sort.heapBuild lt (b - a) a ((b - a - 1) / 2+1) d) ((b - a - 1) / 2+1) _ _ ⟨_,d,rfl,⟨rfl,rfl,rfl,rfl,rfl,rfl⟩,rfl,by omega,H,rfl,rfl⟩) ?_
 intro x fr' U1 lg1 hlg1 hB1 h
 obtain⟨rfl,ts,rfl,F,H1,hs1⟩:=h
 have e0:=F.t0
 have e3:=F.t3
 have e8:=F.t8
 have e9:=F.t9
 have e10:=F.t10
 have el:=F.size
 simp only[go_sem,seval,opLen,undef,e0,e3,e8,e9,e10,el,w2]
 refine loop_then (hp_pop (s:=s) (n:=d.size) (cap:=cap) (G:=G) hc (first:=a) (hi:=b - a) (by omega) hsm (D:=Sort.heapSort lt d a b) (b - a) _ _ ⟨_,_,rfl,⟨by simp only[List.length_set,el],by simp only[go_sem,seval,opLen,el,e0],by simp only[go_sem,seval,opLen,el,e3],by simp only[go_sem,seval,opLen,el,e8],by simp only[go_sem,seval,opLen,el,e9],by simp only[go_sem,seval,opLen,el,e10]⟩,by simp only[go_sem,seval,opLen,el],Nat.le_refl _,H1,hs1,rfl⟩) ?_
 intro x fr' U2 lg2 hlg2 hB2 h
 obtain⟨rfl,hds,H2⟩:=h
 obtain⟨ts',ds'⟩:=fr'
 simp only at hds
 subst hds
 simp only[go_sem,seval,opLen]
 exact⟨λz hz=>(List.mem_append.1 hz).elim (hB1 z) (hB2 z),H2⟩
end
end Go.Ab
namespace Go.Ab
open Go.Proofs
variable {E:Type} [SE E]
structure FP(sz ti tj:Nat)(ts:List Value)(dv cv:Value)(a i j:Nat):Prop where
 size:ts.length=sz
 t0:lget ts 0=dv
 t1:lget ts 1=.int .i64 a
 t4:lget ts 4=cv
 ti:lget ts ti=.int .i64 i
 tj:lget ts tj=.int .i64 j
def IScan(sz ti tj:Nat)(dv cv:Value)(a:Nat)(Us:St)(Q:Nat->Nat->Nat->Prop)(m:Nat)(fr:Fr)(U:St):Prop:=
 ∃ts,∃i j:Nat,fr=⟨ts,[]⟩/\FP sz ti tj ts dv cv a i j/\U=Us/\Q m i j
def EScan(ex sz ti tj:Nat)(dv cv:Value)(a:Nat)(Us:St)(i j:Nat)(x:AX)(fr:Fr)(U:St):Prop:=
 x=.exit ex/\U=Us/\∃ts,fr=⟨ts,[]⟩/\FP sz ti tj ts dv cv a i j
section
variable {U0:St} {k s cap:Nat} {g:FuncId} {ys:List Value} {lt:E->E->Bool} {p:E->Prop} {G:List Value}
noncomputable def pu1B:Code:=loopOf (nthC 3 (Tryz.f206.body.getD .skip))
theorem pu1(hc:CmpOk U0 k g ys lt p){d:Array E}{Us:St}(H:SAt U0 k d G p Us){a j I:Nat}(ha:a<d.size)(hj:j<d.size):
  ∀m fr U,IScan 178 12 13 (sliceS k s d.size cap) (.func (.func g) ⟨[]⟩ ⟨ys⟩) a Us (λm i' j'=>j'=j/\m=j+1 - i'/\Sort.scanUp (λx=>lt x d[a]!) d j i'=I) m fr U->
   loopX Tryz.prog false (rE E pu1B) fr U (endL (EScan 0 178 12 13 (sliceS k s d.size cap) (.func (.func g) ⟨[]⟩ ⟨ys⟩) a Us I j) λ_=>False):=by
 refine loop_ind q0 (fE E 206) (st_loopOf (st_nthC (stG Tryz.func206 rfl rfl))) _ _ _ ?_
 rintro m fr U ⟨ts,i,j,rfl,F,rfl,hQ⟩
 obtain⟨rfl,hm,hI⟩:=hQ
 have e0:=F.t0
 have e1:=F.t1
 have e4:=F.t4
 have ei:=F.ti
 have ej:=F.tj
 have el:=F.size
 have hsm:=H.small
 simp only[sliceS]at e0
 by_cases hij:i<=j
 ·have c0:(i:Int)<=(j:Int):=by omega
  obtain⟨r,hd,hr⟩:=hc.call U H.base d[i]! d[a]! (H.all _ (by omega)) (H.all _ ha)
  have hb:=hc.body
  have g1:=H.get
  have x1:=arr_at (d:=d) (G:=G) (i:=i) (by omega)
  have x2:=arr_at (d:=d) (G:=G) (i:=a) ha
  have l1:i*wE E+wE E<=(cellsE d.toList++G).length:=arr_fit (by first|omega|(simp;omega))
  have l2:a*wE E+wE E<=(cellsE d.toList++G).length:=arr_fit (by first|omega|(simp;omega))
  have c1:(0:Int)<=(i:Int):=by omega
  have c2:(i:Int)<(d.size:Int):=by omega
  have c3:(0:Int)<=(a:Int):=by omega
  have c4:(a:Int)<(d.size:Int):=by omega
  have w1:IntKind.i64.wrap ((i:Int)+1)=((i+1:Nat):Int):=by
   have:(i:Int)+1=((i+1:Nat):Int):=by omega
   rw[this];exact wrapIN (by omega)
  have nk:¬U.next<=k:=by have:=H.lt;have:=H.base.nx;omega
  by_cases hr0:r<0
  ·simp only[go_sem,seval,opLen,undef,pu1B,blockOf,nthC,dropC,loopOf,Tryz.f206,Option.getD,Int.toNat_natCast,e0,e1,e4,ei,ej,el,g1,hb,x1,x2,l1,l2,c0,c1,c2,c3,c4,w1,nk]
   refine .of hd ?_
   simp only[go_sem,seval,opLen,undef,pu1B,blockOf,nthC,dropC,loopOf,Tryz.f206,Option.getD,Int.toNat_natCast,e0,e1,e4,ei,ej,el,g1,hb,x1,x2,l1,l2,c0,c1,c2,c3,c4,w1,nk,hr0]
   have hlt:lt d[i]! d[a]! = true:=by rw[<-hr];simp [hr0]
   refine⟨j+1 - (i+1),by omega,_,i+1,j,rfl,⟨by simp only[List.length_set,el],by simp only[go_sem,seval,opLen,el,e0]<;>rfl,by simp only[go_sem,seval,opLen,el,e1],by simp only[go_sem,seval,opLen,el,e4],by simp only[go_sem,seval,opLen,el],by simp only[go_sem,seval,opLen,el,ej]⟩,rfl,rfl,rfl,?_⟩
   rw[<-hI,Sort.scanUp.eq_def (λx=>lt x d[a]!) d j i,if_pos (by simp [hlt,hij])]
  ·simp only[go_sem,seval,opLen,undef,pu1B,blockOf,nthC,dropC,loopOf,Tryz.f206,Option.getD,Int.toNat_natCast,e0,e1,e4,ei,ej,el,g1,hb,x1,x2,l1,l2,c0,c1,c2,c3,c4,w1,nk]
   refine .of hd ?_
   simp only[go_sem,seval,opLen,undef,pu1B,blockOf,nthC,dropC,loopOf,Tryz.f206,Option.getD,Int.toNat_natCast,e0,e1,e4,ei,ej,el,g1,hb,x1,x2,l1,l2,c0,c1,c2,c3,c4,w1,nk,hr0]
   have hlt:lt d[i]! d[a]! = false:=by rw[<-hr];simp [hr0]
   have hIi:I=i:=by rw[<-hI,Sort.scanUp.eq_def (λx=>lt x d[a]!) d j i,if_neg (by simp [hlt])]
   subst hIi
   exact⟨rfl,rfl,_,rfl,⟨by simp only[List.length_set,el],by simp only[go_sem,seval,opLen,el,e0]<;>rfl,by simp only[go_sem,seval,opLen,el,e1],by simp only[go_sem,seval,opLen,el,e4],by simp only[go_sem,seval,opLen,el,ei],by simp only[go_sem,seval,opLen,el,ej]⟩⟩
 ·have c0:¬(i:Int)<=(j:Int):=by omega
  simp only[go_sem,seval,opLen,undef,pu1B,blockOf,nthC,dropC,loopOf,Tryz.f206,Option.getD,Int.toNat_natCast,e0,e1,e4,ei,ej,el,c0]
  have hIi:I=i:=by rw[<-hI,Sort.scanUp.eq_def (λx=>lt x d[a]!) d j i,if_neg (by simp;intro h;omega)]
  subst hIi
  exact⟨rfl,rfl,_,rfl,⟨by simp only[List.length_set,el],by simp only[go_sem,seval,opLen,el,e0]<;>rfl,by simp only[go_sem,seval,opLen,el,e1],by simp only[go_sem,seval,opLen,el,e4],by simp only[go_sem,seval,opLen,el,ei],by simp only[go_sem,seval,opLen,el,ej]⟩⟩
noncomputable def pd1B:Code:=loopOf (nthC 4 (Tryz.f206.body.getD .skip))
theorem pd1(hc:CmpOk U0 k g ys lt p){d:Array E}{Us:St}(H:SAt U0 k d G p Us){a i I:Nat}(ha:a<d.size)(hi0:0<i):
  ∀m fr U,IScan 178 12 13 (sliceS k s d.size cap) (.func (.func g) ⟨[]⟩ ⟨ys⟩) a Us (λm i' j'=>i'=i/\m=j'/\j'<d.size/\Sort.scanDown (λx=>!lt x d[a]!) d i j'=I) m fr U->
   loopX Tryz.prog false (rE E pd1B) fr U (endL (EScan 2 178 12 13 (sliceS k s d.size cap) (.func (.func g) ⟨[]⟩ ⟨ys⟩) a Us i I) λ_=>False):=by
 refine loop_ind q0 (fE E 206) (st_loopOf (st_nthC (stG Tryz.func206 rfl rfl))) _ _ _ ?_
 rintro m fr U ⟨ts,i,j,rfl,F,rfl,hQ⟩
 obtain⟨rfl,hm,hjn,hI⟩:=hQ
 have e0:=F.t0
 have e1:=F.t1
 have e4:=F.t4
 have ei:=F.ti
 have ej:=F.tj
 have el:=F.size
 have hsm:=H.small
 simp only[sliceS]at e0
 by_cases hij:i<=j
 ·have c0:(i:Int)<=(j:Int):=by omega
  obtain⟨r,hd,hr⟩:=hc.call U H.base d[j]! d[a]! (H.all _ (by omega)) (H.all _ ha)
  have hb:=hc.body
  have g1:=H.get
  have x1:=arr_at (d:=d) (G:=G) (i:=j) (by omega)
  have x2:=arr_at (d:=d) (G:=G) (i:=a) ha
  have l1:j*wE E+wE E<=(cellsE d.toList++G).length:=arr_fit (by first|omega|(simp;omega))
  have l2:a*wE E+wE E<=(cellsE d.toList++G).length:=arr_fit (by first|omega|(simp;omega))
  have c1:(0:Int)<=(j:Int):=by omega
  have c2:(j:Int)<(d.size:Int):=by omega
  have c3:(0:Int)<=(a:Int):=by omega
  have c4:(a:Int)<(d.size:Int):=by omega
  have w1:IntKind.i64.wrap ((j:Int) - 1)=((j - 1:Nat):Int):=by
   have:(j:Int) - 1=((j - 1:Nat):Int):=by omega
   rw[this];exact wrapIN (by omega)
  have nk:¬U.next<=k:=by have:=H.lt;have:=H.base.nx;omega
  by_cases hr0:r<0
  ·simp only[go_sem,seval,opLen,undef,pd1B,blockOf,nthC,dropC,loopOf,Tryz.f206,Option.getD,Int.toNat_natCast,e0,e1,e4,ei,ej,el,g1,hb,x1,x2,l1,l2,c0,c1,c2,c3,c4,w1,nk]
   refine .of hd ?_
   simp only[go_sem,seval,opLen,undef,pd1B,blockOf,nthC,dropC,loopOf,Tryz.f206,Option.getD,Int.toNat_natCast,e0,e1,e4,ei,ej,el,g1,hb,x1,x2,l1,l2,c0,c1,c2,c3,c4,w1,nk,hr0]
   have hlt:lt d[j]! d[a]! = true:=by rw[<-hr];simp [hr0]
   have hIj:I=j:=by
    rw[<-hI]
    cases j with
    |zero=>rfl
    |succ j'=>
     simp only[Sort.scanDown]
     rw[if_neg (by simp [hlt])]
   subst hIj
   exact⟨rfl,rfl,_,rfl,⟨by simp only[List.length_set,el],by simp only[go_sem,seval,opLen,el,e0]<;>rfl,by simp only[go_sem,seval,opLen,el,e1],by simp only[go_sem,seval,opLen,el,e4],by simp only[go_sem,seval,opLen,el,ei],by simp only[go_sem,seval,opLen,el,ej]⟩⟩
  ·simp only[go_sem,seval,opLen,undef,pd1B,blockOf,nthC,dropC,loopOf,Tryz.f206,Option.getD,Int.toNat_natCast,e0,e1,e4,ei,ej,el,g1,hb,x1,x2,l1,l2,c0,c1,c2,c3,c4,w1,nk]
   refine .of hd ?_
   simp only[go_sem,seval,opLen,undef,pd1B,blockOf,nthC,dropC,loopOf,Tryz.f206,Option.getD,Int.toNat_natCast,e0,e1,e4,ei,ej,el,g1,hb,x1,x2,l1,l2,c0,c1,c2,c3,c4,w1,nk,hr0]
   have hlt:lt d[j]! d[a]! = false:=by rw[<-hr];simp [hr0]
   obtain⟨j',rfl⟩:∃j',j=j'+1:=⟨j - 1,by omega⟩
   refine⟨j',by omega,_,i,j',rfl,⟨by simp only[List.length_set,el],by simp only[go_sem,seval,opLen,el,e0]<;>rfl,by simp only[go_sem,seval,opLen,el,e1],by simp only[go_sem,seval,opLen,el,e4],by simp only[go_sem,seval,opLen,el,ei],by simp only[go_sem,seval,opLen,el]<;>rfl⟩,rfl,rfl,rfl,by omega,?_⟩
   rw[<-hI]
   simp only[Sort.scanDown]
   rw[if_pos (by simp [hlt,hij])]
 ·have c0:¬(i:Int)<=(j:Int):=by omega
  simp only[go_sem,seval,opLen,undef,pd1B,blockOf,nthC,dropC,loopOf,Tryz.f206,Option.getD,Int.toNat_natCast,e0,e1,e4,ei,ej,el,c0]
  have hIj:I=j:=by
   rw[<-hI]
   cases j with
   |zero=>rfl
   |succ j'=>
    simp only[Sort.scanDown]
    rw[if_neg (by simp;intro h;omega)]
  subst hIj
  exact⟨rfl,rfl,_,rfl,⟨by simp only[List.length_set,el],by simp only[go_sem,seval,opLen,el,e0]<;>rfl,by simp only[go_sem,seval,opLen,el,e1],by simp only[go_sem,seval,opLen,el,e4],by simp only[go_sem,seval,opLen,el,ei],by simp only[go_sem,seval,opLen,el,ej]⟩⟩
noncomputable def pu2B:Code:=loopOf (nthC 0 (blockOf (loopOf (nthC 9 (Tryz.f206.body.getD .skip)))))
theorem pu2(hc:CmpOk U0 k g ys lt p){d:Array E}{Us:St}(H:SAt U0 k d G p Us){a j I:Nat}(ha:a<d.size)(hj:j<d.size):
  ∀m fr U,IScan 178 12 13 (sliceS k s d.size cap) (.func (.func g) ⟨[]⟩ ⟨ys⟩) a Us (λm i' j'=>j'=j/\m=j+1 - i'/\Sort.scanUp (λx=>lt x d[a]!) d j i'=I) m fr U->
   loopX Tryz.prog false (rE E pu2B) fr U (endL (EScan 6 178 12 13 (sliceS k s d.size cap) (.func (.func g) ⟨[]⟩ ⟨ys⟩) a Us I j) λ_=>False):=by
 refine loop_ind q0 (fE E 206) (st_loopOf (st_nthC (st_blockOf (st_loopOf (st_nthC (stG Tryz.func206 rfl rfl)))))) _ _ _ ?_
 rintro m fr U ⟨ts,i,j,rfl,F,rfl,hQ⟩
 obtain⟨rfl,hm,hI⟩:=hQ
 have e0:=F.t0
 have e1:=F.t1
 have e4:=F.t4
 have ei:=F.ti
 have ej:=F.tj
 have el:=F.size
 have hsm:=H.small
 simp only[sliceS]at e0
 by_cases hij:i<=j
 ·have c0:(i:Int)<=(j:Int):=by omega
  obtain⟨r,hd,hr⟩:=hc.call U H.base d[i]! d[a]! (H.all _ (by omega)) (H.all _ ha)
  have hb:=hc.body
  have g1:=H.get
  have x1:=arr_at (d:=d) (G:=G) (i:=i) (by omega)
  have x2:=arr_at (d:=d) (G:=G) (i:=a) ha
  have l1:i*wE E+wE E<=(cellsE d.toList++G).length:=arr_fit (by first|omega|(simp;omega))
  have l2:a*wE E+wE E<=(cellsE d.toList++G).length:=arr_fit (by first|omega|(simp;omega))
  have c1:(0:Int)<=(i:Int):=by omega
  have c2:(i:Int)<(d.size:Int):=by omega
  have c3:(0:Int)<=(a:Int):=by omega
  have c4:(a:Int)<(d.size:Int):=by omega
  have w1:IntKind.i64.wrap ((i:Int)+1)=((i+1:Nat):Int):=by
   have:(i:Int)+1=((i+1:Nat):Int):=by omega
   rw[this];exact wrapIN (by omega)
  have nk:¬U.next<=k:=by have:=H.lt;have:=H.base.nx;omega
  by_cases hr0:r<0
  ·simp only[go_sem,seval,opLen,undef,pu2B,blockOf,nthC,dropC,loopOf,Tryz.f206,Option.getD,Int.toNat_natCast,e0,e1,e4,ei,ej,el,g1,hb,x1,x2,l1,l2,c0,c1,c2,c3,c4,w1,nk]
   refine .of hd ?_
   simp only[go_sem,seval,opLen,undef,pu2B,blockOf,nthC,dropC,loopOf,Tryz.f206,Option.getD,Int.toNat_natCast,e0,e1,e4,ei,ej,el,g1,hb,x1,x2,l1,l2,c0,c1,c2,c3,c4,w1,nk,hr0]
   have hlt:lt d[i]! d[a]! = true:=by rw[<-hr];simp [hr0]
   refine⟨j+1 - (i+1),by omega,_,i+1,j,rfl,⟨by simp only[List.length_set,el],by simp only[go_sem,seval,opLen,el,e0]<;>rfl,by simp only[go_sem,seval,opLen,el,e1],by simp only[go_sem,seval,opLen,el,e4],by simp only[go_sem,seval,opLen,el],by simp only[go_sem,seval,opLen,el,ej]⟩,rfl,rfl,rfl,?_⟩
   rw[<-hI,Sort.scanUp.eq_def (λx=>lt x d[a]!) d j i,if_pos (by simp [hlt,hij])]
  ·simp only[go_sem,seval,opLen,undef,pu2B,blockOf,nthC,dropC,loopOf,Tryz.f206,Option.getD,Int.toNat_natCast,e0,e1,e4,ei,ej,el,g1,hb,x1,x2,l1,l2,c0,c1,c2,c3,c4,w1,nk]
   refine .of hd ?_
   simp only[go_sem,seval,opLen,undef,pu2B,blockOf,nthC,dropC,loopOf,Tryz.f206,Option.getD,Int.toNat_natCast,e0,e1,e4,ei,ej,el,g1,hb,x1,x2,l1,l2,c0,c1,c2,c3,c4,w1,nk,hr0]
   have hlt:lt d[i]! d[a]! = false:=by rw[<-hr];simp [hr0]
   have hIi:I=i:=by rw[<-hI,Sort.scanUp.eq_def (λx=>lt x d[a]!) d j i,if_neg (by simp [hlt])]
   subst hIi
   exact⟨rfl,rfl,_,rfl,⟨by simp only[List.length_set,el],by simp only[go_sem,seval,opLen,el,e0]<;>rfl,by simp only[go_sem,seval,opLen,el,e1],by simp only[go_sem,seval,opLen,el,e4],by simp only[go_sem,seval,opLen,el,ei],by simp only[go_sem,seval,opLen,el,ej]⟩⟩
 ·have c0:¬(i:Int)<=(j:Int):=by omega
  simp only[go_sem,seval,opLen,undef,pu2B,blockOf,nthC,dropC,loopOf,Tryz.f206,Option.getD,Int.toNat_natCast,e0,e1,e4,ei,ej,el,c0]
  have hIi:I=i:=by rw[<-hI,Sort.scanUp.eq_def (λx=>lt x d[a]!) d j i,if_neg (by simp;intro h;omega)]
  subst hIi
  exact⟨rfl,rfl,_,rfl,⟨by simp only[List.length_set,el],by simp only[go_sem,seval,opLen,el,e0]<;>rfl,by simp only[go_sem,seval,opLen,el,e1],by simp only[go_sem,seval,opLen,el,e4],by simp only[go_sem,seval,opLen,el,ei],by simp only[go_sem,seval,opLen,el,ej]⟩⟩
noncomputable def pd2B:Code:=loopOf (nthC 1 (blockOf (loopOf (nthC 9 (Tryz.f206.body.getD .skip)))))
theorem pd2(hc:CmpOk U0 k g ys lt p){d:Array E}{Us:St}(H:SAt U0 k d G p Us){a i I:Nat}(ha:a<d.size)(hi0:0<i):
  ∀m fr U,IScan 178 12 13 (sliceS k s d.size cap) (.func (.func g) ⟨[]⟩ ⟨ys⟩) a Us (λm i' j'=>i'=i/\m=j'/\j'<d.size/\Sort.scanDown (λx=>!lt x d[a]!) d i j'=I) m fr U->
   loopX Tryz.prog false (rE E pd2B) fr U (endL (EScan 8 178 12 13 (sliceS k s d.size cap) (.func (.func g) ⟨[]⟩ ⟨ys⟩) a Us i I) λ_=>False):=by
 refine loop_ind q0 (fE E 206) (st_loopOf (st_nthC (st_blockOf (st_loopOf (st_nthC (stG Tryz.func206 rfl rfl)))))) _ _ _ ?_
 rintro m fr U ⟨ts,i,j,rfl,F,rfl,hQ⟩
 obtain⟨rfl,hm,hjn,hI⟩:=hQ
 have e0:=F.t0
 have e1:=F.t1
 have e4:=F.t4
 have ei:=F.ti
 have ej:=F.tj
 have el:=F.size
 have hsm:=H.small
 simp only[sliceS]at e0
 by_cases hij:i<=j
 ·have c0:(i:Int)<=(j:Int):=by omega
  obtain⟨r,hd,hr⟩:=hc.call U H.base d[j]! d[a]! (H.all _ (by omega)) (H.all _ ha)
  have hb:=hc.body
  have g1:=H.get
  have x1:=arr_at (d:=d) (G:=G) (i:=j) (by omega)
  have x2:=arr_at (d:=d) (G:=G) (i:=a) ha
  have l1:j*wE E+wE E<=(cellsE d.toList++G).length:=arr_fit (by first|omega|(simp;omega))
  have l2:a*wE E+wE E<=(cellsE d.toList++G).length:=arr_fit (by first|omega|(simp;omega))
  have c1:(0:Int)<=(j:Int):=by omega
  have c2:(j:Int)<(d.size:Int):=by omega
  have c3:(0:Int)<=(a:Int):=by omega
  have c4:(a:Int)<(d.size:Int):=by omega
  have w1:IntKind.i64.wrap ((j:Int) - 1)=((j - 1:Nat):Int):=by
   have:(j:Int) - 1=((j - 1:Nat):Int):=by omega
   rw[this];exact wrapIN (by omega)
  have nk:¬U.next<=k:=by have:=H.lt;have:=H.base.nx;omega
  by_cases hr0:r<0
  ·simp only[go_sem,seval,opLen,undef,pd2B,blockOf,nthC,dropC,loopOf,Tryz.f206,Option.getD,Int.toNat_natCast,e0,e1,e4,ei,ej,el,g1,hb,x1,x2,l1,l2,c0,c1,c2,c3,c4,w1,nk]
   refine .of hd ?_
   simp only[go_sem,seval,opLen,undef,pd2B,blockOf,nthC,dropC,loopOf,Tryz.f206,Option.getD,Int.toNat_natCast,e0,e1,e4,ei,ej,el,g1,hb,x1,x2,l1,l2,c0,c1,c2,c3,c4,w1,nk,hr0]
   have hlt:lt d[j]! d[a]! = true:=by rw[<-hr];simp [hr0]
   have hIj:I=j:=by
    rw[<-hI]
    cases j with
    |zero=>rfl
    |succ j'=>
     simp only[Sort.scanDown]
     rw[if_neg (by simp [hlt])]
   subst hIj
   exact⟨rfl,rfl,_,rfl,⟨by simp only[List.length_set,el],by simp only[go_sem,seval,opLen,el,e0]<;>rfl,by simp only[go_sem,seval,opLen,el,e1],by simp only[go_sem,seval,opLen,el,e4],by simp only[go_sem,seval,opLen,el,ei],by simp only[go_sem,seval,opLen,el,ej]⟩⟩
  ·simp only[go_sem,seval,opLen,undef,pd2B,blockOf,nthC,dropC,loopOf,Tryz.f206,Option.getD,Int.toNat_natCast,e0,e1,e4,ei,ej,el,g1,hb,x1,x2,l1,l2,c0,c1,c2,c3,c4,w1,nk]
   refine .of hd ?_
   simp only[go_sem,seval,opLen,undef,pd2B,blockOf,nthC,dropC,loopOf,Tryz.f206,Option.getD,Int.toNat_natCast,e0,e1,e4,ei,ej,el,g1,hb,x1,x2,l1,l2,c0,c1,c2,c3,c4,w1,nk,hr0]
   have hlt:lt d[j]! d[a]! = false:=by rw[<-hr];simp [hr0]
   obtain⟨j',rfl⟩:∃j',j=j'+1:=⟨j - 1,by omega⟩
   refine⟨j',by omega,_,i,j',rfl,⟨by simp only[List.length_set,el],by simp only[go_sem,seval,opLen,el,e0]<;>rfl,by simp only[go_sem,seval,opLen,el,e1],by simp only[go_sem,seval,opLen,el,e4],by simp only[go_sem,seval,opLen,el,ei],by simp only[go_sem,seval,opLen,el]<;>rfl⟩,rfl,rfl,rfl,by omega,?_⟩
   rw[<-hI]
   simp only[Sort.scanDown]
   rw[if_pos (by simp [hlt,hij])]
 ·have c0:¬(i:Int)<=(j:Int):=by omega
  simp only[go_sem,seval,opLen,undef,pd2B,blockOf,nthC,dropC,loopOf,Tryz.f206,Option.getD,Int.toNat_natCast,e0,e1,e4,ei,ej,el,c0]
  have hIj:I=j:=by
   rw[<-hI]
   cases j with
   |zero=>rfl
   |succ j'=>
    simp only[Sort.scanDown]
    rw[if_neg (by simp;intro h;omega)]
  subst hIj
  exact⟨rfl,rfl,_,rfl,⟨by simp only[List.length_set,el],by simp only[go_sem,seval,opLen,el,e0]<;>rfl,by simp only[go_sem,seval,opLen,el,e1],by simp only[go_sem,seval,opLen,el,e4],by simp only[go_sem,seval,opLen,el,ei],by simp only[go_sem,seval,opLen,el,ej]⟩⟩
noncomputable def euB:Code:=loopOf (nthC 0 (blockOf (loopOf (nthC 3 (Tryz.f205.body.getD .skip)))))
theorem eu(hc:CmpOk U0 k g ys lt p){d:Array E}{Us:St}(H:SAt U0 k d G p Us){a j I:Nat}(ha:a<d.size)(hj:j<d.size):
  ∀m fr U,IScan 90 11 12 (sliceS k s d.size cap) (.func (.func g) ⟨[]⟩ ⟨ys⟩) a Us (λm i' j'=>j'=j/\m=j+1 - i'/\Sort.scanUp (λx=>!lt d[a]! x) d j i'=I) m fr U->
   loopX Tryz.prog false (rE E euB) fr U (endL (EScan 2 90 11 12 (sliceS k s d.size cap) (.func (.func g) ⟨[]⟩ ⟨ys⟩) a Us I j) λ_=>False):=by
 refine loop_ind q0 (fE E 205) (st_loopOf (st_nthC (st_blockOf (st_loopOf (st_nthC (stG Tryz.func205 rfl rfl)))))) _ _ _ ?_
 rintro m fr U ⟨ts,i,j,rfl,F,rfl,hQ⟩
 obtain⟨rfl,hm,hI⟩:=hQ
 have e0:=F.t0
 have e1:=F.t1
 have e4:=F.t4
 have ei:=F.ti
 have ej:=F.tj
 have el:=F.size
 have hsm:=H.small
 simp only[sliceS]at e0
 by_cases hij:i<=j
 ·have c0:(i:Int)<=(j:Int):=by omega
  obtain⟨r,hd,hr⟩:=hc.call U H.base d[a]! d[i]! (H.all _ ha) (H.all _ (by omega))
  have hb:=hc.body
  have g1:=H.get
  have x1:=arr_at (d:=d) (G:=G) (i:=i) (by omega)
  have x2:=arr_at (d:=d) (G:=G) (i:=a) ha
  have l1:i*wE E+wE E<=(cellsE d.toList++G).length:=arr_fit (by first|omega|(simp;omega))
  have l2:a*wE E+wE E<=(cellsE d.toList++G).length:=arr_fit (by first|omega|(simp;omega))
  have c1:(0:Int)<=(i:Int):=by omega
  have c2:(i:Int)<(d.size:Int):=by omega
  have c3:(0:Int)<=(a:Int):=by omega
  have c4:(a:Int)<(d.size:Int):=by omega
  have w1:IntKind.i64.wrap ((i:Int)+1)=((i+1:Nat):Int):=by
   have:(i:Int)+1=((i+1:Nat):Int):=by omega
   rw[this];exact wrapIN (by omega)
  have nk:¬U.next<=k:=by have:=H.lt;have:=H.base.nx;omega
  by_cases hr0:r<0
  ·simp only[go_sem,seval,opLen,undef,euB,blockOf,nthC,dropC,loopOf,Tryz.f205,Option.getD,Int.toNat_natCast,e0,e1,e4,ei,ej,el,g1,hb,x1,x2,l1,l2,c0,c1,c2,c3,c4,w1,nk]
   refine .of hd ?_
   simp only[go_sem,seval,opLen,undef,euB,blockOf,nthC,dropC,loopOf,Tryz.f205,Option.getD,Int.toNat_natCast,e0,e1,e4,ei,ej,el,g1,hb,x1,x2,l1,l2,c0,c1,c2,c3,c4,w1,nk,hr0]
   have hlt:lt d[a]! d[i]! = true:=by rw[<-hr];simp [hr0]
   have hIi:I=i:=by rw[<-hI,Sort.scanUp.eq_def (λx=>!lt d[a]! x) d j i,if_neg (by simp [hlt])]
   subst hIi
   exact⟨rfl,rfl,_,rfl,⟨by simp only[List.length_set,el],by simp only[go_sem,seval,opLen,el,e0]<;>rfl,by simp only[go_sem,seval,opLen,el,e1],by simp only[go_sem,seval,opLen,el,e4],by simp only[go_sem,seval,opLen,el,ei],by simp only[go_sem,seval,opLen,el,ej]⟩⟩
  ·simp only[go_sem,seval,opLen,undef,euB,blockOf,nthC,dropC,loopOf,Tryz.f205,Option.getD,Int.toNat_natCast,e0,e1,e4,ei,ej,el,g1,hb,x1,x2,l1,l2,c0,c1,c2,c3,c4,w1,nk]
   refine .of hd ?_
   simp only[go_sem,seval,opLen,undef,euB,blockOf,nthC,dropC,loopOf,Tryz.f205,Option.getD,Int.toNat_natCast,e0,e1,e4,ei,ej,el,g1,hb,x1,x2,l1,l2,c0,c1,c2,c3,c4,w1,nk,hr0]
   have hlt:lt d[a]! d[i]! = false:=by rw[<-hr];simp [hr0]
   refine⟨j+1 - (i+1),by omega,_,i+1,j,rfl,⟨by simp only[List.length_set,el],by simp only[go_sem,seval,opLen,el,e0]<;>rfl,by simp only[go_sem,seval,opLen,el,e1],by simp only[go_sem,seval,opLen,el,e4],by simp only[go_sem,seval,opLen,el],by simp only[go_sem,seval,opLen,el,ej]⟩,rfl,rfl,rfl,?_⟩
   rw[<-hI,Sort.scanUp.eq_def (λx=>!lt d[a]! x) d j i,if_pos (by simp [hlt,hij])]
 ·have c0:¬(i:Int)<=(j:Int):=by omega
  simp only[go_sem,seval,opLen,undef,euB,blockOf,nthC,dropC,loopOf,Tryz.f205,Option.getD,Int.toNat_natCast,e0,e1,e4,ei,ej,el,c0]
  have hIi:I=i:=by rw[<-hI,Sort.scanUp.eq_def (λx=>!lt d[a]! x) d j i,if_neg (by simp;intro h;omega)]
  subst hIi
  exact⟨rfl,rfl,_,rfl,⟨by simp only[List.length_set,el],by simp only[go_sem,seval,opLen,el,e0]<;>rfl,by simp only[go_sem,seval,opLen,el,e1],by simp only[go_sem,seval,opLen,el,e4],by simp only[go_sem,seval,opLen,el,ei],by simp only[go_sem,seval,opLen,el,ej]⟩⟩
noncomputable def edB:Code:=loopOf (nthC 1 (blockOf (loopOf (nthC 3 (Tryz.f205.body.getD .skip)))))
theorem ed(hc:CmpOk U0 k g ys lt p){d:Array E}{Us:St}(H:SAt U0 k d G p Us){a i I:Nat}(ha:a<d.size)(hi0:0<i):
  ∀m fr U,IScan 90 11 12 (sliceS k s d.size cap) (.func (.func g) ⟨[]⟩ ⟨ys⟩) a Us (λm i' j'=>i'=i/\m=j'/\j'<d.size/\Sort.scanDown (λx=>lt d[a]! x) d i j'=I) m fr U->
   loopX Tryz.prog false (rE E edB) fr U (endL (EScan 4 90 11 12 (sliceS k s d.size cap) (.func (.func g) ⟨[]⟩ ⟨ys⟩) a Us i I) λ_=>False):=by
 refine loop_ind q0 (fE E 205) (st_loopOf (st_nthC (st_blockOf (st_loopOf (st_nthC (stG Tryz.func205 rfl rfl)))))) _ _ _ ?_
 rintro m fr U ⟨ts,i,j,rfl,F,rfl,hQ⟩
 obtain⟨rfl,hm,hjn,hI⟩:=hQ
 have e0:=F.t0
 have e1:=F.t1
 have e4:=F.t4
 have ei:=F.ti
 have ej:=F.tj
 have el:=F.size
 have hsm:=H.small
 simp only[sliceS]at e0
 by_cases hij:i<=j
 ·have c0:(i:Int)<=(j:Int):=by omega
  obtain⟨r,hd,hr⟩:=hc.call U H.base d[a]! d[j]! (H.all _ ha) (H.all _ (by omega))
  have hb:=hc.body
  have g1:=H.get
  have x1:=arr_at (d:=d) (G:=G) (i:=j) (by omega)
  have x2:=arr_at (d:=d) (G:=G) (i:=a) ha
  have l1:j*wE E+wE E<=(cellsE d.toList++G).length:=arr_fit (by first|omega|(simp;omega))
  have l2:a*wE E+wE E<=(cellsE d.toList++G).length:=arr_fit (by first|omega|(simp;omega))
  have c1:(0:Int)<=(j:Int):=by omega
  have c2:(j:Int)<(d.size:Int):=by omega
  have c3:(0:Int)<=(a:Int):=by omega
  have c4:(a:Int)<(d.size:Int):=by omega
  have w1:IntKind.i64.wrap ((j:Int) - 1)=((j - 1:Nat):Int):=by
   have:(j:Int) - 1=((j - 1:Nat):Int):=by omega
   rw[this];exact wrapIN (by omega)
  have nk:¬U.next<=k:=by have:=H.lt;have:=H.base.nx;omega
  by_cases hr0:r<0
  ·simp only[go_sem,seval,opLen,undef,edB,blockOf,nthC,dropC,loopOf,Tryz.f205,Option.getD,Int.toNat_natCast,e0,e1,e4,ei,ej,el,g1,hb,x1,x2,l1,l2,c0,c1,c2,c3,c4,w1,nk]
   refine .of hd ?_
   simp only[go_sem,seval,opLen,undef,edB,blockOf,nthC,dropC,loopOf,Tryz.f205,Option.getD,Int.toNat_natCast,e0,e1,e4,ei,ej,el,g1,hb,x1,x2,l1,l2,c0,c1,c2,c3,c4,w1,nk,hr0]
   have hlt:lt d[a]! d[j]! = true:=by rw[<-hr];simp [hr0]
   obtain⟨j',rfl⟩:∃j',j=j'+1:=⟨j - 1,by omega⟩
   refine⟨j',by omega,_,i,j',rfl,⟨by simp only[List.length_set,el],by simp only[go_sem,seval,opLen,el,e0]<;>rfl,by simp only[go_sem,seval,opLen,el,e1],by simp only[go_sem,seval,opLen,el,e4],by simp only[go_sem,seval,opLen,el,ei],by simp only[go_sem,seval,opLen,el]<;>rfl⟩,rfl,rfl,rfl,by omega,?_⟩
   rw[<-hI]
   simp only[Sort.scanDown]
   rw[if_pos (by simp [hlt,hij])]
  ·simp only[go_sem,seval,opLen,undef,edB,blockOf,nthC,dropC,loopOf,Tryz.f205,Option.getD,Int.toNat_natCast,e0,e1,e4,ei,ej,el,g1,hb,x1,x2,l1,l2,c0,c1,c2,c3,c4,w1,nk]
   refine .of hd ?_
   simp only[go_sem,seval,opLen,undef,edB,blockOf,nthC,dropC,loopOf,Tryz.f205,Option.getD,Int.toNat_natCast,e0,e1,e4,ei,ej,el,g1,hb,x1,x2,l1,l2,c0,c1,c2,c3,c4,w1,nk,hr0]
   have hlt:lt d[a]! d[j]! = false:=by rw[<-hr];simp [hr0]
   have hIj:I=j:=by
    rw[<-hI]
    cases j with
    |zero=>rfl
    |succ j'=>
     simp only[Sort.scanDown]
     rw[if_neg (by simp [hlt])]
   subst hIj
   exact⟨rfl,rfl,_,rfl,⟨by simp only[List.length_set,el],by simp only[go_sem,seval,opLen,el,e0]<;>rfl,by simp only[go_sem,seval,opLen,el,e1],by simp only[go_sem,seval,opLen,el,e4],by simp only[go_sem,seval,opLen,el,ei],by simp only[go_sem,seval,opLen,el,ej]⟩⟩
 ·have c0:¬(i:Int)<=(j:Int):=by omega
  simp only[go_sem,seval,opLen,undef,edB,blockOf,nthC,dropC,loopOf,Tryz.f205,Option.getD,Int.toNat_natCast,e0,e1,e4,ei,ej,el,c0]
  have hIj:I=j:=by
   rw[<-hI]
   cases j with
   |zero=>rfl
   |succ j'=>
    simp only[Sort.scanDown]
    rw[if_neg (by simp;intro h;omega)]
  subst hIj
  exact⟨rfl,rfl,_,rfl,⟨by simp only[List.length_set,el],by simp only[go_sem,seval,opLen,el,e0]<;>rfl,by simp only[go_sem,seval,opLen,el,e1],by simp only[go_sem,seval,opLen,el,e4],by simp only[go_sem,seval,opLen,el,ei],by simp only[go_sem,seval,opLen,el,ej]⟩⟩
end
end Go.Ab
namespace Go.Ab
open Go.Proofs
variable {E:Type} [SE E]
noncomputable def pt158L:Code:=loopOf (nthC 9 (Tryz.f206.body.getD .skip))
noncomputable def pt157L:Code:=loopOf (nthC 3 (Tryz.f205.body.getD .skip))
section
variable {U0:St} {k s cap:Nat} {g:FuncId} {ys:List Value} {lt:E->E->Bool} {p:E->Prop} {G:List Value}
def Iptl(U0:St)(k s n cap:Nat)(g:FuncId)(ys:List Value)(lt:E->E->Bool)(p:E->Prop)(G:List Value)(a:Nat)(R:Nat×Array E)(m:Nat)(fr:Fr)(U:St):Prop:=
 ∃ts d,∃i j:Nat,fr=⟨ts,[]⟩/\FP 178 12 13 ts (sliceS k s n cap) (.func (.func g) ⟨[]⟩ ⟨ys⟩) a i j/\m=j+1 - i/\0<i/\i<=n/\j<n/\SAt U0 k d G p U/\d.size=n/\Sort.partLoop lt a i j d=R
def Eptl(U0:St)(k s n cap:Nat)(g:FuncId)(ys:List Value)(p:E->Prop)(G:List Value)(a:Nat)(R:Nat×Array E)(x:AX)(fr:Fr)(U:St):Prop:=
 x=.exit 4/\∃ts,∃i j:Nat,fr=⟨ts,[]⟩/\FP 178 12 13 ts (sliceS k s n cap) (.func (.func g) ⟨[]⟩ ⟨ys⟩) a i j/\j=R.1/\j<n/\SAt U0 k R.2 G p U/\R.2.size=n
theorem ptl(hc:CmpOk U0 k g ys lt p){n a:Nat}(ha:a<n){R:Nat×Array E}:
  ∀m fr U,Iptl U0 k s n cap g ys lt p G a R m fr U->loopX Tryz.prog false (rE E pt158L) fr U (endL (Eptl U0 k s n cap g ys p G a R) λz=>z=k\/U0.next<=z):=by
 refine loop_ind q0 (fE E 206) (st_loopOf (st_nthC (stG Tryz.func206 rfl rfl))) _ _ _ ?_
 rintro m fr U ⟨ts,d,i,j,rfl,F,hm,hi0,hin,hjn,H,rfl,hR⟩
 have e0:=F.t0
 have e1:=F.t1
 have e4:=F.t4
 have ei:=F.ti
 have ej:=F.tj
 have el:=F.size
 have hsm:=H.small
 obtain⟨i2,hi2⟩:∃i2,Sort.scanUp (λx=>lt x d[a]!) d j i=i2:=⟨_,rfl⟩
 obtain⟨j2,hj2⟩:∃j2,Sort.scanDown (λx=>!lt x d[a]!) d i2 j=j2:=⟨_,rfl⟩
 have hi2g:i<=i2:=hi2▸Sort.scanUp_ge _ _ _ _
 have hj2l:j2<=j:=hj2▸Sort.scanDown_le _ _ _ _
 have heq:=Sort.partLoop_eq lt a i j d
 have hgd:=Sort.partLoop_guard lt a i j d
 simp only[hi2,hj2]at heq hgd
 by_cases hij:i2 > j2
 ·have c1:(j2:Int)<(i2:Int):=by omega
  rw[if_pos hij]at heq
  have hRd:R=(j2,d):=by rw[<-hR,heq]
  subst hRd
  simp only[go_sem,seval,opLen,undef,pt158L,nthC,blockOf,loopOf,Tryz.f206,Option.getD,e0,e1,e4,ei,ej,el]
  refine loop_then (pu2 (s:=s) (cap:=cap) (G:=G) hc H ha hjn (I:=i2) (j+1 - i) _ _ ⟨ts,i,j,rfl,F,rfl,rfl,rfl,hi2⟩) ?_
  intro x fr' U1 lg1 hlg1 hB1 h
  obtain⟨rfl,rfl,ts1,rfl,F1⟩:=h
  obtain rfl:lg1=[]:=List.eq_nil_iff_forall_not_mem.2 λz hz=>hB1 z hz
  simp only[go_sem,seval,opLen,undef,F1.t0,F1.t1,F1.t4,F1.ti,F1.tj,F1.size]
  refine loop_then (pd2 (s:=s) (cap:=cap) (G:=G) hc H ha (i:=i2) (by omega) (I:=j2) j _ _ ⟨ts1,i2,j,rfl,F1,rfl,rfl,rfl,hjn,hj2⟩) ?_
  intro x fr' U1 lg2 hlg2 hB2 h
  obtain⟨rfl,rfl,ts2,rfl,F2⟩:=h
  obtain rfl:lg2=[]:=List.eq_nil_iff_forall_not_mem.2 λz hz=>hB2 z hz
  clear e0 e1 e4 ei ej el
  have e0:=F2.t0
  have e1:=F2.t1
  have e4:=F2.t4
  have ei:=F2.ti
  have ej:=F2.tj
  have el:=F2.size
  simp only[sliceS]at e0
  simp only[go_sem,seval,opLen,undef,e0,e1,e4,ei,ej,el,c1]
  exact⟨rfl,_,i2,j2,rfl,⟨by simp only[List.length_set,el],by simp only[go_sem,seval,opLen,el,e0]<;>rfl,by simp only[go_sem,seval,opLen,el,e1],by simp only[go_sem,seval,opLen,el,e4],by simp only[go_sem,seval,opLen,el,ei],by simp only[go_sem,seval,opLen,el,ej]⟩,rfl,by omega,H,rfl⟩
 ·have c1:¬(j2:Int)<(i2:Int):=by omega
  rw[if_neg hij]at heq
  have hlt:=hgd hij
  have p1:(0:Int)<=(i2:Int):=by omega
  have p2:(i2:Int)<(d.size:Int):=by omega
  have p3:(0:Int)<=(j2:Int):=by omega
  have p4:(j2:Int)<(d.size:Int):=by omega
  have w1:IntKind.i64.wrap ((i2:Int)+1)=((i2+1:Nat):Int):=by
   have:(i2:Int)+1=((i2+1:Nat):Int):=by omega
   rw[this];exact wrapIN (by omega)
  have w2:IntKind.i64.wrap ((j2:Int) - 1)=((j2 - 1:Nat):Int):=by
   have:(j2:Int) - 1=((j2 - 1:Nat):Int):=by omega
   rw[this];exact wrapIN (by omega)
  have g1:=H.get
  have nk:¬U.next<=k:=by have:=H.lt;have:=H.base.nx;omega
  have x1:=arr_at (d:=d) (G:=G) (i:=i2) (by omega)
  have x2:=arr_at (d:=d) (G:=G) (i:=j2) (by omega)
  have l1:(i2)*wE E+wE E<=(cellsE (d).toList++G).length:=arr_fit (by first|omega|(simp;omega))
  have l2:(j2)*wE E+wE E<=(cellsE (d).toList++G).length:=arr_fit (by first|omega|(simp;omega))
  have o1:=arr_over (d:=d) (G:=G) (i:=i2) (d)[j2]! (by omega)
  have o2:=arr_over (d:=(d).setIfInBounds (i2) (d)[j2]!) (G:=G) (i:=j2) (d)[i2]! (by simp;omega)
  have l3:(j2)*wE E+wE E<=(cellsE ((d).setIfInBounds (i2) (d)[j2]!).toList++G).length:=arr_fit (by first|omega|(simp;omega))
  simp only[go_sem,seval,opLen,undef,pt158L,nthC,blockOf,loopOf,Tryz.f206,Option.getD,e0,e1,e4,ei,ej,el]
  refine loop_then (pu2 (s:=s) (cap:=cap) (G:=G) hc H ha hjn (I:=i2) (j+1 - i) _ _ ⟨ts,i,j,rfl,F,rfl,rfl,rfl,hi2⟩) ?_
  intro x fr' U1 lg1 hlg1 hB1 h
  obtain⟨rfl,rfl,ts1,rfl,F1⟩:=h
  obtain rfl:lg1=[]:=List.eq_nil_iff_forall_not_mem.2 λz hz=>hB1 z hz
  simp only[go_sem,seval,opLen,undef,F1.t0,F1.t1,F1.t4,F1.ti,F1.tj,F1.size]
  refine loop_then (pd2 (s:=s) (cap:=cap) (G:=G) hc H ha (i:=i2) (by omega) (I:=j2) j _ _ ⟨ts1,i2,j,rfl,F1,rfl,rfl,rfl,hjn,hj2⟩) ?_
  intro x fr' U1 lg2 hlg2 hB2 h
  obtain⟨rfl,rfl,ts2,rfl,F2⟩:=h
  obtain rfl:lg2=[]:=List.eq_nil_iff_forall_not_mem.2 λz hz=>hB2 z hz
  clear e0 e1 e4 ei ej el
  have e0:=F2.t0
  have e1:=F2.t1
  have e4:=F2.t4
  have ei:=F2.ti
  have ej:=F2.tj
  have el:=F2.size
  simp only[sliceS]at e0
  simp only[go_sem,seval,opLen,undef,Int.toNat_natCast,e0,e1,e4,ei,ej,el,c1,p1,p2,p3,p4,w1,w2,g1,nk,x1,x2,l1,l2,o1,o2,l3]
  exact⟨.inl trivial,(j2 - 1)+1 - (i2+1),by omega,_,Sort.swp d i2 j2,i2+1,j2 - 1,rfl,⟨by simp only[List.length_set,el],by simp only[go_sem,seval,opLen,el,e0]<;>rfl,by simp only[go_sem,seval,opLen,el,e1],by simp only[go_sem,seval,opLen,el,e4],by simp only[go_sem,seval,opLen,el],by simp only[go_sem,seval,opLen,el]⟩,rfl,by omega,by omega,by omega,H.swp (by omega) (by omega) _,swp_size,by rw[<-heq,hR]⟩
def Ipql(U0:St)(k s n cap:Nat)(g:FuncId)(ys:List Value)(lt:E->E->Bool)(p:E->Prop)(G:List Value)(a:Nat)(R:Nat×Array E)(m:Nat)(fr:Fr)(U:St):Prop:=
 ∃ts d,∃i j:Nat,fr=⟨ts,[]⟩/\FP 90 11 12 ts (sliceS k s n cap) (.func (.func g) ⟨[]⟩ ⟨ys⟩) a i j/\m=j+1 - i/\0<i/\i<=n/\j<n/\SAt U0 k d G p U/\d.size=n/\Sort.partEqLoop lt a i j d=R
def Epql(U0:St)(k s n cap:Nat)(g:FuncId)(ys:List Value)(p:E->Prop)(G:List Value)(a:Nat)(R:Nat×Array E)(x:AX)(fr:Fr)(U:St):Prop:=
 x=.exit 0/\∃ts,∃i j:Nat,fr=⟨ts,[]⟩/\FP 90 11 12 ts (sliceS k s n cap) (.func (.func g) ⟨[]⟩ ⟨ys⟩) a i j/\i=R.1/\j<n/\SAt U0 k R.2 G p U/\R.2.size=n
theorem pql(hc:CmpOk U0 k g ys lt p){n a:Nat}(ha:a<n){R:Nat×Array E}:
  ∀m fr U,Ipql U0 k s n cap g ys lt p G a R m fr U->loopX Tryz.prog false (rE E pt157L) fr U (endL (Epql U0 k s n cap g ys p G a R) λz=>z=k\/U0.next<=z):=by
 refine loop_ind q0 (fE E 205) (st_loopOf (st_nthC (stG Tryz.func205 rfl rfl))) _ _ _ ?_
 rintro m fr U ⟨ts,d,i,j,rfl,F,hm,hi0,hin,hjn,H,rfl,hR⟩
 have e0:=F.t0
 have e1:=F.t1
 have e4:=F.t4
 have ei:=F.ti
 have ej:=F.tj
 have el:=F.size
 have hsm:=H.small
 obtain⟨i2,hi2⟩:∃i2,Sort.scanUp (λx=>!lt d[a]! x) d j i=i2:=⟨_,rfl⟩
 obtain⟨j2,hj2⟩:∃j2,Sort.scanDown (λx=>lt d[a]! x) d i2 j=j2:=⟨_,rfl⟩
 have hi2g:i<=i2:=hi2▸Sort.scanUp_ge _ _ _ _
 have hj2l:j2<=j:=hj2▸Sort.scanDown_le _ _ _ _
 have heq:=Sort.partEqLoop_eq lt a i j d
 have hgd:=Sort.partEqLoop_guard lt a i j d
 simp only[hi2,hj2]at heq hgd
 by_cases hij:i2 > j2
 ·have c1:(j2:Int)<(i2:Int):=by omega
  rw[if_pos hij]at heq
  have hRd:R=(i2,d):=by rw[<-hR,heq]
  subst hRd
  simp only[go_sem,seval,opLen,undef,pt157L,nthC,blockOf,loopOf,Tryz.f205,Option.getD,e0,e1,e4,ei,ej,el]
  refine loop_then (eu (s:=s) (cap:=cap) (G:=G) hc H ha hjn (I:=i2) (j+1 - i) _ _ ⟨ts,i,j,rfl,F,rfl,rfl,rfl,hi2⟩) ?_
  intro x fr' U1 lg1 hlg1 hB1 h
  obtain⟨rfl,rfl,ts1,rfl,F1⟩:=h
  obtain rfl:lg1=[]:=List.eq_nil_iff_forall_not_mem.2 λz hz=>hB1 z hz
  simp only[go_sem,seval,opLen,undef,F1.t0,F1.t1,F1.t4,F1.ti,F1.tj,F1.size]
  refine loop_then (ed (s:=s) (cap:=cap) (G:=G) hc H ha (i:=i2) (by omega) (I:=j2) j _ _ ⟨ts1,i2,j,rfl,F1,rfl,rfl,rfl,hjn,hj2⟩) ?_
  intro x fr' U1 lg2 hlg2 hB2 h
  obtain⟨rfl,rfl,ts2,rfl,F2⟩:=h
  obtain rfl:lg2=[]:=List.eq_nil_iff_forall_not_mem.2 λz hz=>hB2 z hz
  clear e0 e1 e4 ei ej el
  have e0:=F2.t0
  have e1:=F2.t1
  have e4:=F2.t4
  have ei:=F2.ti
  have ej:=F2.tj
  have el:=F2.size
  simp only[sliceS]at e0
  simp only[go_sem,seval,opLen,undef,e0,e1,e4,ei,ej,el,c1]
  exact⟨rfl,_,i2,j2,rfl,⟨by simp only[List.length_set,el],by simp only[go_sem,seval,opLen,el,e0]<;>rfl,by simp only[go_sem,seval,opLen,el,e1],by simp only[go_sem,seval,opLen,el,e4],by simp only[go_sem,seval,opLen,el,ei],by simp only[go_sem,seval,opLen,el,ej]⟩,rfl,by omega,H,rfl⟩
 ·have c1:¬(j2:Int)<(i2:Int):=by omega
  rw[if_neg hij]at heq
  have hlt:=hgd hij
  have p1:(0:Int)<=(i2:Int):=by omega
  have p2:(i2:Int)<(d.size:Int):=by omega
  have p3:(0:Int)<=(j2:Int):=by omega
  have p4:(j2:Int)<(d.size:Int):=by omega
  have w1:IntKind.i64.wrap ((i2:Int)+1)=((i2+1:Nat):Int):=by
   have:(i2:Int)+1=((i2+1:Nat):Int):=by omega
   rw[this];exact wrapIN (by omega)
  have w2:IntKind.i64.wrap ((j2:Int) - 1)=((j2 - 1:Nat):Int):=by
   have:(j2:Int) - 1=((j2 - 1:Nat):Int):=by omega
   rw[this];exact wrapIN (by omega)
  have g1:=H.get
  have nk:¬U.next<=k:=by have:=H.lt;have:=H.base.nx;omega
  have x1:=arr_at (d:=d) (G:=G) (i:=i2) (by omega)
  have x2:=arr_at (d:=d) (G:=G) (i:=j2) (by omega)
  have l1:(i2)*wE E+wE E<=(cellsE (d).toList++G).length:=arr_fit (by first|omega|(simp;omega))
  have l2:(j2)*wE E+wE E<=(cellsE (d).toList++G).length:=arr_fit (by first|omega|(simp;omega))
  have o1:=arr_over (d:=d) (G:=G) (i:=i2) (d)[j2]! (by omega)
  have o2:=arr_over (d:=(d).setIfInBounds (i2) (d)[j2]!) (G:=G) (i:=j2) (d)[i2]! (by simp;omega)
  have l3:(j2)*wE E+wE E<=(cellsE ((d).setIfInBounds (i2) (d)[j2]!).toList++G).length:=arr_fit (by first|omega|(simp;omega))
  simp only[go_sem,seval,opLen,undef,pt157L,nthC,blockOf,loopOf,Tryz.f205,Option.getD,e0,e1,e4,ei,ej,el]
  refine loop_then (eu (s:=s) (cap:=cap) (G:=G) hc H ha hjn (I:=i2) (j+1 - i) _ _ ⟨ts,i,j,rfl,F,rfl,rfl,rfl,hi2⟩) ?_
  intro x fr' U1 lg1 hlg1 hB1 h
  obtain⟨rfl,rfl,ts1,rfl,F1⟩:=h
  obtain rfl:lg1=[]:=List.eq_nil_iff_forall_not_mem.2 λz hz=>hB1 z hz
  simp only[go_sem,seval,opLen,undef,F1.t0,F1.t1,F1.t4,F1.ti,F1.tj,F1.size]
  refine loop_then (ed (s:=s) (cap:=cap) (G:=G) hc H ha (i:=i2) (by omega) (I:=j2) j _ _ ⟨ts1,i2,j,rfl,F1,rfl,rfl,rfl,hjn,hj2⟩) ?_
  intro x fr' U1 lg2 hlg2 hB2 h
  obtain⟨rfl,rfl,ts2,rfl,F2⟩:=h
  obtain rfl:lg2=[]:=List.eq_nil_iff_forall_not_mem.2 λz hz=>hB2 z hz
  clear e0 e1 e4 ei ej el
  have e0:=F2.t0
  have e1:=F2.t1
  have e4:=F2.t4
  have ei:=F2.ti
  have ej:=F2.tj
  have el:=F2.size
  simp only[sliceS]at e0
  simp only[go_sem,seval,opLen,undef,Int.toNat_natCast,e0,e1,e4,ei,ej,el,c1,p1,p2,p3,p4,w1,w2,g1,nk,x1,x2,l1,l2,o1,o2,l3]
  exact⟨.inl trivial,(j2 - 1)+1 - (i2+1),by omega,_,Sort.swp d i2 j2,i2+1,j2 - 1,rfl,⟨by simp only[List.length_set,el],by simp only[go_sem,seval,opLen,el,e0]<;>rfl,by simp only[go_sem,seval,opLen,el,e1],by simp only[go_sem,seval,opLen,el,e4],by simp only[go_sem,seval,opLen,el],by simp only[go_sem,seval,opLen,el]⟩,rfl,by omega,by omega,by omega,H.swp (by omega) (by omega) _,swp_size,by rw[<-heq,hR]⟩
end
end Go.Ab
namespace Go.Ab
open Go.Proofs
variable {E:Type} [SE E]
section
variable {U0:St} {k s cap:Nat} {g:FuncId} {ys:List Value} {lt:E->E->Bool} {p:E->Prop} {G:List Value}
def SortE(U0:St)(k:Nat)(G:List Value)(p:E->Prop)(v:Value)(D:Array E)(e:AE)(U':St)(lg:Log):Prop:=e=.ret v/\SortR U0 k G p D U' lg
theorem part_call(hc:CmpOk U0 k g ys lt p){a b pivot:Nat}{d:Array E}{U:St}(H:SAt U0 k d G p U)(hap:a<=pivot)(hpb:pivot<b)(hbn:b<=d.size):
  callX Tryz.prog (fE E 206) [sliceS k s d.size cap,.int .i64 a,.int .i64 b,.int .i64 pivot,.func (.func g) ⟨[]⟩ ⟨ys⟩] U (SortE U0 k G p (.tuple ⟨[.int .i64 (Sort.partition lt d a b pivot).1,.bool (Sort.partition lt d a b pivot).2.1]⟩) (Sort.partition lt d a b pivot).2.2):=by
 have hsm:=H.small
 have hs1:(Sort.swp d a pivot).size=d.size:=swp_size
 have w1:IntKind.i64.wrap ((a:Int)+1)=((a+1:Nat):Int):=by
  have:(a:Int)+1=((a+1:Nat):Int):=by omega
  rw[this];exact wrapIN (by omega)
 have w2:IntKind.i64.wrap ((b:Int) - 1)=((b - 1:Nat):Int):=by
  have:(b:Int) - 1=((b - 1:Nat):Int):=by omega
  rw[this];exact wrapIN (by omega)
 have g1:=H.get
 have nk:¬U.next<=k:=by have:=H.lt;have:=H.base.nx;omega
 have x1a:=arr_at (d:=d) (G:=G) (i:=a) (by omega)
 have x2a:=arr_at (d:=d) (G:=G) (i:=pivot) (by omega)
 have l1a:(a)*wE E+wE E<=(cellsE (d).toList++G).length:=arr_fit (by first|omega|(simp;omega))
 have l2a:(pivot)*wE E+wE E<=(cellsE (d).toList++G).length:=arr_fit (by first|omega|(simp;omega))
 have o1a:=arr_over (d:=d) (G:=G) (i:=a) (d)[pivot]! (by omega)
 have o2a:=arr_over (d:=(d).setIfInBounds (a) (d)[pivot]!) (G:=G) (i:=pivot) (d)[a]! (by simp;omega)
 have l3a:(pivot)*wE E+wE E<=(cellsE ((d).setIfInBounds (a) (d)[pivot]!).toList++G).length:=arr_fit (by first|omega|(simp;omega))
 have l4a:(a)*wE E+wE E<=(cellsE ((d).setIfInBounds (a) (d)[pivot]!).toList++G).length:=arr_fit (by first|omega|(simp;omega))
 have p1a:(0:Int)<=((a:Nat):Int):=by omega
 have p2a:((a:Nat):Int)<(d.size:Int):=by omega
 have p3a:(0:Int)<=((pivot:Nat):Int):=by omega
 have p4a:((pivot:Nat):Int)<(d.size:Int):=by omega
 have H1:=H.swp (i:=a) (j:=pivot) (by omega) (by omega) (.cells (cellsE (d.setIfInBounds a d[pivot]!).toList++G) false)
 obtain⟨d1,hd1⟩:∃d1,Sort.swp d a pivot=d1:=⟨_,rfl⟩
 have hz1:d1.size=d.size:=by rw[<-hd1];exact hs1
 rw[hd1]at H1
 obtain⟨i2,hi2⟩:∃i2,Sort.scanUp (λx=>lt x d1[a]!) d1 (b - 1) (a+1)=i2:=⟨_,rfl⟩
 obtain⟨j2,hj2⟩:∃j2,Sort.scanDown (λx=>!lt x d1[a]!) d1 i2 (b - 1)=j2:=⟨_,rfl⟩
 have hi2g:a+1<=i2:=hi2▸Sort.scanUp_ge _ _ _ _
 have hj2l:j2<=b - 1:=hj2▸Sort.scanDown_le _ _ _ _
 have heq:Sort.partition lt d a b pivot=if i2 > j2 then(j2,true,Sort.swp d1 j2 a) else((Sort.partLoop lt a (i2+1) (j2 - 1) (Sort.swp d1 i2 j2)).1,false,Sort.swp (Sort.partLoop lt a (i2+1) (j2 - 1) (Sort.swp d1 i2 j2)).2 (Sort.partLoop lt a (i2+1) (j2 - 1) (Sort.swp d1 i2 j2)).1 a):=by
  unfold Sort.partition
  simp only[hd1,hi2,hj2]
 obtain⟨A1,hA1⟩:∃A1,A1=AObj.cells (cellsE (d.setIfInBounds a d[pivot]!).toList++G) false:=⟨_,rfl⟩
 rw[heq]
 by_cases hij:i2 > j2
 ·rw[if_pos hij]
  have c1:(j2:Int)<(i2:Int):=by omega
  have x1b:=arr_at (d:=d1) (G:=G) (i:=j2) (by omega)
  have x2b:=arr_at (d:=d1) (G:=G) (i:=a) (by omega)
  have l1b:(j2)*wE E+wE E<=(cellsE (d1).toList++G).length:=arr_fit (by first|omega|(simp;omega))
  have l2b:(a)*wE E+wE E<=(cellsE (d1).toList++G).length:=arr_fit (by first|omega|(simp;omega))
  have o1b:=arr_over (d:=d1) (G:=G) (i:=j2) (d1)[a]! (by omega)
  have o2b:=arr_over (d:=(d1).setIfInBounds (j2) (d1)[a]!) (G:=G) (i:=a) (d1)[j2]! (by simp;omega)
  have l3b:(a)*wE E+wE E<=(cellsE ((d1).setIfInBounds (j2) (d1)[a]!).toList++G).length:=arr_fit (by first|omega|(simp;omega))
  have l4b:(j2)*wE E+wE E<=(cellsE ((d1).setIfInBounds (j2) (d1)[a]!).toList++G).length:=arr_fit (by first|omega|(simp;omega))
  have p1b:(0:Int)<=((j2:Nat):Int):=by omega
  have p2b:((j2:Nat):Int)<(d.size:Int):=by omega
  have p3b:(0:Int)<=((a:Nat):Int):=by omega
  have p4b:((a:Nat):Int)<(d.size:Int):=by omega
  refine enterE (E:=E) (p:=q0) Tryz.func206 rfl rfl ?_
  simp only[go_sem,seval,opLen,undef,sliceS,Tryz.f206,Int.toNat_natCast,g1,nk,w1,w2,x1a,x2a,l1a,l2a,o1a,o2a,l3a,p1a,p2a,p3a,p4a]
  generalize hUs:(U.set k (AObj.cells (cellsE (d.setIfInBounds a d[pivot]!).toList++G) false)).set k (AObj.cells (cellsE ((d.setIfInBounds a d[pivot]!).setIfInBounds pivot d[a]!).toList++G) false)=Us at H1 ⊢
  clear hUs
  refine loop_then (pu1 (s:=s) (cap:=cap) (G:=G) hc H1 (a:=a) (j:=b - 1) (by omega) (by omega) (I:=i2) _ _ _ ⟨_,a+1,b - 1,rfl,⟨rfl,by rw[hz1];rfl,rfl,rfl,rfl,rfl⟩,rfl,rfl,rfl,hi2⟩) ?_
  intro x fr' U1 lg1 hlg1 hB1 h
  obtain⟨rfl,rfl,ts1,rfl,F1⟩:=h
  obtain rfl:lg1=[]:=List.eq_nil_iff_forall_not_mem.2 λz hz=>hB1 z hz
  simp only[go_sem,seval,opLen,undef,Int.toNat_natCast,F1.t0,F1.t1,F1.t4,F1.ti,F1.tj,F1.size]
  refine loop_then (pd1 (s:=s) (cap:=cap) (G:=G) hc H1 (a:=a) (i:=i2) (by omega) (by omega) (I:=j2) (b - 1) _ _ ⟨ts1,i2,b - 1,rfl,F1,rfl,rfl,rfl,by omega,hj2⟩) ?_
  intro x fr' U1 lg2 hlg2 hB2 h
  obtain⟨rfl,rfl,ts2,rfl,F2⟩:=h
  obtain rfl:lg2=[]:=List.eq_nil_iff_forall_not_mem.2 λz hz=>hB2 z hz
  have e0:=F2.t0
  have e1:=F2.t1
  have e4:=F2.t4
  have ei:=F2.ti
  have ej:=F2.tj
  have el:=F2.size
  simp only[sliceS,hz1]at e0
  have g2:=H1.get
  have nk2:¬U1.next<=k:=by have:=H1.lt;have:=H1.base.nx;omega
  simp only[go_sem,seval,opLen,undef,Int.toNat_natCast,e0,e1,e4,ei,ej,el,c1,g2,nk2,x1b,x2b,l1b,l2b,o1b,o2b,l3b,p1b,p2b,p3b,p4b]
  refine⟨rfl,λz hz=>by simp at hz;exact .inl hz,?_⟩
  exact H1.swp (i:=j2) (j:=a) (by omega) (by omega) _
 ·rw[if_neg hij]
  have c1:¬(j2:Int)<(i2:Int):=by omega
  have x1c:=arr_at (d:=d1) (G:=G) (i:=i2) (by omega)
  have x2c:=arr_at (d:=d1) (G:=G) (i:=j2) (by omega)
  have l1c:(i2)*wE E+wE E<=(cellsE (d1).toList++G).length:=arr_fit (by first|omega|(simp;omega))
  have l2c:(j2)*wE E+wE E<=(cellsE (d1).toList++G).length:=arr_fit (by first|omega|(simp;omega))
  have o1c:=arr_over (d:=d1) (G:=G) (i:=i2) (d1)[j2]! (by omega)
  have o2c:=arr_over (d:=(d1).setIfInBounds (i2) (d1)[j2]!) (G:=G) (i:=j2) (d1)[i2]! (by simp;omega)
  have l3c:(j2)*wE E+wE E<=(cellsE ((d1).setIfInBounds (i2) (d1)[j2]!).toList++G).length:=arr_fit (by first|omega|(simp;omega))
  have l4c:(i2)*wE E+wE E<=(cellsE ((d1).setIfInBounds (i2) (d1)[j2]!).toList++G).length:=arr_fit (by first|omega|(simp;omega))
  have p1c:(0:Int)<=((i2:Nat):Int):=by omega
  have p2c:((i2:Nat):Int)<(d.size:Int):=by omega
  have p3c:(0:Int)<=((j2:Nat):Int):=by omega
  have p4c:((j2:Nat):Int)<(d.size:Int):=by omega
  obtain⟨R,hR⟩:∃R,Sort.partLoop lt a (i2+1) (j2 - 1) (Sort.swp d1 i2 j2)=R:=⟨_,rfl⟩
  rw[hR]
  have w3:IntKind.i64.wrap ((i2:Int)+1)=((i2+1:Nat):Int):=by
   have:(i2:Int)+1=((i2+1:Nat):Int):=by omega
   rw[this];exact wrapIN (by omega)
  have w4:IntKind.i64.wrap ((j2:Int) - 1)=((j2 - 1:Nat):Int):=by
   have:(j2:Int) - 1=((j2 - 1:Nat):Int):=by omega
   rw[this];exact wrapIN (by omega)
  refine enterE (E:=E) (p:=q0) Tryz.func206 rfl rfl ?_
  simp only[go_sem,seval,opLen,undef,sliceS,Tryz.f206,Int.toNat_natCast,g1,nk,w1,w2,x1a,x2a,l1a,l2a,o1a,o2a,l3a,p1a,p2a,p3a,p4a]
  generalize hUs:(U.set k (AObj.cells (cellsE (d.setIfInBounds a d[pivot]!).toList++G) false)).set k (AObj.cells (cellsE ((d.setIfInBounds a d[pivot]!).setIfInBounds pivot d[a]!).toList++G) false)=Us at H1 ⊢
  clear hUs
  refine loop_then (pu1 (s:=s) (cap:=cap) (G:=G) hc H1 (a:=a) (j:=b - 1) (by omega) (by omega) (I:=i2) _ _ _ ⟨_,a+1,b - 1,rfl,⟨rfl,by rw[hz1];rfl,rfl,rfl,rfl,rfl⟩,rfl,rfl,rfl,hi2⟩) ?_
  intro x fr' U1 lg1 hlg1 hB1 h
  obtain⟨rfl,rfl,ts1,rfl,F1⟩:=h
  obtain rfl:lg1=[]:=List.eq_nil_iff_forall_not_mem.2 λz hz=>hB1 z hz
  simp only[go_sem,seval,opLen,undef,Int.toNat_natCast,F1.t0,F1.t1,F1.t4,F1.ti,F1.tj,F1.size]
  refine loop_then (pd1 (s:=s) (cap:=cap) (G:=G) hc H1 (a:=a) (i:=i2) (by omega) (by omega) (I:=j2) (b - 1) _ _ ⟨ts1,i2,b - 1,rfl,F1,rfl,rfl,rfl,by omega,hj2⟩) ?_
  intro x fr' U1 lg2 hlg2 hB2 h
  obtain⟨rfl,rfl,ts2,rfl,F2⟩:=h
  obtain rfl:lg2=[]:=List.eq_nil_iff_forall_not_mem.2 λz hz=>hB2 z hz
  have e0:=F2.t0
  have e1:=F2.t1
  have e4:=F2.t4
  have ei:=F2.ti
  have ej:=F2.tj
  have el:=F2.size
  simp only[sliceS,hz1]at e0
  have g2:=H1.get
  have nk2:¬U1.next<=k:=by have:=H1.lt;have:=H1.base.nx;omega
  simp only[go_sem,seval,opLen,undef,Int.toNat_natCast,e0,e1,e4,ei,ej,el,c1,w3,w4,g2,nk2,x1c,x2c,l1c,l2c,o1c,o2c,l3c,p1c,p2c,p3c,p4c]
  have H2:=H1.swp (i:=i2) (j:=j2) (by omega) (by omega) (.cells (cellsE (d1.setIfInBounds i2 d1[j2]!).toList++G) false)
  have hz2:(Sort.swp d1 i2 j2).size=d.size:=by rw[swp_size];exact hz1
  refine loop_then (ptl (s:=s) (cap:=cap) (G:=G) hc (n:=d.size) (a:=a) (by omega) (R:=R) _ _ _ ⟨_,_,i2+1,j2 - 1,rfl,⟨by simp only[List.length_set,el],by simp only[go_sem,seval,opLen,el,e0]<;>rfl,by simp only[go_sem,seval,opLen,el,e1],by simp only[go_sem,seval,opLen,el,e4],by simp only[go_sem,seval,opLen,el],by simp only[go_sem,seval,opLen,el]⟩,rfl,by omega,by omega,by omega,H2,hz2,hR⟩) ?_
  intro x fr' U3 lg3 hlg3 hB3 h
  obtain⟨rfl,ts3,i3,j3,rfl,F3,hj3,hj3n,H3,hz3⟩:=h
  rw[<-hj3]
  obtain⟨d2,hd2⟩:∃d2,R.2=d2:=⟨_,rfl⟩
  rw[hd2]at H3 hz3 ⊢
  have x1e:=arr_at (d:=d2) (G:=G) (i:=j3) (by omega)
  have x2e:=arr_at (d:=d2) (G:=G) (i:=a) (by omega)
  have l1e:(j3)*wE E+wE E<=(cellsE (d2).toList++G).length:=arr_fit (by first|omega|(simp;omega))
  have l2e:(a)*wE E+wE E<=(cellsE (d2).toList++G).length:=arr_fit (by first|omega|(simp;omega))
  have o1e:=arr_over (d:=d2) (G:=G) (i:=j3) (d2)[a]! (by omega)
  have o2e:=arr_over (d:=(d2).setIfInBounds (j3) (d2)[a]!) (G:=G) (i:=a) (d2)[j3]! (by simp;omega)
  have l3e:(a)*wE E+wE E<=(cellsE ((d2).setIfInBounds (j3) (d2)[a]!).toList++G).length:=arr_fit (by first|omega|(simp;omega))
  have l4e:(j3)*wE E+wE E<=(cellsE ((d2).setIfInBounds (j3) (d2)[a]!).toList++G).length:=arr_fit (by first|omega|(simp;omega))
  have p1e:(0:Int)<=((j3:Nat):Int):=by omega
  have p2e:((j3:Nat):Int)<(d.size:Int):=by omega
  have p3e:(0:Int)<=((a:Nat):Int):=by omega
  have p4e:((a:Nat):Int)<(d.size:Int):=by omega
  have f0:=F3.t0
  have f1:=F3.t1
  have f4:=F3.t4
  have fi:=F3.ti
  have fj:=F3.tj
  have fl:=F3.size
  have g3:=H3.get
  simp only[sliceS]at f0
  have nk3:¬U3.next<=k:=by have:=H3.lt;have:=H3.base.nx;omega
  simp only[go_sem,seval,opLen,undef,Int.toNat_natCast,f0,f1,f4,fi,fj,fl,g3,nk3,x1e,x2e,l1e,l2e,o1e,o2e,l3e,p1e,p2e,p3e,p4e]
  refine⟨rfl,λz hz=>?_,H3.swp (i:=j3) (j:=a) (by omega) (by omega) _⟩
  simp only[List.mem_cons,List.mem_append,List.not_mem_nil,or_false]at hz
  rcases hz with h|h|h|h|h|h|h<;>first|exact .inl h|exact hB3 z h
theorem parteq_call(hc:CmpOk U0 k g ys lt p){a b pivot:Nat}{d:Array E}{U:St}(H:SAt U0 k d G p U)(hap:a<=pivot)(hpb:pivot<b)(hbn:b<=d.size):
  callX Tryz.prog (fE E 205) [sliceS k s d.size cap,.int .i64 a,.int .i64 b,.int .i64 pivot,.func (.func g) ⟨[]⟩ ⟨ys⟩] U (SortE U0 k G p (.int .i64 (Sort.partitionEqual lt d a b pivot).1) (Sort.partitionEqual lt d a b pivot).2):=by
 have hsm:=H.small
 have w1:IntKind.i64.wrap ((a:Int)+1)=((a+1:Nat):Int):=by
  have:(a:Int)+1=((a+1:Nat):Int):=by omega
  rw[this];exact wrapIN (by omega)
 have w2:IntKind.i64.wrap ((b:Int) - 1)=((b - 1:Nat):Int):=by
  have:(b:Int) - 1=((b - 1:Nat):Int):=by omega
  rw[this];exact wrapIN (by omega)
 have g1:=H.get
 have nk:¬U.next<=k:=by have:=H.lt;have:=H.base.nx;omega
 have x1a:=arr_at (d:=d) (G:=G) (i:=a) (by omega)
 have x2a:=arr_at (d:=d) (G:=G) (i:=pivot) (by omega)
 have l1a:(a)*wE E+wE E<=(cellsE (d).toList++G).length:=arr_fit (by first|omega|(simp;omega))
 have l2a:(pivot)*wE E+wE E<=(cellsE (d).toList++G).length:=arr_fit (by first|omega|(simp;omega))
 have o1a:=arr_over (d:=d) (G:=G) (i:=a) (d)[pivot]! (by omega)
 have o2a:=arr_over (d:=(d).setIfInBounds (a) (d)[pivot]!) (G:=G) (i:=pivot) (d)[a]! (by simp;omega)
 have l3a:(pivot)*wE E+wE E<=(cellsE ((d).setIfInBounds (a) (d)[pivot]!).toList++G).length:=arr_fit (by first|omega|(simp;omega))
 have l4a:(a)*wE E+wE E<=(cellsE ((d).setIfInBounds (a) (d)[pivot]!).toList++G).length:=arr_fit (by first|omega|(simp;omega))
 have p1a:(0:Int)<=((a:Nat):Int):=by omega
 have p2a:((a:Nat):Int)<(d.size:Int):=by omega
 have p3a:(0:Int)<=((pivot:Nat):Int):=by omega
 have p4a:((pivot:Nat):Int)<(d.size:Int):=by omega
 have H1:=H.swp (i:=a) (j:=pivot) (by omega) (by omega) (.cells (cellsE (d.setIfInBounds a d[pivot]!).toList++G) false)
 obtain⟨R,hR⟩:∃R,Sort.partEqLoop lt a (a+1) (b - 1) (Sort.swp d a pivot)=R:=⟨_,rfl⟩
 have heq:Sort.partitionEqual lt d a b pivot=R:=hR
 rw[heq]
 refine enterE (E:=E) (p:=q0) Tryz.func205 rfl rfl ?_
 simp only[go_sem,seval,opLen,undef,sliceS,Tryz.f205,Int.toNat_natCast,g1,nk,w1,w2,x1a,x2a,l1a,l2a,o1a,o2a,l3a,p1a,p2a,p3a,p4a]
 refine loop_then (pql (s:=s) (cap:=cap) (G:=G) hc (n:=d.size) (a:=a) (by omega) (R:=R) _ _ _ ⟨_,_,a+1,b - 1,rfl,⟨rfl,rfl,rfl,rfl,rfl,rfl⟩,rfl,by omega,by omega,by omega,H1,swp_size,hR⟩) ?_
 intro x fr' U3 lg3 hlg3 hB3 h
 obtain⟨rfl,ts3,i3,j3,rfl,F3,hj3,hj3n,H3,hz3⟩:=h
 rw[<-hj3]
 simp only[go_sem,seval,opLen,undef,F3.t0,F3.t1,F3.t4,F3.ti,F3.tj,F3.size]
 refine⟨rfl,λz hz=>?_,H3⟩
 simp only[List.mem_cons,List.mem_append,List.not_mem_nil,or_false]at hz
 rcases hz with h|h|h<;>first|exact .inl h|exact hB3 z h
noncomputable def revB:Code:=loopOf (Tryz.f203.body.getD .skip)
def IRev(U0:St)(k s n cap:Nat)(p:E->Prop)(G:List Value)(D:Array E)(m:Nat)(fr:Fr)(U:St):Prop:=
 ∃ts d,∃i j:Nat,fr=⟨ts,[]⟩/\ts.length=34/\lget ts 0=sliceS k s n cap/\lget ts 8=.int .i64 i/\lget ts 9=.int .i64 j/\m=j - i/\j<n/\i<=n/\SAt U0 k d G p U/\d.size=n/\Sort.reverseLoop i j d=D
def ERev(U0:St)(k:Nat)(p:E->Prop)(G:List Value)(D:Array E)(x:AX)(fr:Fr)(U:St):Prop:=
 x=.exit 0/\fr.ds=[]/\SAt U0 k D G p U
theorem rev_loop{n:Nat}{D:Array E}:∀m fr U,IRev U0 k s n cap p G D m fr U->loopX Tryz.prog false (rE E revB) fr U (endL (ERev U0 k p G D) λz=>z=k\/U0.next<=z):=by
 refine loop_ind q0 (fE E 203) (st_loopOf (stG Tryz.func203 rfl rfl)) _ _ _ ?_
 rintro m fr U ⟨ts,d,i,j,rfl,el,e0,e8,e9,hm,hjn,hin,H,rfl,hD⟩
 have hsm:=H.small
 simp only[sliceS]at e0
 by_cases hij:i<j
 ·have c1:(i:Int)<(j:Int):=by omega
  have w1:IntKind.i64.wrap ((i:Int)+1)=((i+1:Nat):Int):=by
   have:(i:Int)+1=((i+1:Nat):Int):=by omega
   rw[this];exact wrapIN (by omega)
  have w2:IntKind.i64.wrap ((j:Int) - 1)=((j - 1:Nat):Int):=by
   have:(j:Int) - 1=((j - 1:Nat):Int):=by omega
   rw[this];exact wrapIN (by omega)
  have g1:=H.get
  have nk:¬U.next<=k:=by have:=H.lt;have:=H.base.nx;omega
  have x1r:=arr_at (d:=d) (G:=G) (i:=i) (by omega)
  have x2r:=arr_at (d:=d) (G:=G) (i:=j) (by omega)
  have l1r:(i)*wE E+wE E<=(cellsE (d).toList++G).length:=arr_fit (by first|omega|(simp;omega))
  have l2r:(j)*wE E+wE E<=(cellsE (d).toList++G).length:=arr_fit (by first|omega|(simp;omega))
  have o1r:=arr_over (d:=d) (G:=G) (i:=i) (d)[j]! (by omega)
  have o2r:=arr_over (d:=(d).setIfInBounds (i) (d)[j]!) (G:=G) (i:=j) (d)[i]! (by simp;omega)
  have l3r:(j)*wE E+wE E<=(cellsE ((d).setIfInBounds (i) (d)[j]!).toList++G).length:=arr_fit (by first|omega|(simp;omega))
  have l4r:(i)*wE E+wE E<=(cellsE ((d).setIfInBounds (i) (d)[j]!).toList++G).length:=arr_fit (by first|omega|(simp;omega))
  have p1r:(0:Int)<=((i:Nat):Int):=by omega
  have p2r:((i:Nat):Int)<(d.size:Int):=by omega
  have p3r:(0:Int)<=((j:Nat):Int):=by omega
  have p4r:((j:Nat):Int)<(d.size:Int):=by omega
  simp only[go_sem,seval,opLen,undef,revB,loopOf,Tryz.f203,Option.getD,Int.toNat_natCast,el,e0,e8,e9,c1,w1,w2,g1,nk,x1r,x2r,l1r,l2r,o1r,o2r,l3r,p1r,p2r,p3r,p4r]
  refine⟨.inl trivial,(j - 1) - (i+1),by omega,_,Sort.swp d i j,i+1,j - 1,rfl,by simp only[List.length_set,el],by simp only[go_sem,seval,opLen,el,e0]<;>rfl,by simp only[go_sem,seval,opLen,el],by simp only[go_sem,seval,opLen,el],rfl,by omega,by omega,H.swp (by omega) (by omega) _,swp_size,?_⟩
  rw[<-hD,Sort.reverseLoop.eq_def i j d,if_pos hij]
 ·have c1:¬(i:Int)<(j:Int):=by omega
  simp only[go_sem,seval,opLen,undef,revB,loopOf,Tryz.f203,Option.getD,el,e0,e8,e9,c1]
  have hDd:D=d:=by rw[<-hD,Sort.reverseLoop.eq_def i j d,if_neg hij]
  exact⟨rfl,rfl,hDd▸H⟩
theorem rev_call{a b:Nat}{d:Array E}{cv:Value}{U:St}(H:SAt U0 k d G p U)(hab:a<b)(hbn:b<=d.size):
  callX Tryz.prog (fE E 203) [sliceS k s d.size cap,.int .i64 a,.int .i64 b,cv] U λe U' lg=>e=.ret (.tuple ⟨[]⟩)/\SortR U0 k G p (Sort.reverseRange d a b) U' lg:=by
 have w2:IntKind.i64.wrap ((b:Int) - 1)=((b - 1:Nat):Int):=by
  have:(b:Int) - 1=((b - 1:Nat):Int):=by omega
  rw[this];exact wrapIN (by have:=H.small;omega)
 refine enterE (E:=E) (p:=q0) Tryz.func203 rfl rfl ?_
 simp only[go_sem,seval,opLen,undef,sliceS,Tryz.f203,w2]
 refine loop_then (rev_loop (s:=s) (n:=d.size) (cap:=cap) (G:=G) (p:=p) (U0:=U0) (k:=k) (D:=Sort.reverseRange d a b) _ _ _ ⟨_,d,a,b - 1,rfl,rfl,rfl,rfl,rfl,rfl,by omega,by omega,H,rfl,rfl⟩) ?_
 intro x fr' U' lg hlg hB h
 obtain⟨rfl,hds,H'⟩:=h
 obtain⟨ts',ds'⟩:=fr'
 simp only at hds
 subst hds
 simp only[go_sem,seval,opLen]
 exact⟨hB,H'⟩
end
end Go.Ab
namespace Go.Ab
open Go.Proofs
variable {E:Type} [SE E]
section
variable {U0:St} {k s cap:Nat} {g:FuncId} {ys:List Value} {lt:E->E->Bool} {p:E->Prop} {G:List Value}
structure CntAt(U0:St)(sb:Nat)(m:Int)(U:St):Prop where
 get:∃v:Int,U.get sb=some (.cells [.int .i64 v] false)/\0<=v/\v<=m
 lo:U0.next<=sb
 lt:sb<U.next
theorem SAt.cnt{d:Array E}{U:St}(H:SAt U0 k d G p U){sb:Nat}(h:U0.next<=sb)(o:AObj):SAt U0 k d G p (U.set sb o):=
 ⟨⟨H.base.nx,λc h1 h2=>by rw[St.get_set,if_neg (by omega)];exact H.base.get c h1 h2⟩,by rw[St.get_set,if_neg (by have:=H.lt;omega)];exact H.get,H.lt,H.all,H.small⟩
def Ord2R(U0:St)(k:Nat)(G:List Value)(p:E->Prop)(d:Array E)(sb:Nat)(m:Int)(a b:Nat)(e:AE)(U':St)(lg:Log):Prop:=
 ∃x y:Nat,((x=a/\y=b)\/(x=b/\y=a))/\e=.ret (.tuple ⟨[.int .i64 x,.int .i64 y]⟩)/\(∀z∈lg,z=sb)/\SAt U0 k d G p U'/\CntAt U0 sb (m+1) U'
theorem ord2_call(hc:CmpOk U0 k g ys lt p){a b sb:Nat}{m:Int}{d:Array E}{U:St}(H:SAt U0 k d G p U)(hs:CntAt U0 sb m U)(hm:m<1000000)(ha:a<d.size)(hb:b<d.size):
  callX Tryz.prog (fE E 236) [sliceS k s d.size cap,.int .i64 a,.int .i64 b,.pointer (some ⟨sb,0,none⟩),.func (.func g) ⟨[]⟩ ⟨ys⟩] U (Ord2R U0 k G p d sb m a b):=by
 obtain⟨v,gs,hv0,hv1⟩:=hs.get
 have hsb:=hs.lt
 have hlo:=hs.lo
 have hsm:=H.small
 have hkl:=H.lt
 obtain⟨r,hd,hr⟩:=hc.call U H.base d[b]! d[a]! (H.all _ hb) (H.all _ ha)
 have hbd:=hc.body
 have g1:=H.get
 have x1:=arr_at (d:=d) (G:=G) (i:=a) ha
 have x2:=arr_at (d:=d) (G:=G) (i:=b) hb
 have l1:a*wE E+wE E<=(cellsE d.toList++G).length:=arr_fit (by first|omega|(simp;omega))
 have l2:b*wE E+wE E<=(cellsE d.toList++G).length:=arr_fit (by first|omega|(simp;omega))
 have c1:(0:Int)<=(a:Int):=by omega
 have c2:(a:Int)<(d.size:Int):=by omega
 have c3:(0:Int)<=(b:Int):=by omega
 have c4:(b:Int)<(d.size:Int):=by omega
 have w1:IntKind.i64.wrap (v+1)=v+1:=wrapI (by omega) (by omega)
 have nk:¬U.next<=k:=by have:=H.base.nx;omega
 refine enterE (E:=E) (p:=q0) Tryz.func236 rfl rfl ?_
 by_cases hr0:r<0
 ·simp only[go_sem,seval,opLen,undef,sliceS,Tryz.f236,Int.toNat_natCast,g1,gs,hsb,hbd,x1,x2,l1,l2,c1,c2,c3,c4,w1,nk]
  refine .of hd ?_
  simp only[go_sem,seval,opLen,undef,Int.toNat_natCast,gs,hsb,hr0,w1,nk]
  exact⟨b,a,.inr ⟨rfl,rfl⟩,rfl,λz hz=>by simpa using hz,H.cnt hlo _,⟨v+1,by rw[St.get_set,if_pos rfl],by omega,by omega⟩,hlo,hsb⟩
 ·simp only[go_sem,seval,opLen,undef,sliceS,Tryz.f236,Int.toNat_natCast,g1,gs,hsb,hbd,x1,x2,l1,l2,c1,c2,c3,c4,w1,nk]
  refine .of hd ?_
  simp only[go_sem,seval,opLen,undef,Int.toNat_natCast,gs,hsb,hr0,w1,nk]
  exact⟨a,b,.inl ⟨rfl,rfl⟩,rfl,λz hz=>by simp at hz,H,⟨v,gs,hv0,by omega⟩,hlo,hsb⟩
def MedR(U0:St)(k:Nat)(G:List Value)(p:E->Prop)(d:Array E)(sb:Nat)(m:Int)(a b c:Nat)(e:AE)(U':St)(lg:Log):Prop:=
 ∃x:Nat,(x=a\/x=b\/x=c)/\e=.ret (.int .i64 x)/\(∀z∈lg,z=sb)/\SAt U0 k d G p U'/\CntAt U0 sb (m+3) U'
theorem med_call(hc:CmpOk U0 k g ys lt p){a b c sb:Nat}{m:Int}{d:Array E}{U:St}(H:SAt U0 k d G p U)(hs:CntAt U0 sb m U)(hm:m<1000)(ha:a<d.size)(hb:b<d.size)(hcc:c<d.size):
  callX Tryz.prog (fE E 224) [sliceS k s d.size cap,.int .i64 a,.int .i64 b,.int .i64 c,.pointer (some ⟨sb,0,none⟩),.func (.func g) ⟨[]⟩ ⟨ys⟩] U (MedR U0 k G p d sb m a b c):=by
 refine enterE (E:=E) (p:=q0) Tryz.func224 rfl rfl ?_
 simp only[go_sem,seval,opLen,undef,Tryz.f224,body236]
 refine callX.hidE (ord2_call (s:=s) (cap:=cap) hc H hs (by omega) ha hb) ?_
 intro e U1 lg1 hlg1 hA
 obtain⟨x1,y1,hxy1,rfl,hB1,H1,hs1⟩:=hA
 have hx1:x1<d.size:=by omega
 have hy1:y1<d.size:=by omega
 refine⟨?_⟩
 simp only[go_sem,seval,opLen,undef,body236]
 refine callX.hidE (ord2_call (s:=s) (cap:=cap) hc H1 hs1 (by omega) hy1 hcc) ?_
 intro e U2 lg2 hlg2 hA
 obtain⟨x2,y2,hxy2,rfl,hB2,H2,hs2⟩:=hA
 have hx2:x2<d.size:=by omega
 refine⟨?_⟩
 simp only[go_sem,seval,opLen,undef,body236]
 refine callX.hidE (ord2_call (s:=s) (cap:=cap) hc H2 hs2 (by omega) hx1 hx2) ?_
 intro e U3 lg3 hlg3 hA
 obtain⟨x3,y3,hxy3,rfl,hB3,H3,hs3⟩:=hA
 refine⟨?_⟩
 simp only[go_sem,seval,opLen,undef,body236]
 have e3:m+1+1+1=m+3:=by omega
 rw[e3]at hs3
 refine⟨y3,by omega,rfl,λz hz=>?_,H3,hs3⟩
 simp only[List.mem_append]at hz
 rcases hz with h|h|h
 ·exact hB1 z h
 ·exact hB2 z h
 ·exact hB3 z h
theorem medadj_call(hc:CmpOk U0 k g ys lt p){a sb:Nat}{m:Int}{d:Array E}{U:St}(H:SAt U0 k d G p U)(hs:CntAt U0 sb m U)(hm:m<1000)(ha0:0<a)(ha:a+1<d.size):
  callX Tryz.prog (fE E 223) [sliceS k s d.size cap,.int .i64 a,.pointer (some ⟨sb,0,none⟩),.func (.func g) ⟨[]⟩ ⟨ys⟩] U (MedR U0 k G p d sb m (a - 1) a (a+1)):=by
 have w1:IntKind.i64.wrap ((a:Int) - 1)=((a - 1:Nat):Int):=by
  have:(a:Int) - 1=((a - 1:Nat):Int):=by omega
  rw[this];exact wrapIN (by have:=H.small;omega)
 have w2:IntKind.i64.wrap ((a:Int)+1)=((a+1:Nat):Int):=by
  have:(a:Int)+1=((a+1:Nat):Int):=by omega
  rw[this];exact wrapIN (by have:=H.small;omega)
 refine enterE (E:=E) (p:=q0) Tryz.func223 rfl rfl ?_
 simp only[go_sem,seval,opLen,undef,Tryz.f223,w1,w2,body224]
 refine callX.hidE (med_call (s:=s) (cap:=cap) hc H hs hm (a:=a - 1) (b:=a) (c:=a+1) (by omega) (by omega) ha) ?_
 intro e U1 lg1 hlg1 hA
 obtain⟨x,hx,rfl,hB,H1,hs1⟩:=hA
 refine⟨?_⟩
 simp only[go_sem,seval,opLen,undef]
 exact⟨x,hx,rfl,hB,H1,hs1⟩
def PivR(U0:St)(k:Nat)(G:List Value)(p:E->Prop)(d:Array E)(a b:Nat)(e:AE)(U':St)(lg:Log):Prop:=
 ∃(x:Nat) (h:Int),(a<=x/\x<b)/\(h=0\/h=1\/h=2)/\e=.ret (.tuple ⟨[.int .i64 x,.int .i64 h]⟩)/\(∀z∈lg,U0.next<=z)/\SAt U0 k d G p U'
theorem SAt.fresh{d:Array E}{U:St}(H:SAt U0 k d G p U)(o:AObj):SAt U0 k d G p (U.new o):=
 ⟨H.base.new o,by rw[St.get_new,if_neg (by have:=H.lt;have:=H.base.nx;omega)];exact H.get,H.lt,H.all,H.small⟩
noncomputable def pivT:Code:=dropC 7 (Tryz.f202.body.getD .skip)
theorem piv_tail{pt:PureTab Tryz.prog}{ts:List Value}{U:St}{sb x:Nat}{m:Int}{d:Array E}{a b:Nat}{K:RR->Prop}(hs:CntAt U0 sb m U)(el:ts.length=63)(e11:lget ts 11=.pointer (some ⟨sb,0,none⟩))(e13:lget ts 13=.int .i64 x)
  (k':∀ts' (h:Int),(h=0\/h=1\/h=2)->ts'.length=63->lget ts' 8=.int .i64 x->lget ts' 9=.int .i64 h->K ⟨.ret,⟨ts',[]⟩,U,[]⟩):wp (cP Tryz.prog) pt (btAll (fE E 202)) false (rE E pivT) ⟨ts,[]⟩ U K:=by
 obtain⟨v,gs,hv0,hv1⟩:=hs.get
 have hsb:=hs.lt
 by_cases h0:v=0
 ·subst h0
  have b1:((0:Int)==0)=true:=by decide
  simp only[go_sem,seval,opLen,undef,pivT,dropC,Tryz.f202,Option.getD,el,e11,e13,gs,hsb,b1]
  exact k' _ 1 (by simp) (by simp only[List.length_set,el]) (by simp only[go_sem,seval,opLen,el]) (by simp only[go_sem,seval,opLen,el])
 ·have b1:(v==0)=false:=by rw[beq_eq_false_iff_ne];exact h0
  by_cases h1:v=12
  ·subst h1
   have b2:((12:Int)==12)=true:=by decide
   simp only[go_sem,seval,opLen,undef,pivT,dropC,Tryz.f202,Option.getD,el,e11,e13,gs,hsb,b1,b2]
   exact k' _ 2 (by simp) (by simp only[List.length_set,el]) (by simp only[go_sem,seval,opLen,el]) (by simp only[go_sem,seval,opLen,el])
  ·have b2:(v==12)=false:=by rw[beq_eq_false_iff_ne];exact h1
   simp only[go_sem,seval,opLen,undef,pivT,dropC,Tryz.f202,Option.getD,el,e11,e13,gs,hsb,b1,b2]
   exact k' _ 0 (by simp) (by simp only[List.length_set,el]) (by simp only[go_sem,seval,opLen,el]) (by simp only[go_sem,seval,opLen,el])
attribute [irreducible] pivT
noncomputable def pivB:Code:=Tryz.f202.body.getD .skip
theorem pivB_is:pivB=(nthC 0 pivB).seq ((nthC 1 pivB).seq ((nthC 2 pivB).seq ((nthC 3 pivB).seq ((nthC 4 pivB).seq ((nthC 5 pivB).seq ((nthC 6 pivB).seq pivT)))))):=by
 unfold pivT
 rfl
theorem piv_call(hc:CmpOk U0 k g ys lt p){a b:Nat}{d:Array E}{U:St}(H:SAt U0 k d G p U)(hab:a+8<=b)(hbn:b<=d.size):
  callX Tryz.prog (fE E 202) [sliceS k s d.size cap,.int .i64 a,.int .i64 b,.func (.func g) ⟨[]⟩ ⟨ys⟩] U (PivR U0 k G p d a b):=by
 have hsm:=H.small
 have hkl:=H.lt
 have hnx:=H.base.nx
 have nz:¬(4:Int)=0:=by decide
 have w1:IntKind.i64.wrap ((b:Int) - (a:Int))=((b - a:Nat):Int):=by
  have:(b:Int) - (a:Int)=((b - a:Nat):Int):=by omega
  rw[this];exact wrapIN (by omega)
 obtain⟨q,hq⟩:∃q,q=(b - a) / 4:=⟨_,rfl⟩
 have t1:IntKind.i64.wrap (((b - a:Nat):Int).tdiv 4)=(q:Int):=by
  rw[Int.tdiv_eq_ediv_of_nonneg (by omega),hq]
  have:((b - a:Nat):Int) / 4=(((b - a) / 4:Nat):Int):=by omega
  rw[this];exact wrapIN (by omega)
 have w2:IntKind.i64.wrap ((q:Int)*1)=(q:Int):=by rw[Int.mul_one];exact wrapIN (by omega)
 have w3:IntKind.i64.wrap ((q:Int)*2)=((q*2:Nat):Int):=by
  have:(q:Int)*2=((q*2:Nat):Int):=by omega
  rw[this];exact wrapIN (by omega)
 have w4:IntKind.i64.wrap ((q:Int)*3)=((q*3:Nat):Int):=by
  have:(q:Int)*3=((q*3:Nat):Int):=by omega
  rw[this];exact wrapIN (by omega)
 have w5:IntKind.i64.wrap ((a:Int)+(q:Int))=((a+q:Nat):Int):=by
  have:(a:Int)+(q:Int)=((a+q:Nat):Int):=by omega
  rw[this];exact wrapIN (by omega)
 have w6:IntKind.i64.wrap ((a:Int)+((q*2:Nat):Int))=((a+q*2:Nat):Int):=by
  have:(a:Int)+((q*2:Nat):Int)=((a+q*2:Nat):Int):=by omega
  rw[this];exact wrapIN (by omega)
 have w7:IntKind.i64.wrap ((a:Int)+((q*3:Nat):Int))=((a+q*3:Nat):Int):=by
  have:(a:Int)+((q*3:Nat):Int)=((a+q*3:Nat):Int):=by omega
  rw[this];exact wrapIN (by omega)
 have c1:(8:Int)<=((b - a:Nat):Int):=by omega
 have H1:=H.fresh (.cells [.int .i64 0] false)
 have hs1:CntAt U0 U.next 0 (U.new (.cells [.int .i64 0] false)):=⟨⟨0,by rw[St.get_new,if_pos rfl],by omega,by omega⟩,hnx,by rw[St.next_new];omega⟩
 by_cases h50:50<=b - a
 ·have c2:(50:Int)<=((b - a:Nat):Int):=by omega
  refine enterE (E:=E) (p:=q0) (c:=pivB) Tryz.func202 rfl rfl ?_
  rw[pivB_is]
  simp only[go_sem,seval,opLen,undef,pivB,nthC,Tryz.f202,Option.getD,w1,w2,w3,w4,w5,w6,w7,t1,nz,c1,c2,body223,body224]
  refine callX.hidE (medadj_call (s:=s) (cap:=cap) hc H1 hs1 (by omega) (a:=a+q) (by omega) (by omega)) ?_
  intro e U2 lg2 hlg2 hA
  obtain⟨x1,hx1,rfl,hB2,H2,hs2⟩:=hA
  have hy1:a<=x1/\x1<b:=by
   clear hc hs1 H1
   rcases hx1 with h|h|h<;>omega
  clear hx1
  refine⟨?_⟩
  simp only[go_sem,seval,opLen,undef,body223,body224]
  refine callX.hidE (medadj_call (s:=s) (cap:=cap) hc H2 hs2 (by omega) (a:=a+q*2) (by omega) (by omega)) ?_
  intro e U3 lg3 hlg3 hA
  obtain⟨x2,hx2,rfl,hB3,H3,hs3⟩:=hA
  have hy2:a<=x2/\x2<b:=by
   clear hc hs1 H1
   rcases hx2 with h|h|h<;>omega
  clear hx2
  refine⟨?_⟩
  simp only[go_sem,seval,opLen,undef,body223,body224]
  refine callX.hidE (medadj_call (s:=s) (cap:=cap) hc H3 hs3 (by omega) (a:=a+q*3) (by omega) (by omega)) ?_
  intro e U4 lg4 hlg4 hA
  obtain⟨x3,hx3,rfl,hB4,H4,hs4⟩:=hA
  have hy3:a<=x3/\x3<b:=by
   clear hc hs1 H1
   rcases hx3 with h|h|h<;>omega
  clear hx3
  refine⟨?_⟩
  simp only[go_sem,seval,opLen,undef,body223,body224]
  refine callX.hidE (med_call (s:=s) (cap:=cap) hc H4 hs4 (by omega) (a:=x1) (b:=x2) (c:=x3) (by omega) (by omega) (by omega)) ?_
  intro e U5 lg5 hlg5 hA
  obtain⟨x,hx,rfl,hB5,H5,hs5⟩:=hA
  have hy:a<=x/\x<b:=by rcases hx with h|h|h<;>omega
  clear hx
  refine⟨?_⟩
  simp only[go_sem,seval,opLen,undef,body223,body224]
  refine piv_tail (x:=x) (d:=d) (a:=a) (b:=b) hs5 ?_ ?_ ?_ ?_
  ·rfl
  ·rfl
  ·rfl
  intro ts' h hh h1 h2 h3
  simp only[go_sem,seval,opLen,h1,h2,h3]
  refine⟨x,h,hy,hh,rfl,λz hz=>?_,H5⟩
  simp only[List.mem_append]at hz
  rcases hz with(hz|hz|hz)|hz
  ·rw[hB2 z hz];exact hnx
  ·rw[hB3 z hz];exact hnx
  ·rw[hB4 z hz];exact hnx
  ·rw[hB5 z hz];exact hnx
 ·have c2:¬(50:Int)<=((b - a:Nat):Int):=by omega
  refine enterE (E:=E) (p:=q0) (c:=pivB) Tryz.func202 rfl rfl ?_
  rw[pivB_is]
  simp only[go_sem,seval,opLen,undef,pivB,nthC,Tryz.f202,Option.getD,w1,w2,w3,w4,w5,w6,w7,t1,nz,c1,c2,body223,body224]
  refine callX.hidE (med_call (s:=s) (cap:=cap) hc H1 hs1 (by omega) (a:=a+q) (b:=a+q*2) (c:=a+q*3) (by omega) (by omega) (by omega)) ?_
  intro e U5 lg5 hlg5 hA
  obtain⟨x,hx,rfl,hB5,H5,hs5⟩:=hA
  have hy:a<=x/\x<b:=by rcases hx with h|h|h<;>omega
  clear hx
  refine⟨?_⟩
  simp only[go_sem,seval,opLen,undef,body223,body224]
  refine piv_tail (x:=x) (d:=d) (a:=a) (b:=b) hs5 ?_ ?_ ?_ ?_
  ·rfl
  ·rfl
  ·rfl
  intro ts' h hh h1 h2 h3
  simp only[go_sem,seval,opLen,h1,h2,h3]
  refine⟨x,h,hy,hh,rfl,λz hz=>?_,H5⟩
  rw[hB5 z hz];exact hnx
end
end Go.Ab
namespace Go.Ab
open Go.Proofs
variable {E:Type} [SE E]
theorem len_all:(List.range 256).map (λn=>answers (whole 60 6 191 [.int .u64 (n:Nat)]))=(List.range 256).map λn=>some (.int .i64 (Sort.bitsLen n:Nat)):=by kernel_rfl
theorem pow_all:(List.range 256).map (λn=>answers (whole 60 6 221 [.int .i64 (n:Nat)]))=(List.range 256).map λn=>some (.int .u64 (2 ^ Sort.bitsLen n:Nat)):=by kernel_rfl
theorem bitslen_call{n:Nat}(h:n<256)(U:St):DCall Tryz.prog 191 [.int .u64 n] U (.ret (.int .i64 (Sort.bitsLen n:Nat))) U []:=
 whole_call (n:=60) (d:=6) (List.map_inj_left.1 len_all n (List.mem_range.2 h)) rfl rfl U
theorem pow2_call{n:Nat}(h:n<256)(U:St):DCall Tryz.prog 221 [.int .i64 n] U (.ret (.int .u64 (2 ^ Sort.bitsLen n:Nat))) U []:=
 whole_call (n:=60) (d:=6) (List.map_inj_left.1 pow_all n (List.mem_range.2 h)) rfl rfl U
def RndR(U:St)(rb:Nat)(e:AE)(U':St)(lg:Log):Prop:=∃w:Int,e=.ret (.int .u64 w)/\(∀z∈lg,z=rb)/\U'.next=U.next/\(∀c,c≠rb->U'.get c=U.get c)/\U'.get rb=some (.cells [.int .u64 w] false)
theorem rnd_call{U:St}{rb:Nat}{v:Int}(g:U.get rb=some (.cells [.int .u64 v] false))(hl:rb<U.next):callX Tryz.prog 222 [.pointer (some ⟨rb,0,none⟩)] U (RndR U rb):=by
 have n1:¬U.next<=rb:=by omega
 refine enter (p:=q0) Tryz.func222 rfl stat222 ?_
 simp only[go_sem,seval,opLen,undef,isShift,shiftOp,IntKind.bits,Tryz.f222,g,hl,n1]
 exact⟨_,rfl,λz hz=>by simpa using hz,rfl,λc hc=>by rw[St.get_set,if_neg (Ne.symm hc),St.get_set,if_neg (Ne.symm hc),St.get_set,if_neg (Ne.symm hc)],by rw[St.get_set,if_pos rfl]⟩
end Go.Ab
namespace Go.Ab
open Go.Proofs
variable {E:Type} [SE E]
section
variable {U0:St} {k s cap:Nat} {p:E->Prop} {G:List Value}
noncomputable def brkB:Code:=loopOf (dropC 2 (thenOf (dropC 1 (dropC 1 (Tryz.f201.body.getD .skip)))))
structure FB(ts:List Value)(dv:Value)(a len rb M x:Nat):Prop where
 size:ts.length=67
 t0:lget ts 0=dv
 t1:lget ts 1=.int .i64 a
 t8:lget ts 8=.int .i64 len
 t9:lget ts 9=.pointer (some ⟨rb,0,none⟩)
 t10:lget ts 10=.int .u64 M
 t11:lget ts 11=.int .i64 x
def IBr(U0:St)(k s n cap:Nat)(p:E->Prop)(G:List Value)(d:Array E)(a b rb M:Nat)(m:Nat)(fr:Fr)(U:St):Prop:=
 ∃ts d' v,∃x:Nat,fr=⟨ts,[]⟩/\FB ts (sliceS k s n cap) a (b - a) rb M x/\x+m=a+(b - a) / 4*2+2/\a+(b - a) / 4*2 - 1<=x/\SAt U0 k d' G p U/\d'.size=n/\Sort.PermIn a b d d'/\U.get rb=some (.cells [.int .u64 v] false)/\rb<U.next
def EBr(U0:St)(k:Nat)(p:E->Prop)(G:List Value)(d:Array E)(a b:Nat)(x:AX)(fr:Fr)(U:St):Prop:=
 x=.exit 0/\fr.ds=[]/\∃d',SAt U0 k d' G p U/\Sort.PermIn a b d d'
theorem and_small(w:Int){M:Nat}(h0:0<M)(hM:M<10000000):∃o:Nat,IntKind.i64.wrap (IntKind.u64.wrap (((BitVec.ofInt IntKind.u64.bits w &&& BitVec.ofInt IntKind.u64.bits ((M - 1:Nat):Int)).toNat:Nat):Int))=(o:Int)/\o<M:=by
 have h1:(BitVec.ofInt IntKind.u64.bits w &&& BitVec.ofInt IntKind.u64.bits ((M - 1:Nat):Int)).toNat<=M - 1:=by
  rw[BitVec.toNat_and]
  refine Nat.le_trans Nat.and_le_right ?_
  rw[BitVec.toNat_ofInt]
  show(((M - 1:Nat):Int) % ((2 ^ 64:Nat):Int)).toNat<=M - 1
  omega
 refine⟨_,?_,Nat.lt_of_le_of_lt h1 (by omega)⟩
 rw[wrapUN (by omega),wrapIN (by omega)]
theorem brk_loop{n:Nat}{d:Array E}{a b rb M:Nat}(hab:a+8<=b)(hbn:b<=n)(hn:n<1000000)(hM:0<M/\M<=2*(b - a))(hrb:U0.next<=rb):
  ∀m fr U,IBr U0 k s n cap p G d a b rb M m fr U->loopX Tryz.prog false (rE E brkB) fr U (endL (EBr U0 k p G d a b) λz=>z=k\/U0.next<=z):=by
 refine loop_ind q0 (fE E 201) (st_loopOf (st_dropC (st_thenOf (st_dropC (st_dropC (stG Tryz.func201 rfl rfl)))))) _ _ _ ?_
 rintro m fr U ⟨ts,d',v,x,rfl,F,hm,hx,H,hdn,hP,gr,hrl⟩
 have e0:=F.t0
 have e1:=F.t1
 have e8:=F.t8
 have e9:=F.t9
 have e10:=F.t10
 have e11:=F.t11
 have el:=F.size
 have hkl:=H.lt
 simp only[sliceS]at e0
 have nz:¬(4:Int)=0:=by decide
 obtain⟨q,hq⟩:∃q,q=(b - a) / 4:=⟨_,rfl⟩
 rw[<-hq]at hm hx
 have t1:IntKind.i64.wrap (((b - a:Nat):Int).tdiv 4)=(q:Int):=by
  rw[Int.tdiv_eq_ediv_of_nonneg (by omega),hq]
  have:((b - a:Nat):Int) / 4=(((b - a) / 4:Nat):Int):=by omega
  rw[this];exact wrapIN (by omega)
 have w3:IntKind.i64.wrap ((q:Int)*2)=((q*2:Nat):Int):=by
  have:(q:Int)*2=((q*2:Nat):Int):=by omega
  rw[this];exact wrapIN (by omega)
 have w6:IntKind.i64.wrap ((a:Int)+((q*2:Nat):Int))=((a+q*2:Nat):Int):=by
  have:(a:Int)+((q*2:Nat):Int)=((a+q*2:Nat):Int):=by omega
  rw[this];exact wrapIN (by omega)
 have w7:IntKind.i64.wrap (((a+q*2:Nat):Int)+1)=((a+(q*2+1):Nat):Int):=by
  have:((a+q*2:Nat):Int)+1=((a+(q*2+1):Nat):Int):=by omega
  rw[this];exact wrapIN (by omega)
 by_cases hxm:x<=a+q*2+1
 ·have c0:(x:Int)<=((a+(q*2+1):Nat):Int):=by omega
  have w8:IntKind.u64.wrap ((M:Int) - 1)=((M - 1:Nat):Int):=by
   have:(M:Int) - 1=((M - 1:Nat):Int):=by omega
   rw[this];exact wrapUN (by omega)
  have w9:IntKind.i64.wrap ((x:Int)+1)=((x+1:Nat):Int):=by
   have:(x:Int)+1=((x+1:Nat):Int):=by omega
   rw[this];exact wrapIN (by omega)
  simp only[go_sem,seval,opLen,undef,brkB,dropC,loopOf,Tryz.f201,Option.getD,e0,e1,e8,e9,e10,e11,el,nz,t1,w3,w6,w7,c0,body222]
  refine callX.hidE (rnd_call gr hrl) ?_
  intro e U1 lg1 hlg1 hA
  obtain⟨w,rfl,hB,hnx,hg,gr1⟩:=hA
  obtain⟨o,ho,hoM⟩:=and_small w hM.1 (by omega)
  simp only[IntKind.bits]at ho
  have H1:SAt U0 k d' G p U1:=⟨⟨by rw[hnx];exact H.base.nx,λc h1 h2=>(hg c (by omega)).trans (H.base.get c h1 h2)⟩,(hg k (by omega)).trans H.get,hkl,H.all,H.small⟩
  have hB':∀z∈lg1,z=k\/U0.next<=z:=λz hz=>.inr (by rw[hB z hz];exact hrb)
  have g1:=H1.get
  have nk:¬U1.next<=k:=by have:=H1.base.nx;omega
  have hrl1:rb<U1.next:=by omega
  by_cases hol:b - a<=o
  ·obtain⟨y,hy⟩:∃y,y=o - (b - a):=⟨_,rfl⟩
   have c1:((b - a:Nat):Int)<=(o:Int):=by omega
   have v1:IntKind.i64.wrap ((o:Int) - ((b - a:Nat):Int))=(y:Int):=by
    have:(o:Int) - ((b - a:Nat):Int)=(y:Int):=by omega
    rw[this];exact wrapIN (by omega)
   have hyl:y<b - a:=by omega
   have hxb:x<b:=by omega
   have hxa:a<=x:=by omega
   have v2:IntKind.i64.wrap ((a:Int)+(y:Int))=((a+y:Nat):Int):=by
    have:(a:Int)+(y:Int)=((a+y:Nat):Int):=by omega
    rw[this];exact wrapIN (by omega)
   have x1:=arr_at (d:=d') (G:=G) (i:=x) (by omega)
   have x2:=arr_at (d:=d') (G:=G) (i:=a+y) (by omega)
   have l1:(x)*wE E+wE E<=(cellsE (d').toList++G).length:=arr_fit (by first|omega|(simp;omega))
   have l2:(a+y)*wE E+wE E<=(cellsE (d').toList++G).length:=arr_fit (by first|omega|(simp;omega))
   have o1:=arr_over (d:=d') (G:=G) (i:=x) (d')[a+y]! (by omega)
   have o2:=arr_over (d:=(d').setIfInBounds (x) (d')[a+y]!) (G:=G) (i:=a+y) (d')[x]! (by simp;omega)
   have l3:(a+y)*wE E+wE E<=(cellsE ((d').setIfInBounds (x) (d')[a+y]!).toList++G).length:=arr_fit (by first|omega|(simp;omega))
   have p1:(0:Int)<=((x:Nat):Int):=by omega
   have p2:((x:Nat):Int)<(n:Int):=by omega
   have p3:(0:Int)<=((a+y:Nat):Int):=by omega
   have p4:((a+y:Nat):Int)<(n:Int):=by omega
   have H2:=H1.swp (i:=x) (j:=a+y) (by omega) (by omega) (.cells (cellsE (d'.setIfInBounds x d'[a+y]!).toList++G) false)
   have hP2:Sort.PermIn a b d (Sort.swp d' x (a+y)):=Sort.permIn_trans _ _ _ _ _ hP (Sort.swp_permIn _ _ _ _ _ hxa hxb (by omega) (by omega) (by have:=hP.1;omega))
   refine⟨?_⟩
   simp only[go_sem,seval,opLen,undef,brkB,dropC,loopOf,Tryz.f201,Option.getD,Int.toNat_natCast,e0,e1,e8,e9,e10,e11,el,ho,w8,w9,c1,v2,g1,nk,x1,x2,l1,l2,o1,o2,l3,p1,p2,p3,p4,v1]
   refine⟨λz hz=>(by rcases hz with hz|hz|hz<;>first|exact hB' z hz|exact .inl hz),m - 1,by omega,_,Sort.swp d' x (a+y),w,x+1,rfl,⟨by simp only[List.length_set,el],by simp only[go_sem,seval,opLen,el,e0]<;>rfl,by simp only[go_sem,seval,opLen,el,e1],by simp only[go_sem,seval,opLen,el,e8],by simp only[go_sem,seval,opLen,el,e9],by simp only[go_sem,seval,opLen,el,e10],by simp only[go_sem,seval,opLen,el,w9]⟩,by omega,by omega,H2,by rw[swp_size];exact hdn,hP2,?_,?_⟩
   ·rw[St.get_set,if_neg (by omega),St.get_set,if_neg (by omega)];exact gr1
   ·simpa using hrl1
  ·obtain⟨y,hy⟩:∃y,y=o:=⟨_,rfl⟩
   subst hy
   have c1:¬((b - a:Nat):Int)<=(y:Int):=by omega
   have hyl:y<b - a:=by omega
   have hxb:x<b:=by omega
   have hxa:a<=x:=by omega
   have v2:IntKind.i64.wrap ((a:Int)+(y:Int))=((a+y:Nat):Int):=by
    have:(a:Int)+(y:Int)=((a+y:Nat):Int):=by omega
    rw[this];exact wrapIN (by omega)
   have x1:=arr_at (d:=d') (G:=G) (i:=x) (by omega)
   have x2:=arr_at (d:=d') (G:=G) (i:=a+y) (by omega)
   have l1:(x)*wE E+wE E<=(cellsE (d').toList++G).length:=arr_fit (by first|omega|(simp;omega))
   have l2:(a+y)*wE E+wE E<=(cellsE (d').toList++G).length:=arr_fit (by first|omega|(simp;omega))
   have o1:=arr_over (d:=d') (G:=G) (i:=x) (d')[a+y]! (by omega)
   have o2:=arr_over (d:=(d').setIfInBounds (x) (d')[a+y]!) (G:=G) (i:=a+y) (d')[x]! (by simp;omega)
   have l3:(a+y)*wE E+wE E<=(cellsE ((d').setIfInBounds (x) (d')[a+y]!).toList++G).length:=arr_fit (by first|omega|(simp;omega))
   have p1:(0:Int)<=((x:Nat):Int):=by omega
   have p2:((x:Nat):Int)<(n:Int):=by omega
   have p3:(0:Int)<=((a+y:Nat):Int):=by omega
   have p4:((a+y:Nat):Int)<(n:Int):=by omega
   have H2:=H1.swp (i:=x) (j:=a+y) (by omega) (by omega) (.cells (cellsE (d'.setIfInBounds x d'[a+y]!).toList++G) false)
   have hP2:Sort.PermIn a b d (Sort.swp d' x (a+y)):=Sort.permIn_trans _ _ _ _ _ hP (Sort.swp_permIn _ _ _ _ _ hxa hxb (by omega) (by omega) (by have:=hP.1;omega))
   refine⟨?_⟩
   simp only[go_sem,seval,opLen,undef,brkB,dropC,loopOf,Tryz.f201,Option.getD,Int.toNat_natCast,e0,e1,e8,e9,e10,e11,el,ho,w8,w9,c1,v2,g1,nk,x1,x2,l1,l2,o1,o2,l3,p1,p2,p3,p4]
   refine⟨λz hz=>(by rcases hz with hz|hz|hz<;>first|exact hB' z hz|exact .inl hz),m - 1,by omega,_,Sort.swp d' x (a+y),w,x+1,rfl,⟨by simp only[List.length_set,el],by simp only[go_sem,seval,opLen,el,e0]<;>rfl,by simp only[go_sem,seval,opLen,el,e1],by simp only[go_sem,seval,opLen,el,e8],by simp only[go_sem,seval,opLen,el,e9],by simp only[go_sem,seval,opLen,el,e10],by simp only[go_sem,seval,opLen,el,w9]⟩,by omega,by omega,H2,by rw[swp_size];exact hdn,hP2,?_,?_⟩
   ·rw[St.get_set,if_neg (by omega),St.get_set,if_neg (by omega)];exact gr1
   ·simpa using hrl1
 ·have c0:¬(x:Int)<=((a+(q*2+1):Nat):Int):=by omega
  simp only[go_sem,seval,opLen,undef,brkB,dropC,loopOf,Tryz.f201,Option.getD,e0,e1,e8,e9,e10,e11,el,nz,t1,w3,w6,w7,c0,body222]
  exact⟨rfl,rfl,d',H,hP⟩
end
end Go.Ab
namespace Go.Ab
open Go.Proofs
variable {E:Type} [SE E]
theorem pow_all2:((List.range 256).all λn=>Nat.beq n 0 || (Nat.blt 0 (2 ^ Sort.bitsLen n)&&Nat.ble (2 ^ Sort.bitsLen n) (2*n)))=true:=by kernel_rfl
theorem pow_le{n:Nat}(h:n<256)(h0:0<n):0<2 ^ Sort.bitsLen n/\2 ^ Sort.bitsLen n<=2*n:=by
 have h':=List.all_eq_true.1 pow_all2 n (List.mem_range.2 h)
 rcases Eq.mp (Bool.or_eq_true _ _) h' with h1|h1
 ·have:=Nat.eq_of_beq_eq_true h1
  omega
 ·have h2:=Eq.mp (Bool.and_eq_true _ _) h1
  exact⟨Nat.le_of_ble_eq_true h2.1,Nat.le_of_ble_eq_true h2.2⟩
section
variable {U0:St} {k s cap:Nat} {p:E->Prop} {G:List Value} {vc:Value}
def PermR(U0:St)(k:Nat)(G:List Value)(p:E->Prop)(a b:Nat)(d:Array E)(e:AE)(U':St)(lg:Log):Prop:=e=.ret (.tuple ⟨[]⟩)/\∃D,SortR U0 k G p D U' lg/\Sort.PermIn a b d D
theorem brk_call{a b:Nat}{d:Array E}{U:St}(H:SAt U0 k d G p U)(hab:a<=b)(hbn:b<=d.size)(hlen:b - a<256):
  callX Tryz.prog (fE E 201) [sliceS k s d.size cap,.int .i64 a,.int .i64 b,vc] U (PermR U0 k G p a b d):=by
 have hsm:=H.small
 have w1:IntKind.i64.wrap ((b:Int) - (a:Int))=((b - a:Nat):Int):=by
  have:(b:Int) - (a:Int)=((b - a:Nat):Int):=by omega
  rw[this];exact wrapIN (by omega)
 by_cases h8:8<=b - a
 ·have c0:(8:Int)<=((b - a:Nat):Int):=by omega
  have wu:IntKind.u64.wrap ((b - a:Nat):Int)=((b - a:Nat):Int):=wrapUN (by omega)
  obtain⟨M,hM⟩:∃M,M=2 ^ Sort.bitsLen (b - a):=⟨_,rfl⟩
  have hMM:=pow_le hlen (by omega)
  rw[<-hM]at hMM
  have hpow:=pow2_call hlen
  rw[<-hM]at hpow
  have nz:¬(4:Int)=0:=by decide
  obtain⟨q,hq⟩:∃q,q=(b - a) / 4:=⟨_,rfl⟩
  have t1:IntKind.i64.wrap (((b - a:Nat):Int).tdiv 4)=(q:Int):=by
   rw[Int.tdiv_eq_ediv_of_nonneg (by omega),hq]
   have:((b - a:Nat):Int) / 4=(((b - a) / 4:Nat):Int):=by omega
   rw[this];exact wrapIN (by omega)
  have w3:IntKind.i64.wrap ((q:Int)*2)=((q*2:Nat):Int):=by
   have:(q:Int)*2=((q*2:Nat):Int):=by omega
   rw[this];exact wrapIN (by omega)
  have w6:IntKind.i64.wrap ((a:Int)+((q*2:Nat):Int))=((a+q*2:Nat):Int):=by
   have:(a:Int)+((q*2:Nat):Int)=((a+q*2:Nat):Int):=by omega
   rw[this];exact wrapIN (by omega)
  have w7:IntKind.i64.wrap (((a+q*2:Nat):Int) - 1)=((a+q*2 - 1:Nat):Int):=by
   have:((a+q*2:Nat):Int) - 1=((a+q*2 - 1:Nat):Int):=by omega
   rw[this];exact wrapIN (by omega)
  have hk:=H.lt
  have hnx:=H.base.nx
  have H1:SAt U0 k d G p ((U.new (.cells [.int .u64 0] false)).set U.next (.cells [.int .u64 ((b - a:Nat):Int)] false)):=⟨⟨by rw[St.next_set,St.next_new];omega,λc h1 h2=>by rw[St.get_set,if_neg (by omega),St.get_new,if_neg (by omega)];exact H.base.get c h1 h2⟩,by rw[St.get_set,if_neg (by omega),St.get_new,if_neg (by omega)];exact H.get,hk,H.all,hsm⟩
  refine enterE (E:=E) (p:=q0) Tryz.func201 rfl rfl ?_
  simp only[go_sem,seval,opLen,undef,IntKind.bits,sliceS,Tryz.f201,w1,wu,c0,body221]
  refine .of (hpow _) ?_
  simp only[go_sem,seval,opLen,undef,IntKind.bits,c0,nz,t1,w3,w6,w7]
  refine loop_then (brk_loop (s:=s) (n:=d.size) (cap:=cap) (p:=p) (G:=G) (U0:=U0) (k:=k) (d:=d) (a:=a) (b:=b) (rb:=U.next) (M:=M) (by omega) hbn hsm hMM hnx 3 _ _ ⟨_,d,_,a+q*2 - 1,rfl,⟨rfl,rfl,rfl,rfl,rfl,rfl,rfl⟩,by rw[<-hq];omega,by rw[<-hq];exact Nat.le_refl _,H1,rfl,Sort.permIn_refl _ _ _,by rw[St.get_set,if_pos rfl],by rw[St.next_set,St.next_new];omega⟩) ?_
  intro x fr' U' lg hlg hB h
  obtain⟨rfl,hds,D,H',hP⟩:=h
  obtain⟨ts',ds'⟩:=fr'
  simp only at hds
  subst hds
  simp only[go_sem,seval,opLen]
  refine⟨rfl,D,⟨?_,H'⟩,hP⟩
  intro z hz
  simp only[List.mem_append,List.mem_cons,List.not_mem_nil,or_false,false_or]at hz
  rcases hz with rfl|hz
  ·exact .inr hnx
  ·exact hB z hz
 ·have c0:¬(8:Int)<=((b - a:Nat):Int):=by omega
  refine enterE (E:=E) (p:=q0) Tryz.func201 rfl rfl ?_
  simp only[go_sem,seval,opLen,undef,IntKind.bits,sliceS,Tryz.f201,w1,c0]
  exact⟨rfl,d,⟨λz hz=>by simp at hz,H⟩,Sort.permIn_refl _ _ _⟩
end
end Go.Ab
namespace Go.Ab
open Go.Proofs
variable {E:Type} [SE E]
structure FQ(ts:List Value)(dv cv:Value)(a b i u:Nat):Prop where
 size:ts.length=141
 t0:lget ts 0=dv
 t1:lget ts 1=.int .i64 a
 t2:lget ts 2=.int .i64 b
 t3:lget ts 3=cv
 t9:lget ts 9=.int .i64 i
 t10:lget ts 10=.int .i64 u
noncomputable def pisB:Code:=loopOf (nthC 2 (Tryz.f204.body.getD .skip))
noncomputable def pisA:Code:=blockOf (nthC 1 pisB)
section
variable {U0:St} {k s cap:Nat} {g:FuncId} {ys:List Value} {lt:E->E->Bool} {p:E->Prop} {G:List Value}
noncomputable def qsB:Code:=loopOf (nthC 0 pisA)
def IQs(dv cv:Value)(lt:E->E->Bool)(d:Array E)(a b u I:Nat)(Us:St)(m:Nat)(fr:Fr)(U:St):Prop:=
 ∃ts,∃i:Nat,fr=⟨ts,[]⟩/\FQ ts dv cv a b i u/\U=Us/\m=b - i/\a<i/\Sort.scanSorted lt d b i=I
def EQs(dv cv:Value)(a b u I:Nat)(Us:St)(x:AX)(fr:Fr)(U:St):Prop:=x=.exit 2/\U=Us/\∃ts,fr=⟨ts,[]⟩/\FQ ts dv cv a b I u
theorem qs_loop(hc:CmpOk U0 k g ys lt p){d:Array E}{Us:St}(H:SAt U0 k d G p Us){a b u I:Nat}(hbn:b<=d.size):
  ∀m fr U,IQs (sliceS k s d.size cap) (.func (.func g) ⟨[]⟩ ⟨ys⟩) lt d a b u I Us m fr U->loopX Tryz.prog false (rE E qsB) fr U (endL (EQs (sliceS k s d.size cap) (.func (.func g) ⟨[]⟩ ⟨ys⟩) a b u I Us) λ_=>False):=by
 refine loop_ind q0 (fE E 204) (st_loopOf (st_nthC (st_blockOf (st_nthC (st_loopOf (st_nthC (stG Tryz.func204 rfl rfl))))))) _ _ _ ?_
 rintro m fr U ⟨ts,i,rfl,F,rfl,hm,hai,hI⟩
 have e0:=F.t0
 have e1:=F.t1
 have e2:=F.t2
 have e3:=F.t3
 have e9:=F.t9
 have e10:=F.t10
 have el:=F.size
 have hsm:=H.small
 simp only[sliceS]at e0
 by_cases hib:i<b
 ·have c0:(i:Int)<(b:Int):=by omega
  obtain⟨r,hd,hr⟩:=hc.call U H.base d[i]! d[i - 1]! (H.all _ (by omega)) (H.all _ (by omega))
  have hb:=hc.body
  have g1:=H.get
  have x1:=arr_at (d:=d) (G:=G) (i:=i) (by omega)
  have x2:=arr_at (d:=d) (G:=G) (i:=i - 1) (by omega)
  have l1:i*wE E+wE E<=(cellsE d.toList++G).length:=arr_fit (by first|omega|(simp;omega))
  have l2:(i - 1)*wE E+wE E<=(cellsE d.toList++G).length:=arr_fit (by first|omega|(simp;omega))
  have c1:(0:Int)<=(i:Int):=by omega
  have c2:(i:Int)<(d.size:Int):=by omega
  have c3:(0:Int)<=((i - 1:Nat):Int):=by omega
  have c4:((i - 1:Nat):Int)<(d.size:Int):=by omega
  have w1:IntKind.i64.wrap ((i:Int) - 1)=((i - 1:Nat):Int):=by
   have:(i:Int) - 1=((i - 1:Nat):Int):=by omega
   rw[this];exact wrapIN (by omega)
  have w2:IntKind.i64.wrap ((i:Int)+1)=((i+1:Nat):Int):=by
   have:(i:Int)+1=((i+1:Nat):Int):=by omega
   rw[this];exact wrapIN (by omega)
  have nk:¬U.next<=k:=by have:=H.lt;have:=H.base.nx;omega
  by_cases hr0:r<0
  ·simp only[go_sem,seval,opLen,undef,qsB,pisA,pisB,blockOf,nthC,dropC,loopOf,Tryz.f204,Option.getD,Int.toNat_natCast,e0,e1,e2,e3,e9,e10,el,g1,hb,x1,x2,l1,l2,c0,c1,c2,c3,c4,w1,w2,nk]
   refine .of hd ?_
   simp only[go_sem,seval,opLen,undef,qsB,pisA,pisB,blockOf,nthC,dropC,loopOf,Tryz.f204,Option.getD,Int.toNat_natCast,e0,e1,e2,e3,e9,e10,el,g1,hb,x1,x2,l1,l2,c0,c1,c2,c3,c4,w1,w2,nk,hr0]
   have hlt:lt d[i]! d[i - 1]! = true:=by rw[<-hr];simp [hr0]
   have hIi:I=i:=by rw[<-hI,Sort.scanSorted.eq_def lt d b i,if_neg (by simp [hlt])]
   subst hIi
   exact⟨rfl,rfl,_,rfl,⟨by simp only[List.length_set,el],by simp only[go_sem,seval,opLen,el,e0]<;>rfl,by simp only[go_sem,seval,opLen,el,e1],by simp only[go_sem,seval,opLen,el,e2],by simp only[go_sem,seval,opLen,el,e3],by simp only[go_sem,seval,opLen,el,e9],by simp only[go_sem,seval,opLen,el,e10]⟩⟩
  ·simp only[go_sem,seval,opLen,undef,qsB,pisA,pisB,blockOf,nthC,dropC,loopOf,Tryz.f204,Option.getD,Int.toNat_natCast,e0,e1,e2,e3,e9,e10,el,g1,hb,x1,x2,l1,l2,c0,c1,c2,c3,c4,w1,w2,nk]
   refine .of hd ?_
   simp only[go_sem,seval,opLen,undef,qsB,pisA,pisB,blockOf,nthC,dropC,loopOf,Tryz.f204,Option.getD,Int.toNat_natCast,e0,e1,e2,e3,e9,e10,el,g1,hb,x1,x2,l1,l2,c0,c1,c2,c3,c4,w1,w2,nk,hr0]
   have hlt:lt d[i]! d[i - 1]! = false:=by rw[<-hr];simp [hr0]
   refine⟨b - (i+1),by omega,_,i+1,rfl,⟨by simp only[List.length_set,el],by simp only[go_sem,seval,opLen,el,e0]<;>rfl,by simp only[go_sem,seval,opLen,el,e1],by simp only[go_sem,seval,opLen,el,e2],by simp only[go_sem,seval,opLen,el,e3],by simp only[go_sem,seval,opLen,el],by simp only[go_sem,seval,opLen,el,e10]⟩,rfl,rfl,by omega,?_⟩
   rw[<-hI,Sort.scanSorted.eq_def lt d b i,if_pos (by simp [hlt,hib])]
 ·have c0:¬(i:Int)<(b:Int):=by omega
  simp only[go_sem,seval,opLen,undef,qsB,pisA,pisB,blockOf,nthC,dropC,loopOf,Tryz.f204,Option.getD,Int.toNat_natCast,e0,e1,e2,e3,e9,e10,el,c0]
  have hIi:I=i:=by rw[<-hI,Sort.scanSorted.eq_def lt d b i,if_neg (by simp;intro h;omega)]
  subst hIi
  exact⟨rfl,rfl,_,rfl,⟨by simp only[List.length_set,el],by simp only[go_sem,seval,opLen,el,e0]<;>rfl,by simp only[go_sem,seval,opLen,el,e1],by simp only[go_sem,seval,opLen,el,e2],by simp only[go_sem,seval,opLen,el,e3],by simp only[go_sem,seval,opLen,el,e9],by simp only[go_sem,seval,opLen,el,e10]⟩⟩
noncomputable def qdownB:Code:=loopOf (thenOf (nthC 1 (nthC 4 pisA)))
def IQdown(U0:St)(k n:Nat)(p:E->Prop)(G:List Value)(dv cv:Value)(lt:E->E->Bool)(D:Array E)(a b u i:Nat)(m:Nat)(fr:Fr)(U:St):Prop:=
 ∃ts d',∃j:Nat,fr=⟨ts,[]⟩/\FQ ts dv cv a b i u/\lget ts 11=.int .i64 j/\SAt U0 k d' G p U/\d'.size=n/\m=j/\j<n/\Sort.shiftDown lt j d'=D
def EQdown(U0:St)(k n:Nat)(p:E->Prop)(G:List Value)(dv cv:Value)(D:Array E)(a b u i:Nat)(x:AX)(fr:Fr)(U:St):Prop:=
 x=.exit 4/\∃ts,fr=⟨ts,[]⟩/\FQ ts dv cv a b i u/\SAt U0 k D G p U/\D.size=n
theorem qdown_loop(hc:CmpOk U0 k g ys lt p){D:Array E}{n a b u i:Nat}(hbn:b<=n)(hn:n<1000000):
  ∀m fr U,IQdown U0 k n p G (sliceS k s n cap) (.func (.func g) ⟨[]⟩ ⟨ys⟩) lt D a b u i m fr U->loopX Tryz.prog false (rE E qdownB) fr U (endL (EQdown U0 k n p G (sliceS k s n cap) (.func (.func g) ⟨[]⟩ ⟨ys⟩) D a b u i) λz=>z=k\/U0.next<=z):=by
 refine loop_ind q0 (fE E 204) (st_loopOf (st_thenOf (st_nthC (st_nthC (st_blockOf (st_nthC (st_loopOf (st_nthC (stG Tryz.func204 rfl rfl))))))))) _ _ _ ?_
 rintro m fr U ⟨ts,d',j,rfl,F,ej,H,hdn,hm,hjn,hD⟩
 have e0:=F.t0
 have e1:=F.t1
 have e2:=F.t2
 have e3:=F.t3
 have e9:=F.t9
 have e10:=F.t10
 have el:=F.size
 simp only[sliceS]at e0
 by_cases hj:1<=j
 ·obtain⟨j',rfl⟩:∃j',j=j'+1:=⟨j - 1,by omega⟩
  have c0:(1:Int)<=((j'+1:Nat):Int):=by omega
  obtain⟨r,hd,hr⟩:=hc.call U H.base d'[j'+1]! d'[j']! (H.all _ (by omega)) (H.all _ (by omega))
  have hb:=hc.body
  have g1:=H.get
  have x1:=arr_at (d:=d') (G:=G) (i:=j'+1) (by omega)
  have x2:=arr_at (d:=d') (G:=G) (i:=j') (by omega)
  have l1:(j'+1)*wE E+wE E<=(cellsE d'.toList++G).length:=arr_fit (by first|omega|(simp;omega))
  have l2:(j')*wE E+wE E<=(cellsE d'.toList++G).length:=arr_fit (by first|omega|(simp;omega))
  have o1:=arr_over (d:=d') (G:=G) (i:=j'+1) d'[j']! (by omega)
  have o2:=arr_over (d:=d'.setIfInBounds (j'+1) d'[j']!) (G:=G) (i:=j') d'[j'+1]! (by simp;omega)
  have l3:(j')*wE E+wE E<=(cellsE (d'.setIfInBounds (j'+1) d'[j']!).toList++G).length:=arr_fit (by first|omega|(simp;omega))
  have c1:(0:Int)<=((j'+1:Nat):Int):=by omega
  have c2:((j'+1:Nat):Int)<(n:Int):=by omega
  have c3:(0:Int)<=((j':Nat):Int):=by omega
  have c4:((j':Nat):Int)<(n:Int):=by omega
  have w1:IntKind.i64.wrap (((j'+1:Nat):Int) - 1)=((j':Nat):Int):=by
   have:((j'+1:Nat):Int) - 1=((j':Nat):Int):=by omega
   rw[this];exact wrapIN (by omega)
  have w2:IntKind.i64.wrap (((j'+1:Nat):Int)+1)=((j'+1+1:Nat):Int):=by
   have:((j'+1:Nat):Int)+1=((j'+1+1:Nat):Int):=by omega
   rw[this];exact wrapIN (by omega)
  have nk:¬U.next<=k:=by have:=H.lt;have:=H.base.nx;omega
  by_cases hr0:r<0
  ·simp only[go_sem,seval,opLen,undef,qdownB,pisA,pisB,blockOf,nthC,dropC,loopOf,Tryz.f204,Option.getD,Int.toNat_natCast,e0,e1,e2,e3,e9,e10,ej,el,g1,hb,x1,x2,l1,l2,l3,o1,o2,c0,c1,c2,c3,c4,w1,w2,nk]
   refine .of hd ?_
   simp only[go_sem,seval,opLen,undef,qdownB,pisA,pisB,blockOf,nthC,dropC,loopOf,Tryz.f204,Option.getD,Int.toNat_natCast,e0,e1,e2,e3,e9,e10,ej,el,g1,hb,x1,x2,l1,l2,l3,o1,o2,c0,c1,c2,c3,c4,w1,w2,nk,hr0]
   have hlt:lt d'[j'+1]! d'[j']! = true:=by rw[<-hr];simp [hr0]
   refine⟨.inl trivial,j',by omega,_,Sort.swp d' (j'+1) (j'),j',rfl,⟨by simp only[List.length_set,el],by simp only[go_sem,seval,opLen,el,e0]<;>rfl,by simp only[go_sem,seval,opLen,el,e1],by simp only[go_sem,seval,opLen,el,e2],by simp only[go_sem,seval,opLen,el,e3],by simp only[go_sem,seval,opLen,el,e9],by simp only[go_sem,seval,opLen,el,e10]⟩,by simp only[go_sem,seval,opLen,el],H.swp (by omega) (by omega) _,by rw[swp_size];exact hdn,rfl,by omega,?_⟩
   rw[<-hD]
   simp only[Sort.shiftDown]
   rw[if_neg (by simp [hlt])]
  ·simp only[go_sem,seval,opLen,undef,qdownB,pisA,pisB,blockOf,nthC,dropC,loopOf,Tryz.f204,Option.getD,Int.toNat_natCast,e0,e1,e2,e3,e9,e10,ej,el,g1,hb,x1,x2,l1,l2,l3,o1,o2,c0,c1,c2,c3,c4,w1,w2,nk]
   refine .of hd ?_
   simp only[go_sem,seval,opLen,undef,qdownB,pisA,pisB,blockOf,nthC,dropC,loopOf,Tryz.f204,Option.getD,Int.toNat_natCast,e0,e1,e2,e3,e9,e10,ej,el,g1,hb,x1,x2,l1,l2,l3,o1,o2,c0,c1,c2,c3,c4,w1,w2,nk,hr0]
   have hlt:lt d'[j'+1]! d'[j']! = false:=by rw[<-hr];simp [hr0]
   have hDd:D=d':=by
    rw[<-hD]
    simp only[Sort.shiftDown]
    rw[if_pos (by simp [hlt])]
   exact⟨rfl,_,rfl,⟨by simp only[List.length_set,el],by simp only[go_sem,seval,opLen,el,e0]<;>rfl,by simp only[go_sem,seval,opLen,el,e1],by simp only[go_sem,seval,opLen,el,e2],by simp only[go_sem,seval,opLen,el,e3],by simp only[go_sem,seval,opLen,el,e9],by simp only[go_sem,seval,opLen,el,e10]⟩,hDd▸H,hDd▸hdn⟩
 ·have c0:¬(1:Int)<=(j:Int):=by omega
  have hDd:D=d':=by
   rw[<-hD]
   obtain rfl:j=0:=by omega
   rfl
  simp only[go_sem,seval,opLen,undef,qdownB,pisA,pisB,blockOf,nthC,dropC,loopOf,Tryz.f204,Option.getD,Int.toNat_natCast,e0,e1,e2,e3,e9,e10,ej,el,c0]
  exact⟨rfl,_,rfl,⟨by simp only[List.length_set,el],by simp only[go_sem,seval,opLen,el,e0]<;>rfl,by simp only[go_sem,seval,opLen,el,e1],by simp only[go_sem,seval,opLen,el,e2],by simp only[go_sem,seval,opLen,el,e3],by simp only[go_sem,seval,opLen,el,e9],by simp only[go_sem,seval,opLen,el,e10]⟩,hDd▸H,hDd▸hdn⟩
noncomputable def qupB:Code:=loopOf (thenOf (nthC 1 (dropC 5 pisA)))
def IQup(U0:St)(k n:Nat)(p:E->Prop)(G:List Value)(dv cv:Value)(lt:E->E->Bool)(D:Array E)(a b u i:Nat)(m:Nat)(fr:Fr)(U:St):Prop:=
 ∃ts d',∃j:Nat,fr=⟨ts,[]⟩/\FQ ts dv cv a b i u/\lget ts 12=.int .i64 j/\SAt U0 k d' G p U/\d'.size=n/\m=b - j/\1<=j/\Sort.shiftUp lt b j d'=D
def EQup(U0:St)(k n:Nat)(p:E->Prop)(G:List Value)(dv cv:Value)(D:Array E)(a b u i:Nat)(x:AX)(fr:Fr)(U:St):Prop:=
 x=.exit 6/\∃ts,fr=⟨ts,[]⟩/\FQ ts dv cv a b i u/\SAt U0 k D G p U/\D.size=n
theorem qup_loop(hc:CmpOk U0 k g ys lt p){D:Array E}{n a b u i:Nat}(hbn:b<=n)(hn:n<1000000):
  ∀m fr U,IQup U0 k n p G (sliceS k s n cap) (.func (.func g) ⟨[]⟩ ⟨ys⟩) lt D a b u i m fr U->loopX Tryz.prog false (rE E qupB) fr U (endL (EQup U0 k n p G (sliceS k s n cap) (.func (.func g) ⟨[]⟩ ⟨ys⟩) D a b u i) λz=>z=k\/U0.next<=z):=by
 refine loop_ind q0 (fE E 204) (st_loopOf (st_thenOf (st_nthC (st_dropC (st_blockOf (st_nthC (st_loopOf (st_nthC (stG Tryz.func204 rfl rfl))))))))) _ _ _ ?_
 rintro m fr U ⟨ts,d',j,rfl,F,ej,H,hdn,hm,hj1,hD⟩
 have e0:=F.t0
 have e1:=F.t1
 have e2:=F.t2
 have e3:=F.t3
 have e9:=F.t9
 have e10:=F.t10
 have el:=F.size
 simp only[sliceS]at e0
 by_cases hj:j<b
 ·skip
  have c0:(j:Int)<(b:Int):=by omega
  obtain⟨r,hd,hr⟩:=hc.call U H.base d'[j]! d'[j - 1]! (H.all _ (by omega)) (H.all _ (by omega))
  have hb:=hc.body
  have g1:=H.get
  have x1:=arr_at (d:=d') (G:=G) (i:=j) (by omega)
  have x2:=arr_at (d:=d') (G:=G) (i:=j - 1) (by omega)
  have l1:(j)*wE E+wE E<=(cellsE d'.toList++G).length:=arr_fit (by first|omega|(simp;omega))
  have l2:(j - 1)*wE E+wE E<=(cellsE d'.toList++G).length:=arr_fit (by first|omega|(simp;omega))
  have o1:=arr_over (d:=d') (G:=G) (i:=j) d'[j - 1]! (by omega)
  have o2:=arr_over (d:=d'.setIfInBounds (j) d'[j - 1]!) (G:=G) (i:=j - 1) d'[j]! (by simp;omega)
  have l3:(j - 1)*wE E+wE E<=(cellsE (d'.setIfInBounds (j) d'[j - 1]!).toList++G).length:=arr_fit (by first|omega|(simp;omega))
  have c1:(0:Int)<=((j:Nat):Int):=by omega
  have c2:((j:Nat):Int)<(n:Int):=by omega
  have c3:(0:Int)<=((j - 1:Nat):Int):=by omega
  have c4:((j - 1:Nat):Int)<(n:Int):=by omega
  have w1:IntKind.i64.wrap (((j:Nat):Int) - 1)=((j - 1:Nat):Int):=by
   have:((j:Nat):Int) - 1=((j - 1:Nat):Int):=by omega
   rw[this];exact wrapIN (by omega)
  have w2:IntKind.i64.wrap (((j:Nat):Int)+1)=((j+1:Nat):Int):=by
   have:((j:Nat):Int)+1=((j+1:Nat):Int):=by omega
   rw[this];exact wrapIN (by omega)
  have nk:¬U.next<=k:=by have:=H.lt;have:=H.base.nx;omega
  by_cases hr0:r<0
  ·simp only[go_sem,seval,opLen,undef,qupB,pisA,pisB,blockOf,nthC,dropC,loopOf,Tryz.f204,Option.getD,Int.toNat_natCast,e0,e1,e2,e3,e9,e10,ej,el,g1,hb,x1,x2,l1,l2,l3,o1,o2,c0,c1,c2,c3,c4,w1,w2,nk]
   refine .of hd ?_
   simp only[go_sem,seval,opLen,undef,qupB,pisA,pisB,blockOf,nthC,dropC,loopOf,Tryz.f204,Option.getD,Int.toNat_natCast,e0,e1,e2,e3,e9,e10,ej,el,g1,hb,x1,x2,l1,l2,l3,o1,o2,c0,c1,c2,c3,c4,w1,w2,nk,hr0]
   have hlt:lt d'[j]! d'[j - 1]! = true:=by rw[<-hr];simp [hr0]
   refine⟨.inl trivial,b - (j+1),by omega,_,Sort.swp d' (j) (j - 1),j+1,rfl,⟨by simp only[List.length_set,el],by simp only[go_sem,seval,opLen,el,e0]<;>rfl,by simp only[go_sem,seval,opLen,el,e1],by simp only[go_sem,seval,opLen,el,e2],by simp only[go_sem,seval,opLen,el,e3],by simp only[go_sem,seval,opLen,el,e9],by simp only[go_sem,seval,opLen,el,e10]⟩,by simp only[go_sem,seval,opLen,el],H.swp (by omega) (by omega) _,by rw[swp_size];exact hdn,rfl,by omega,?_⟩
   rw[<-hD,Sort.shiftUp.eq_def lt b j d',if_pos hj,if_neg (by simp [hlt])]
   skip
  ·simp only[go_sem,seval,opLen,undef,qupB,pisA,pisB,blockOf,nthC,dropC,loopOf,Tryz.f204,Option.getD,Int.toNat_natCast,e0,e1,e2,e3,e9,e10,ej,el,g1,hb,x1,x2,l1,l2,l3,o1,o2,c0,c1,c2,c3,c4,w1,w2,nk]
   refine .of hd ?_
   simp only[go_sem,seval,opLen,undef,qupB,pisA,pisB,blockOf,nthC,dropC,loopOf,Tryz.f204,Option.getD,Int.toNat_natCast,e0,e1,e2,e3,e9,e10,ej,el,g1,hb,x1,x2,l1,l2,l3,o1,o2,c0,c1,c2,c3,c4,w1,w2,nk,hr0]
   have hlt:lt d'[j]! d'[j - 1]! = false:=by rw[<-hr];simp [hr0]
   have hDd:D=d':=by
    rw[<-hD,Sort.shiftUp.eq_def lt b j d',if_pos hj,if_pos (by simp [hlt])]
    skip
   exact⟨rfl,_,rfl,⟨by simp only[List.length_set,el],by simp only[go_sem,seval,opLen,el,e0]<;>rfl,by simp only[go_sem,seval,opLen,el,e1],by simp only[go_sem,seval,opLen,el,e2],by simp only[go_sem,seval,opLen,el,e3],by simp only[go_sem,seval,opLen,el,e9],by simp only[go_sem,seval,opLen,el,e10]⟩,hDd▸H,hDd▸hdn⟩
 ·have c0:¬(j:Int)<(b:Int):=by omega
  have hDd:D=d':=by
   rw[<-hD,Sort.shiftUp.eq_def lt b j d',if_neg hj]
   skip
  simp only[go_sem,seval,opLen,undef,qupB,pisA,pisB,blockOf,nthC,dropC,loopOf,Tryz.f204,Option.getD,Int.toNat_natCast,e0,e1,e2,e3,e9,e10,ej,el,c0]
  exact⟨rfl,_,rfl,⟨by simp only[List.length_set,el],by simp only[go_sem,seval,opLen,el,e0]<;>rfl,by simp only[go_sem,seval,opLen,el,e1],by simp only[go_sem,seval,opLen,el,e2],by simp only[go_sem,seval,opLen,el,e3],by simp only[go_sem,seval,opLen,el,e9],by simp only[go_sem,seval,opLen,el,e10]⟩,hDd▸H,hDd▸hdn⟩
end
end Go.Ab
