/- PortWorksSaid: part 1 of 8 of the proof that it returns true for every input and leaves its arguments as they were; no condition. -/
import Derived.CallsIn
import Derived.DefersIn
import Derived.RecoverIn
import Derived.RangeFuncIn
import Derived.Laws.Externs
import Derived.Laws.Entries
import Derived.Laws.Cells
import Derived.Laws.StructEq
import GoSem.Instr.Lookup
import Derived.Laws.CopyRow
import Derived.Laws.Tables
import Derived.Laws.Slices
import Derived.Laws.Small
import Derived.Deep.AppendSrc
import Derived.Laws.IdiomMaps
import Derived.Laws.IdiomRangeMap
import Derived.Laws.RangeString
set_option maxHeartbeats 6400000
set_option maxRecDepth 20000
set_option linter.unusedSimpArgs false
set_option linter.unusedVariables false
namespace Go.Ab
structure Loc where
 block:Nat
 off:Nat
 size:Nat
 fix:Option Obj:=none
abbrev Ren:=Nat->Option Loc
inductive AObj where
 |cells (vs:List Value) (ro:Bool)
 |map (es:List MapEntry) (clock:Nat)
 |mapIter (m:Option Nat) (since:Nat) (seen:Array Nat) (stepped:Nat)
 |stringIter (s:ByteArray) (pos:Nat)
 |loop (l:Loop)
 |deferred (n:Bool)
mutual
inductive VR(ρ:Ren):Value->Value->Prop
 |bool (b:Bool):VR ρ (.bool b) (.bool b)
 |int (k:IntKind) (n:Int):VR ρ (.int k n) (.int k n)
 |string (s:ByteArray):VR ρ (.string s) (.string s)
 |nilFunc:VR ρ .nilFunc .nilFunc
 |nilIface:VR ρ .nilIface .nilIface
 |ptrNil:VR ρ (.pointer none) (.pointer none)
 |ptr {b off:Nat} {l:Loc} (h:ρ b=some l):VR ρ (.pointer (some ⟨b,off,none⟩)) (.pointer (some ⟨l.block,l.off+off,none⟩))
 |sliceNil:VR ρ (.slice none 0 0) (.slice none 0 0)
 |sliceX {b off len cap:Nat} {l:Loc} (h:ρ b=some l):VR ρ (.slice (some ⟨b,off,some 0⟩) len cap) (.slice (some ⟨l.block,l.off+off,none⟩) len cap)
 |sliceG {b off len cap cap' u:Nat} {l:Loc} (h:ρ b=some l) (hc:cap<=cap') (hg:off+cap'*u<=l.size):
   VR ρ (.slice (some ⟨b,off,some (u+2)⟩) len cap) (.slice (some ⟨l.block,l.off+off,none⟩) len cap')
 |sliceE {b off cap':Nat} {a':Addr}:VR ρ (.slice (some ⟨b,off,some 1⟩) 0 0) (.slice (some a') 0 cap')
 |mapNil:VR ρ (.map none) (.map none)
 |map {r:Nat} {l:Loc} (h:ρ r=some l):VR ρ (.map (some r)) (.map (some l.block))
 |func {f:FuncId} {xs ys xs' ys':List Value} (h:VRL ρ xs xs') (h':VRL ρ ys ys'):VR ρ (.func (.func f) ⟨xs⟩ ⟨ys⟩) (.func (.func f) ⟨xs'⟩ ⟨ys'⟩)
 |yield {r:Nat} {l:Loc} (h:ρ r=some l):VR ρ (.func (.yield r) #[] #[]) (.func (.yield l.block) #[] #[])
 |iface {t:TypeId} {v v':Value} (h:VR ρ v v'):VR ρ (.iface t v) (.iface t v')
 |agg {xs ys:List Value} (h:VRL ρ xs ys):VR ρ (.agg ⟨xs⟩) (.agg ⟨ys⟩)
 |tuple {xs ys:List Value} (h:VRL ρ xs ys):VR ρ (.tuple ⟨xs⟩) (.tuple ⟨ys⟩)
inductive VRL(ρ:Ren):List Value->List Value->Prop
 |nil:VRL ρ [] []
 |cons {x y:Value} {xs ys:List Value} (h:VR ρ x y) (t:VRL ρ xs ys):VRL ρ (x :: xs) (y :: ys)
end
def Ren.le(ρ ρ':Ren):Prop:=∀b l,ρ b=some l->ρ' b=some l
theorem Ren.le_refl(ρ:Ren):ρ.le ρ:=λ_ _ h=>h
theorem Ren.le_trans{a b c:Ren}(h:a.le b)(h':b.le c):a.le c:=λx l e=>h' x l (h x l e)
mutual
theorem VR.mono{ρ ρ':Ren}(hl:ρ.le ρ'):{v w:Value}->VR ρ v w->VR ρ' v w
 |_,_,.bool b=>.bool b
 |_,_,.int k n=>.int k n
 |_,_,.string s=>.string s
 |_,_,.nilFunc=>.nilFunc
 |_,_,.nilIface=>.nilIface
 |_,_,.ptrNil=>.ptrNil
 |_,_,.ptr h=>.ptr (hl _ _ h)
 |_,_,.sliceNil=>.sliceNil
 |_,_,.sliceX h=>.sliceX (hl _ _ h)
 |_,_,.sliceG h hc hg=>.sliceG (hl _ _ h) hc hg
 |_,_,.sliceE=>.sliceE
 |_,_,.mapNil=>.mapNil
 |_,_,.map h=>.map (hl _ _ h)
 |_,_,.func h h'=>.func (VRL.mono hl h) (VRL.mono hl h')
 |_,_,.yield h=>.yield (hl _ _ h)
 |_,_,.iface h=>.iface (VR.mono hl h)
 |_,_,.agg h=>.agg (VRL.mono hl h)
 |_,_,.tuple h=>.tuple (VRL.mono hl h)
theorem VRL.mono{ρ ρ':Ren}(hl:ρ.le ρ'):{v w:List Value}->VRL ρ v w->VRL ρ' v w
 |_,_,.nil=>.nil
 |_,_,.cons h t=>.cons (VR.mono hl h) (VRL.mono hl t)
end
section lists
variable {ρ:Ren}
theorem VRL.length{xs ys:List Value}(h:VRL ρ xs ys):xs.length=ys.length:=by
 induction xs generalizing ys with
 |nil=>cases h;rfl
 |cons x xs ih=>cases h with|cons h t=>simp [ih t]
theorem VRL.get{xs ys:List Value}(h:VRL ρ xs ys)(i:Nat){v:Value}(hv:xs[i]?=some v):∃v':Value,ys[i]?=some v'/\VR ρ v v':=by
 induction xs generalizing ys i with
 |nil=>simp at hv
 |cons x xs ih=>
  cases h with
  |cons h t=>
   cases i with
   |zero=>simp at hv;subst hv;exact⟨_,by simp,h⟩
   |succ i=>simp at hv;obtain⟨v',h1,h2⟩:=ih t i hv;exact⟨v',by simpa using h1,h2⟩
theorem VRL.of_get{xs ys:List Value}(hl:xs.length=ys.length)(h:∀(i:Nat) (v:Value),xs[i]?=some v->∃v':Value,ys[i]?=some v'/\VR ρ v v'):VRL ρ xs ys:=by
 induction xs generalizing ys with
 |nil=>cases ys with|nil=>exact .nil|cons y ys=>simp at hl
 |cons x xs ih=>
  cases ys with
  |nil=>simp at hl
  |cons y ys=>
   refine .cons ?_ (ih (by simpa using hl) λi v hv=>?_)
   ·obtain⟨v',h1,h2⟩:=h 0 x (by simp);simp at h1;subst h1;exact h2
   ·obtain⟨v',h1,h2⟩:=h (i+1) v (by simpa using hv);exact⟨v',by simpa using h1,h2⟩
theorem VRL.append{a b c d:List Value}(h:VRL ρ a b)(h':VRL ρ c d):VRL ρ (a++c) (b++d):=by
 induction a generalizing b with
 |nil=>cases h;exact h'
 |cons x xs ih=>cases h with|cons h t=>exact .cons h (ih t)
theorem VRL.set{a b:List Value}(h:VRL ρ a b)(i:Nat){v w:Value}(hv:VR ρ v w):VRL ρ (a.set i v) (b.set i w):=by
 induction a generalizing b i with
 |nil=>cases h;exact .nil
 |cons x xs ih=>
  cases h with
  |cons h t=>cases i with
   |zero=>exact .cons hv t
   |succ i=>exact .cons h (ih t i)
theorem VRL.take{a b:List Value}(h:VRL ρ a b)(n:Nat):VRL ρ (a.take n) (b.take n):=by
 induction a generalizing b n with
 |nil=>cases h;simp;exact .nil
 |cons x xs ih=>
  cases h with
  |cons h t=>cases n with
   |zero=>exact .nil
   |succ n=>exact .cons h (ih t n)
theorem VRL.drop{a b:List Value}(h:VRL ρ a b)(n:Nat):VRL ρ (a.drop n) (b.drop n):=by
 induction a generalizing b n with
 |nil=>cases h;simp;exact .nil
 |cons x xs ih=>
  cases h with
  |cons h t=>cases n with
   |zero=>exact .cons h t
   |succ n=>exact ih t n
theorem VRL.replicate(n:Nat){v w:Value}(h:VR ρ v w):VRL ρ (List.replicate n v) (List.replicate n w):=by
 induction n with
 |zero=>exact .nil
 |succ n ih=>exact .cons h ih
end lists
inductive Tr where
 |leaf
 |node (l:Tr) (o:Option AObj) (r:Tr)
def bits:Nat->Nat->List Bool
 |0,_=>[]
 |_+1,0=>[]
 |f+1,n+1=>((n+1) % 2==1) :: bits f ((n+1) / 2)
def Tr.get:Tr->List Bool->Option AObj
 |.leaf,_=>none
 |.node _ o _,[]=>o
 |.node l _ r,b :: bs=>match b with|true=>r.get bs|false=>l.get bs
def Tr.fresh(x:Option AObj):List Bool->Tr
 |[]=>.node .leaf x .leaf
 |b :: bs=>match b with|true=>.node .leaf none (Tr.fresh x bs)|false=>.node (Tr.fresh x bs) none .leaf
def Tr.set(x:Option AObj):Tr->List Bool->Tr
 |.leaf,bs=>Tr.fresh x bs
 |.node l _ r,[]=>.node l x r
 |.node l o r,b :: bs=>match b with|true=>.node l o (r.set x bs)|false=>.node (l.set x bs) o r
theorem Tr.get_leaf(bs:List Bool):Tr.leaf.get bs=none:=by cases bs<;>rfl
theorem Tr.get_fresh(x:Option AObj)(bs cs:List Bool):(Tr.fresh x bs).get cs=if bs=cs then x else none:=by
 induction bs generalizing cs with
 |nil=>cases cs with
  |nil=>simp [Tr.fresh,Tr.get]
  |cons c cs=>cases c<;>simp [Tr.fresh,Tr.get]
 |cons b bs ih=>
  cases cs with
  |nil=>cases b<;>simp [Tr.fresh,Tr.get]
  |cons c cs=>cases b<;>cases c<;>simp [Tr.fresh,Tr.get,Tr.get_leaf,ih]
theorem Tr.get_set(x:Option AObj)(t:Tr)(bs cs:List Bool):(t.set x bs).get cs=if bs=cs then x else t.get cs:=by
 induction bs generalizing t cs with
 |nil=>
  cases t with
  |leaf=>rw[Tr.set,Tr.get_fresh,Tr.get_leaf]
  |node l o r=>cases cs with
   |nil=>simp [Tr.set,Tr.get]
   |cons c cs=>cases c<;>simp [Tr.set,Tr.get]
 |cons b bs ih=>
  cases t with
  |leaf=>rw[Tr.set,Tr.get_fresh,Tr.get_leaf]
  |node l o r=>
   cases cs with
   |nil=>cases b<;>simp [Tr.set,Tr.get]
   |cons c cs=>cases b<;>cases c<;>simp [Tr.set,Tr.get,ih]
theorem bits_inj:∀(f g a b:Nat),a<=f->b<=g->bits f a=bits g b->a=b:=by
 intro f
 induction f with
 |zero=>
  intro g a b ha hb h
  obtain rfl:a=0:=by omega
  cases g with
  |zero=>omega
  |succ g=>cases b with
   |zero=>rfl
   |succ b=>simp [bits]at h
 |succ f ih=>
  intro g a b ha hb h
  cases a with
  |zero=>
   cases g with
   |zero=>omega
   |succ g=>cases b with
    |zero=>rfl
    |succ b=>simp [bits]at h
  |succ a=>
   cases g with
   |zero=>
    obtain rfl:b=0:=by omega
    simp [bits]at h
   |succ g=>cases b with
    |zero=>simp [bits]at h
    |succ b=>
     simp only[bits,List.cons.injEq]at h
     have h2:=ih g _ _ (by omega) (by omega) h.2
     have h1:((a+1) % 2=1)↔((b+1) % 2=1):=by
      have:=h.1
      rw[Bool.eq_iff_iff]at this
      simpa using this
     omega
structure St where
 m:Tr
 next:Nat
def St.get(U:St)(b:Nat):Option AObj:=U.m.get (bits b b)
def St.put(U:St)(b:Nat)(o:Option AObj):St:={U with m:=U.m.set o (bits b b)}
def St.set(U:St)(b:Nat)(o:AObj):St:=U.put b (some o)
def St.new(U:St)(o:AObj):St:={m:=U.m.set (some o) (bits U.next U.next),next:=U.next+1}
theorem bits_eq{a b:Nat}:bits a a=bits b b↔a=b:=
 ⟨λh=>bits_inj a b a b (Nat.le_refl _) (Nat.le_refl _) h,λh=>by rw[h]⟩
theorem St.get_put(U:St)(b c:Nat)(o:Option AObj):(U.put b o).get c=if b=c then o else U.get c:=by
 simp only[St.get,St.put,Tr.get_set,bits_eq]
theorem St.get_set(U:St)(b c:Nat)(o:AObj):(U.set b o).get c=if b=c then some o else U.get c:=St.get_put U b c _
theorem St.get_new(U:St)(c:Nat)(o:AObj):(U.new o).get c=if U.next=c then some o else U.get c:=by
 simp only[St.get,St.new,Tr.get_set,bits_eq]
@[simp] theorem St.next_put(U:St)(b:Nat)(o:Option AObj):(U.put b o).next=U.next:=rfl
@[simp] theorem St.next_set(U:St)(b:Nat)(o:AObj):(U.set b o).next=U.next:=rfl
@[simp] theorem St.next_new(U:St)(o:AObj):(U.new o).next=U.next+1:=rfl
def DR(ρ:Ren)(d d':Deferred):Prop:=
 (∃fn c c',d.target=.fn (.func fn) c/\d'.target=.fn (.func fn) c'/\VRL ρ c.toList c'.toList/\VRL ρ d.args.toList d'.args.toList)\/
 (∃r l,ρ r=some l/\d={target:=.collected r,args:=#[]}/\d'={target:=.collected l.block,args:=#[]})
def DRL(ρ:Ren):List Deferred->List Deferred->Prop
 |[],[]=>True
 |d :: ds,e :: es=>DR ρ d e/\DRL ρ ds es
 |_,_=>False
def ME(ρ:Ren):List MapEntry->List MapEntry->Prop
 |[],[]=>True
 |d :: ds,e :: es=>(VR ρ d.key e.key/\VR ρ d.val e.val/\d.born=e.born)/\ME ρ ds es
 |_,_=>False
def OR(ρ:Ren)(l:Loc)(H:Array Obj):AObj->Prop
 |.cells vs ro=>∃(c:Array Value) (elem:TypeId) (fz:Nat×Nat),H[l.block]?=some (.cells c elem fz)/\c.size=l.off+l.size/\vs.length<=l.size/\
   ((ro=false->fz=(0,0))/\(ro=true->∀o,l.fix=some o->Obj.cells c elem fz=o))/\VRL ρ vs ((c.toList.drop l.off).take vs.length)
 |.map es clock=>∃es':Array MapEntry,H[l.block]?=some (.map es' clock)/\ME ρ es es'.toList
 |.mapIter m since seen stepped=>l.off=0/\∃m',H[l.block]?=some (.mapIter m' since seen stepped)/\VR ρ (.map m) (.map m')
 |.stringIter s pos=>l.off=0/\H[l.block]?=some (.stringIter s pos)
 |.loop r=>∃(ts:Array Value) (d:Nat) (ld:Loc) (g:FuncId),H[l.block]?=some (.loop {r with tmps:=ts,defers:=d,fn:=g})/\VRL ρ r.tmps.toList ts.toList/\ρ r.defers=some ld/\ld.block=d
 |.deferred n=>H[l.block]?=some (.deferred (if n then none else some []))
structure WR(ρ:Ren)(U:St)(H:Array Obj):Prop where
 dom:∀b l,ρ b=some l->b<U.next/\l.block<H.size
 obj:∀b l o,ρ b=some l->U.get b=some o->OR ρ l H o
 inj:∀b b' l l',ρ b=some l->ρ b'=some l'->U.get b≠none->U.get b'≠none->l.block=l'.block->l.fix=none\/l'.fix=none->b=b'
 fixd:∀b l,ρ b=some l->l.fix≠none->U.get b≠none->∃vs,U.get b=some (.cells vs true)
theorem WR.nofix{ρ:Ren}{U:St}{H:Array Obj}(h:WR ρ U H){b:Nat}{l:Loc}{o:AObj}(hl:ρ b=some l)(hg:U.get b=some o)(ho:∀vs,o≠.cells vs true):l.fix=none:=by
 cases hf:l.fix with
 |none=>rfl
 |some x=>
  obtain⟨vs,h1⟩:=h.fixd b l hl (by rw[hf];simp) (by rw[hg];simp)
  rw[hg]at h1
  exact absurd (Option.some.inj h1) (ho vs)
theorem ME.mono{ρ ρ':Ren}(hl:ρ.le ρ'):∀{a b:List MapEntry},ME ρ a b->ME ρ' a b
 |[],[],_=>trivial
 |_ :: _,_ :: _,h=>⟨⟨h.1.1.mono hl,h.1.2.1.mono hl,h.1.2.2⟩,ME.mono hl h.2⟩
 |[],_ :: _,h=>h.elim
 |_ :: _,[],h=>h.elim
theorem DR.mono{ρ ρ':Ren}(hl:ρ.le ρ'){a b:Deferred}(h:DR ρ a b):DR ρ' a b:=by
 rcases h with⟨fn,c,c',h1,h2,h3,h4⟩|⟨r,l,h1,h2,h3⟩
 ·exact .inl ⟨fn,c,c',h1,h2,h3.mono hl,h4.mono hl⟩
 ·exact .inr ⟨r,l,hl _ _ h1,h2,h3⟩
theorem DRL.mono{ρ ρ':Ren}(hl:ρ.le ρ'):∀{a b:List Deferred},DRL ρ a b->DRL ρ' a b
 |[],[],_=>trivial
 |_ :: _,_ :: _,h=>⟨h.1.mono hl,DRL.mono hl h.2⟩
 |[],_ :: _,h=>h.elim
 |_ :: _,[],h=>h.elim
theorem OR.mono{ρ ρ':Ren}(hl:ρ.le ρ'){l:Loc}{H:Array Obj}{o:AObj}(h:OR ρ l H o):OR ρ' l H o:=by
 cases o with
 |cells vs ro=>obtain⟨c,e,fz,h1,h2,h3,h4,h6⟩:=h;exact⟨c,e,fz,h1,h2,h3,h4,h6.mono hl⟩
 |map es clock=>obtain⟨es',h1,h2⟩:=h;exact⟨es',h1,h2.mono hl⟩
 |mapIter m a b c=>obtain⟨h0,m',h1,h2⟩:=h;exact⟨h0,m',h1,h2.mono hl⟩
 |stringIter s pos=>exact h
 |loop r=>obtain⟨ts,d,ld,g,h1,h2,h3,h4⟩:=h;exact⟨ts,d,ld,g,h1,h2.mono hl,hl _ _ h3,h4⟩
 |deferred n=>exact h
theorem OR.of_block{ρ:Ren}{l:Loc}{H H':Array Obj}{o:AObj}(hb:H'[l.block]?=H[l.block]?)(h:OR ρ l H o):OR ρ l H' o:=by
 cases o with
 |cells vs ro=>obtain⟨c,e,fz,h1,h2⟩:=h;exact⟨c,e,fz,hb.trans h1,h2⟩
 |map es clock=>obtain⟨es',h1,h2⟩:=h;exact⟨es',hb.trans h1,h2⟩
 |mapIter m a b c=>obtain⟨h0,m',h1,h2⟩:=h;exact⟨h0,m',hb.trans h1,h2⟩
 |stringIter s pos=>exact⟨h.1,hb.trans h.2⟩
 |loop r=>obtain⟨ts,d,ld,g,h1,h2⟩:=h;exact⟨ts,d,ld,g,hb.trans h1,h2⟩
 |deferred n=>exact hb.trans h
structure Aft(ρ:Ren)(U:St)(w:World)(ρ':Ren)(U':St)(w':World):Prop where
 ext:∀b,b<U.next->ρ' b=ρ b
 wr:WR ρ' U' w'.heap
 size:w.heap.size<=w'.heap.size
 fr:∀k,k<w.heap.size->(∀b l,ρ b=some l->U.get b≠none->l.block≠k)->w'.heap[k]?=w.heap[k]?
 nxt:U.next<=U'.next
 kept:∀b,b<U.next->ρ b=none->U'.get b=U.get b
 dead:∀b,b<U.next->U.get b=none->U'.get b=none
 fresh:∀b l,U.next<=b->ρ' b=some l->w.heap.size<=l.block\/∃b₀ l₀,ρ b₀=some l₀/\U.get b₀≠none/\l₀.block=l.block
 nofix:∀b l,U.next<=b->ρ' b=some l->l.fix=none
 tape:w'.tape=w.tape
 os:w'.os=w.os
 out:w'.output=w.output
theorem Aft.refl {ρ : Ren} {U : St} {w : World} (h : WR ρ U w.heap) : Aft ρ U w ρ U w :=
  { ext := fun _ _ => rfl, wr := h, size := Nat.le_refl _, fr := fun _ _ _ => rfl, nxt := Nat.le_refl _, kept := fun _ _ _ => rfl, dead := fun _ _ h => h,
    fresh := fun b l hb hl => absurd (h.dom b l hl).1 (by omega), nofix := fun b l hb hl => absurd (h.dom b l hl).1 (by omega), tape := rfl, os := rfl, out := rfl }
theorem Aft.le{ρ ρ':Ren}{U U':St}{w w':World}(h0:WR ρ U w.heap)(h:Aft ρ U w ρ' U' w'):ρ.le ρ':=λb l hl=>(h.ext b (h0.dom b l hl).1).trans hl
theorem Aft.trans{ρ ρ₁ ρ₂:Ren}{U U₁ U₂:St}{w w₁ w₂:World}(h:Aft ρ U w ρ₁ U₁ w₁)(k:Aft ρ₁ U₁ w₁ ρ₂ U₂ w₂):Aft ρ U w ρ₂ U₂ w₂ where
 ext b hb:=(k.ext b (by have:=h.nxt;omega)).trans (h.ext b hb)
 wr:=k.wr
 size:=Nat.le_trans h.size k.size
 fr j hj hn:=by
  refine(k.fr j (by have:=h.size;omega) λb l hb hg hbl=>?_).trans (h.fr j hj hn)
  by_cases hlt:b<U.next
  ·have hb':ρ b=some l:=(h.ext b hlt).symm.trans hb
   exact hn b l hb' (λhe=>hg (h.dead b hlt he)) hbl
  ·rcases h.fresh b l (by omega) hb with h1|⟨b₀,l₀,h1,h2,h3⟩
   ·omega
   ·exact hn b₀ l₀ h1 h2 (h3.trans hbl)
 nxt:=Nat.le_trans h.nxt k.nxt
 kept b hb hn:=by
  have hlt:b<U₁.next:=by have:=h.nxt;omega
  exact(k.kept b hlt ((h.ext b hb).trans hn)).trans (h.kept b hb hn)
 dead b hb hd:=k.dead b (by have:=h.nxt;omega) (h.dead b hb hd)
 fresh b l hb hl:=by
  by_cases hlt:b<U₁.next
  ·exact h.fresh b l hb ((k.ext b hlt).symm.trans hl)
  ·rcases k.fresh b l (by omega) hl with h1|⟨b₀,l₀,h1,h2,h3⟩
   ·exact .inl (by have:=h.size;omega)
   ·by_cases hlt0:b₀<U.next
    ·exact .inr ⟨b₀,l₀,(h.ext b₀ hlt0).symm.trans h1,λhe=>h2 (h.dead b₀ hlt0 he),h3⟩
    ·rcases h.fresh b₀ l₀ (by omega) h1 with h4|⟨b₁,l₁,h4,h5,h6⟩
     ·exact .inl (by omega)
     ·exact .inr ⟨b₁,l₁,h4,h5,h6.trans h3⟩
 nofix b l hb hl:=by
  by_cases hlt:b<U₁.next
  ·exact h.nofix b l hb ((k.ext b hlt).symm.trans hl)
  ·exact k.nofix b l (by omega) hl
 tape:=k.tape.trans h.tape
 os:=k.os.trans h.os
 out:=k.out.trans h.out
end Go.Ab
namespace Go.Ab
inductive CK where
 |int|bool|string
 deriving DecidableEq
inductive Ext where
 |add64
 |sub64
 |clone
 |loadI (k:IntKind)
 |storeI
 |addI (k:IntKind)
 |casI (k:IntKind)
 |raceN (m:Mark)
 |raceA (m:Addr->Mark)
structure TT where
 info:TypeId->Option TypeInfo
 flat:TypeId->Option (List CK)
 ext:FuncId->Option Ext:=λ_=>none
def TT.und(T:TT)(t:TypeId):Option TypeDesc:=
 match T.info t with
 |some {desc:=.named _ u,..}=>(T.info u).map (·.desc)
 |some i=>some i.desc
 |none=>none
def eqCells:List CK->List Value->List Value->Option Bool
 |[],[],[]=>some true
 |.int :: sh,.int k a :: xs,.int k' b :: ys=>if k=k' then(if a==b then eqCells sh xs ys else some false) else none
 |.bool :: sh,.bool a :: xs,.bool b :: ys=>if a==b then eqCells sh xs ys else some false
 |.string :: sh,.string a :: xs,.string b :: ys=>if a.toList==b.toList then eqCells sh xs ys else some false
 |_,_,_=>none
def inShape:List CK->List Value->Bool
 |[],[]=>true
 |.int :: sh,.int _ _ :: xs=>inShape sh xs
 |.bool :: sh,.bool _ :: xs=>inShape sh xs
 |.string :: sh,.string _ :: xs=>inShape sh xs
 |_,_=>false
def isAggB:TypeDesc->Bool
 |.struct _|.array _ _=>true
 |_=>false
structure FlatEq(P:Program)(t:TypeId)(sh:List CK):Prop where
 guard:P.eqGuardType P.depth t=false
 eq:∀(xs ys:List Value) (r:Bool) (w:World),eqCells sh xs ys=some r->(Op.equalIn Op.maxDepth t (.agg ⟨xs⟩) (.agg ⟨ys⟩)).run P w=.ok r w
 key:∀(e:Bool) (xs:List Value) (w:World),inShape sh xs=true->(Instr.checkKey e 10000 t (.agg ⟨xs⟩)).run P w=.ok () w
 desc:∃d,P.underlying t=some d/\isAggB d=true
def sub64Row:Array Value→Sem Value:=fun args=>do
 let (x, y, b) ← Extern.MathBitsCarry.three "Sub64" args
 pure (Extern.MathBitsCarry.pair ((x+Extern.MathBitsCarry.m64 - y - b) % Extern.MathBitsCarry.m64) (if x<y+b then 1 else 0))
def Ext.row:Ext->Array Value->Sem Value
 |.add64=>add64Entry
 |.sub64=>sub64Row
 |.clone=>Extern.MapsClone.clone
 |.loadI k=>Extern.Atomic.loadT (.int k)
 |.storeI=>Extern.Atomic.storeT
 |.addI k=>Extern.Atomic.update (Op.intArith .add) k true
 |.casI k=>Extern.Atomic.casT (.int k)
 |.raceN m=>λ_=>do mark m;pure Extern.Race.none_
 |.raceA m=>Extern.Race.marked m
def ExtIs(P:Program)(g:FuncId)(x:Ext):Prop:=
 ∃ fn, P.funcs[g]? = some fn ∧ (fn.name == "runtime.NumGoroutine") = false ∧ fn.body.isNone = true ∧ Extern.findNext fn = none ∧ Extern.find fn = some x.row
structure TT.Ok(T:TT)(P:Program):Prop where
 info:∀t i,T.info t=some i->P.info? t=some i
 flat:∀t sh,T.flat t=some sh->FlatEq P t sh
 ext:∀g x,T.ext g=some x->ExtIs P g x
theorem TT.Ok.und{T:TT}{P:Program}(h:T.Ok P){t:TypeId}{d:TypeDesc}(hd:T.und t=some d):P.underlying t=some d:=by
 unfold TT.und at hd
 unfold Program.underlying
 cases hi:T.info t with
 |none=>rw[hi]at hd;cases hd
 |some i=>
  rw[hi]at hd
  rw[h.info _ _ hi]
  obtain⟨desc,str,size,bytes,hp,al,fal,zero,comp,meth⟩:=i
  cases desc with
  |named n u=>
   simp only[Option.map_eq_some_iff]at hd ⊢
   obtain⟨i,h1,h2⟩:=hd
   exact⟨i,h.info _ _ h1,h2⟩
  |_=>exact hd
theorem run_typeInfo{P:Program}{t:TypeId}{i:TypeInfo}(h:P.info? t=some i)(w:World):(typeInfo t).run P w=.ok i w:=by
 simp [typeInfo,h]
theorem run_sizeOf{P:Program}{t:TypeId}{i:TypeInfo}(h:P.info? t=some i)(w:World):(sizeOf t).run P w=.ok i.size w:=by
 simp [sizeOf,run_typeInfo h]
theorem run_zeroValue{P:Program}{t:TypeId}{i:TypeInfo}{z:Value}(h:P.info? t=some i)(hz:i.zero=some z)(w:World):(zeroValue t).run P w=.ok z w:=by
 simp [zeroValue,run_typeInfo h,hz]
def isAggD:TypeDesc->Bool
 |.struct _|.array _ _=>true
 |_=>false
theorem run_isAgg{P:Program}{t:TypeId}{d:TypeDesc}(h:P.underlying t=some d)(w:World):(isAgg t).run P w=.ok (isAggD d) w:=by
 simp only[isAgg,Sem.run_bind,run_underlying h,Result.andThen_ok]
 cases d<;>rfl
mutual
def plain:Value->Bool
 |.bool _|.int _ _|.string _|.nilFunc|.nilIface|.pointer none|.slice none 0 0|.map none=>true
 |.iface _ v=>plain v
 |.agg ⟨vs⟩|.tuple ⟨vs⟩=>plainL vs
 |_=>false
def plainL:List Value->Bool
 |[]=>true
 |v :: vs=>plain v&&plainL vs
end
mutual
theorem plain_VR(ρ:Ren):∀v:Value,plain v=true->VR ρ v v
 |.bool _,_=>.bool _
 |.int _ _,_=>.int _ _
 |.string _,_=>.string _
 |.nilFunc,_=>.nilFunc
 |.nilIface,_=>.nilIface
 |.pointer none,_=>.ptrNil
 |.pointer (some _),h=>by simp [plain]at h
 |.slice none 0 0,_=>.sliceNil
 |.slice none 0 (_+1),h=>by simp [plain]at h
 |.slice none (_+1) _,h=>by simp [plain]at h
 |.slice (some _) _ _,h=>by simp [plain]at h
 |.map none,_=>.mapNil
 |.map (some _),h=>by simp [plain]at h
 |.iface _ v,h=>.iface (plain_VR ρ v (by simpa [plain]using h))
 |.agg ⟨vs⟩,h=>.agg (plainL_VR ρ vs (by simpa [plain]using h))
 |.tuple ⟨vs⟩,h=>.tuple (plainL_VR ρ vs (by simpa [plain]using h))
 |.float _ _,h=>by simp [plain]at h
 |.complex _ _ _,h=>by simp [plain]at h
 |.chan _,h=>by simp [plain]at h
 |.func _ _ _,h=>by simp [plain]at h
theorem plainL_VR(ρ:Ren):∀vs:List Value,plainL vs=true->VRL ρ vs vs
 |[],_=>.nil
 |v :: vs,h=>by
  simp only[plainL,Bool.and_eq_true]at h
  exact .cons (plain_VR ρ v h.1) (plainL_VR ρ vs h.2)
end
def lget:List Value->Nat->Value
 |[],_=>undef
 |v :: _,0=>v
 |_ :: vs,n+1=>lget vs n
def ev(ts:List Value):Operand->Option Value
 |.tmp t=>some (lget ts t)
 |.const v=>if plain v then some v else none
 |.func f=>some (.func (.func f) #[] #[])
 |.global _=>none
def evs(ts:List Value):List Operand->Option (List Value)
 |[]=>some []
 |x :: xs=>match ev ts x with
  |none=>none
  |some v=>match evs ts xs with
   |none=>none
   |some vs=>some (v :: vs)
theorem undef_VR(ρ:Ren):VR ρ undef undef:=.tuple .nil
theorem lget_VR{ρ:Ren}{ts ts':List Value}(h:VRL ρ ts ts')(n:Nat):VR ρ (lget ts n) (ts'.getD n undef):=by
 induction ts generalizing ts' n with
 |nil=>cases h;exact undef_VR ρ
 |cons x xs ih=>
  cases h with
  |cons h t=>cases n with
   |zero=>exact h
   |succ n=>exact ih t n
theorem Act.eval_tmp(a:Act)(t:Nat):a.eval (.tmp t)=a.tmps.toList.getD t undef:=by
 simp [Act.eval]
theorem ev_VR{ρ:Ren}{ts:List Value}{a:Act}(h:VRL ρ ts a.tmps.toList){x:Operand}{v:Value}(hv:ev ts x=some v):VR ρ v (a.eval x):=by
 cases x with
 |tmp t=>simp only[ev,Option.some.injEq]at hv;subst hv;rw[Act.eval_tmp];exact lget_VR h t
 |const c=>
  simp only[ev]at hv
  split at hv
  ·rename_i hc;cases hv;exact plain_VR ρ _ hc
  ·cases hv
 |func f=>simp only[ev,Option.some.injEq]at hv;subst hv;exact .func .nil .nil
 |global g=>cases hv
theorem evs_VR{ρ:Ren}{ts:List Value}{a:Act}(h:VRL ρ ts a.tmps.toList):∀{xs:List Operand} {vs:List Value},evs ts xs=some vs->VRL ρ vs (xs.map a.eval)
 |[],vs,hv=>by simp only[evs,Option.some.injEq]at hv;subst hv;exact .nil
 |x :: xs,vs,hv=>by
  simp only[evs]at hv
  split at hv
  ·cases hv
  ·rename_i v h1
   split at hv
   ·cases hv
   ·rename_i vs' h2
    cases hv
    exact .cons (ev_VR h h1) (evs_VR h h2)
inductive ORes where
 |val (v:Value) (rd:List Nat)
 |new (ob:AObj) (v:Value) (rd:List Nat)
 |eff (v:Value) (U:St) (log:List Nat)
 |panic (v:Value)
 |enter (f:FuncId) (args:List Value)
 |round (l:Nat) (args:List Value)
 |defer (d:Deferred)
 |recover
def Reads(ρ:Ren)(U:St)(H:Array Obj)(rd:List Nat):Prop:=
 ∀b∈rd,∀l ob,ρ b=some l->U.get b=some ob->OR ρ l H ob
def SimVal(P:Program)(o:Oper)(ts:List Value)(U:St)(v:Value)(rd:List Nat):Prop:=
 ∀(ρ:Ren) (w:World) (a:Act),VRL ρ ts a.tmps.toList->Reads ρ U w.heap rd->
  ∃v',(execOp a.eval o).run P w=.ok (.value v') w/\VR ρ v v'
def SimNew(P:Program)(o:Oper)(ts:List Value)(U:St)(ob:AObj)(v:Value)(rd:List Nat):Prop:=
 ∀(ρ:Ren) (w:World) (a:Act),VRL ρ ts a.tmps.toList->Reads ρ U w.heap rd->
  ∃v' w' obj sz,(execOp a.eval o).run P w=.ok (.value v') w'/\w'.heap=w.heap.push obj/\w'.tape=w.tape/\w'.os=w.os/\w'.output=w.output/\
   ∀ρ':Ren,ρ.le ρ'->ρ' U.next=some ⟨w.heap.size,0,sz,none⟩->VR ρ' v v'/\OR ρ' ⟨w.heap.size,0,sz,none⟩ w'.heap ob
def RunsTo(r:Result Next)(v:Value)(w:World):Prop:=r=.ok (.value v) w\/(r=.ok .skip w/\v=undef)
def SimEff(P:Program)(o:Oper)(ts:List Value)(U:St)(v:Value)(U':St):Prop:=
 ∀(ρ:Ren) (w:World) (a:Act),WR ρ U w.heap->VRL ρ ts a.tmps.toList->
  ∃ρ' v' w',RunsTo ((execOp a.eval o).run P w) v' w'/\VR ρ' v v'/\Aft ρ U w ρ' U' w'
def Logged(U U':St)(log:List Nat):Prop:=U.next<=U'.next/\∀b,b<U.next->b∉log->U'.get b=U.get b
def Sound(P:Program)(o:Oper)(ts:List Value)(U:St):ORes->Prop
 |.val v rd=>SimVal P o ts U v rd
 |.new ob v rd=>SimNew P o ts U ob v rd
 |.eff v U' log=>SimEff P o ts U v U'/\Logged U U' log
 |.panic v=>∀(ρ:Ren) (w:World) (a:Act),VRL ρ ts a.tmps.toList->∃v',(execOp a.eval o).run P w=.halt (.panic v') w/\VR ρ v v'
 |.enter f args=>∀(ρ:Ren) (w:World) (a:Act),VRL ρ ts a.tmps.toList->∃args':Array Value,(execOp a.eval o).run P w=.ok (.enter f args') w/\VRL ρ args args'.toList
 |.round l args=>∀(ρ:Ren) (w:World) (a:Act),VRL ρ ts a.tmps.toList->∃(c:Call) (l':Loc) (args':Array Value),o.op=.call c/\ρ l=some l'/\(execOp a.eval o).run P w=(Instr.yield l'.block args').run P w/\VRL ρ args args'.toList
 |.defer d=>∀(ρ:Ren) (w:World) (a:Act),VRL ρ ts a.tmps.toList->∃(c:Call) (d':Deferred),o.op=.defer c/\(resolve a.eval c o.type).run P w=.ok d' w/\DR ρ d d'
 |.recover=>∀(w:World) (a:Act),(execOp a.eval o).run P w=.ok .recover w
theorem WR.reads{ρ:Ren}{U:St}{H:Array Obj}(h:WR ρ U H)(rd:List Nat):Reads ρ U H rd:=λb _ l ob hl ho=>h.obj b l ob hl ho
theorem SimVal.eff{P:Program}{o:Oper}{ts:List Value}{U:St}{v:Value}{rd:List Nat}(h:SimVal P o ts U v rd):SimEff P o ts U v U:=by
 intro ρ w a hw ht
 obtain⟨v',h1,h2⟩:=h ρ w a ht (hw.reads rd)
 exact⟨ρ,v',w,.inl h1,h2,Aft.refl hw⟩
def Ren.add(ρ:Ren)(n:Nat)(l:Loc):Ren:=λb=>if b=n then some l else ρ b
theorem Ren.add_same(ρ:Ren)(n:Nat)(l:Loc):ρ.add n l n=some l:=by simp [Ren.add]
theorem Ren.add_other(ρ:Ren){n b:Nat}(l:Loc)(h:b≠n):ρ.add n l b=ρ b:=by simp [Ren.add,h]
theorem Aft.push{ρ:Ren}{U:St}{w w':World}{obj:Obj}{ob:AObj}{sz:Nat}(hw:WR ρ U w.heap)(hh:w'.heap=w.heap.push obj)
  (ht:w'.tape=w.tape) (hos:w'.os=w.os) (hout:w'.output=w.output)
  (ho:OR (ρ.add U.next ⟨w.heap.size,0,sz,none⟩) ⟨w.heap.size,0,sz,none⟩ w'.heap ob):
  Aft ρ U w (ρ.add U.next ⟨w.heap.size,0,sz,none⟩) (U.new ob) w':=by
 have hle:ρ.le (ρ.add U.next ⟨w.heap.size,0,sz,none⟩):=λb l hl=>by
  rw[Ren.add_other];exact hl
  have:=(hw.dom b l hl).1;omega
 have hold:∀k,k<w.heap.size->w'.heap[k]?=w.heap[k]?:=λk hk=>by rw[hh,Array.getElem?_push_lt hk,Array.getElem?_eq_getElem hk]
 refine{ext:=λb hb=>Ren.add_other ρ _ (by omega),wr:=⟨?_,?_,?_,?_⟩,size:=by rw[hh];simp,fr:=λk hk _=>hold k hk,nxt:=by simp,kept:=?_,dead:=?_,fresh:=?_,nofix:=?_,tape:=ht,os:=hos,out:=hout}
 ·intro b l hl
  by_cases e:b=U.next
  ·subst e
   rw[Ren.add_same]at hl;cases hl
   exact⟨by simp,by rw[hh];simp⟩
  ·rw[Ren.add_other _ _ e]at hl
   have:=hw.dom b l hl
   exact⟨by simp;omega,by rw[hh];simp;omega⟩
 ·intro b l o hl hg
  by_cases e:b=U.next
  ·subst e
   rw[Ren.add_same]at hl;cases hl
   rw[St.get_new,if_pos rfl]at hg;cases hg
   exact ho
  ·rw[Ren.add_other _ _ e]at hl
   rw[St.get_new,if_neg (by omega)]at hg
   exact((hw.obj b l o hl hg).of_block (hold _ (hw.dom b l hl).2)).mono hle
 ·intro b b' l l' hl hl' hg hg' hbl hfx
  rw[St.get_new]at hg hg'
  by_cases e:b=U.next
  ·by_cases e':b'=U.next
   ·omega
   ·subst e
    rw[Ren.add_same]at hl;cases hl
    rw[Ren.add_other _ _ e']at hl'
    have:=(hw.dom b' l' hl').2
    simp at hbl;omega
  ·by_cases e':b'=U.next
   ·subst e'
    rw[Ren.add_same]at hl';cases hl'
    rw[Ren.add_other _ _ e]at hl
    have:=(hw.dom b l hl).2
    simp at hbl;omega
   ·rw[Ren.add_other _ _ e]at hl
    rw[Ren.add_other _ _ e']at hl'
    rw[if_neg (by omega)]at hg hg'
    exact hw.inj b b' l l' hl hl' hg hg' hbl hfx
 ·intro b l hl hf hg
  rw[St.get_new]at hg ⊢
  by_cases e:b=U.next
  ·subst e
   rw[Ren.add_same]at hl;cases hl
   exact absurd rfl hf
  ·rw[Ren.add_other _ _ e]at hl
   rw[if_neg (λh=>e h.symm)]at hg ⊢
   exact hw.fixd b l hl hf hg
 ·intro b hb _;rw[St.get_new,if_neg (by omega)]
 ·intro b hb h;rw[St.get_new,if_neg (by omega)];exact h
 ·intro b l hb hl
  by_cases e:b=U.next
  ·subst e
   rw[Ren.add_same]at hl;cases hl
   exact .inl (Nat.le_refl _)
  ·rw[Ren.add_other _ _ e]at hl
   have:=(hw.dom b l hl).1;omega
 ·intro b l hb hl
  by_cases e:b=U.next
  ·subst e
   rw[Ren.add_same]at hl;cases hl
   rfl
  ·rw[Ren.add_other _ _ e]at hl
   have:=(hw.dom b l hl).1;omega
theorem SimNew.eff{P:Program}{o:Oper}{ts:List Value}{U:St}{ob:AObj}{v:Value}{rd:List Nat}(h:SimNew P o ts U ob v rd):SimEff P o ts U v (U.new ob):=by
 intro ρ w a hw ht
 obtain⟨v',w',obj,sz,h1,hh,h3,h4,h5,h6⟩:=h ρ w a ht (hw.reads rd)
 have hle:ρ.le (ρ.add U.next ⟨w.heap.size,0,sz,none⟩):=λb l hl=>by
  rw[Ren.add_other];exact hl
  have:=(hw.dom b l hl).1;omega
 obtain⟨h7,h8⟩:=h6 _ hle (Ren.add_same ρ _ _)
 exact⟨_,v',w',.inl h1,h7,Aft.push hw hh h3 h4 h5 h8⟩
theorem logged_new(U:St)(ob:AObj):Logged U (U.new ob) []:=⟨by simp,λb hb _=>by rw[St.get_new,if_neg (by omega)]⟩
theorem logged_self(U:St)(log:List Nat):Logged U U log:=⟨Nat.le_refl _,λ_ _ _=>rfl⟩
theorem logged_put(U:St)(b:Nat)(o:Option AObj):Logged U (U.put b o) [b]:=⟨by simp,λc _ hn=>by
 rw[St.get_put,if_neg];intro e;subst e;simp at hn⟩
theorem Aft.put{ρ:Ren}{U:St}{w w':World}{b:Nat}{l:Loc}{ob:AObj}{o':Obj}(hw:WR ρ U w.heap)(hl:ρ b=some l)(hlive:U.get b≠none)(hfx:l.fix=none)
  (hh:w'.heap=w.heap.setIfInBounds l.block o') (ht:w'.tape=w.tape) (hos:w'.os=w.os) (hout:w'.output=w.output) (ho:OR ρ l w'.heap ob):
  Aft ρ U w ρ (U.set b ob) w':=by
 have hother:∀k,k≠l.block->w'.heap[k]?=w.heap[k]?:=λk hk=>by
  rw[hh,Array.getElem?_setIfInBounds_ne (by omega)]
 refine{ext:=λ_ _=>rfl,wr:=⟨?_,?_,?_,?_⟩,size:=by rw[hh];simp,fr:=?_,nxt:=by simp,kept:=?_,dead:=?_,fresh:=?_,nofix:=λc k hc hk=>absurd (hw.dom c k hk).1 (by omega),tape:=ht,os:=hos,out:=hout}
 ·intro c k hk
  have:=hw.dom c k hk
  exact⟨by simpa using this.1,by rw[hh];simpa using this.2⟩
 ·intro c k o hk hg
  rw[St.get_set]at hg
  split at hg
  ·rename_i e;subst e;cases hg;rw[hl]at hk;cases hk;exact ho
  ·rename_i e
   refine(hw.obj c k o hk hg).of_block (hother _ λhe=>e ?_)
   exact hw.inj b c l k hl hk hlive (by rw[hg];simp) he.symm (.inl hfx)
 ·intro c c' k k' hk hk' hg hg' hbl hf2
  refine hw.inj c c' k k' hk hk' ?_ ?_ hbl hf2
  ·rw[St.get_set]at hg;split at hg
   ·rename_i e;subst e;exact hlive
   ·exact hg
  ·rw[St.get_set]at hg';split at hg'
   ·rename_i e;subst e;exact hlive
   ·exact hg'
 ·intro c k hk hf hg
  have ne:¬b=c:=λe=>by subst e;rw[hl]at hk;cases hk;exact hf hfx
  rw[St.get_set,if_neg ne]at hg ⊢
  exact hw.fixd c k hk hf hg
 ·intro k _ hn
  exact hother k λe=>hn b l hl hlive e.symm
 ·intro c _ hc
  rw[St.get_set,if_neg];intro e;subst e;rw[hl]at hc;cases hc
 ·intro c _ hc
  rw[St.get_set,if_neg];exact hc
  intro e;subst e;exact hlive hc
 ·intro c k hc hk
  have:=(hw.dom c k hk).1;omega
variable {P:Program} {T:TT}
theorem VRL.toList{ρ:Ren}{xs:List Value}{ys:Array Value}(h:VRL ρ xs ys.toList):∃ys':List Value,ys=⟨ys'⟩/\VRL ρ xs ys':=⟨ys.toList,by simp,h⟩
def vcells:Value->List Value
 |.agg ⟨cs⟩=>cs
 |v=>[v]
theorem vcells_VR{ρ:Ren}{v v':Value}(h:VR ρ v v'):VRL ρ (vcells v) v'.cells.toList:=by
 cases h<;>simp only[vcells,Value.cells]<;>first
  |assumption
  |exact .cons (by constructor<;>assumption) .nil
theorem OR.cellsAt{ρ:Ren}{l:Loc}{H:Array Obj}{vs:List Value}{ro:Bool}(h:OR ρ l H (.cells vs ro)):
  ∃cs:List Value,VRL ρ vs cs/\∀(w:World),w.heap=H->∀(j:Nat) (v':Value),cs[j]?=some v'->w.cell? ⟨l.block,l.off+j,none⟩=some v':=by
 obtain⟨c,e,fz,h1,h2,h3,h4,h6⟩:=h
 refine⟨_,h6,λw hw j v' hj=>?_⟩
 simp only[World.cell?,hw,h1]
 rw[List.getElem?_take]at hj
 split at hj
 ·rw[List.getElem?_drop]at hj;simpa using hj
 ·cases hj
theorem run_loadVar_agg{t:TypeId}{d:TypeDesc}{i:TypeInfo}(hu:P.underlying t=some d)(hd:isAggD d=true)(hi:P.info? t=some i)(w:World)(b o:Nat)(cs:List Value)(hn:cs.length=i.size)
  (h:∀(j:Nat) (v:Value),cs[j]?=some v->w.cell? ⟨b,o+j,none⟩=some v):(loadVar t ⟨b,o,none⟩).run P w=.ok (.agg ⟨cs⟩) w:=by
 have hl:=run_loadCells_list (P:=P) w ⟨b,o,none⟩ cs (λj v hj=>by rw[Addr.add_lit];exact h j v hj)
 simp [loadVar,run_isAgg hu,hd,run_sizeOf hi,<-hn,hl]
theorem run_loadVar_one{t:TypeId}{d:TypeDesc}(hu:P.underlying t=some d)(hd:isAggD d=false)(w:World)(a:Addr)(v:Value)(h:w.cell? a=some v):(loadVar t a).run P w=.ok v w:=by
 simp [loadVar,run_isAgg hu,hd,h]
def lget?:List Value->Nat->Option Value
 |[],_=>none
 |v :: _,0=>some v
 |_ :: vs,n+1=>lget? vs n
theorem lget?_eq(vs:List Value)(n:Nat):lget? vs n=vs[n]?:=by
 induction vs generalizing n with
 |nil=>simp [lget?]
 |cons v vs ih=>cases n with
  |zero=>simp [lget?]
  |succ n=>simp [lget?,ih]
def opLoad(T:TT)(U:St)(t:TypeId):Value->Option ORes
 |.pointer (some ⟨b,off,none⟩)=>
  match T.und t,T.info t,U.get b with
  |some d,some i,some (.cells vs _)=>
   if isAggD d then(if off+i.size<=vs.length then some (.val (.agg ⟨(vs.drop off).take i.size⟩) [b]) else none)
   else match lget? vs off with
    |some v=>some (.val v [b])
    |none=>none
  |_,_,_=>none
 |_=>none
theorem load_sound(hT:T.Ok P){o:Oper}{ts:List Value}{U:St}{t:TypeId}{x:Operand}{v:Value}{r:ORes}(ho:o.op=.load t x)(hx:ev ts x=some v)(h:opLoad T U t v=some r):Sound P o ts U r:=by
 unfold opLoad at h
 split at h
 ·rename_i b off
  split at h
  ·rename_i d i vs ro hd hi hg
   have hu:=hT.und hd
   have hii:=hT.info _ _ hi
   split at h
   ·rename_i hag
    split at h
    ·rename_i hlen
     cases h
     intro ρ w a hts hrd
     have hv:=ev_VR hts hx
     generalize he:a.eval x=xv at hv
     cases hv with
     |ptr hl=>
      rename_i l
      obtain⟨cs,hcs,hc⟩:=(hrd b (by simp) l _ hl hg).cellsAt
      have hlen':=hcs.length
      refine⟨.agg ⟨(cs.drop off).take i.size⟩,?_,.agg ((hcs.drop off).take _)⟩
      simp only[execOp,ho,Instr.loadAt,Instr.sureAddr,he]
      have:=run_loadVar_agg hu hag hii w l.block (l.off+off) ((cs.drop off).take i.size) (by simp;omega) (λj u hj=>by
       rw[List.getElem?_take]at hj
       split at hj
       ·rw[List.getElem?_drop]at hj
        have:=hc w rfl (off+j) u hj
        rwa [<-Nat.add_assoc]at this
       ·cases hj)
      simp [this]
    ·cases h
   ·rename_i hag
    split at h
    ·rename_i u hlu
     cases h
     intro ρ w a hts hrd
     have hv:=ev_VR hts hx
     generalize he:a.eval x=xv at hv
     cases hv with
     |ptr hl=>
      rename_i l
      obtain⟨cs,hcs,hc⟩:=(hrd b (by simp) l _ hl hg).cellsAt
      rw[lget?_eq]at hlu
      obtain⟨u',h1,h2⟩:=hcs.get off hlu
      refine⟨u',?_,h2⟩
      simp only[execOp,ho,Instr.loadAt,Instr.sureAddr,he]
      have:=run_loadVar_one hu (by simpa using hag) w ⟨l.block,l.off+off,none⟩ u' (hc w rfl off u' h1)
      simp [this]
    ·cases h
  ·cases h
 ·cases h
def oneCells:List Value->Bool
 |[]=>true
 |v :: vs=>(match v with|.agg _|.tuple _=>false|_=>true)&&oneCells vs
theorem oneCells_VRL{ρ:Ren}:∀{xs ys:List Value},VRL ρ xs ys->oneCells xs=true->∀v∈ys,v.oneCell'=true
 |_,_,.nil,_=>by simp
 |_,_,.cons h t,ho=>by
  simp only[oneCells,Bool.and_eq_true]at ho
  intro v hv
  cases hv with
  |head=>cases h<;>first|rfl|(simp at ho)
  |tail _ hm=>exact oneCells_VRL t ho.2 v hm
def over(vs:List Value):Nat->List Value->List Value
 |0,[]=>vs
 |0,n :: ns=>match vs with
  |[]=>[]
  |_ :: vs=>n :: over vs 0 ns
 |k+1,ns=>match vs with
  |[]=>[]
  |v :: vs=>v :: over vs k ns
theorem over_eq(vs:List Value)(k:Nat)(ns:List Value)(h:k+ns.length<=vs.length):over vs k ns=vs.take k++ns++vs.drop (k+ns.length):=by
 induction vs generalizing k ns with
 |nil=>cases k with
  |zero=>cases ns with
   |nil=>simp [over]
   |cons n ns=>simp at h
  |succ k=>simp at h
 |cons v vs ih=>cases k with
  |zero=>cases ns with
   |nil=>simp [over]
   |cons n ns=>simp only[over];rw[ih 0 ns (by simp at h ⊢;omega)];simp
  |succ k=>simp only[over];rw[ih k ns (by simp at h ⊢;omega)];simp [show k+1+ns.length=(k+ns.length)+1 by omega]
theorem over_length(vs:List Value)(k:Nat)(ns:List Value):(over vs k ns).length=vs.length:=by
 induction vs generalizing k ns with
 |nil=>cases k with
  |zero=>cases ns<;>simp [over]
  |succ k=>simp [over]
 |cons v vs ih=>cases k with
  |zero=>cases ns with
   |nil=>simp [over]
   |cons n ns=>simp [over,ih]
  |succ k=>simp [over,ih]
def opStore(T:TT)(U:St)(t:TypeId):Value->Value->Option ORes
 |.pointer (some ⟨b,off,none⟩),v=>
  match T.info t,U.get b with
  |some i,some (.cells vs false)=>
   let ns:=vcells v
   if ns.length=i.size/\off+ns.length<=vs.length/\oneCells ns=true then some (.eff undef (U.set b (.cells (over vs off ns) false)) [b]) else none
  |_,_=>none
 |_,_=>none
theorem splice_drop_take{α:Type}(C:List α)(p n off:Nat)(ns:List α)(h:p+n<=C.length)(hf:off+ns.length<=n):
  ((C.take (p+off)++ns++C.drop (p+off+ns.length)).drop p).take n=((C.drop p).take n).take off++ns++((C.drop p).take n).drop (off+ns.length):=by
 have hR:(C.drop p).length=C.length - p:=by simp
 generalize hRe:C.drop p=R at hR
 have h1:C.take (p+off)=C.take p++R.take off:=by rw[List.take_add,hRe]
 have h2:C.drop (p+off+ns.length)=R.drop (off+ns.length):=by rw[<-hRe,List.drop_drop,Nat.add_assoc]
 have hA:(C.take p).length=p:=by simp;omega
 rw[h1,h2,List.append_assoc,List.append_assoc,List.drop_append_of_le_length (by omega),List.drop_eq_nil_of_le (by omega),List.nil_append,List.take_take,Nat.min_eq_left (by omega),List.drop_take,
  List.take_append,List.take_take,List.length_take,Nat.min_eq_left (by omega:off<=R.length),Nat.min_eq_right (by omega),List.take_append,List.take_of_length_le (by omega:ns.length<=n - off),List.append_assoc]
 congr 3
 omega
theorem OR.over{ρ:Ren}{l:Loc}{w:World}{vs:List Value}(h:OR ρ l w.heap (.cells vs false))(off:Nat)(ns ns':List Value)(hn:VRL ρ ns ns')(hfit:off+ns.length<=vs.length)(hone:oneCells ns=true):
  ∃w',(storeCells ⟨l.block,l.off+off,none⟩ ns').run P w=.ok () w'/\OR ρ l w'.heap (.cells (over vs off ns) false)/\(∃o',w'.heap=w.heap.setIfInBounds l.block o')/\w'.tape=w.tape/\w'.os=w.os/\w'.output=w.output:=by
 obtain⟨c,e,fz,h1,h2,h3,h4,h6⟩:=h
 obtain rfl:=h4.1 rfl
 have hlen:=hn.length
 have hrun:=run_storeCells_at P l.block (l.off+off) e ns' 0 c w h1 (by omega) (oneCells_VRL hn hone)
 refine⟨_,hrun,?_,?_,rfl,rfl,rfl⟩
 ·refine⟨_,e,(0,0),setRow_heap w l.block c _ e (0,0) h1,?_,by rw[over_length];exact h3,⟨λ_=>rfl,λh=>by cases h⟩,?_⟩
  ·simp;omega
  ·rw[over_length,over_eq vs off ns hfit]
   have hcl:c.toList.length=l.off+l.size:=by simpa using h2
   have hcv:l.off+vs.length<=c.toList.length:=by omega
   have e1:=splice_drop_take c.toList l.off vs.length off ns' hcv (by omega)
   rw[<-hlen]at e1
   simp only[Nat.add_zero,<-hlen]
   rw[e1]
   refine((h6.take off).append hn).append ?_
   exact h6.drop _
 ·refine⟨.cells (c.toList.take (l.off+off+0)++ns'++c.toList.drop (l.off+off+0+ns'.length)).toArray e (0,0),?_⟩
  have hlt:l.block<w.heap.size:=(Array.getElem?_eq_some_iff.1 h1).1
  have hv:w.heap[l.block]=.cells c e (0,0):=(Array.getElem?_eq_some_iff.1 h1).2
  apply Array.ext_getElem?
  intro k
  simp only[World.setRow,Array.getElem?_modify,Array.getElem?_setIfInBounds]
  by_cases hk:l.block=k
  ·subst hk;simp [hlt,hv]
  ·simp [hk]
theorem store_sound(hT:T.Ok P){o:Oper}{ts:List Value}{U:St}{t:TypeId}{x y:Operand}{u v:Value}{r:ORes}(ho:o.op=.store t x y)(hx:ev ts x=some u)(hy:ev ts y=some v)(h:opStore T U t u v=some r):Sound P o ts U r:=by
 unfold opStore at h
 split at h
 ·rename_i b off
  split at h
  ·rename_i i vs hi hg
   simp only at h
   split at h
   ·rename_i hc
    obtain⟨hn,hfit,hone⟩:=hc
    cases h
    refine⟨?_,logged_put _ _ _⟩
    intro ρ w a hw hts
    have hu:=ev_VR hts hx
    have hv:=ev_VR hts hy
    generalize he:a.eval x=xv at hu
    cases hu with
    |ptr hl=>
     rename_i l
     have hcells:=vcells_VR hv
     obtain⟨w',h1,h2,⟨o',h3⟩,h4,h5,h6⟩:=OR.over (P:=P) (hw.obj b l _ hl hg) off (vcells v) _ hcells hfit hone
     refine⟨ρ,undef,w',.inr ⟨?_,rfl⟩,undef_VR ρ,Aft.put hw hl (by rw[hg];simp) (hw.nofix hl hg (by simp)) h3 h4 h5 h6 h2⟩
     have hsz:(a.eval y).cells.size=i.size:=by have:=hcells.length;simp at this;omega
     simp [execOp,ho,Instr.storeAt,Instr.sureAddr,he,storeVar,run_sizeOf (hT.info _ _ hi),hsz,h1]
   ·cases h
  ·cases h
 ·cases h
theorem newRow_sim{o:Oper}{ts:List Value}{U:St}{vs:List Value}{v:Value}{rd:List Nat}
  (hrun:∀(ρ:Ren) (w:World) (a:Act),VRL ρ ts a.tmps.toList->Reads ρ U w.heap rd->∃(vs':List Value) (elem:TypeId) (v':Value),VRL ρ vs vs'/\(execOp a.eval o).run P w=.ok (.value v') {w with heap:=w.heap.push (.cells ⟨vs'⟩ elem)}/\
   ∀ρ':Ren,ρ' U.next=some ⟨w.heap.size,0,vs'.length,none⟩->VR ρ' v v'):SimNew P o ts U (.cells vs false) v rd:=by
 intro ρ w a hts hrd
 obtain⟨vs',elem,v',h1,h2,h3⟩:=hrun ρ w a hts hrd
 refine⟨v',_,.cells ⟨vs'⟩ elem,vs'.length,h2,rfl,rfl,rfl,rfl,λρ' hle hn=>⟨h3 ρ' hn,?_⟩⟩
 refine⟨⟨vs'⟩,elem,(0,0),by simp,by simp,by rw[h1.length];exact Nat.le_refl _,⟨λ_=>rfl,λh=>by cases h⟩,?_⟩
 simpa [h1.length]using h1.mono hle
def opAlloc(T:TT)(U:St)(t:TypeId):Option ORes:=
 match T.info t with
 |some i=>match i.zero with
  |some z=>if plain z=true then some (.new (.cells (vcells z) false) (.pointer (some ⟨U.next,0,none⟩)) []) else none
  |none=>none
 |none=>none
theorem alloc_sound(hT:T.Ok P){o:Oper}{ts:List Value}{U:St}{t:TypeId}{r:ORes}(ho:o.op=.alloc t)(h:opAlloc T U t=some r):Sound P o ts U r:=by
 unfold opAlloc at h
 split at h
 ·rename_i i hi
  split at h
  ·rename_i z hz
   split at h
   ·rename_i hp
    cases h
    refine newRow_sim λρ w a hts _=>⟨z.cells.toList,t,.pointer (some ⟨w.heap.size,0,none⟩),vcells_VR (plain_VR ρ z hp),?_,λρ' h=>.ptr h⟩
    simp [execOp,ho,Instr.alloc,run_zeroValue (hT.info _ _ hi) hz,newVar,newRow]
   ·cases h
  ·cases h
 ·cases h
def opBox(U:St)(v:Value):Option ORes:=some (.new (.cells (vcells v) false) (.pointer (some ⟨U.next,0,none⟩)) [])
theorem box_sound{o:Oper}{ts:List Value}{U:St}{t:TypeId}{x:Operand}{v:Value}{r:ORes}(ho:o.op=.box t x)(hx:ev ts x=some v)(h:opBox U v=some r):Sound P o ts U r:=by
 cases h
 refine newRow_sim λρ w a hts _=>⟨(a.eval x).cells.toList,t,.pointer (some ⟨w.heap.size,0,none⟩),vcells_VR (ev_VR hts hx),?_,λρ' h=>.ptr h⟩
 simp [execOp,ho,Instr.box,newVar,newRow]
def opFieldAddr(T:TT)(t:TypeId)(k:Nat):Value->Option ORes
 |.pointer (some ⟨b,off,none⟩)=>
  match T.und t with
  |some (.struct fs)=>match fs.toList[k]? with
   |some f=>match T.info f.type with
    |some i=>if i.size=0 then none else some (.val (.pointer (some ⟨b,off+f.offset,none⟩)) [])
    |none=>none
   |none=>none
  |_=>none
 |_=>none
theorem fieldAddr_sound(hT:T.Ok P){o:Oper}{ts:List Value}{U:St}{t:TypeId}{k:Nat}{x:Operand}{v:Value}{r:ORes}(ho:o.op=.fieldAddr t x k)(hx:ev ts x=some v)(h:opFieldAddr T t k v=some r):Sound P o ts U r:=by
 unfold opFieldAddr at h
 split at h
 ·rename_i b off
  split at h
  ·rename_i fs hu
   split at h
   ·rename_i f hf
    split at h
    ·rename_i i hi
     split at h
     ·cases h
     ·rename_i hsz
      cases h
      intro ρ w a hts _
      have hv:=ev_VR hts hx
      generalize he:a.eval x=xv at hv
      cases hv with
      |ptr hl=>
       rename_i l
       refine⟨.pointer (some ⟨l.block,l.off+(off+f.offset),none⟩),?_,.ptr hl⟩
       have hf':fs[k]?=some f:=by simpa using hf
       simp [execOp,ho,Instr.fieldAt,run_underlying (hT.und hu),hf',Instr.sureAddr,he,fieldPlace,run_sizeOf (hT.info _ _ hi),hsz,Addr.add_lit,Nat.add_assoc]
    ·cases h
   ·cases h
  ·cases h
 ·cases h
def opIndexAddr(T:TT)(t:TypeId):Value->Value->Option ORes
 |x,.int _ n=>
  match T.und t,x with
  |some (.slice e),.slice (some ⟨b,off,_⟩) len _=>
   match T.info e with
   |some i=>if 0<=n/\n<len then some (.val (.pointer (some ⟨b,off+n.toNat*i.size,none⟩)) []) else none
   |none=>none
  |some (.array len e),.pointer (some ⟨b,off,none⟩)=>
   match T.info e with
   |some i=>if 0<=n/\n<len then some (.val (.pointer (some ⟨b,off+n.toNat*i.size,none⟩)) []) else none
   |none=>none
  |_,_=>none
 |_,_=>none
theorem indexAddr_sound(hT:T.Ok P){o:Oper}{ts:List Value}{U:St}{t:TypeId}{x y:Operand}{u v:Value}{r:ORes}(ho:o.op=.indexAddr t x y)(hx:ev ts x=some u)(hy:ev ts y=some v)(h:opIndexAddr T t u v=some r):Sound P o ts U r:=by
 unfold opIndexAddr at h
 split at h
 ·rename_i _ k n
  split at h
  ·rename_i e b off sp len cap hu
   split at h
   ·rename_i i hi
    split at h
    ·rename_i hr
     cases h
     intro ρ w a hts _
     have hvx:=ev_VR hts hx
     have hvy:=ev_VR hts hy
     generalize he:a.eval x=xv at hvx
     generalize he':a.eval y=yv at hvy
     cases hvy
     have key:∀(l:Loc) (cap':Nat),ρ b=some l->a.eval x=.slice (some ⟨l.block,l.off+off,none⟩) len cap'->∃v',(execOp a.eval o).run P w=.ok (.value v') w/\VR ρ (.pointer (some ⟨b,off+n.toNat*i.size,none⟩)) v':=λl cap' hl hxe=>by
      refine⟨.pointer (some ⟨l.block,l.off+(off+n.toNat*i.size),none⟩),?_,.ptr hl⟩
      simp [execOp,ho,Instr.indexAt,run_underlying (hT.und hu),hxe,he',asIntOf,hr,run_sizeOf (hT.info _ _ hi),Addr.add_lit,Nat.add_assoc]
     cases hvx with
     |sliceX hl=>exact key _ _ hl he
     |sliceG hl=>exact key _ _ hl he
     |sliceE=>simp at hr;omega
    ·cases h
   ·cases h
  ·rename_i len e b off hu
   split at h
   ·rename_i i hi
    split at h
    ·rename_i hr
     cases h
     intro ρ w a hts _
     have hvx:=ev_VR hts hx
     have hvy:=ev_VR hts hy
     generalize he:a.eval x=xv at hvx
     generalize he':a.eval y=yv at hvy
     cases hvy
     cases hvx with
     |ptr hl=>
      rename_i l
      refine⟨.pointer (some ⟨l.block,l.off+(off+n.toNat*i.size),none⟩),?_,.ptr hl⟩
      simp [execOp,ho,Instr.indexAt,run_underlying (hT.und hu),he,he',asIntOf,Instr.sureAddr,hr,run_sizeOf (hT.info _ _ hi),Addr.add_lit,Nat.add_assoc]
    ·cases h
   ·cases h
  ·cases h
 ·cases h
end Go.Ab
namespace Go.Ab
variable {P:Program} {T:TT}
theorem val_sound{o:Oper}{ts:List Value}{U:St}{v:Value}(h:∀(ρ:Ren) (w:World) (a:Act),VRL ρ ts a.tmps.toList->∃v',(execOp a.eval o).run P w=.ok (.value v') w/\VR ρ v v'):Sound P o ts U (.val v []):=
 λρ w a hts _=>h ρ w a hts
theorem move_sound{o:Oper}{ts:List Value}{U:St}{x:Operand}{v:Value}(ho:o.op=.move x\/o.op=.assign x)(hx:ev ts x=some v):Sound P o ts U (.val v []):=by
 refine val_sound λρ w a hts=>⟨a.eval x,?_,ev_VR hts hx⟩
 rcases ho with ho|ho<;>simp [execOp,ho]
def opPick:Value->Value->Value->Option ORes
 |.bool c,u,v=>some (.val (match c with|true=>u|false=>v) [])
 |_,_,_=>none
theorem pick_sound{o:Oper}{ts:List Value}{U:St}{c x y:Operand}{cv u v:Value}{r:ORes}(ho:o.op=.pick c x y)(hc:ev ts c=some cv)(hx:ev ts x=some u)(hy:ev ts y=some v)(h:opPick cv u v=some r):Sound P o ts U r:=by
 unfold opPick at h
 split at h
 ·rename_i bb
  cases h
  refine val_sound λρ w a hts=>?_
  have h1:=ev_VR hts hc
  generalize he:a.eval c=cc at h1
  cases h1
  refine⟨if bb then a.eval x else a.eval y,?_,?_⟩
  ·simp [execOp,ho,he,asBool]
  ·cases bb
   ·exact ev_VR hts hy
   ·exact ev_VR hts hx
 ·cases h
def opNilCheck:Value->Option ORes
 |.pointer (some a)=>some (.val (.pointer (some a)) [])
 |.func (.func f) xs ys=>some (.val (.func (.func f) xs ys) [])
 |.iface t v=>some (.val (.iface t v) [])
 |_=>none
theorem nilCheck_sound {o : Oper} {ts : List Value} {U : St} {x : Operand} {v : Value} {r : ORes} (ho : o.op = .nilCheck x) (hx : ev ts x = some v) (h : opNilCheck v = some r) : Sound P o ts U r := by
  unfold opNilCheck at h
  split at h
  all_goals first
    | cases h
      refine val_sound fun ρ w a hts => ⟨a.eval x, ?_, ev_VR hts hx⟩
      have h1 := ev_VR hts hx
      generalize he : a.eval x = cc at h1
      cases h1
      simp [execOp, ho, he]
    | cases h
def opExtract(k:Nat):Value->Option ORes
 |.tuple ⟨vs⟩=>match lget? vs k with
  |some v=>some (.val v [])
  |none=>none
 |_=>none
theorem extract_sound{o:Oper}{ts:List Value}{U:St}{k:Nat}{x:Operand}{v:Value}{r:ORes}(ho:o.op=.extract x k)(hx:ev ts x=some v)(h:opExtract k v=some r):Sound P o ts U r:=by
 unfold opExtract at h
 split at h
 ·rename_i vs
  split at h
  ·rename_i u hu
   cases h
   refine val_sound λρ w a hts=>?_
   have h1:=ev_VR hts hx
   generalize he:a.eval x=cc at h1
   cases h1 with
   |tuple hl=>
    rename_i ys
    rw[lget?_eq]at hu
    obtain⟨u',h2,h3⟩:=hl.get k hu
    refine⟨u',?_,h3⟩
    simp [execOp,ho,he,Instr.extract,h2]
  ·cases h
 ·cases h
def partA(T:TT)(t:TypeId)(cs:List Value)(off:Nat):Option Value:=
 match T.und t,T.info t with
 |some d,some i=>if isAggD d then(if off+i.size<=cs.length then some (.agg ⟨(cs.drop off).take i.size⟩) else none) else lget? cs off
 |_,_=>none
theorem partA_run(hT:T.Ok P){ρ:Ren}{t:TypeId}{cs:List Value}{cs':Array Value}{off:Nat}{v:Value}(hcs:VRL ρ cs cs'.toList)(h:partA T t cs off=some v)(w:World):∃v',(part t cs' off).run P w=.ok v' w/\VR ρ v v':=by
 unfold partA at h
 split at h
 ·rename_i d i hd hi
  split at h
  ·rename_i hag
   split at h
   ·rename_i hle
    cases h
    refine⟨.agg ⟨(cs'.toList.drop off).take i.size⟩,?_,.agg ((hcs.drop off).take _)⟩
    simp only[part,Sem.run_bind,run_isAgg (hT.und hd),hag,Result.andThen_ok,if_true,run_sizeOf (hT.info _ _ hi),Sem.run_pure]
    congr 2
    apply Array.ext'
    simp [List.extract_eq_take_drop]
   ·cases h
  ·rename_i hag
   rw[lget?_eq]at h
   obtain⟨v',h1,h2⟩:=hcs.get off h
   refine⟨v',?_,h2⟩
   have h3:cs'[off]?=some v':=by simpa using h1
   simp [part,run_isAgg (hT.und hd),hag,h3]
 ·cases h
def opField(T:TT)(t:TypeId)(k:Nat):Value->Option ORes
 |.agg ⟨cs⟩=>match T.und t with
  |some (.struct fs)=>match fs.toList[k]? with
   |some f=>match partA T f.type cs f.offset with
    |some v=>some (.val v [])
    |none=>none
   |none=>none
  |_=>none
 |_=>none
theorem field_sound(hT:T.Ok P){o:Oper}{ts:List Value}{U:St}{t:TypeId}{k:Nat}{x:Operand}{v:Value}{r:ORes}(ho:o.op=.field t x k)(hx:ev ts x=some v)(h:opField T t k v=some r):Sound P o ts U r:=by
 unfold opField at h
 split at h
 ·rename_i cs
  split at h
  ·rename_i fs hu
   split at h
   ·rename_i f hf
    split at h
    ·rename_i u hp
     cases h
     refine val_sound λρ w a hts=>?_
     have h1:=ev_VR hts hx
     generalize he:a.eval x=cc at h1
     cases h1 with
     |agg hl=>
      rename_i ys
      obtain⟨u',h2,h3⟩:=partA_run hT (cs':=⟨ys⟩) hl hp w
      refine⟨u',?_,h3⟩
      have hf':fs[k]?=some f:=by simpa using hf
      simp [execOp,ho,Instr.field,run_underlying (hT.und hu),hf',he,asAgg,h2]
    ·cases h
   ·cases h
  ·cases h
 ·cases h
def opIndex(T:TT)(t:TypeId):Value->Value->Option ORes
 |x,.int _ n=>
  match T.und t,x with
  |some (.array len e),.agg ⟨cs⟩=>
   match T.info e with
   |some i=>if 0<=n/\n<len then(match partA T e cs (n.toNat*i.size) with|some v=>some (.val v [])|none=>none) else none
   |none=>none
  |some .string,.string s=>if 0<=n/\n.toNat<s.size then(match s.data.toList[n.toNat]? with|some b=>some (.val (.int .u8 b.toNat) [])|none=>none) else none
  |_,_=>none
 |_,_=>none
theorem index_sound(hT:T.Ok P){o:Oper}{ts:List Value}{U:St}{t:TypeId}{x y:Operand}{u v:Value}{r:ORes}(ho:o.op=.index t x y)(hx:ev ts x=some u)(hy:ev ts y=some v)(h:opIndex T t u v=some r):Sound P o ts U r:=by
 unfold opIndex at h
 split at h
 ·rename_i _ k n
  split at h
  ·rename_i len e cs hu
   split at h
   ·rename_i i hi
    split at h
    ·rename_i hr
     split at h
     ·rename_i u' hp
      cases h
      refine val_sound λρ w a hts=>?_
      have hvx:=ev_VR hts hx
      have hvy:=ev_VR hts hy
      generalize he:a.eval x=xv at hvx
      generalize he':a.eval y=yv at hvy
      cases hvy
      cases hvx with
      |agg hl=>
       rename_i ys
       obtain⟨u',h2,h3⟩:=partA_run hT (cs':=⟨ys⟩) hl hp w
       refine⟨u',?_,h3⟩
       simp [execOp,ho,Instr.index,he,he',asIntOf,run_underlying (hT.und hu),hr,run_sizeOf (hT.info _ _ hi),h2]
     ·cases h
    ·cases h
   ·cases h
  ·rename_i s hu
   split at h
   ·rename_i hr
    split at h
    ·rename_i b hb
     cases h
     refine val_sound λρ w a hts=>?_
     have hvx:=ev_VR hts hx
     have hvy:=ev_VR hts hy
     generalize he:a.eval x=xv at hvx
     generalize he':a.eval y=yv at hvy
     cases hvy
     cases hvx
     refine⟨_,?_,.int _ _⟩
     have hb':s[n.toNat]?=some b:=by
      have h2:s.data[n.toNat]?=some b:=by simpa using hb
      rw[getElem?_pos s n.toNat hr.2]
      rw[Array.getElem?_eq_some_iff]at h2
      obtain⟨h3,h4⟩:=h2
      exact congrArg some h4
     simp [execOp,ho,Instr.index,he,he',asIntOf,run_underlying (hT.und hu),hr.1,hb']
    ·cases h
   ·cases h
  ·cases h
 ·cases h
def intOp(op:BinOp)(k:IntKind)(a b:Int):Option Value:=
 match op with
 |.add=>some (.int k (k.wrap (a+b)))
 |.sub=>some (.int k (k.wrap (a - b)))
 |.mul=>some (.int k (k.wrap (a*b)))
 |.quo=>if b=0 then none else some (.int k (k.wrap (a.tdiv b)))
 |.rem=>if b=0 then none else some (.int k (a.tmod b))
 |.and=>some (.int k (k.wrap (BitVec.ofInt k.bits a &&& BitVec.ofInt k.bits b).toNat))
 |.or=>some (.int k (k.wrap (BitVec.ofInt k.bits a ||| BitVec.ofInt k.bits b).toNat))
 |.xor=>some (.int k (k.wrap (BitVec.ofInt k.bits a ^^^ BitVec.ofInt k.bits b).toNat))
 |.andNot=>some (.int k (k.wrap (BitVec.ofInt k.bits a &&& ~~~(BitVec.ofInt k.bits b)).toNat))
 |.eql=>some (.bool (a==b))
 |.neq=>some (.bool (a != b))
 |.lss=>some (.bool (decide (a<b)))
 |.leq=>some (.bool (decide (a<=b)))
 |.gtr=>some (.bool (decide (b<a)))
 |.geq=>some (.bool (decide (b<=a)))
 |_=>none
def shiftOp(op:BinOp)(k:IntKind)(a b:Int):Option Value:=
 if b<0 then none else
 match op with
 |.shl=>some (.int k (k.wrap (a*2 ^ (min b.toNat k.bits))))
 |.shr=>some (.int k (a.fdiv (2 ^ (min b.toNat k.bits))))
 |_=>none
def isShift:BinOp->Bool
 |.shl|.shr=>true
 |_=>false
theorem run_intOp {op : BinOp} {k : IntKind} {a b : Int} {v : Value} (h : intOp op k a b = some v) (t : TypeId) (w : World) : (binOp op t (.int k a) (.int k b)).run P w = .ok v w := by
  cases op <;> simp only [intOp] at h <;> first
    | (cases h; simp [binOp, Op.intArith, Op.intBits, Op.intCmp])
    | (split at h
       · cases h
       · rename_i hb; cases h; simp [binOp, Op.intDiv, hb])
    | cases h
theorem run_shiftOp{op:BinOp}{k k':IntKind}{a b:Int}{v:Value}(h:shiftOp op k a b=some v)(t:TypeId)(w:World):(binOp op t (.int k a) (.int k' b)).run P w=.ok v w:=by
 unfold shiftOp at h
 split at h
 ·cases h
 ·rename_i hb
  cases op<;>simp only at h<;>first
   |(cases h;simp [binOp,Op.shift,hb])
   |cases h
def eqOp(T:TT)(t:TypeId):Value->Value->Option Bool
 |.bool a,.bool b=>match T.und t with|some .bool=>some (a==b)|_=>none
 |.pointer a,.pointer b=>match T.und t with
  |some (.pointer e)=>match a,b with
   |none,none=>some true
   |none,some _=>some false
   |some _,none=>some false
   |some ⟨b₁,o₁,none⟩,some ⟨b₂,o₂,none⟩=>match T.info e with
    |some i=>if i.size≠0/\b₁=b₂ then some (o₁==o₂) else none
    |none=>none
   |_,_=>none
  |_=>none
 |.slice none _ _,.slice b _ _=>match T.und t with|some (.slice _)=>some b.isNone|_=>none
 |.slice (some _) _ _,.slice none _ _=>match T.und t with|some (.slice _)=>some false|_=>none
 |.map none,.map b=>match T.und t with|some (.map _ _)=>some b.isNone|_=>none
 |.map (some _),.map none=>match T.und t with|some (.map _ _)=>some false|_=>none
 |.nilFunc,.nilFunc=>match T.und t with|some (.func _ _ _)=>some true|_=>none
 |.nilFunc,.func _ _ _=>match T.und t with|some (.func _ _ _)=>some false|_=>none
 |.func _ _ _,.nilFunc=>match T.und t with|some (.func _ _ _)=>some false|_=>none
 |.nilIface,.iface _ _=>match T.und t with|some (.interface _)=>some false|_=>none
 |.iface _ _,.nilIface=>match T.und t with|some (.interface _)=>some false|_=>none
 |.agg ⟨xs⟩,.agg ⟨ys⟩=>match T.flat t with|some sh=>eqCells sh xs ys|none=>none
 |_,_=>none
theorem eqCells_VRL{ρ:Ren}:∀{sh:List CK} {xs ys xs' ys':List Value} {r:Bool},eqCells sh xs ys=some r->VRL ρ xs xs'->VRL ρ ys ys'->eqCells sh xs' ys'=some r:=by
 intro sh
 induction sh with
 |nil=>
  intro xs ys xs' ys' r h hx hy
  cases hx<;>cases hy<;>first|exact h|(simp [eqCells]at h)
 |cons c sh ih=>
  intro xs ys xs' ys' r h hx hy
  cases hx with
  |nil=>simp [eqCells]at h
  |cons hx tx=>
   cases hy with
   |nil=>simp [eqCells]at h
   |cons hy ty=>
    unfold eqCells at h
    split at h
    ·rename_i he _ _;cases he
    ·rename_i sh1 k a xs1 k' b ys1 he1 he2 he3
     cases he1;cases he2;cases he3;cases hx;cases hy
     simp only[eqCells]
     split at h
     ·rename_i hk
      rw[if_pos hk]
      split at h
      ·rename_i hab;rw[if_pos hab];exact ih h tx ty
      ·rename_i hab;rw[if_neg hab];exact h
     ·cases h
    ·rename_i sh1 a xs1 b ys1 he1 he2 he3
     cases he1;cases he2;cases he3;cases hx;cases hy
     simp only[eqCells]
     split at h
     ·rename_i hab;rw[if_pos hab];exact ih h tx ty
     ·rename_i hab;rw[if_neg hab];exact h
    ·rename_i sh1 a xs1 b ys1 he1 he2 he3
     cases he1;cases he2;cases he3;cases hx;cases hy
     simp only[eqCells]
     split at h
     ·rename_i hab;rw[if_pos hab];exact ih h tx ty
     ·rename_i hab;rw[if_neg hab];exact h
    ·cases h
theorem run_equal_eqOp(hT:T.Ok P){ρ:Ren}{t:TypeId}{u v u' v':Value}{r:Bool}(h:eqOp T t u v=some r)(hu:VR ρ u u')(hv:VR ρ v v')(w:World):
  (Op.equal t u' v').run P w=.ok r w:=by
 unfold Op.equal
 obtain⟨d,e⟩:∃d,Op.maxDepth=d+1:=⟨9999,rfl⟩
 unfold eqOp at h
 split at h
 ·split at h
  ·rename_i hd
   cases h;cases hu;cases hv
   rw[e];simp [Op.equalIn,run_underlying (hT.und hd)]
  ·cases h
 ·split at h
  ·rename_i el hd
   split at h
   ·cases h;cases hu;cases hv;rw[e];simp [Op.equalIn,run_underlying (hT.und hd)]
   ·cases h;cases hu;cases hv;rw[e];simp [Op.equalIn,run_underlying (hT.und hd)]
   ·cases h;cases hu;cases hv;rw[e];simp [Op.equalIn,run_underlying (hT.und hd)]
   ·split at h
    ·rename_i i hi
     split at h
     ·rename_i hc
      obtain⟨hs,rfl⟩:=hc
      cases h
      cases hu with
      |ptr hl=>
       cases hv with
       |ptr hl'=>
        rw[hl]at hl';cases hl'
        rw[e]
        simp only[Op.equalIn,Sem.run_bind,run_underlying (hT.und hd),Result.andThen_ok,run_sizeOf (hT.info _ _ hi),hs,ne_eq,not_false_eq_true,if_true,sameAddr,beq_self_eq_true,Sem.run_pure]
        congr 1
        rw[Bool.eq_iff_iff]
        simp
     ·cases h
    ·cases h
   ·cases h
  ·cases h
 ·split at h
  ·rename_i hd
   cases h
   cases hu
   rw[e]
   cases hv<;>simp [Op.equalIn,run_underlying (hT.und hd)]
  ·cases h
 ·split at h
  ·rename_i hd
   cases h
   cases hv
   rw[e]
   cases hu<;>simp [Op.equalIn,run_underlying (hT.und hd)]
  ·cases h
 ·split at h
  ·rename_i hd
   cases h
   cases hu
   rw[e]
   cases hv<;>simp [Op.equalIn,run_underlying (hT.und hd)]
  ·cases h
 ·split at h
  ·rename_i hd
   cases h
   cases hv
   rw[e]
   cases hu<;>simp [Op.equalIn,run_underlying (hT.und hd)]
  ·cases h
 ·split at h
  ·rename_i hd
   cases h;cases hu;cases hv
   rw[e];simp [Op.equalIn,run_underlying (hT.und hd)]
  ·cases h
 ·split at h
  ·rename_i hd
   cases h;cases hu
   rw[e];cases hv<;>simp [Op.equalIn,run_underlying (hT.und hd)]
  ·cases h
 ·split at h
  ·rename_i hd
   cases h;cases hv
   rw[e];cases hu<;>simp [Op.equalIn,run_underlying (hT.und hd)]
  ·cases h
 ·split at h
  ·rename_i hd
   cases h;cases hu
   rw[e];cases hv;simp [Op.equalIn,run_underlying (hT.und hd)]
  ·cases h
 ·split at h
  ·rename_i hd
   cases h;cases hv
   rw[e];cases hu;simp [Op.equalIn,run_underlying (hT.und hd)]
  ·cases h
 ·split at h
  ·rename_i hf
   cases hu with
   |agg hx=>cases hv with
    |agg hy=>exact(hT.flat t _ hf).eq _ _ r w (eqCells_VRL h hx hy)
  ·cases h
 ·cases h
def strOp(op:BinOp)(a b:ByteArray):Option Value:=
 match op with
 |.add=>if a.size+b.size<=140737488355328 then some (.string (a++b)) else none
 |.eql=>some (.bool (a.toList==b.toList))
 |.neq=>some (.bool (!(a.toList==b.toList)))
 |.lss=>some (.bool (Op.bytesLess a.toList b.toList))
 |.leq=>some (.bool (Op.bytesLess a.toList b.toList || a.toList==b.toList))
 |.gtr=>some (.bool (!(Op.bytesLess a.toList b.toList || a.toList==b.toList)))
 |.geq=>some (.bool (!(Op.bytesLess a.toList b.toList)))
 |_=>none
def opBin(T:TT)(op:BinOp)(t:TypeId):Value->Value->Option ORes
 |.int k a,.int k' b=>
  if isShift op then(match shiftOp op k a b with|some v=>some (.val v [])|none=>none)
  else if k=k' then(match intOp op k a b with|some v=>some (.val v [])|none=>none) else none
 |.string a,.string b=>match strOp op a b with|some v=>some (.val v [])|none=>none
 |.nilIface,.nilIface=>match T.und t,op with
  |some (.interface ms),.eql=>if ms.isEmpty then some (.val (.bool true) []) else none
  |some (.interface ms),.neq=>if ms.isEmpty then some (.val (.bool false) []) else none
  |_,_=>none
 |u,v=>match op with
  |.eql=>match eqOp T t u v with|some r=>some (.val (.bool r) [])|none=>none
  |.neq=>match eqOp T t u v with|some r=>some (.val (.bool (!r)) [])|none=>none
  |_=>none
theorem eqGuard_run(hT:T.Ok P){ρ:Ren}{op:BinOp}{t:TypeId}{x y:Operand}{u v u' v':Value}{r:Bool}(h:eqOp T t u v=some r)(hu:VR ρ u u')(hv:VR ρ v v')(hop:op=.eql\/op=.neq)(w:World):(eqGuard op t x y u' v').run P w=.ok () w:=by
 rcases hop with rfl|rfl
 all_goals
  unfold eqGuard
  simp only[Bool.not_true,Bool.false_eq_true,if_false]
  split
  ·cases hu;cases hv;simp [eqOp]at h
  ·cases hu;cases hv
   simp only[eqOp]at h
   split at h
   ·rename_i hf
    have:=(hT.flat t _ hf).guard
    simp [this]
   ·cases h
  ·rfl
theorem eqGuard_int(op:BinOp)(t:TypeId)(x y:Operand)(k:IntKind)(a:Int)(v:Value)(w:World):(eqGuard op t x y (.int k a) v).run P w=.ok () w:=by
 rw[eqGuard_at_int];rfl
theorem eqGuard_str(op:BinOp)(t:TypeId)(x y:Operand)(a:ByteArray)(v:Value)(w:World):(eqGuard op t x y (.string a) v).run P w=.ok () w:=by
 rw[eqGuard_at_string];rfl
theorem run_eqGuardIn_nil{t:TypeId}{ms:Array (String×TypeId)}(hu:P.underlying t=some (.interface ms))(hm:ms.isEmpty=true)(w:World):(Op.eqGuardIn Op.maxDepth t .nilIface .nilIface).run P w=.ok false w:=by
 obtain⟨d,e⟩:∃d,Op.maxDepth=d+1:=⟨9999,rfl⟩
 rw[e]
 simp [Op.eqGuardIn,run_underlying hu,hm]
theorem run_equal_nil{t:TypeId}{ms:Array (String×TypeId)}(hu:P.underlying t=some (.interface ms))(w:World):(Op.equal t .nilIface .nilIface).run P w=.ok true w:=by
 unfold Op.equal
 obtain⟨d,e⟩:∃d,Op.maxDepth=d+1:=⟨9999,rfl⟩
 rw[e]
 simp [Op.equalIn,run_underlying hu]
theorem bin_sound (hT : T.Ok P) {o : Oper} {ts : List Value} {U : St} {op : BinOp} {t t' : TypeId} {x y : Operand} {u v : Value} {r : ORes} (ho : o.op = .binOp op t x y t') (hx : ev ts x = some u) (hy : ev ts y = some v) (h : opBin T op t u v = some r) : Sound P o ts U r := by
  unfold opBin at h
  split at h
  · rename_i k a k' b
    have key : ∀ z : Value, (∀ w, (binOp op t (.int k a) (.int k' b)).run P w = .ok z w) → plain z = true → Sound P o ts U (.val z []) := fun z hz hp => by
      refine val_sound fun ρ w a' hts => ⟨z, ?_, plain_VR ρ z hp⟩
      have hvx := ev_VR hts hx
      have hvy := ev_VR hts hy
      generalize he : a'.eval x = xv at hvx
      generalize he' : a'.eval y = yv at hvy
      cases hvx; cases hvy
      simp [execOp, ho, he, he', eqGuard_int, hz]
    split at h
    · split at h
      · rename_i z hz
        cases h
        refine key _ (fun w => run_shiftOp hz t w) ?_
        unfold shiftOp at hz
        split at hz
        · cases hz
        · cases op <;> simp only at hz <;> (cases hz <;> rfl)
      · cases h
    · split at h
      · rename_i hk
        subst hk
        split at h
        · rename_i z hz
          cases h
          refine key _ (fun w => run_intOp hz t w) ?_
          cases op <;> simp only [intOp] at hz <;> first
            | (cases hz <;> rfl)
            | (split at hz
               · cases hz
               · cases hz; rfl)
        · cases h
      · cases h
  · rename_i a b
    split at h
    · rename_i z hz
      cases h
      have hpl : plain z = true := by
        cases op <;> simp only [strOp] at hz <;> first
          | (cases hz <;> rfl)
          | (split at hz
             · cases hz; rfl
             · cases hz)
      refine val_sound fun ρ w a' hts => ⟨z, ?_, plain_VR ρ z hpl⟩
      have hvx := ev_VR hts hx
      have hvy := ev_VR hts hy
      generalize he : a'.eval x = xv at hvx
      generalize he' : a'.eval y = yv at hvy
      cases hvx; cases hvy
      have hrun : (binOp op t (.string a) (.string b)).run P w = .ok z w := by
        cases op <;> simp only [strOp] at hz <;> first
          | (cases hz <;> simp [binOp, Op.stringOp])
          | (split at hz
             · rename_i hs
               cases hz
               simp only [binOp, Op.stringOp]
               rw [if_neg]
               · rfl
               · simp; omega
             · cases hz)
          | cases hz
      simp [execOp, ho, he, he', eqGuard_str, hrun]
    · cases h
  · have gen : ∀ (ms : _) (op' : BinOp) (z : Bool), T.und t = some (.interface ms) → ms.isEmpty = true → (op' = .eql ∧ z = true ∨ op' = .neq ∧ z = false) → o.op = .binOp op' t x y t' → Sound P o ts U (.val (.bool z) []) := fun ms op' z hd hm hop ho => by
      have hu := hT.und hd
      refine val_sound fun ρ w a' hts => ⟨.bool z, ?_, .bool _⟩
      have hvx := ev_VR hts hx
      have hvy := ev_VR hts hy
      generalize he : a'.eval x = xv at hvx
      generalize he' : a'.eval y = yv at hvy
      cases hvx; cases hvy
      have hg : (eqGuard op' t x y .nilIface .nilIface).run P w = .ok () w := by
        rcases hop with ⟨rfl, _⟩ | ⟨rfl, _⟩ <;>
        · unfold eqGuard
          simp only [Bool.not_true, Bool.false_eq_true, if_false]
          split
          · rfl
          · simp [run_eqGuardIn_nil hu hm]
      have hb : (binOp op' t .nilIface .nilIface).run P w = .ok (.bool z) w := by
        rcases hop with ⟨rfl, rfl⟩ | ⟨rfl, rfl⟩ <;> simp [binOp, run_equal_nil hu]
      simp [execOp, ho, he, he', hg, hb]
    split at h
    · rename_i ms hd
      split at h
      · rename_i hm; cases h; exact gen ms .eql true hd hm (.inl ⟨rfl, rfl⟩) ho
      · cases h
    · rename_i ms hd
      split at h
      · rename_i hm; cases h; exact gen ms .neq false hd hm (.inr ⟨rfl, rfl⟩) ho
      · cases h
    · cases h
  · rename_i u v hne1 hne2 hne3
    split at h
    · split at h
      · rename_i r hr
        cases h
        refine val_sound fun ρ w a' hts => ⟨.bool r, ?_, .bool _⟩
        have hvx := ev_VR hts hx
        have hvy := ev_VR hts hy
        have h1 := eqGuard_run (P := P) (op := .eql) (x := x) (y := y) hT hr hvx hvy (.inl rfl) w
        have h2 := run_equal_eqOp hT hr hvx hvy w
        have h3 : (binOp .eql t (a'.eval x) (a'.eval y)).run P w = .ok (.bool r) w := by
          generalize a'.eval x = xv at *
          generalize a'.eval y = yv at *
          cases hvx <;> cases hvy <;> first
            | (simp [eqOp] at hr; done)
            | (simp [binOp, h2]; done)
            | exact absurd rfl (hne1 _ _ _ _ rfl)
            | exact absurd rfl (hne2 _ _ rfl)
        simp [execOp, ho, h1, h3]
      · cases h
    · split at h
      · rename_i r hr
        cases h
        refine val_sound fun ρ w a' hts => ⟨.bool (!r), ?_, .bool _⟩
        have hvx := ev_VR hts hx
        have hvy := ev_VR hts hy
        have h1 := eqGuard_run (P := P) (op := .neq) (x := x) (y := y) hT hr hvx hvy (.inr rfl) w
        have h2 := run_equal_eqOp hT hr hvx hvy w
        have h3 : (binOp .neq t (a'.eval x) (a'.eval y)).run P w = .ok (.bool (!r)) w := by
          generalize a'.eval x = xv at *
          generalize a'.eval y = yv at *
          cases hvx <;> cases hvy <;> first
            | (simp [eqOp] at hr; done)
            | (simp [binOp, h2]; done)
            | exact absurd rfl (hne1 _ _ _ _ rfl)
            | exact absurd rfl (hne2 _ _ rfl)
        simp [execOp, ho, h1, h3]
      · cases h
    · cases h
end Go.Ab
namespace Go.Ab
variable {P:Program} {T:TT}
theorem foldl_lay(v:List Value)(off k:Nat)(cs:Array Value)(h:off+k+v.length<=cs.size):
  ((v.zipIdx k).foldl (λ(cs:Array Value) (p:Value×Nat)=>cs.setIfInBounds (off+p.2) p.1) cs).toList=cs.toList.take (off+k)++v++cs.toList.drop (off+k+v.length):=by
 induction v generalizing k cs with
 |nil=>simp
 |cons x v ih=>
  simp only[List.zipIdx_cons,List.foldl_cons,List.length_cons]
  rw[ih (k+1) _ (by simp at h ⊢;omega)]
  have hlt:off+k<cs.toList.length:=by simp at h ⊢;omega
  rw[Array.toList_setIfInBounds]
  have e1:(cs.toList.set (off+k) x).take (off+(k+1))=cs.toList.take (off+k)++[x]:=by
   rw[show off+(k+1)=(off+k)+1 by omega,List.take_set,List.take_succ_eq_append_getElem hlt,List.set_append_right _ _ (by simp;omega)]
   have hcs:off+k<cs.size:=by simpa using hlt
   have hm:min (off+k) cs.size=off+k:=Nat.min_eq_left (by omega)
   simp [hm]
  have e2:(cs.toList.set (off+k) x).drop (off+(k+1)+v.length)=cs.toList.drop (off+k+(v.length+1)):=by
   rw[List.drop_set_of_lt (by omega)]
   congr 1
   omega
  rw[e1,e2]
  simp
def fillA(place:Nat->Option (Nat×Nat))(cells:List Value):List (Nat×Value)->Option (List Value)
 |[]=>some cells
 |(i,v) :: rest=>
  match place i with
  |none=>none
  |some (off,size)=>if(vcells v).length=size/\off+(vcells v).length<=cells.length then fillA place (over cells off (vcells v)) rest else none
def PartsR(ρ:Ren):List (Nat×Value)->List (Nat×Value)->Prop
 |[],[]=>True
 |(i,v) :: r,(j,w) :: s=>(i=j/\VR ρ v w)/\PartsR ρ r s
 |_,_=>False
theorem fillA_run{ρ:Ren}{place:Nat->Option (Nat×Nat)}:∀{ps ps':List (Nat×Value)} {cs:List Value} {cs':Array Value} {r:List Value},fillA place cs ps=some r->PartsR ρ ps ps'->VRL ρ cs cs'.toList->
  ∃r':Array Value,Instr.fill place cs' ps'=some r'/\VRL ρ r r'.toList
 |[],[],cs,cs',r,h,_,hc=>by cases h;exact⟨cs',rfl,hc⟩
 |(i,v) :: ps,(j,w) :: ps',cs,cs',r,h,hp,hc=>by
  obtain⟨⟨rfl,hv⟩,hp⟩:=hp
  simp only[fillA]at h
  split at h
  ·cases h
  ·rename_i off size hpl
   split at h
   ·rename_i hs
    obtain⟨hs1,hs2⟩:=hs
    have hvc:=vcells_VR hv
    have hl1:=hvc.length
    have hl2:=hc.length
    simp at hl1 hl2
    have hlay:=foldl_lay w.cells.toList off 0 cs' (by simp;omega)
    have hz:(w.cells.zipIdx.foldl (λ(cs:Array Value) (p:Value×Nat)=>cs.setIfInBounds (off+p.2) p.1) cs')=((w.cells.toList.zipIdx 0).foldl (λ(cs:Array Value) (p:Value×Nat)=>cs.setIfInBounds (off+p.2) p.1) cs'):=by
     rw[<-Array.foldl_toList];simp
    have hnew:VRL ρ (over cs off (vcells v)) (w.cells.zipIdx.foldl (λ(cs:Array Value) (p:Value×Nat)=>cs.setIfInBounds (off+p.2) p.1) cs').toList:=by
     rw[hz,hlay,over_eq _ _ _ hs2,Nat.add_zero]
     refine((hc.take _).append hvc).append ?_
     have:=hc.drop (off+(vcells v).length)
     simpa [hl1]using this
    obtain⟨r',h1,h2⟩:=fillA_run h hp hnew
    refine⟨r',?_,h2⟩
    simp only[Instr.fill,hpl]
    rw[if_neg]
    ·exact h1
    ·simp;omega
   ·cases h
 |[],_ :: _,_,_,_,_,hp,_=>hp.elim
 |_ :: _,[],_,_,_,_,hp,_=>hp.elim
def partsA(ts:List Value):List (Nat×Operand)->Option (List (Nat×Value))
 |[]=>some []
 |(i,x) :: r=>match ev ts x with
  |none=>none
  |some v=>match partsA ts r with
   |none=>none
   |some s=>some ((i,v) :: s)
theorem partsA_VR{ρ:Ren}{ts:List Value}{a:Act}(h:VRL ρ ts a.tmps.toList):∀{xs:List (Nat×Operand)} {ps:List (Nat×Value)},partsA ts xs=some ps->PartsR ρ ps (xs.map λp=>(p.1,a.eval p.2))
 |[],ps,hv=>by simp only[partsA,Option.some.injEq]at hv;subst hv;trivial
 |(i,x) :: xs,ps,hv=>by
  simp only[partsA]at hv
  split at hv
  ·cases hv
  ·rename_i v h1
   split at hv
   ·cases hv
   ·rename_i vs' h2
    cases hv
    exact⟨⟨rfl,ev_VR h h1⟩,partsA_VR h h2⟩
def placesA(T:TT):List Field->Option (List (Nat×Nat))
 |[]=>some []
 |f :: fs=>match T.info f.type with
  |none=>none
  |some i=>match placesA T fs with
   |none=>none
   |some r=>some ((f.offset,i.size) :: r)
theorem placesA_run(hT:T.Ok P)(w:World):∀{fs:List Field} {r:List (Nat×Nat)},placesA T fs=some r->(fs.mapM λf=>Prod.mk f.offset <$> sizeOf f.type:Sem (List (Nat×Nat))).run P w=.ok r w
 |[],r,h=>by cases h;simp
 |f :: fs,r,h=>by
  simp only[placesA]at h
  split at h
  ·cases h
  ·rename_i i hi
   split at h
   ·cases h
   ·rename_i r' hr'
    cases h
    have:=placesA_run hT w hr'
    simp only[List.mapM_cons,Sem.run_bind,Sem.run_map,run_sizeOf (hT.info _ _ hi),Result.andThen_ok,Sem.run_pure,this]
def opBuild(T:TT)(t:TypeId)(ps:List (Nat×Value)):Option ORes:=
 match T.und t,T.info t with
 |some (.struct fs),some i=>match i.zero with
  |some z=>if plain z=true then(match placesA T fs.toList with
   |some pl=>match fillA (lgetP pl) (vcells z) ps with
    |some cs=>some (.val (.agg ⟨cs⟩) [])
    |none=>none
   |none=>none) else none
  |none=>none
 |some (.array _ e),some i=>match i.zero,T.info e with
  |some z,some ie=>if plain z=true then(match fillA (λi=>some (i*ie.size,ie.size)) (vcells z) ps with
   |some cs=>some (.val (.agg ⟨cs⟩) [])
   |none=>none) else none
  |_,_=>none
 |_,_=>none
where lgetP:List (Nat×Nat)->Nat->Option (Nat×Nat)
 |[],_=>none
 |v :: _,0=>some v
 |_ :: vs,n+1=>lgetP vs n
theorem lgetP_eq(l:List (Nat×Nat))(n:Nat):opBuild.lgetP l n=l[n]?:=by
 induction l generalizing n with
 |nil=>simp [opBuild.lgetP]
 |cons v vs ih=>cases n with
  |zero=>simp [opBuild.lgetP]
  |succ n=>simp [opBuild.lgetP,ih]
theorem build_sound(hT:T.Ok P){o:Oper}{ts:List Value}{U:St}{t:TypeId}{xs:Array (Nat×Operand)}{ps:List (Nat×Value)}{r:ORes}(ho:o.op=.build t xs)(hx:partsA ts xs.toList=some ps)(h:opBuild T t ps=some r):Sound P o ts U r:=by
 unfold opBuild at h
 split at h
 ·rename_i fs i hu hi
  split at h
  ·rename_i z hz
   split at h
   ·rename_i hp
    split at h
    ·rename_i pl hpl
     split at h
     ·rename_i cs hcs
      cases h
      refine val_sound λρ w a hts=>?_
      have hps:=partsA_VR hts hx
      obtain⟨r',h1,h2⟩:=fillA_run (cs':=z.cells) hcs hps (vcells_VR (plain_VR ρ z hp))
      refine⟨.agg r',?_,?_⟩
      ·have hm:=placesA_run hT w hpl
       have hfun:(opBuild.lgetP pl)=λi=>pl[i]?:=funext (lgetP_eq pl)
       rw[hfun]at h1
       simp only[execOp,ho,Instr.build,Sem.run_bind,run_zeroValue (hT.info _ _ hi) hz,run_underlying (hT.und hu),Result.andThen_ok]
       rw[Array.mapM_eq_mapM_toList]
       simp [hm,h1]
      ·have:=h2.toList
       exact .agg h2
     ·cases h
    ·cases h
   ·cases h
  ·cases h
 ·rename_i n e i hu hi
  split at h
  ·rename_i z ie hz hie
   split at h
   ·rename_i hp
    split at h
    ·rename_i cs hcs
     cases h
     refine val_sound λρ w a hts=>?_
     have hps:=partsA_VR hts hx
     obtain⟨r',h1,h2⟩:=fillA_run (cs':=z.cells) hcs hps (vcells_VR (plain_VR ρ z hp))
     refine⟨.agg r',?_,.agg h2⟩
     simp only[execOp,ho,Instr.build,Sem.run_bind,run_zeroValue (hT.info _ _ hi) hz,run_underlying (hT.und hu),Result.andThen_ok,run_sizeOf (hT.info _ _ hie)]
     simp [h1]
    ·cases h
   ·cases h
  ·cases h
 ·cases h
def zerosN(z:List Value):Nat->List Value
 |0=>[]
 |n+1=>z++zerosN z n
theorem zerosN_length(z:List Value)(n:Nat):(zerosN z n).length=n*z.length:=by
 induction n with
 |zero=>simp [zerosN]
 |succ n ih=>simp [zerosN,ih,Nat.add_mul];omega
theorem zerosN_get(z:List Value)(n i:Nat)(h:i<n*z.length):(zerosN z n)[i]?=z[i % z.length]?:=by
 induction n generalizing i with
 |zero=>simp at h
 |succ n ih=>
  simp only[zerosN]
  by_cases hi:i<z.length
  ·rw[List.getElem?_append_left hi,Nat.mod_eq_of_lt hi]
  ·rw[List.getElem?_append_right (by omega),ih _ (by rw[Nat.add_mul]at h;omega)]
   congr 1
   rw[<-Nat.mod_eq_sub_mod (by omega)]
theorem zerosN_range(z:Array Value)(n:Nat)(hz:z.size≠0\/n=0):((Array.range (n*z.size)).map λi=>z[i % z.size]!).toList=zerosN z.toList n:=by
 apply List.ext_getElem?
 intro i
 by_cases h:i<n*z.toList.length
 ·rw[zerosN_get _ _ _ h]
  have h':i<n*z.size:=by simpa using h
  have hpos:0<z.size:=by rcases Nat.eq_zero_or_pos z.size with h0|h0;(rw[h0]at h';omega);exact h0
  have hm:i % z.size<z.size:=Nat.mod_lt _ hpos
  simp [h',hm]
 ·rw[show(zerosN z.toList n)[i]?=none from List.getElem?_eq_none (by rw[zerosN_length];omega),List.getElem?_eq_none]
  simp at h ⊢;omega
theorem zerosN_VRL{ρ:Ren}{z z':List Value}(h:VRL ρ z z')(n:Nat):VRL ρ (zerosN z n) (zerosN z' n):=by
 induction n with
 |zero=>exact .nil
 |succ n ih=>exact h.append ih
def opBuildSlice(T:TT)(U:St)(t:TypeId)(n:Nat)(ps:List (Nat×Value)):Option ORes:=
 match T.und t with
 |some (.slice e)=>match T.info e with
  |some ie=>match ie.zero with
   |some z=>if plain z=true/\(vcells z).length=ie.size/\ie.size≠0/\n*ie.size<=16777216 then(match fillA (λi=>some (i*ie.size,ie.size)) (zerosN (vcells z) n) ps with
    |some cs=>some (.new (.cells cs false) (.slice (some ⟨U.next,0,some 0⟩) n n) [])
    |none=>none) else none
   |none=>none
  |none=>none
 |_=>none
theorem buildSlice_sound (hT : T.Ok P) {o : Oper} {ts : List Value} {U : St} {t : TypeId} {n : Nat} {xs : Array (Nat × Operand)} {ps : List (Nat × Value)} {r : ORes} (ho : o.op = .buildSlice t n xs) (hx : partsA ts xs.toList = some ps) (h : opBuildSlice T U t n ps = some r) : Sound P o ts U r := by
  unfold opBuildSlice at h
  split at h
  · rename_i e hu
    split at h
    · rename_i ie hie
      split at h
      · rename_i z hz
        split at h
        · rename_i hc
          obtain ⟨hp, hlen, hne, hbig⟩ := hc
          split at h
          · rename_i cs hcs
            cases h
            refine newRow_sim fun ρ w a hts _ => ?_
            have hps := partsA_VR hts hx
            have hzc : z.cells.size = ie.size := by have := (vcells_VR (plain_VR ρ z hp)).length; simp at this; omega
            have hz0 := zerosN_VRL (vcells_VR (plain_VR ρ z hp)) n
            rw [← zerosN_range z.cells n (.inl (by omega)), hzc] at hz0
            obtain ⟨r', h1, h2⟩ := fillA_run hcs hps hz0
            refine ⟨r'.toList, e, .slice (some ⟨w.heap.size, 0, none⟩) n n, h2, ?_, fun ρ' h => .sliceX h⟩
            simp only [execOp, ho, Instr.buildSlice, Sem.run_bind, run_underlying (hT.und hu), Result.andThen_ok, run_sizeOf (hT.info _ _ hie)]
            rw [if_neg (by have : (2 : Nat) ^ 24 = 16777216 := by decide
                           omega)]
            by_cases hz0 : n * ie.size = 0
            · have hn0 : n = 0 := by rcases Nat.mul_eq_zero.1 hz0 with h | h; exact h; exact absurd h hne
              subst hn0
              simp [Array.range_zero'] at h1
              simp [h1, newRow, Array.range_zero']
            · have hr : (Array.range (n * ie.size)).map (fun i => z.cells[i % z.cells.size]!) = (Array.range (n * ie.size)).map (fun i => z.cells[i % ie.size]!) := by rw [hzc]
              simp [hz0, run_zeroValue (hT.info _ _ hie) hz, hr, h1, newRow]
          · cases h
        · cases h
      · cases h
    · cases h
  · cases h
def opMakeSlice(T:TT)(U:St)(t:TypeId):Value->Value->Option ORes
 |.int _ n,.int _ c=>
  match T.und t with
  |some (.slice e)=>match T.info e with
   |some ie=>match ie.zero with
    |some z=>if plain z=true/\(vcells z).length=ie.size/\ie.size≠0/\0<=n/\n<=c/\c<4294967296/\ie.bytes<=4096 then
      some (.new (.cells (zerosN (vcells z) c.toNat) false) (.slice (some ⟨U.next,0,some 0⟩) n.toNat c.toNat) []) else none
    |none=>none
   |none=>none
  |_=>none
 |_,_=>none
theorem wrap_small{n:Int}(h0:0<=n)(h1:n<4294967296):IntKind.i64.wrap n=n:=by
 have h2:n % (2 ^ IntKind.i64.bits:Int)=n:=Int.emod_eq_of_lt h0 (by
  have:(2:Int) ^ IntKind.i64.bits=18446744073709551616:=by decide
  omega)
 unfold IntKind.wrap
 simp only[h2]
 rw[if_neg]
 simp [IntKind.signed,IntKind.bits]
 omega
theorem makeSlice_sound(hT:T.Ok P){o:Oper}{ts:List Value}{U:St}{t:TypeId}{x y:Operand}{u v:Value}{r:ORes}(ho:o.op=.makeSlice t x y)(hx:ev ts x=some u)(hy:ev ts y=some v)(h:opMakeSlice T U t u v=some r):Sound P o ts U r:=by
 unfold opMakeSlice at h
 split at h
 ·rename_i k n k' c
  split at h
  ·rename_i e hu
   split at h
   ·rename_i ie hie
    split at h
    ·rename_i z hz
     split at h
     ·rename_i hc
      obtain⟨hp,hlen,hne,h0,hnc,hbig,hby⟩:=hc
      cases h
      refine newRow_sim λρ w a hts _=>?_
      have hvx:=ev_VR hts hx
      have hvy:=ev_VR hts hy
      generalize he:a.eval x=xv at hvx
      generalize he':a.eval y=yv at hvy
      cases hvx;cases hvy
      have hzc:z.cells.size=ie.size:=by have:=(vcells_VR (plain_VR ρ z hp)).length;simp at this;omega
      refine⟨zerosN z.cells.toList c.toNat,e,.slice (some ⟨w.heap.size,0,none⟩) n.toNat c.toNat,zerosN_VRL (vcells_VR (plain_VR ρ z hp)) _,?_,λρ' h=>.sliceX h⟩
      have hw1:IntKind.i64.wrap n=n:=wrap_small h0 (by omega)
      have hw2:IntKind.i64.wrap c=c:=wrap_small (by omega) hbig
      have hmul:(ie.bytes:Int)*c<=4096*4294967296:=Int.mul_le_mul (by omega) (by omega) (by omega) (by omega)
      have hrange:((Array.range (c.toNat*ie.size)).map λi=>z.cells[i % z.cells.size]!)=⟨zerosN z.cells.toList c.toNat⟩:=by
       apply Array.ext'
       rw[<-hzc]
       exact zerosN_range z.cells c.toNat (.inl (by omega))
      simp only[execOp,ho,Instr.makeSlice,he,he',asInt,asIntOf,Sem.run_bind,run_underlying (hT.und hu),Result.andThen_ok,Sem.run_pure,run_typeInfo (hT.info _ _ hie),hw1,hw2]
      rw[if_neg]
      ·by_cases hz0:c.toNat*ie.size=0
       ·have hc0:c.toNat=0:=by rcases Nat.mul_eq_zero.1 hz0 with h|h;exact h;exact absurd h hne
        simp [run_sizeOf (hT.info _ _ hie),hc0,newRow,zerosN,Array.range_zero']
       ·simp [run_sizeOf (hT.info _ _ hie),hz0,newRow,run_zeroValue (hT.info _ _ hie) hz,hrange]
      ·simp
       omega
     ·cases h
    ·cases h
   ·cases h
  ·cases h
 ·cases h
def opUn(op:UnOp):Value->Option ORes
 |.bool b=>match op with|.not=>some (.val (.bool (!b)) [])|_=>none
 |.int k n=>match op with
  |.neg=>some (.val (.int k (k.wrap (0 - n))) [])
  |.xor=>match intOp .xor k (if k.signed then -1 else k.max) n with|some v=>some (.val v [])|none=>none
  |_=>none
 |_=>none
theorem un_sound{o:Oper}{ts:List Value}{U:St}{op:UnOp}{t:TypeId}{x:Operand}{v:Value}{r:ORes}(ho:o.op=.unOp op t x)(hx:ev ts x=some v)(h:opUn op v=some r):Sound P o ts U r:=by
 unfold opUn at h
 split at h
 ·rename_i bb
  split at h
  ·cases h
   refine val_sound λρ w a hts=>⟨.bool (!bb),?_,.bool _⟩
   have hv:=ev_VR hts hx
   generalize he:a.eval x=xv at hv
   cases hv
   simp [execOp,ho,he,Op.unary]
  ·cases h
 ·rename_i k n
  split at h
  ·cases h
   refine val_sound λρ w a hts=>⟨_,?_,.int _ _⟩
   have hv:=ev_VR hts hx
   generalize he:a.eval x=xv at hv
   cases hv
   simp [execOp,ho,he,Op.unary,Op.intArith]
  ·simp only[intOp]at h
   cases h
   refine val_sound λρ w a hts=>⟨_,?_,.int _ _⟩
   have hv:=ev_VR hts hx
   generalize he:a.eval x=xv at hv
   cases hv
   simp [execOp,ho,he,Op.unary,Op.intBits]
  ·cases h
 ·cases h
def opConvert(T:TT)(s d:TypeId):Value->Option ORes
 |.int _ n=>match T.und s,T.und d with
  |some (.int _),some (.int k)=>some (.val (.int k (k.wrap n)) [])
  |_,_=>none
 |_=>none
theorem convert_sound(hT:T.Ok P){o:Oper}{ts:List Value}{U:St}{s d:TypeId}{x:Operand}{v:Value}{r:ORes}(ho:o.op=.convert s d x)(hx:ev ts x=some v)(h:opConvert T s d v=some r):Sound P o ts U r:=by
 unfold opConvert at h
 split at h
 ·rename_i k' n
  split at h
  ·rename_i k'' k hs hd
   cases h
   refine val_sound λρ w a hts=>⟨_,?_,.int _ _⟩
   have hv:=ev_VR hts hx
   generalize he:a.eval x=xv at hv
   cases hv
   simp [execOp,ho,he,convert,run_underlying (hT.und hs),run_underlying (hT.und hd),Conv.intToInt]
  ·cases h
 ·cases h
def opConvP(T:TT)(U:St)(s d:TypeId):Value->Option ORes
 |.pointer (some ⟨b,off,none⟩)=>match T.und s,T.und d with
  |some (.pointer t),some .unsafePointer=>match T.info t,U.get b with
   |some i,some (.cells vs _)=>if i.size≠0/\off<vs.length then some (.val (.pointer (some ⟨b,off,none⟩)) [b]) else none
   |_,_=>none
  |_,_=>none
 |_=>none
theorem convP_sound(hT:T.Ok P){o:Oper}{ts:List Value}{U:St}{s d:TypeId}{x:Operand}{v:Value}{r:ORes}(ho:o.op=.convert s d x)(hx:ev ts x=some v)(h:opConvP T U s d v=some r):Sound P o ts U r:=by
 unfold opConvP at h
 split at h
 ·rename_i b off
  split at h
  ·rename_i t hs hd
   split at h
   ·rename_i i vs ro hi hg
    split at h
    ·rename_i hc
     cases h
     intro ρ w a hts hrd
     have hv:=ev_VR hts hx
     generalize he:a.eval x=xv at hv
     cases hv with
     |ptr hl=>
      rename_i l
      obtain⟨c,e,fz,h1,h2,h3,h4,h6⟩:=hrd b (by simp) l _ hl hg
      refine⟨_,?_,.ptr hl⟩
      have q1:¬(l.off+off>=c.size):=by omega
      have q2:(Conv.seenAt ⟨l.block,l.off+off,none⟩).run P w=.ok ⟨l.block,l.off+off,none⟩ w:=by simp [Conv.seenAt,viewAt,shape,Sem.run,World.shape?,h1]
      have q3:(cellsIn l.block).run P w=.ok (some c.size) w:=by simp [cellsIn,shape,Sem.run,World.shape?,h1]
      have q4:(sizeOf t).run P w=.ok i.size w:=by simp [sizeOf,typeInfo,Sem.run,hT.info _ _ hi]
      simp [execOp,ho,he,convert,run_underlying (hT.und hs),run_underlying (hT.und hd),Conv.unsafePointer,q2,q3,q4,hc.1,q1]
    ·cases h
   ·cases h
  ·cases h
 ·cases h
def isIfaceD:TypeDesc->Bool
 |.interface _=>true
 |_=>false
def opMakeIface(T:TT)(t:TypeId)(v:Value):Option ORes:=
 match T.und t with
 |some d=>if isIfaceD d then none else some (.val (.iface t v) [])
 |none=>none
theorem makeIface_sound(hT:T.Ok P){o:Oper}{ts:List Value}{U:St}{t:TypeId}{x:Operand}{v:Value}{r:ORes}(ho:o.op=.makeInterface t x)(hx:ev ts x=some v)(h:opMakeIface T t v=some r):Sound P o ts U r:=by
 unfold opMakeIface at h
 split at h
 ·rename_i d hu
  split at h
  ·cases h
  ·rename_i hd
   cases h
   refine val_sound λρ w a hts=>⟨.iface t (a.eval x),?_,.iface (ev_VR hts hx)⟩
   simp only[execOp,ho,Instr.makeInterface,Sem.run_bind,run_underlying (hT.und hu),Result.andThen_ok]
   cases d<;>first
    |rfl
    |(simp [isIfaceD]at hd)
 ·cases h
def opMakeFunc(fn:Fn)(xs ys:List Value):Option ORes:=
 match fn with
 |.func f=>some (.val (.func (.func f) ⟨xs⟩ ⟨ys⟩) [])
 |_=>none
theorem makeFunc_sound{o:Oper}{ts:List Value}{U:St}{fn:Fn}{xs ys:Array Operand}{us vs:List Value}{r:ORes}(ho:o.op=.makeFunc fn xs ys)(hx:evs ts xs.toList=some us)(hy:evs ts ys.toList=some vs)(h:opMakeFunc fn us vs=some r):Sound P o ts U r:=by
 unfold opMakeFunc at h
 split at h
 ·rename_i f
  cases h
  refine val_sound λρ w a hts=>⟨.func (.func f) ⟨xs.toList.map a.eval⟩ ⟨ys.toList.map a.eval⟩,?_,.func (evs_VR hts hx) (evs_VR hts hy)⟩
  have e1:xs.map a.eval=⟨xs.toList.map a.eval⟩:=by apply Array.ext';simp
  have e2:ys.map a.eval=⟨ys.toList.map a.eval⟩:=by apply Array.ext';simp
  simp [execOp,ho,Instr.makeFunc,e1,e2]
 ·cases h
def opTypeAssert(T:TT)(asserted:TypeId)(ok:Bool):Value->Option ORes
 |.nilIface=>match T.und asserted,T.info asserted with
  |some d,some i=>match i.zero with
   |some z=>if isIfaceD d=false/\ok=true/\plain z=true then some (.val (.tuple ⟨[z,.bool false]⟩) []) else none
   |none=>none
  |_,_=>none
 |.iface t v=>match T.und asserted,T.info asserted with
  |some d,some i=>if isIfaceD d then none else
   if t=asserted then some (.val (if ok then .tuple ⟨[v,.bool true]⟩ else v) []) else
    match i.zero with
    |some z=>if ok=true/\plain z=true then some (.val (.tuple ⟨[z,.bool false]⟩) []) else none
    |none=>none
  |_,_=>none
 |_=>none
theorem typeAssert_sound(hT:T.Ok P){o:Oper}{ts:List Value}{U:St}{t u:TypeId}{ok:Bool}{x:Operand}{v:Value}{r:ORes}(ho:o.op=.typeAssert x t u ok)(hx:ev ts x=some v)(h:opTypeAssert T u ok v=some r):Sound P o ts U r:=by
 unfold opTypeAssert at h
 split at h
 ·split at h
  ·rename_i d i hu hi
   split at h
   ·rename_i z hz
    split at h
    ·rename_i hc
     obtain⟨hd,hok,hp⟩:=hc
     cases h
     refine val_sound λρ w a hts=>⟨.tuple ⟨[z,.bool false]⟩,?_,.tuple (.cons (plain_VR ρ z hp) (.cons (.bool _) .nil))⟩
     have hv:=ev_VR hts hx
     generalize he:a.eval x=xv at hv
     cases hv
     simp only[execOp,ho,he,Instr.typeAssert,Sem.run_bind,run_underlying (hT.und hu),Result.andThen_ok]
     cases d<;>first
      |(simp [hok,run_zeroValue (hT.info _ _ hi) hz];done)
      |(simp [isIfaceD]at hd)
    ·cases h
   ·cases h
  ·cases h
 ·rename_i t' v'
  split at h
  ·rename_i d i hu hi
   split at h
   ·cases h
   ·rename_i hd
    split at h
    ·rename_i htt
     subst htt
     cases h
     refine val_sound λρ w a hts=>?_
     have hv:=ev_VR hts hx
     generalize he:a.eval x=xv at hv
     cases hv with
     |iface hv=>
      rename_i v''
      refine⟨if ok then .tuple ⟨[v'',.bool true]⟩ else v'',?_,?_⟩
      ·simp only[execOp,ho,he,Instr.typeAssert,Sem.run_bind,run_underlying (hT.und hu),Result.andThen_ok]
       cases d<;>first
        |(cases ok<;>simp;done)
        |(simp [isIfaceD]at hd)
      ·cases ok
       ·exact hv
       ·exact .tuple (.cons hv (.cons (.bool _) .nil))
    ·rename_i htt
     split at h
     ·rename_i z hz
      split at h
      ·rename_i hc
       obtain⟨hok,hp⟩:=hc
       cases h
       refine val_sound λρ w a hts=>⟨.tuple ⟨[z,.bool false]⟩,?_,.tuple (.cons (plain_VR ρ z hp) (.cons (.bool _) .nil))⟩
       have hv:=ev_VR hts hx
       generalize he:a.eval x=xv at hv
       cases hv
       simp only[execOp,ho,he,Instr.typeAssert,Sem.run_bind,run_underlying (hT.und hu),Result.andThen_ok]
       cases d<;>first
        |(simp [hok,htt,run_zeroValue (hT.info _ _ hi) hz];done)
        |(simp [isIfaceD]at hd)
      ·cases h
     ·cases h
  ·cases h
 ·cases h
end Go.Ab
namespace Go.Ab
variable {P:Program} {T:TT}
def bnd(y:Nat):Value->Option Nat
 |.int _ n=>if 0<=n/\n<=y then some n.toNat else none
 |_=>none
def sbA(len cap:Nat)(lo hi mx:Option Value):Option (Nat×Nat×Nat):=
 match(match mx with|none=>some cap|some v=>bnd cap v) with
 |none=>none
 |some m=>
  match(match hi,mx with|none,none=>some len|some v,_=>bnd m v|none,some _=>none) with
  |none=>none
  |some h=>
   match(match lo with|none=>some 0|some v=>bnd h v) with
   |none=>none
   |some l=>some (l,h,m)
def OVR(ρ:Ren):Option Value->Option Value->Prop
 |none,none=>True
 |some v,some w=>VR ρ v w
 |_,_=>False
theorem bnd_run{ρ:Ren}{y y' n:Nat}{v v':Value}(h:bnd y v=some n)(hy:y<=y')(hv:VR ρ v v')(code:BoundsCode)(w:World):(Instr.sliceBound v' y' code).run P w=.ok n w/\n<=y:=by
 unfold bnd at h
 split at h
 ·rename_i k i
  split at h
  ·rename_i hc
   cases h
   cases hv
   exact⟨run_sliceBound w k i y' code hc.1 (by omega),by omega⟩
  ·cases h
 ·cases h
theorem sbA_run{ρ:Ren}{b:Bool}{len cap cap' l h m:Nat}{lo hi mx lo' hi' mx':Option Value}(hs:sbA len cap lo hi mx=some (l,h,m))(hc:cap<=cap')(hl:OVR ρ lo lo')(hh:OVR ρ hi hi')(hm:OVR ρ mx mx')(w:World):
  (Instr.sliceBounds b len cap' lo' hi' mx').run P w=.ok (l,h,if mx.isSome then m else cap') w/\(mx.isSome=true->m<=cap)/\(mx=none->m=cap)/\(hi.isSome=true->h<=m)/\(hi=none->h=len)/\(lo.isSome=true->l<=h)/\(lo=none->l=0):=by
 unfold sbA at hs
 split at hs
 ·cases hs
 ·rename_i m0 hm0
  split at hs
  ·cases hs
  ·rename_i h0 hh0
   split at hs
   ·cases hs
   ·rename_i l0 hl0
    cases hs
    cases mx with
    |none=>
     cases mx' with
     |some _=>exact hm.elim
     |none=>
      simp only[Option.some.injEq]at hm0
      subst hm0
      cases hi with
      |none=>
       cases hi' with
       |some _=>exact hh.elim
       |none=>
        simp only[Option.some.injEq]at hh0
        subst hh0
        cases lo with
        |none=>
         cases lo' with
         |some _=>exact hl.elim
         |none=>simp only[Option.some.injEq]at hl0;subst hl0;simp [Instr.sliceBounds]
        |some v=>
         cases lo' with
         |none=>exact hl.elim
         |some v'=>
          obtain⟨h1,h2⟩:=bnd_run (P:=P) hl0 (Nat.le_refl _) hl .sliceB w
          simp [Instr.sliceBounds,h1,h2]
      |some u=>
       cases hi' with
       |none=>exact hh.elim
       |some u'=>
        have g1:=λcode=>bnd_run (P:=P) hh0 hc hh code w
        cases lo with
        |none=>
         cases lo' with
         |some _=>exact hl.elim
         |none=>simp only[Option.some.injEq]at hl0;subst hl0;simp [Instr.sliceBounds,(g1 _).1,(g1 .index).2]
        |some v=>
         cases lo' with
         |none=>exact hl.elim
         |some v'=>
          obtain⟨h1,h2⟩:=bnd_run (P:=P) hl0 (Nat.le_refl _) hl .sliceB w
          simp [Instr.sliceBounds,(g1 _).1,(g1 .index).2,h1,h2]
    |some mv=>
     cases mx' with
     |none=>exact hm.elim
     |some mv'=>
      have g0:=λcode=>bnd_run (P:=P) hm0 hc hm code w
      cases hi with
      |none=>cases hh0
      |some u=>
       cases hi' with
       |none=>exact hh.elim
       |some u'=>
        have g1:=λcode=>bnd_run (P:=P) hh0 (Nat.le_refl _) hh code w
        cases lo with
        |none=>
         cases lo' with
         |some _=>exact hl.elim
         |none=>simp only[Option.some.injEq]at hl0;subst hl0;simp [Instr.sliceBounds,(g0 _).1,(g0 .index).2,(g1 _).1,(g1 .index).2]
        |some v=>
         cases lo' with
         |none=>exact hl.elim
         |some v'=>
          have h1:=λcode=>(bnd_run (P:=P) hl0 (Nat.le_refl _) hl code w)
          simp [Instr.sliceBounds,(g0 _).1,(g0 .index).2,(g1 _).1,(g1 .index).2,(h1 _).1,(h1 .index).2]
def opSlice(T:TT)(t:TypeId)(x:Value)(lo hi mx:Option Value):Option ORes:=
 match T.und t,x with
 |some .string,.string s=>if mx.isNone then(match sbA s.size s.size lo hi none with|some (l,h,_)=>some (.val (.string (s.extract l h)) [])|none=>none) else none
 |some (.slice e),.slice none 0 0=>match T.info e,sbA 0 0 lo hi mx with|some _,some _=>some (.val (.slice none 0 0) [])|_,_=>none
 |some (.slice e),.slice (some ⟨b,off,some sp⟩) len cap=>
  match T.info e,sbA len cap lo hi mx with
  |some i,some (l,h,m)=>
   if h<l then none else
   if sp=0 then some (.val (.slice (some ⟨b,if m=l then off else off+l*i.size,some 0⟩) (h - l) (m - l)) [])
   else if sp=1 then(if len=0/\cap=0 then some (.val (.slice (some ⟨b,off,some 1⟩) 0 0) []) else none)
   else if mx.isSome then some (.val (.slice (some ⟨b,if m=l then off else off+l*i.size,some 0⟩) (h - l) (m - l)) [])
   else if sp=i.size+2 then(if l<cap then some (.val (.slice (some ⟨b,off+l*i.size,some sp⟩) (h - l) (cap - l)) []) else if h=l then some (.val (.slice (some ⟨b,off,some 1⟩) 0 0) []) else none)
   else none
  |_,_=>none
 |some (.array n e),.pointer (some ⟨b,off,none⟩)=>
  match T.info e,sbA n n lo hi mx with
  |some i,some (l,h,m)=>if h<l then none else some (.val (.slice (some ⟨b,if m=l then off else off+l*i.size,some 0⟩) (h - l) (m - l)) [])
  |_,_=>none
 |_,_=>none
def evo(ts:List Value):Option Operand->Option (Option Value)
 |none=>some none
 |some x=>match ev ts x with
  |some v=>some (some v)
  |none=>none
theorem evo_VR{ρ:Ren}{ts:List Value}{a:Act}(h:VRL ρ ts a.tmps.toList){x:Option Operand}{v:Option Value}(hv:evo ts x=some v):OVR ρ v (x.map a.eval):=by
 cases x with
 |none=>cases hv;trivial
 |some x=>
  simp only[evo]at hv
  split at hv
  ·rename_i u hu;cases hv;exact ev_VR h hu
  ·cases hv
theorem slice_sound(hT:T.Ok P){o:Oper}{ts:List Value}{U:St}{t:TypeId}{x:Operand}{lo hi mx:Option Operand}{v:Value}{lv hv mv:Option Value}{r:ORes}(ho:o.op=.slice t x lo hi mx)
  (hx:ev ts x=some v) (hl:evo ts lo=some lv) (hh:evo ts hi=some hv) (hm:evo ts mx=some mv) (h:opSlice T t v lv hv mv=some r):Sound P o ts U r:=by
 unfold opSlice at h
 split at h
 ·rename_i s hu
  split at h
  ·rename_i hmn
   split at h
   ·rename_i l h' m' hsb
    cases h
    refine val_sound λρ w a hts=>⟨.string (s.extract l h'),?_,.string _⟩
    have hv':=ev_VR hts hx
    generalize he:a.eval x=xv at hv'
    cases hv'
    have hmv:mv=none:=by simpa using hmn
    subst hmv
    have hm':=evo_VR hts hm
    have hmx:mx.map a.eval=none:=by cases hq:mx.map a.eval with|none=>rfl|some _=>rw[hq]at hm';exact hm'.elim
    have hb:=(sbA_run (P:=P) (b:=false) hsb (Nat.le_refl _) (evo_VR hts hl) (evo_VR hts hh) (mx':=none) trivial w).1
    simp [execOp,ho,he,Instr.sliceAt,Instr.slice,run_underlying (hT.und hu),hmx,hb]
   ·cases h
  ·cases h
 ·rename_i e hu
  split at h
  ·rename_i ie tr hie hsb
   obtain⟨l,h',m⟩:=tr
   cases h
   refine val_sound λρ w a hts=>⟨.slice none 0 0,?_,.sliceNil⟩
   have hv':=ev_VR hts hx
   generalize he:a.eval x=xv at hv'
   cases hv'
   obtain⟨hb,b1,b2,b3,b4,b5,b6⟩:=sbA_run (P:=P) (b:=true) hsb (Nat.le_refl _) (evo_VR hts hl) (evo_VR hts hh) (evo_VR hts hm) w
   have hm0:m=0:=by cases mv with|none=>exact b2 rfl|some _=>have:=b1 rfl;omega
   have hh0:h'=0:=by cases hv with|none=>exact b4 rfl|some _=>have:=b3 rfl;omega
   have hl0:l=0:=by cases lv with|none=>exact b6 rfl|some _=>have:=b5 rfl;omega
   subst hm0 hh0 hl0
   have hb':(Instr.sliceBounds true 0 0 (lo.map a.eval) (hi.map a.eval) (mx.map a.eval)).run P w=.ok (0,0,0) w:=by
    rw[hb];cases mv<;>rfl
   have hsz:=run_sizeOf (hT.info _ _ hie) w
   simp [execOp,ho,he,Instr.sliceAt,run_underlying (hT.und hu),Instr.slice,hb',hsz]
  ·cases h
 ·rename_i e b off sp len cap hu
  split at h
  ·rename_i i l h' m hi' hsb
   split at h
   ·cases h
   ·rename_i hlh
    have run:∀(ρ:Ren) (w:World) (a:Act),VRL ρ ts a.tmps.toList->∀(ad:Addr) (cap':Nat),cap<=cap'->a.eval x=.slice (some ad) len cap'->
      (execOp a.eval o).run P w=.ok (.value (.slice (some (if(if mv.isSome then m else cap')=l then ad else ad.add (l*i.size))) (h' - l) ((if mv.isSome then m else cap') - l))) w/\(mv=none->m=cap):=λρ w a hts ad cap' hc he=>by
     obtain⟨hb,b1,b2,b3,b4,b5,b6⟩:=sbA_run (P:=P) (b:=true) hsb hc (evo_VR hts hl) (evo_VR hts hh) (evo_VR hts hm) w
     refine⟨?_,b2⟩
     simp only[execOp,ho,he,Instr.sliceAt,Sem.run_bind,run_underlying (hT.und hu),Result.andThen_ok,Instr.slice,hb,run_sizeOf (hT.info _ _ hi'),Option.map_some]
     split<;>simp<;>split<;>rfl
    have hadd:∀(b o k:Nat),(⟨b,o,none⟩:Addr).add k=⟨b,o+k,none⟩:=λb o k=>Addr.add_lit b o k
    have hpush:∀(c:Prop) [Decidable c] (b o₁ o₂:Nat),(if c then(⟨b,o₁,none⟩:Addr) else⟨b,o₂,none⟩)=⟨b,if c then o₁ else o₂,none⟩:=λc _ b o₁ o₂=>by split<;>rfl
    have hpull:∀(c:Prop) [Decidable c] (p q r:Nat),(if c then p+q else p+r)=p+(if c then q else r):=λc _ p q r=>by split<;>rfl
    split at h
    ·rename_i hsp
     subst hsp
     cases h
     refine val_sound λρ w a hts=>?_
     have hv':=ev_VR hts hx
     generalize he:a.eval x=xv at hv'
     cases hv' with
     |sliceX hlo=>
      rename_i lc
      obtain⟨hr,hm0⟩:=run ρ w a hts _ _ (Nat.le_refl _) he
      have e1:(if mv.isSome then m else cap)=m:=by cases mv with|none=>rw[hm0 rfl];rfl|some _=>rfl
      rw[e1,hadd,hpush,Nat.add_assoc,hpull]at hr
      exact⟨_,hr,.sliceX hlo⟩
    ·split at h
     ·rename_i hsp0 hsp
      subst hsp
      split at h
      ·rename_i hz
       obtain⟨rfl,rfl⟩:=hz
       cases h
       refine val_sound λρ w a hts=>?_
       have hv':=ev_VR hts hx
       generalize he:a.eval x=xv at hv'
       cases hv' with
       |sliceE=>
        rename_i cap' ad
        obtain⟨hr,hm0⟩:=run ρ w a hts _ _ (Nat.zero_le _) he
        obtain⟨_,b1,b2,b3,b4,b5,b6⟩:=sbA_run (P:=P) (b:=true) hsb (Nat.zero_le cap') (evo_VR hts hl) (evo_VR hts hh) (evo_VR hts hm) w
        have hm1:m=0:=by cases mv with|none=>exact b2 rfl|some _=>have:=b1 rfl;omega
        have hh1:h'=0:=by cases hv with|none=>exact b4 rfl|some _=>have:=b3 rfl;omega
        have hl1:l=0:=by omega
        subst hm1 hh1 hl1
        exact⟨_,hr,.sliceE⟩
      ·cases h
     ·rename_i hsp0 hsp1
      obtain⟨u,rfl⟩:∃u,sp=u+2:=⟨sp - 2,by omega⟩
      split at h
      ·rename_i hms
       cases h
       refine val_sound λρ w a hts=>?_
       have hv':=ev_VR hts hx
       generalize he:a.eval x=xv at hv'
       cases hv' with
       |sliceG hlo hc hg=>
        rename_i lc
        obtain⟨hr,hm0⟩:=run ρ w a hts _ _ hc he
        rw[if_pos hms,hadd,hpush,Nat.add_assoc,hpull]at hr
        exact⟨_,hr,.sliceX hlo⟩
      ·rename_i hms
       split at h
       ·rename_i hu2
        obtain rfl:u=i.size:=by omega
        have hmn:mv=none:=by cases mv with|none=>rfl|some _=>exact absurd rfl hms
        split at h
        ·rename_i hlc
         cases h
         refine val_sound λρ w a hts=>?_
         have hv':=ev_VR hts hx
         generalize he:a.eval x=xv at hv'
         cases hv' with
         |sliceG hlo hc hg=>
          rename_i cap' lc
          obtain⟨hr,hm0⟩:=run ρ w a hts _ _ hc he
          rw[if_neg hms,if_neg (by omega),hadd,Nat.add_assoc]at hr
          refine⟨_,hr,.sliceG hlo (by omega) ?_⟩
          have e2:cap'*i.size=l*i.size+(cap' - l)*i.size:=by rw[<-Nat.add_mul];congr 1;omega
          omega
        ·rename_i hlc
         split at h
         ·rename_i hhl
          cases h
          refine val_sound λρ w a hts=>?_
          have hv':=ev_VR hts hx
          generalize he:a.eval x=xv at hv'
          cases hv' with
          |sliceG hlo hc hg=>
           obtain⟨hr,hm0⟩:=run ρ w a hts _ _ hc he
           rw[hhl,Nat.sub_self]at hr
           exact⟨_,hr,.sliceE⟩
         ·cases h
       ·cases h
  ·cases h
 ·rename_i n e b off hu
  split at h
  ·rename_i i l h' m hi' hsb
   split at h
   ·cases h
   ·rename_i hlh
    cases h
    refine val_sound λρ w a hts=>?_
    have hv':=ev_VR hts hx
    generalize he:a.eval x=xv at hv'
    cases hv' with
    |ptr hlo=>
     rename_i lc
     obtain⟨hb,b1,b2,b3,b4,b5,b6⟩:=sbA_run (P:=P) (b:=false) hsb (Nat.le_refl _) (evo_VR hts hl) (evo_VR hts hh) (evo_VR hts hm) w
     have hb':(Instr.sliceBounds false n n (lo.map a.eval) (hi.map a.eval) (mx.map a.eval)).run P w=.ok (l,h',m) w:=by
      rw[hb];cases mv with|none=>rw[b2 rfl];rfl|some _=>rfl
     refine⟨.slice (some ⟨lc.block,lc.off+(if m=l then off else off+l*i.size),none⟩) (h' - l) (m - l),?_,.sliceX hlo⟩
     simp only[execOp,ho,he,Instr.sliceAt,Sem.run_bind,run_underlying (hT.und hu),Result.andThen_ok,Instr.sureAddr,Sem.run_pure,hb',run_sizeOf (hT.info _ _ hi')]
     split<;>simp [Addr.add_lit,Nat.add_assoc]
  ·cases h
 ·cases h
def srcCells(U:St)(sz:Nat):Value->Nat->Option (List Value×List Nat)
 |.slice none 0 0,_=>some ([],[])
 |.slice (some ⟨b,off,some _⟩) _ _,n=>
  if n*sz=0 then some ([],[]) else
  match U.get b with
  |some (.cells vs _)=>if off+n*sz<=vs.length then some ((vs.drop off).take (n*sz),[b]) else none
  |_=>none
 |.string s,n=>if sz=1 then some ((s.data.toList.take n).map λb=>.int .u8 b.toNat,[]) else none
 |_,_=>none
def srcLen:Value->Option Nat
 |.slice none 0 0=>some 0
 |.slice (some ⟨_,_,some _⟩) n _=>some n
 |.string s=>some s.size
 |_=>none
theorem srcLen_run{ρ:Ren}{v v':Value}{n:Nat}(h:srcLen v=some n)(hv:VR ρ v v')(w:World):(Builtin.lenOf v').run P w=.ok n w:=by
 unfold srcLen at h
 split at h<;>first
  |(cases h;cases hv<;>rfl)
  |cases h
theorem srcCells_run{ρ:Ren}{U:St}{H:Array Obj}{v v':Value}{sz n:Nat}{xs:List Value}{rd:List Nat}(h:srcCells U sz v n=some (xs,rd))(hn:∃k,srcLen v=some k/\n<=k)(hv:VR ρ v v')(hrd:Reads ρ U H rd):
  ∃xs':List Value,(∀w:World,w.heap=H->(Builtin.firstCells sz n v').run P w=.ok ⟨xs'⟩ w)/\VRL ρ xs xs'/\xs.length=n*sz:=by
 unfold srcCells at h
 split at h
 ·cases h
  cases hv
  obtain⟨k,h1,h2⟩:=hn
  simp only[srcLen,Option.some.injEq]at h1
  obtain rfl:n=0:=by omega
  exact⟨[],λ_ _=>rfl,.nil,by simp⟩
 ·rename_i b off sp len cap
  split at h
  ·rename_i hz
   cases h
   refine⟨[],λw _=>?_,.nil,hz.symm⟩
   cases hv<;>(simp only[Builtin.firstCells,loadCells];rw[hz];rfl)
  ·rename_i hz
   split at h
   ·rename_i vs ro hg
    split at h
    ·rename_i hfit
     cases h
     have key:∀(l:Loc) (cap':Nat),ρ b=some l->v'=.slice (some ⟨l.block,l.off+off,none⟩) len cap'->∃xs':List Value,(∀w:World,w.heap=H->(Builtin.firstCells sz n v').run P w=.ok ⟨xs'⟩ w)/\VRL ρ ((vs.drop off).take (n*sz)) xs'/\((vs.drop off).take (n*sz)).length=n*sz:=λl cap' hl he=>by
      subst he
      obtain⟨cs,hcs,hc⟩:=(hrd b (by simp) l _ hl hg).cellsAt
      have hlen:=hcs.length
      refine⟨(cs.drop off).take (n*sz),λw hw=>?_,(hcs.drop off).take _,by simp;omega⟩
      have hlen2:((cs.drop off).take (n*sz)).length=n*sz:=by simp;omega
      have:=run_loadCells_list (P:=P) w ⟨l.block,l.off+off,none⟩ ((cs.drop off).take (n*sz)) (λj u hj=>by
       rw[Addr.add_lit]
       rw[List.getElem?_take]at hj
       split at hj
       ·rw[List.getElem?_drop]at hj
        have:=hc w hw (off+j) u hj
        rwa [<-Nat.add_assoc]at this
       ·cases hj)
      rw[hlen2]at this
      exact this
     cases hv with
     |sliceX hl=>exact key _ _ hl rfl
     |sliceG hl=>exact key _ _ hl rfl
     |sliceE=>
      obtain⟨k,h1,h2⟩:=hn
      simp only[srcLen,Option.some.injEq]at h1
      obtain rfl:n=0:=by omega
      simp at hz
    ·cases h
   ·cases h
 ·rename_i s
  split at h
  ·rename_i hsz
   subst hsz
   cases h
   cases hv
   obtain⟨k,h1,h2⟩:=hn
   simp only[srcLen,Option.some.injEq]at h1
   subst h1
   refine⟨(s.data.toList.take n).map λb=>.int .u8 b.toNat,λw _=>?_,?_,?_⟩
   ·simp only[Builtin.firstCells,Sem.run_pure]
    congr 1
    apply Array.ext'
    simp [ByteArray.data_extract]
   ·have:∀l:List UInt8,VRL ρ (l.map λb=>.int .u8 b.toNat) (l.map λb=>.int .u8 b.toNat):=λl=>by
     induction l with
     |nil=>exact .nil
     |cons b l ih=>exact .cons (.int _ _) ih
    exact this _
   ·simp
    exact Nat.min_eq_left h2
  ·cases h
 ·cases h
theorem Aft.kill{ρ ρ':Ren}{U U':St}{w w':World}(h:Aft ρ U w ρ' U' w'){b:Nat}{l:Loc}(hb:b<U.next)(hl:ρ b=some l)(hg:U.get b≠none):Aft ρ U w ρ' (U'.put b none) w' where
 ext:=h.ext
 wr:=⟨λc k hk=>h.wr.dom c k hk,λc k o hk hg'=>by
   rw[St.get_put]at hg';split at hg'
   ·cases hg'
   ·exact h.wr.obj c k o hk hg',λc c' k k' hk hk' hg1 hg2 hbl hfx=>by
   rw[St.get_put]at hg1 hg2
   split at hg1
   ·exact absurd rfl hg1
   ·split at hg2
    ·exact absurd rfl hg2
    ·exact h.wr.inj c c' k k' hk hk' hg1 hg2 hbl hfx,λc k hk hf hg'=>by
   rw[St.get_put]at hg' ⊢
   split at hg'
   ·exact absurd rfl hg'
   ·rename_i ne
    rw[if_neg ne]
    exact h.wr.fixd c k hk hf hg'⟩
 size:=h.size
 fr:=h.fr
 nxt:=h.nxt
 kept c hc hn:=by
  rw[St.get_put,if_neg]
  ·exact h.kept c hc hn
  ·intro e;subst e;rw[hl]at hn;cases hn
 dead c hc hd:=by
  rw[St.get_put];split
  ·rfl
  ·exact h.dead c hc hd
 fresh:=h.fresh
 nofix:=h.nofix
 tape:=h.tape
 os:=h.os
 out:=h.out
theorem Aft.move{ρ:Ren}{U:St}{w w':World}{b off:Nat}{l:Loc}{ob:AObj}{o':Obj}(hw:WR ρ U w.heap)(hl:ρ b=some l)(hlive:U.get b≠none)(hfx:l.fix=none)
  (hh:w'.heap=w.heap.setIfInBounds l.block o') (ht:w'.tape=w.tape) (hos:w'.os=w.os) (hout:w'.output=w.output)
  (ho:OR (ρ.add U.next ⟨l.block,l.off+off,l.size - off,none⟩) ⟨l.block,l.off+off,l.size - off,none⟩ w'.heap ob):
  Aft ρ U w (ρ.add U.next ⟨l.block,l.off+off,l.size - off,none⟩) ((U.new ob).put b none) w':=by
 have hlt:=hw.dom b l hl
 have hle:ρ.le (ρ.add U.next ⟨l.block,l.off+off,l.size - off,none⟩):=λc k hk=>by
  rw[Ren.add_other];exact hk
  have:=(hw.dom c k hk).1;omega
 have hother:∀k,k≠l.block->w'.heap[k]?=w.heap[k]?:=λk hk=>by
  rw[hh,Array.getElem?_setIfInBounds_ne (by omega)]
 have hsize:w'.heap.size=w.heap.size:=by rw[hh];simp
 have live:∀c k,ρ.add U.next ⟨l.block,l.off+off,l.size - off,none⟩ c=some k->((U.new ob).put b none).get c≠none->c≠b/\((c=U.next/\k=⟨l.block,l.off+off,l.size - off,none⟩)\/(c≠U.next/\ρ c=some k/\U.get c≠none)):=λc k hk hg=>by
  rw[St.get_put]at hg
  split at hg
  ·exact absurd rfl hg
  ·rename_i hcb
   refine⟨λe=>hcb e.symm,?_⟩
   by_cases e:c=U.next
   ·subst e;rw[Ren.add_same]at hk;cases hk;exact .inl ⟨rfl,rfl⟩
   ·rw[Ren.add_other _ _ e]at hk
    rw[St.get_new,if_neg (by omega)]at hg
    exact .inr ⟨e,hk,hg⟩
 refine{ext:=λc hc=>Ren.add_other ρ _ (by omega),wr:=⟨?_,?_,?_,?_⟩,size:=by omega,fr:=?_,nxt:=by simp,kept:=?_,dead:=?_,fresh:=?_,nofix:=?_,tape:=ht,os:=hos,out:=hout}
 ·intro c k hk
  by_cases e:c=U.next
  ·subst e;rw[Ren.add_same]at hk;cases hk
   exact⟨by simp,by rw[hsize];exact hlt.2⟩
  ·rw[Ren.add_other _ _ e]at hk
   have:=hw.dom c k hk
   exact⟨by simp;omega,by omega⟩
 ·intro c k o hk hg
  obtain⟨hcb,h1|⟨h1,h2,h3⟩⟩:=live c k hk (by rw[hg];simp)
  ·obtain⟨rfl,rfl⟩:=h1
   rw[St.get_put,if_neg (λe=>hcb e.symm),St.get_new,if_pos rfl]at hg
   cases hg
   exact ho
  ·rw[St.get_put,if_neg (λe=>hcb e.symm),St.get_new,if_neg (by omega)]at hg
   refine((hw.obj c k o h2 hg).of_block (hother _ λhe=>hcb ?_)).mono hle
   exact hw.inj c b k l h2 hl h3 hlive he (.inr hfx)
 ·intro c c' k k' hk hk' hg hg' hbl hf2
  obtain⟨hcb,h1|⟨h1,h2,h3⟩⟩:=live c k hk hg
  ·obtain⟨rfl,rfl⟩:=h1
   obtain⟨hcb',h1'|⟨h1',h2',h3'⟩⟩:=live c' k' hk' hg'
   ·exact h1'.1.symm
   ·exact absurd (hw.inj c' b k' l h2' hl h3' hlive hbl.symm (.inr hfx)) hcb'
  ·obtain⟨hcb',h1'|⟨h1',h2',h3'⟩⟩:=live c' k' hk' hg'
   ·obtain⟨rfl,rfl⟩:=h1'
    exact absurd (hw.inj c b k l h2 hl h3 hlive hbl (.inr hfx)) hcb
   ·exact hw.inj c c' k k' h2 h2' h3 h3' hbl hf2
 ·intro c k hk hf hg
  obtain⟨hcb,h1|⟨h1,h2,h3⟩⟩:=live c k hk hg
  ·obtain⟨rfl,rfl⟩:=h1
   exact absurd rfl hf
  ·obtain⟨vs,hv⟩:=hw.fixd c k h2 hf h3
   exact⟨vs,by rw[St.get_put,if_neg (λe=>hcb e.symm),St.get_new,if_neg (λe=>h1 e.symm)];exact hv⟩
 ·intro k _ hn
  exact hother k λe=>hn b l hl hlive e.symm
 ·intro c hc hn
  rw[St.get_put,if_neg,St.get_new,if_neg (by omega)]
  intro e;subst e;rw[hl]at hn;cases hn
 ·intro c hc hd
  rw[St.get_put];split
  ·rfl
  ·rw[St.get_new,if_neg (by omega)];exact hd
 ·intro c k hc hk
  by_cases e:c=U.next
  ·subst e;rw[Ren.add_same]at hk;cases hk
   exact .inr ⟨b,l,hl,hlive,rfl⟩
  ·rw[Ren.add_other _ _ e]at hk
   have:=(hw.dom c k hk).1;omega
 ·intro c k hc hk
  by_cases e:c=U.next
  ·subst e;rw[Ren.add_same]at hk;cases hk
   rfl
  ·rw[Ren.add_other _ _ e]at hk
   have:=(hw.dom c k hk).1;omega
def isSeqD:TypeDesc->Bool
 |.slice _|.string=>true
 |_=>false
def opAppend(T:TT)(U:St)(t t':TypeId)(s x:Value):Option ORes:=
 match T.und t,T.und t',srcLen x with
 |some (.slice e),some d',some n=>
  match T.info e with
  |some i=>
   match i.zero,srcCells U i.size x n with
   |some z,some (xs,rd)=>
    if isSeqD d'=false\/i.size=0\/4096<i.bytes\/4294967296<=n\/oneCells xs=false\/plain z=false\/(vcells z).length≠i.size then none else
    match s with
    |.slice none 0 0=>if n=0 then some (.val (.slice none 0 0) rd) else some (.new (.cells xs false) (.slice (some ⟨U.next,0,some (i.size+2)⟩) n n) rd)
    |.slice (some ⟨b,off,some sp⟩) len cap=>
     if 4294967296<=len then none else
     if n=0 then(if len<=cap then some (.val (.slice (some ⟨b,off,some sp⟩) len cap) rd) else none) else
     if sp=1 then none else
     match U.get b with
     |some (.cells vs ro)=>
      if off+len*i.size<=vs.length then
       if len+n<=cap then
        (if ro=false/\off+(len+n)*i.size<=vs.length then some (.eff (.slice (some ⟨b,off,some sp⟩) (len+n) cap) (U.set b (.cells (over vs (off+len*i.size) xs) false)) [b]) else none)
       else if sp=0 then some (.new (.cells ((vs.drop off).take (len*i.size)++xs) false) (.slice (some ⟨U.next,0,some (i.size+2)⟩) (len+n) (len+n)) (b :: rd))
       else if sp=i.size+2/\ro=false then
        some (.eff (.slice (some ⟨U.next,0,some (i.size+2)⟩) (len+n) (len+n)) ((U.new (.cells ((vs.drop off).take (len*i.size)++xs) false)).put b none) [b])
       else none
      else none
     |_=>none
    |_=>none
   |_,_=>none
  |none=>none
 |_,_,_=>none
theorem isSeqD_kind{t':TypeId}{d':TypeDesc}(hu':P.underlying t'=some d')(hd:isSeqD d'=true):(∃e',P.underlying t'=some (.slice e'))\/P.underlying t'=some .string:=by
 cases d'<;>first
  |(simp [isSeqD]at hd;done)
  |exact .inl ⟨_,hu'⟩
  |exact .inr hu'
theorem run_append_in{t t' ty e:TypeId}{i:TypeInfo}{x:Value}{n len cap:Nat}{w w':World}{xs:List Value}{ad:Addr}(hu:P.underlying t=some (.slice e))(hk:(∃e',P.underlying t'=some (.slice e'))\/P.underlying t'=some .string)(hi:P.info? e=some i)
  (hn:(Builtin.lenOf x).run P w=.ok n w) (hx:(Builtin.firstCells i.size n x).run P w=.ok ⟨xs⟩ w) (hroom:len+n<=cap) (hst:(storeCells (ad.add (len*i.size)) xs).run P w=.ok () w'):
  (Builtin.append_ #[t,t'] ty #[.slice (some ad) len cap,x]).run P w=.ok (.slice (some ad) (len+n) cap) w':=by
 rcases hk with⟨e',hk⟩|hk<;>simp [Builtin.append_,run_underlying hu,run_underlying hk,sizeOf,typeInfo,hi,hn,hroom,hx,hst]
theorem run_append_nilnil{t t' ty e:TypeId}{i:TypeInfo}{x:Value}{w:World}(hu:P.underlying t=some (.slice e))(hk:(∃e',P.underlying t'=some (.slice e'))\/P.underlying t'=some .string)(hi:P.info? e=some i)
  (hn:(Builtin.lenOf x).run P w=.ok 0 w) (hx:(Builtin.firstCells i.size 0 x).run P w=.ok ⟨[]⟩ w):
  (Builtin.append_ #[t,t'] ty #[.slice none 0 0,x]).run P w=.ok (.slice none 0 0) w:=by
 rcases hk with⟨e',hk⟩|hk<;>simp [Builtin.append_,run_underlying hu,run_underlying hk,sizeOf,typeInfo,hi,hn,hx]
theorem exec_builtin{o:Oper}{b:Builtin}{xs:Array Operand}{tys:Array TypeId}{a:Act}{w w':World}{v:Value}(ho:o.op=.call {callee:=.builtin b,args:=xs,argTypes:=tys})
  (h:∀consts,(builtin b tys o.type consts (xs.map a.eval)).run P w=.ok (.value v) w'):(execOp a.eval o).run P w=.ok (.value v) w':=by
 simp only[execOp,ho,resolve,Sem.run_bind,Sem.run_pure,Result.andThen_ok,invoke]
 exact h _
theorem append_sound(hT:T.Ok P){o:Oper}{ts:List Value}{U:St}{t t':TypeId}{x y:Operand}{u v:Value}{r:ORes}(ho:o.op=.call {callee:=.builtin .append,args:=#[x,y],argTypes:=#[t,t']})
  (hx:ev ts x=some u) (hy:ev ts y=some v) (h:opAppend T U t t' u v=some r):Sound P o ts U r:=by
 unfold opAppend at h
 split at h
 ·rename_i e d' n hu hu' hn
  split at h
  ·rename_i i hi
   split at h
   ·rename_i z xs rd hz hxs
    split at h
    ·cases h
    ·rename_i hc
     simp only[not_or,Bool.not_eq_false]at hc
     obtain⟨hd,hsz,hby,hn32,hone,hpz,hzl⟩:=hc
     have hk:=isSeqD_kind (hT.und hu') hd
     have hu1:=hT.und hu
     have hi1:=hT.info _ _ hi
     have src:∀(ρ:Ren) (H:Array Obj) (a:Act),VRL ρ ts a.tmps.toList->Reads ρ U H rd->∃xs':List Value,(∀w':World,(Builtin.lenOf (a.eval y)).run P w'=.ok n w')/\(∀w':World,w'.heap=H->(Builtin.firstCells i.size n (a.eval y)).run P w'=.ok ⟨xs'⟩ w')/\VRL ρ xs xs'/\xs.length=n*i.size:=λρ H a hts hrd=>by
      have hvy:=ev_VR hts hy
      obtain⟨xs',h1,h2,h3⟩:=srcCells_run (P:=P) hxs ⟨n,hn,Nat.le_refl _⟩ hvy hrd
      exact⟨xs',λw'=>srcLen_run hn hvy w',h1,h2,h3⟩
     have hbt:∀(consts:Array Bool) (as:Array Value),builtin .append #[t,t'] o.type consts as=(do pure (.value (<-Builtin.append_ #[t,t'] o.type as))):=λ_ _=>rfl
     have grow:∀(ρ:Ren) (w:World) (a:Act) (base:Option Addr) (len cap:Nat) (os os':List Value),VRL ρ ts a.tmps.toList->Reads ρ U w.heap rd->a.eval x=.slice base len cap->VRL ρ os os'->os.length=len*i.size->
       (∀w':World,w'.heap=w.heap->(Builtin.firstCells i.size len (.slice base len cap)).run P w'=.ok ⟨os'⟩ w')->cap<len+n->len<4294967296->
       ∃(c:Nat) (cs':Array Value),(execOp a.eval o).run P w=.ok (.value (.slice (some ⟨w.heap.size,0,none⟩) (len+n) c)) (w.drew.alloc (.cells cs' e))/\len+n<=c/\cs'.size=c*i.size/\VRL ρ (os++xs) (cs'.toList.take ((len+n)*i.size)):=λρ w a base len cap os os' hts hrd he hos hlo hold hlt hl32=>by
      obtain⟨xs',h1,h2,h3,h4⟩:=src ρ w.heap a hts hrd
      have hl3:=h3.length
      have hsrc:Src P i.size t' (a.eval y) n xs' w:=⟨hk,h1,h2 w rfl,h2 w.drew rfl,by omega,oneCells_VRL h3 hone⟩
      have hfit:Builtin.nextslicecap (len+n) cap*i.bytes<=281474976710656:=by
       have g1:=nextslicecap_le (need:=len+n) (old:=cap) hlt
       have g2:Builtin.nextslicecap (len+n) cap*i.bytes<=(2*(len+n))*4096:=Nat.mul_le_mul g1 (by omega)
       omega
      have hrun:=run_append_grow_src (P:=P) w t t' o.type e i z hu1 hi1 hz base len cap os' (hold w.drew rfl) (a.eval y) n xs' hsrc hlt (by omega) hfit
      have hge:=grownCap_ge w (len+n) cap e
      have hzc:z.cells.size=i.size:=by have:=(vcells_VR (plain_VR ρ z (by simpa using hpz))).length;simp at this;omega
      have hl1:=hos.length
      have hmul:(len+n)*i.size=len*i.size+n*i.size:=Nat.add_mul _ _ _
      refine⟨grownCap w (len+n) cap e,(os'++xs').toArray++Builtin.zeroCells z.cells (grownCap w (len+n) cap e - (len+n)),?_,hge,?_,?_⟩
      ·refine exec_builtin ho λconsts=>?_
       rw[hbt]
       simp only[List.map_toArray,List.map_cons,List.map_nil,he,Sem.run_bind,hrun,Result.andThen_ok,Sem.run_pure]
      ·have e1:grownCap w (len+n) cap e*i.size=(len+n)*i.size+(grownCap w (len+n) cap e - (len+n))*i.size:=by rw[<-Nat.add_mul];congr 1;omega
       simp only[Array.size_append,List.size_toArray,List.length_append,size_zeroCells,hzc]
       omega
      ·have e2:(((os'++xs').toArray++Builtin.zeroCells z.cells (grownCap w (len+n) cap e - (len+n))).toList.take ((len+n)*i.size))=os'++xs':=by
        rw[Array.toList_append]
        exact List.take_left' (by simp;omega)
       rw[e2]
       exact hos.append h3
     have fits:∀(w w':World) (a:Act) (ad:Addr) (len cap:Nat) (xs':List Value),a.eval x=.slice (some ad) len cap->(Builtin.lenOf (a.eval y)).run P w=.ok n w->(Builtin.firstCells i.size n (a.eval y)).run P w=.ok ⟨xs'⟩ w->len+n<=cap->
       (storeCells (ad.add (len*i.size)) xs').run P w=.ok () w'->(execOp a.eval o).run P w=.ok (.value (.slice (some ad) (len+n) cap)) w':=λw w' a ad len cap xs' he h1 h2 h3 h4=>by
      refine exec_builtin ho λconsts=>?_
      rw[hbt]
      have:=run_append_in (ty:=o.type) hu1 hk hi1 h1 h2 h3 h4
      simp only[List.map_toArray,List.map_cons,List.map_nil,he,Sem.run_bind,this,Result.andThen_ok,Sem.run_pure]
     have hmul:∀m:Nat,(m+n)*i.size=m*i.size+n*i.size:=λm=>Nat.add_mul _ _ _
     split at h
     ·split at h
      ·rename_i hn0
       cases h
       intro ρ w a hts hrd
       have hvx:=ev_VR hts hx
       generalize he:a.eval x=xv at hvx
       cases hvx
       obtain⟨xs',h1,h2,h3,h4⟩:=src ρ w.heap a hts hrd
       subst hn0
       have hx0:xs'=[]:=by have:=h3.length;rw[h4]at this;simpa using this.symm
       refine⟨.slice none 0 0,?_,.sliceNil⟩
       refine exec_builtin ho λconsts=>?_
       rw[hbt]
       have:=run_append_nilnil (ty:=o.type) hu1 hk hi1 (h1 w) (by have:=h2 w rfl;rw[hx0]at this;exact this)
       simp only[List.map_toArray,List.map_cons,List.map_nil,he,Sem.run_bind,this,Result.andThen_ok,Sem.run_pure]
      ·rename_i hn0
       cases h
       intro ρ w a hts hrd
       have hvx:=ev_VR hts hx
       generalize he:a.eval x=xv at hvx
       cases hvx
       obtain⟨c,cs',h1,h2,h3,h4⟩:=grow ρ w a none 0 0 [] [] hts hrd he .nil (by simp) (λ_ _=>rfl) (by omega) (by omega)
       simp only[Nat.zero_add,List.nil_append]at h1 h2 h4
       refine⟨_,_,.cells cs' e,c*i.size,h1,rfl,rfl,rfl,rfl,λρ' hle hnx=>⟨?_,?_⟩⟩
       ·refine .sliceG hnx h2 (by simp)
       ·obtain⟨xs',_,_,_,hlx⟩:=src ρ w.heap a hts hrd
        refine⟨cs',e,(0,0),by show(w.heap.push _)[w.heap.size]?=_;simp,by simp [h3],by rw[hlx];exact Nat.mul_le_mul_right _ h2,⟨λ_=>rfl,λh=>by cases h⟩,?_⟩
        rw[hlx];simpa using h4.mono hle
     ·rename_i b off sp len cap
      split at h
      ·cases h
      ·rename_i hl32
       split at h
       ·rename_i hn0
        split at h
        ·rename_i hlc
         cases h
         intro ρ w a hts hrd
         have hvx:=ev_VR hts hx
         obtain⟨xs',h1,h2,h3,h4⟩:=src ρ w.heap a hts hrd
         subst hn0
         have hx0:xs'=[]:=by have:=h3.length;rw[h4]at this;simpa using this.symm
         subst hx0
         have key:∀(ad:Addr) (cap':Nat),cap<=cap'->a.eval x=.slice (some ad) len cap'->(execOp a.eval o).run P w=.ok (.value (.slice (some ad) len cap')) w:=λad cap' hc he=>fits w w a ad len cap' [] he (h1 w) (h2 w rfl) (by omega) rfl
         generalize he:a.eval x=xv at hvx
         cases hvx with
         |sliceX hlo=>exact⟨_,key _ _ (Nat.le_refl _) he,.sliceX hlo⟩
         |sliceG hlo hc hg=>exact⟨_,key _ _ hc he,.sliceG hlo hc hg⟩
         |sliceE=>exact⟨_,key _ _ (Nat.zero_le _) he,.sliceE⟩
        ·cases h
       ·rename_i hn0
        split at h
        ·cases h
        ·rename_i hsp1
         split at h
         ·rename_i vs ro hg
          split at h
          ·rename_i hfit
           split at h
           ·rename_i hroom
            split at h
            ·rename_i hc
             obtain⟨hro,hfit2⟩:=hc
             subst hro
             cases h
             refine⟨?_,logged_put _ _ _⟩
             intro ρ w a hw hts
             have hvx:=ev_VR hts hx
             obtain⟨xs',h1,h2,h3,h4⟩:=src ρ w.heap a hts (hw.reads rd)
             have hm:=hmul len
             have key:∀(l:Loc) (cap':Nat),cap<=cap'->ρ b=some l->a.eval x=.slice (some ⟨l.block,l.off+off,none⟩) len cap'->
               ∃w',(execOp a.eval o).run P w=.ok (.value (.slice (some ⟨l.block,l.off+off,none⟩) (len+n) cap')) w'/\Aft ρ U w ρ (U.set b (.cells (over vs (off+len*i.size) xs) false)) w':=λl cap' hc hlo he=>by
              obtain⟨w',g1,g2,⟨o',g3⟩,g4,g5,g6⟩:=OR.over (P:=P) (hw.obj b l _ hlo hg) (off+len*i.size) xs xs' h3 (by omega) hone
              refine⟨w',fits w w' a _ len cap' xs' he (h1 w) (h2 w rfl) (by omega) ?_,Aft.put hw hlo (by rw[hg];simp) (hw.nofix hlo hg (by simp)) g3 g4 g5 g6 g2⟩
              rw[Addr.add_lit,Nat.add_assoc];exact g1
             generalize he:a.eval x=xv at hvx
             cases hvx with
             |sliceX hlo=>obtain⟨w',k1,k2⟩:=key _ _ (Nat.le_refl _) hlo he;exact⟨ρ,_,w',.inl k1,.sliceX hlo,k2⟩
             |sliceG hlo hcc hgg=>obtain⟨w',k1,k2⟩:=key _ _ hcc hlo he;exact⟨ρ,_,w',.inl k1,.sliceG hlo hcc hgg,k2⟩
             |sliceE=>exact absurd rfl hsp1
            ·cases h
           ·rename_i hroom
            have olds:∀(ρ:Ren) (H:Array Obj) (l:Loc) (cap':Nat),OR ρ l H (.cells vs ro)->∃os':List Value,VRL ρ ((vs.drop off).take (len*i.size)) os'/\∀w':World,w'.heap=H->(Builtin.firstCells i.size len (.slice (some ⟨l.block,l.off+off,none⟩) len cap')).run P w'=.ok ⟨os'⟩ w':=λρ H l cap' hob=>by
             obtain⟨cs,hcs,hcell⟩:=hob.cellsAt
             have hlen:=hcs.length
             refine⟨(cs.drop off).take (len*i.size),(hcs.drop off).take _,λw' hw'=>?_⟩
             have hlen2:((cs.drop off).take (len*i.size)).length=len*i.size:=by simp;omega
             have:=run_loadCells_list (P:=P) w' ⟨l.block,l.off+off,none⟩ ((cs.drop off).take (len*i.size)) (λj u hj=>by
              rw[Addr.add_lit]
              rw[List.getElem?_take]at hj
              split at hj
              ·rw[List.getElem?_drop]at hj
               have:=hcell w' hw' (off+j) u hj
               rwa [<-Nat.add_assoc]at this
              ·cases hj)
             rw[hlen2]at this
             exact this
            have hol:((vs.drop off).take (len*i.size)).length=len*i.size:=by simp;omega
            split at h
            ·rename_i hsp0
             subst hsp0
             cases h
             intro ρ w a hts hrd
             have hvx:=ev_VR hts hx
             generalize he:a.eval x=xv at hvx
             cases hvx with
             |sliceX hlo=>
              rename_i l
              have hrd':Reads ρ U w.heap rd:=λc hc=>hrd c (by simp [hc])
              obtain⟨os',k1,k2⟩:=olds ρ w.heap l cap (hrd b (by simp) l _ hlo hg)
              obtain⟨c,cs',h1,h2,h3,h4⟩:=grow ρ w a _ len cap _ os' hts hrd' he k1 hol k2 (by omega) (by omega)
              refine⟨_,_,.cells cs' e,c*i.size,h1,rfl,rfl,rfl,rfl,λρ' hle hnx=>⟨.sliceG hnx h2 (by simp),?_⟩⟩
              obtain⟨xs',_,_,_,hlx⟩:=src ρ w.heap a hts hrd'
              have hml:=hmul len
              have hll:((vs.drop off).take (len*i.size)++xs).length=(len+n)*i.size:=by rw[List.length_append,hol,hlx];omega
              refine⟨cs',e,(0,0),by show(w.heap.push _)[w.heap.size]?=_;simp,by simp [h3],by rw[hll];exact Nat.mul_le_mul_right _ h2,⟨λ_=>rfl,λh=>by cases h⟩,?_⟩
              rw[hll];simpa using h4.mono hle
            ·split at h
             ·rename_i hsp0 hc
              obtain⟨hsp,hro⟩:=hc
              subst hsp hro
              cases h
              refine⟨?_,by simp,λc hc hn=>by rw[St.get_put,if_neg (by intro e;subst e;simp at hn),St.get_new,if_neg (by omega)]⟩
              intro ρ w a hw hts
              have hvx:=ev_VR hts hx
              have hlive:U.get b≠none:=by rw[hg];simp
              obtain⟨xs',h1,h2,h3,h4⟩:=src ρ w.heap a hts (hw.reads rd)
              have hml:=hmul len
              have hll:((vs.drop off).take (len*i.size)++xs).length=(len+n)*i.size:=by rw[List.length_append,hol,h4];omega
              generalize he:a.eval x=xv at hvx
              cases hvx with
              |sliceG hlo hcc hgg=>
               rename_i cap' l
               have hob:=hw.obj b l _ hlo hg
               have hdom:=hw.dom b l hlo
               by_cases hin:len+n<=cap'
               ·
                have hle2:(len+n)*i.size<=cap'*i.size:=Nat.mul_le_mul_right _ hin
                obtain⟨cA,eA,fzA,a1,a2,a3,a4,a5⟩:=hob
                obtain rfl:=a4.1 rfl
                have hl3:=h3.length
                have hst:=run_storeCells_at P l.block (l.off+off+len*i.size) eA xs' 0 cA w a1 (by omega) (oneCells_VRL h3 hone)
                have hrun:=fits w _ a ⟨l.block,l.off+off,none⟩ len cap' xs' he (h1 w) (h2 w rfl) hin (by rw[Addr.add_lit];exact hst)
                refine⟨_,_,_,.inl hrun,?_,Aft.move (off:=off) (o':=.cells (cA.toList.take (l.off+off+len*i.size+0)++xs'++cA.toList.drop (l.off+off+len*i.size+0+xs'.length)).toArray eA (0,0)) hw hlo hlive (hw.nofix hlo hg (by simp)) ?_ rfl rfl rfl ?_⟩
                ·refine .sliceG (l:=⟨l.block,l.off+off,l.size - off,none⟩) (Ren.add_same _ _ _) hin ?_
                 simp;omega
                ·have hlt:l.block<w.heap.size:=hdom.2
                 have hv:w.heap[l.block]=.cells cA eA (0,0):=(Array.getElem?_eq_some_iff.1 a1).2
                 apply Array.ext_getElem?
                 intro k
                 simp only[World.setRow,Array.getElem?_modify,Array.getElem?_setIfInBounds]
                 by_cases hk:l.block=k
                 ·subst hk;simp [hlt,hv]
                 ·simp [hk]
                ·refine⟨_,eA,(0,0),setRow_heap w l.block cA _ eA (0,0) a1,?_,?_,⟨λ_=>rfl,λh=>by cases h⟩,?_⟩
                 ·simp;omega
                 ·rw[hll];simp;omega
                 ·rw[hll]
                  have hcl:cA.toList.length=l.off+l.size:=by simpa using a2
                  have e3:((cA.toList.take (l.off+off+len*i.size+0)++xs'++cA.toList.drop (l.off+off+len*i.size+0+xs'.length)).toArray.toList.drop (l.off+off)).take ((len+n)*i.size)=(((cA.toList.drop l.off).take vs.length).drop off).take (len*i.size)++xs':=by
                   have e4:=splice_drop_take cA.toList (l.off+off) ((len+n)*i.size) (len*i.size) xs' (by omega) (by omega)
                   simp only[Nat.add_zero]
                   rw[e4,List.drop_eq_nil_of_le (as:=(List.take ((len+n)*i.size) (List.drop (l.off+off) cA.toList))) (by simp;omega),List.append_nil,List.take_take,Nat.min_eq_left (by omega),List.drop_take,List.take_take,Nat.min_eq_left (by omega),List.drop_drop]
                  rw[e3]
                  exact(((a5.drop off).take _).append h3).mono (λc k hk=>by rw[Ren.add_other];exact hk;have:=(hw.dom c k hk).1;omega)
               ·
                obtain⟨os',k1,k2⟩:=olds ρ w.heap l cap' hob
                obtain⟨c,cs',g1,g2,g3,g4⟩:=grow ρ w a _ len cap' _ os' hts (hw.reads rd) he k1 hol k2 (by omega) (by omega)
                refine⟨ρ.add U.next ⟨w.heap.size,0,c*i.size,none⟩,_,_,.inl g1,.sliceG (Ren.add_same _ _ _) g2 (by simp),Aft.kill (Aft.push (w':=w.drew.alloc (.cells cs' e)) (obj:=.cells cs' e) hw rfl rfl rfl rfl ?_) hdom.1 hlo hlive⟩
                refine⟨cs',e,(0,0),by show(w.heap.push _)[w.heap.size]?=_;simp,by simp [g3],by rw[hll];exact Nat.mul_le_mul_right _ g2,⟨λ_=>rfl,λh=>by cases h⟩,?_⟩
                rw[hll]
                have:=g4.mono (ρ':=ρ.add U.next ⟨w.heap.size,0,c*i.size,none⟩) (λc k hk=>by rw[Ren.add_other];exact hk;have:=(hw.dom c k hk).1;omega)
                simpa using this
             ·cases h
          ·cases h
         ·cases h
     ·cases h
   ·cases h
  ·cases h
 ·cases h
end Go.Ab
namespace Go.Ab
variable {P:Program} {T:TT}
def opLen(T:TT)(U:St)(t:TypeId)(x:Value):Option ORes:=
 match T.und t,x with
 |some .string,.string s=>some (.val (.int .i64 s.size) [])
 |some (.slice _),.slice none 0 0=>some (.val (.int .i64 0) [])
 |some (.slice _),.slice (some ⟨_,_,some _⟩) n _=>some (.val (.int .i64 n) [])
 |some (.array n _),_=>some (.val (.int .i64 n) [])
 |some (.map _ _),.map none=>some (.val (.int .i64 0) [])
 |some (.map _ _),.map (some r)=>match U.get r with
  |some (.map es _)=>some (.val (.int .i64 es.length) [r])
  |_=>none
 |_,_=>none
theorem ME.length{ρ:Ren}:∀{a b:List MapEntry},ME ρ a b->a.length=b.length
 |[],[],_=>rfl
 |_ :: _,_ :: _,h=>by simp [ME.length h.2]
 |[],_ :: _,h=>h.elim
 |_ :: _,[],h=>h.elim
theorem len_sound(hT:T.Ok P){o:Oper}{ts:List Value}{U:St}{t:TypeId}{x:Operand}{v:Value}{r:ORes}(ho:o.op=.call {callee:=.builtin .len,args:=#[x],argTypes:=#[t]})(hx:ev ts x=some v)(h:opLen T U t v=some r):Sound P o ts U r:=by
 have hb:∀(consts:Array Bool) (as:Array Value),builtin .len #[t] o.type consts as=(do pure (.value (<-Builtin.len_ #[t] o.type as))):=λ_ _=>rfl
 unfold opLen at h
 split at h
 ·rename_i s hu
  cases h
  refine val_sound λρ w a hts=>⟨_,exec_builtin ho λconsts=>?_,.int _ _⟩
  have hv:=ev_VR hts hx
  generalize he:a.eval x=xv at hv
  cases hv
  rw[hb]
  simp [he,Builtin.len_,run_underlying (hT.und hu),goInt]
 ·rename_i e hu
  cases h
  refine val_sound λρ w a hts=>⟨_,exec_builtin ho λconsts=>?_,.int _ _⟩
  have hv:=ev_VR hts hx
  generalize he:a.eval x=xv at hv
  cases hv
  rw[hb]
  simp [he,Builtin.len_,run_underlying (hT.und hu),goInt]
 ·rename_i e b off sp n cap hu
  cases h
  refine val_sound λρ w a hts=>⟨_,exec_builtin ho λconsts=>?_,.int _ _⟩
  have hv:=ev_VR hts hx
  generalize he:a.eval x=xv at hv
  rw[hb]
  cases hv<;>simp [he,Builtin.len_,run_underlying (hT.und hu),goInt]
 ·rename_i n e hu
  cases h
  refine val_sound λρ w a hts=>⟨_,exec_builtin ho λconsts=>?_,.int _ _⟩
  rw[hb]
  simp [Builtin.len_,run_underlying (hT.und hu),goInt]
 ·rename_i k e hu
  cases h
  refine val_sound λρ w a hts=>⟨_,exec_builtin ho λconsts=>?_,.int _ _⟩
  have hv:=ev_VR hts hx
  generalize he:a.eval x=xv at hv
  cases hv
  rw[hb]
  simp [he,Builtin.len_,run_underlying (hT.und hu),goInt]
 ·rename_i k e r' hu
  split at h
  ·rename_i es clock hg
   cases h
   intro ρ w a hts hrd
   refine⟨_,exec_builtin ho λconsts=>?_,.int _ _⟩
   have hv:=ev_VR hts hx
   generalize he:a.eval x=xv at hv
   cases hv with
   |map hl=>
    rename_i l
    obtain⟨es',h1,h2⟩:=hrd r' (by simp) l _ hl hg
    rw[hb]
    have hlen:=h2.length
    simp at hlen
    simp [he,Builtin.len_,run_underlying (hT.und hu),goInt,getObj,Sem.run,h1,hlen]
  ·cases h
 ·cases h
def opCap(T:TT)(t:TypeId)(x:Value):Option ORes:=
 match T.und t,x with
 |some (.slice _),.slice none 0 0=>some (.val (.int .i64 0) [])
 |some (.slice _),.slice (some ⟨_,_,some 0⟩) _ c=>some (.val (.int .i64 c) [])
 |_,_=>none
theorem cap_sound(hT:T.Ok P){o:Oper}{ts:List Value}{U:St}{t:TypeId}{x:Operand}{v:Value}{r:ORes}(ho:o.op=.call {callee:=.builtin .cap,args:=#[x],argTypes:=#[t]})(hx:ev ts x=some v)(h:opCap T t v=some r):Sound P o ts U r:=by
 have hb:∀(consts:Array Bool) (as:Array Value),builtin .cap #[t] o.type consts as=(do pure (.value (<-Builtin.cap_ #[t] o.type as))):=λ_ _=>rfl
 unfold opCap at h
 split at h
 ·rename_i e hu
  cases h
  refine val_sound λρ w a hts=>⟨_,exec_builtin ho λconsts=>?_,.int _ _⟩
  have hv:=ev_VR hts hx
  generalize he:a.eval x=xv at hv
  cases hv
  rw[hb]
  simp [he,Builtin.cap_,run_underlying (hT.und hu),goInt]
 ·rename_i e b off n cap hu
  cases h
  refine val_sound λρ w a hts=>⟨_,exec_builtin ho λconsts=>?_,.int _ _⟩
  have hv:=ev_VR hts hx
  generalize he:a.eval x=xv at hv
  rw[hb]
  cases hv
  simp [he,Builtin.cap_,run_underlying (hT.und hu),goInt]
 ·cases h
def opMax(x y:Value):Option ORes:=
 match x,y with
 |.int k a,.int _ b=>some (.val (.int k (if b > a then b else a)) [])
 |_,_=>none
def opMin(x y:Value):Option ORes:=
 match x,y with
 |.int k a,.int _ b=>some (.val (.int k (if b<a then b else a)) [])
 |_,_=>none
theorem max_sound{o:Oper}{ts:List Value}{U:St}{tys:Array TypeId}{x y:Operand}{u v:Value}{r:ORes}(ho:o.op=.call {callee:=.builtin .max,args:=#[x,y],argTypes:=tys})(hx:ev ts x=some u)(hy:ev ts y=some v)(h:opMax u v=some r):Sound P o ts U r:=by
 have hb:∀(consts:Array Bool) (as:Array Value),builtin .max tys o.type consts as=(do pure (.value (<-Builtin.max_ tys o.type as))):=λ_ _=>rfl
 unfold opMax at h
 split at h
 ·cases h
  refine val_sound λρ w a hts=>⟨_,exec_builtin ho λconsts=>?_,.int _ _⟩
  have hvx:=ev_VR hts hx
  have hvy:=ev_VR hts hy
  generalize he:a.eval x=xv at hvx
  generalize he':a.eval y=yv at hvy
  cases hvx;cases hvy
  rw[hb]
  simp [he,he',Builtin.max_,Builtin.max2]
 ·cases h
theorem min_sound{o:Oper}{ts:List Value}{U:St}{tys:Array TypeId}{x y:Operand}{u v:Value}{r:ORes}(ho:o.op=.call {callee:=.builtin .min,args:=#[x,y],argTypes:=tys})(hx:ev ts x=some u)(hy:ev ts y=some v)(h:opMin u v=some r):Sound P o ts U r:=by
 have hb:∀(consts:Array Bool) (as:Array Value),builtin .min tys o.type consts as=(do pure (.value (<-Builtin.min_ tys o.type as))):=λ_ _=>rfl
 unfold opMin at h
 split at h
 ·cases h
  refine val_sound λρ w a hts=>⟨_,exec_builtin ho λconsts=>?_,.int _ _⟩
  have hvx:=ev_VR hts hx
  have hvy:=ev_VR hts hy
  generalize he:a.eval x=xv at hvx
  generalize he':a.eval y=yv at hvy
  cases hvx;cases hvy
  rw[hb]
  simp [he,he',Builtin.min_,Builtin.min2]
 ·cases h
def opCopy(T:TT)(U:St)(t:TypeId)(d s:Value):Option ORes:=
 match T.und t,srcLen s with
 |some (.slice e),some k=>
  match T.info e with
  |some i=>
   match d with
   |.slice none 0 0=>match srcCells U i.size s 0 with
    |some (_,rd)=>some (.val (.int .i64 0) rd)
    |none=>none
   |.slice (some ⟨b,off,some _⟩) len _=>
    match srcCells U i.size s (Nat.min k len),U.get b with
    |some (xs,_),some (.cells vs false)=>
     if off+(Nat.min k len)*i.size<=vs.length/\oneCells xs=true/\Nat.min k len≠0 then some (.eff (.int .i64 (Nat.min k len:Nat)) (U.set b (.cells (over vs off xs) false)) [b])
     else if Nat.min k len=0 then some (.val (.int .i64 0) []) else none
    |_,_=>none
   |_=>none
  |none=>none
 |_,_=>none
theorem copy_sound(hT:T.Ok P){o:Oper}{ts:List Value}{U:St}{t t':TypeId}{x y:Operand}{u v:Value}{r:ORes}(ho:o.op=.call {callee:=.builtin .copy,args:=#[x,y],argTypes:=#[t,t']})
  (hx:ev ts x=some u) (hy:ev ts y=some v) (h:opCopy T U t u v=some r):Sound P o ts U r:=by
 have hb:∀(consts:Array Bool) (as:Array Value),builtin .copy #[t,t'] o.type consts as=(do pure (.value (<-Builtin.copy_ #[t,t'] o.type as))):=λ_ _=>rfl
 unfold opCopy at h
 split at h
 ·rename_i e k hu hk
  split at h
  ·rename_i i hi
   have hu1:=hT.und hu
   have hi1:=hT.info _ _ hi
   split at h
   ·split at h
    ·rename_i xs rd hxs
     cases h
     intro ρ w a hts hrd
     have hvx:=ev_VR hts hx
     have hvy:=ev_VR hts hy
     generalize he:a.eval x=xv at hvx
     cases hvx
     obtain⟨xs',h1,h2,h3⟩:=srcCells_run (P:=P) hxs ⟨k,hk,Nat.zero_le _⟩ hvy hrd
     refine⟨_,exec_builtin ho λconsts=>?_,.int _ _⟩
     rw[hb]
     simp [he,Builtin.copy_,run_underlying hu1,srcLen_run hk hvy w,run_sizeOf hi1,h1 w rfl,goInt]
    ·cases h
   ·rename_i b off sp len cap
    split at h
    ·rename_i xs rd vs hxs hg
     split at h
     ·rename_i hc
      obtain⟨hfit,hone,hne⟩:=hc
      cases h
      refine⟨?_,logged_put _ _ _⟩
      intro ρ w a hw hts
      have hvx:=ev_VR hts hx
      have hvy:=ev_VR hts hy
      obtain⟨xs',h1,h2,h3⟩:=srcCells_run (P:=P) hxs ⟨k,hk,Nat.min_le_left _ _⟩ hvy (hw.reads rd)
      have key:∀(l:Loc) (cap':Nat),ρ b=some l->a.eval x=.slice (some ⟨l.block,l.off+off,none⟩) len cap'->
        ∃w',(execOp a.eval o).run P w=.ok (.value (.int .i64 (Nat.min k len:Nat))) w'/\Aft ρ U w ρ (U.set b (.cells (over vs off xs) false)) w':=λl cap' hlo he=>by
       obtain⟨w',g1,g2,⟨o',g3⟩,g4,g5,g6⟩:=OR.over (P:=P) (hw.obj b l _ hlo hg) off xs xs' h2 (by omega) hone
       refine⟨w',exec_builtin ho λconsts=>?_,Aft.put hw hlo (by rw[hg];simp) (hw.nofix hlo hg (by simp)) g3 g4 g5 g6 g2⟩
       rw[hb]
       simp [he,Builtin.copy_,run_underlying hu1,srcLen_run hk hvy w,run_sizeOf hi1,h1 w rfl,goInt,g1]
      generalize he:a.eval x=xv at hvx
      cases hvx with
      |sliceX hlo=>obtain⟨w',k1,k2⟩:=key _ _ hlo he;exact⟨ρ,_,w',.inl k1,.int _ _,k2⟩
      |sliceG hlo hcc hgg=>obtain⟨w',k1,k2⟩:=key _ _ hlo he;exact⟨ρ,_,w',.inl k1,.int _ _,k2⟩
      |sliceE=>exact absurd (Nat.min_zero k) hne
     ·split at h
      ·rename_i hz
       cases h
       intro ρ w a hts _
       have hvx:=ev_VR hts hx
       have hvy:=ev_VR hts hy
       refine⟨_,exec_builtin ho λconsts=>?_,.int _ _⟩
       rw[hb]
       have hz':Nat.min k len=0:=hz
       have hfc:∀v':Value,VR ρ v v'->(Builtin.firstCells i.size 0 v').run P w=.ok #[] w:=λv' hv'=>by
        unfold srcLen at hk
        split at hk<;>first
         |(cases hv'<;>simp [Builtin.firstCells,loadCells,loadCellsFrom];done)
         |cases hk
       have hadr:∃ad cap',a.eval x=.slice (some ad) len cap':=by
        generalize he:a.eval x=xv at hvx
        cases hvx<;>exact⟨_,_,rfl⟩
       obtain⟨ad,cap',he⟩:=hadr
       simp [he,Builtin.copy_,run_underlying hu1,srcLen_run hk hvy w,run_sizeOf hi1,hz',hfc _ hvy,storeCells,goInt]
      ·cases h
    ·cases h
   ·cases h
  ·cases h
 ·cases h
def opMakeMap(U:St)(r:Option Value):Option ORes:=
 match r with
 |none=>some (.new (.map [] 0) (.map (some U.next)) [])
 |some (.int _ _)=>some (.new (.map [] 0) (.map (some U.next)) [])
 |_=>none
theorem makeMap_sound{o:Oper}{ts:List Value}{U:St}{t:TypeId}{x:Option Operand}{v:Option Value}{r:ORes}(ho:o.op=.makeMap t x)(hmap:∃k e,P.underlying t=some (.map k e))(hx:evo ts x=some v)(h:opMakeMap U v=some r):Sound P o ts U r:=by
 have key:Sound P o ts U (.new (.map [] 0) (.map (some U.next)) [])\/(∀r,opMakeMap U v≠some r):=by
  by_cases hv:opMakeMap U v=none
  ·exact .inr λr=>by rw[hv];simp
  ·refine .inl ?_
   intro ρ w a hts _
   refine⟨.map (some w.heap.size),w.alloc (.map #[] 0),.map #[] 0,0,?_,rfl,rfl,rfl,rfl,λρ' hle hn=>⟨.map hn,⟨#[],by show(w.heap.push _)[w.heap.size]?=_;simp,trivial⟩⟩⟩
   have hxv:=evo_VR hts hx
   obtain⟨k,e,hu⟩:=hmap
   cases x with
   |none=>simp [execOp,ho,Instr.makeMap]
   |some x=>
    cases v with
    |none=>exact hxv.elim
    |some v=>
     have hxv':VR ρ v (a.eval x):=hxv
     generalize he:a.eval x=xv at hxv'
     cases hxv'<;>first
      |(simp [execOp,ho,Instr.makeMap,run_underlying hu,he,asInt,asIntOf];done)
      |(simp [opMakeMap]at hv;done)
 rcases key with h1|h1
 ·unfold opMakeMap at h
  split at h
  ·cases h;exact h1
  ·cases h;exact h1
  ·cases h
 ·exact absurd h (h1 r)
def keyEq(T:TT)(t:TypeId):Value->Value->Option Bool
 |.int k a,.int k' b=>match T.und t with|some (.int _)=>if k=k' then some (a==b) else none|_=>none
 |.string a,.string b=>match T.und t with|some .string=>some (a==b)|_=>none
 |.bool a,.bool b=>match T.und t with|some .bool=>some (a==b)|_=>none
 |.agg ⟨xs⟩,.agg ⟨ys⟩=>match T.flat t with|some sh=>eqCells sh xs ys|none=>none
 |_,_=>none
def keyOk(T:TT)(t:TypeId):Value->Bool
 |.int _ _=>match T.und t with|some (.int _)=>true|_=>false
 |.string _=>match T.und t with|some .string=>true|_=>false
 |.bool _=>match T.und t with|some .bool=>true|_=>false
 |.agg ⟨xs⟩=>match T.flat t with|some sh=>inShape sh xs|none=>false
 |_=>false
def findA(T:TT)(t:TypeId)(k:Value):List MapEntry->Nat->Option (Option (Nat×MapEntry))
 |[],_=>some none
 |e :: es,i=>match keyEq T t k e.key with
  |none=>none
  |some true=>some (some (i,e))
  |some false=>findA T t k es (i+1)
theorem inShape_VRL{ρ:Ren}:∀{sh:List CK} {xs ys:List Value},inShape sh xs=true->VRL ρ xs ys->ys=xs
 |[],[],_,_,.nil=>rfl
 |[],_ :: _,_,h,_=>by simp [inShape]at h
 |_ :: _,[],_,h,_=>by simp [inShape]at h
 |c :: sh,x :: xs,_,h,.cons hx tx=>by
  cases c<;>cases x<;>simp only[inShape,Bool.false_eq_true]at h<;>(cases hx;rw[inShape_VRL h tx])
theorem keyOk_VR{ρ:Ren}{t:TypeId}{k k':Value}(h:keyOk T t k=true)(hk:VR ρ k k'):k'=k:=by
 unfold keyOk at h
 split at h
 ·cases hk;rfl
 ·cases hk;rfl
 ·cases hk;rfl
 ·split at h
  ·cases hk with|agg hl=>rw[inShape_VRL h hl]
  ·cases h
 ·cases h
theorem checkKey_run(hT:T.Ok P){t:TypeId}{k:Value}(h:keyOk T t k=true)(e:Bool)(w:World):(Instr.checkKey e 10000 t k).run P w=.ok () w:=by
 obtain⟨d,hd⟩:∃d,10000=d+1:=⟨9999,rfl⟩
 unfold keyOk at h
 split at h
 ·split at h
  ·rename_i hu;rw[hd];simp [Instr.checkKey,run_underlying (hT.und hu)]
  ·cases h
 ·split at h
  ·rename_i hu;rw[hd];simp [Instr.checkKey,run_underlying (hT.und hu)]
  ·cases h
 ·split at h
  ·rename_i hu;rw[hd];simp [Instr.checkKey,run_underlying (hT.und hu)]
  ·cases h
 ·split at h
  ·rename_i hf;exact(hT.flat _ _ hf).key e _ w h
  ·cases h
 ·cases h
theorem bytes_eq{a b:ByteArray}(h:(a.toList==b.toList)=true):a=b:=by
 rw[ByteArray.toList_eq,ByteArray.toList_eq,beq_iff_eq]at h
 obtain⟨⟨x⟩⟩:=a
 obtain⟨⟨y⟩⟩:=b
 cases h
 rfl
theorem bytes_self(a:ByteArray):(a==a)=true:=by rw[beq_toListBytes];simp
theorem eqCells_true:∀{sh:List CK} {xs ys:List Value},eqCells sh xs ys=some true->xs=ys:=by
 intro sh
 induction sh with
 |nil=>
  intro xs ys h
  cases xs<;>cases ys<;>first|rfl|(simp [eqCells]at h)
 |cons c sh ih=>
  intro xs ys h
  unfold eqCells at h
  split at h
  ·rename_i he;cases he
  ·rename_i he
   cases he
   split at h
   ·rename_i hk
    split at h
    ·rename_i hab;simp only[beq_iff_eq]at hab;rw[hk,hab,ih h]
    ·cases h
   ·cases h
  ·rename_i he
   cases he
   split at h
   ·rename_i hab;simp only[beq_iff_eq]at hab;rw[hab,ih h]
   ·cases h
  ·rename_i he
   cases he
   split at h
   ·rename_i hab;rw[bytes_eq hab,ih h]
   ·cases h
  ·cases h
theorem keyEq_true{t:TypeId}{k k':Value}(h:keyEq T t k k'=some true):k=k':=by
 unfold keyEq at h
 split at h
 ·split at h
  ·split at h
   ·rename_i hk;simp only[Option.some.injEq,beq_iff_eq]at h;rw[hk,h]
   ·cases h
  ·cases h
 ·split at h
  ·simp only[Option.some.injEq]at h
   rw[beq_toListBytes]at h
   rw[bytes_eq h]
  ·cases h
 ·split at h
  ·simp only[Option.some.injEq,beq_iff_eq]at h;rw[h]
  ·cases h
 ·split at h
  ·rw[eqCells_true h]
  ·cases h
 ·cases h
theorem sameBits_self {t : TypeId} {k : Value} (h : keyOk T t k = true) (n : Nat) : Instr.sameBits (n + 2) k k = true := by
  unfold keyOk at h
  split at h
  · simp [Instr.sameBits]
  · simp [Instr.sameBits, bytes_self]
  · simp [Instr.sameBits]
  · split at h
    · rename_i xs _ sh _
      simp only [Instr.sameBits, beq_self_eq_true, Bool.true_and, List.all_eq_true]
      have key : ∀ (sh : List CK) (xs : List Value), inShape sh xs = true → ∀ p ∈ xs.zip xs, Instr.sameBits (n + 1) p.1 p.2 = true := by
        intro sh
        induction sh with
        | nil => intro xs hs; cases xs <;> simp [inShape] at hs ⊢
        | cons c sh ih =>
          intro xs hs
          cases xs with
          | nil => simp
          | cons x xs =>
            cases c <;> cases x <;> simp only [inShape, Bool.false_eq_true] at hs <;>
              (intro p hp
               simp only [List.zip_cons_cons, List.mem_cons] at hp
               rcases hp with rfl | hp
               · simp [Instr.sameBits, bytes_self]
               · exact ih xs hs p hp)
      intro p hp
      exact key sh xs h p hp
    · cases h
  · cases h
def FoundR(ρ:Ren)(es es':List MapEntry)(i:Nat):Option (Nat×MapEntry)->Option (Nat×Value)->Prop
 |none,none=>True
 |some (j,e),some (j',v)=>j=j'/\i<=j/\es[j - i]?=some e/\∃e',es'[j - i]?=some e'/\VR ρ e.val e'.val/\v=e'.val
 |_,_=>False
theorem FoundR.shift{ρ:Ren}{x x':MapEntry}{es es':List MapEntry}{i:Nat}{r:Option (Nat×MapEntry)}{r':Option (Nat×Value)}(h:FoundR ρ es es' (i+1) r r'):FoundR ρ (x :: es) (x' :: es') i r r':=by
 unfold FoundR at h ⊢
 split at h
 ·trivial
 ·obtain⟨h1,h2,h3,e',h4,h5⟩:=h
  rename_i j e j' v
  have:j - i=(j - (i+1))+1:=by omega
  exact⟨h1,by omega,by rw[this];simpa using h3,e',by rw[this];simpa using h4,h5⟩
 ·exact h.elim
theorem findNow_run(hT:T.Ok P){ρ:Ren}{t:TypeId}{d:TypeDesc}{k:Value}(hu:T.und t=some d)(hd:(∃kk n,k=.int kk n)\/(∃s,k=.string s)\/(∃b,k=.bool b)):∀{es es':List MapEntry} {i:Nat} {r:Option (Nat×MapEntry)},findA T t k es i=some r->ME ρ es es'->
  ∃r',Instr.findNow d k es' i=some r'/\FoundR ρ es es' i r r'
 |[],[],i,r,h,_=>by
  simp only[findA,Option.some.injEq]at h
  subst h
  exact⟨none,rfl,trivial⟩
 |x :: es,x' :: es',i,r,h,hm=>by
  obtain⟨⟨hk,hv,hb⟩,hm⟩:=hm
  simp only[findA]at h
  have same:∀b,keyEq T t k x.key=some b->Instr.sameNow d k x'.key=some b:=λb hb=>by
   unfold keyEq at hb
   rcases hd with⟨kk,n,rfl⟩|⟨s,rfl⟩|⟨bb,rfl⟩
   all_goals
    generalize hq:x.key=q at hb hk
    generalize x'.key=q' at hk
    cases q<;>simp only[reduceCtorEq]at hb
    cases hk
    rw[hu]at hb
    cases d<;>simp only[reduceCtorEq]at hb
    simp only[Instr.sameNow]
    exact hb
  split at h
  ·cases h
  ·rename_i hkq
   cases h
   refine⟨some (i,x'.val),?_,rfl,Nat.le_refl _,by simp,x',by simp,hv,rfl⟩
   simp only[Instr.findNow,same true hkq]
  ·rename_i hkq
   obtain⟨r',h1,h2⟩:=findNow_run hT hu hd h hm
   refine⟨r',?_,h2.shift⟩
   simp only[Instr.findNow,same false hkq,h1]
 |[],_ :: _,_,_,_,hm=>hm.elim
 |_ :: _,[],_,_,_,hm=>hm.elim
theorem findAsking_run(hT:T.Ok P){ρ:Ren}{t:TypeId}{xs:List Value}(w:World){k':Value}(hkk:VR ρ (.agg ⟨xs⟩) k'):∀{es es':List MapEntry} {i:Nat} {r:Option (Nat×MapEntry)},findA T t (.agg ⟨xs⟩) es i=some r->ME ρ es es'->
  ∃r',(Instr.findAsking t k' es' i).run P w=.ok r' w/\FoundR ρ es es' i r r'
 |[],[],i,r,h,_=>by
  simp only[findA,Option.some.injEq]at h
  subst h
  exact⟨none,rfl,trivial⟩
 |x :: es,x' :: es',i,r,h,hm=>by
  obtain⟨⟨hk,hv,hb⟩,hm⟩:=hm
  simp only[findA]at h
  have same:∀b,keyEq T t (.agg ⟨xs⟩) x.key=some b->(Op.equal t k' x'.key).run P w=.ok b w:=λb hb=>by
   refine run_equal_eqOp hT (u:=.agg ⟨xs⟩) (v:=x.key) ?_ hkk hk w
   unfold keyEq at hb
   generalize hq:x.key=q at hb hk
   cases q<;>simp only[reduceCtorEq]at hb
   exact hb
  split at h
  ·cases h
  ·rename_i hkq
   cases h
   refine⟨some (i,x'.val),?_,rfl,Nat.le_refl _,by simp,x',by simp,hv,rfl⟩
   simp [Instr.findAsking,same true hkq]
  ·rename_i hkq
   obtain⟨r',h1,h2⟩:=findAsking_run hT w hkk h hm
   refine⟨r',?_,h2.shift⟩
   simp [Instr.findAsking,same false hkq,h1]
 |[],_ :: _,_,_,_,hm=>hm.elim
 |_ :: _,[],_,_,_,hm=>hm.elim
theorem findKey_run(hT:T.Ok P){ρ:Ren}{t:TypeId}{k:Value}(hk:keyOk T t k=true)(w:World){es es':List MapEntry}{r:Option (Nat×MapEntry)}(h:findA T t k es 0=some r)(hm:ME ρ es es'):
  ∃r',(Instr.findKey t k es').run P w=.ok r' w/\FoundR ρ es es' 0 r r':=by
 have scalar:∀d,T.und t=some d->((∃kk n,k=.int kk n)\/(∃s,k=.string s)\/(∃b,k=.bool b))->∃r',(Instr.findKey t k es').run P w=.ok r' w/\FoundR ρ es es' 0 r r':=λd hu hd=>by
  obtain⟨r',h1,h2⟩:=findNow_run hT hu hd h hm
  exact⟨r',by simp [Instr.findKey,run_underlying (hT.und hu),h1],h2⟩
 have hk':=hk
 unfold keyOk at hk
 split at hk
 ·split at hk
  ·rename_i hu;exact scalar _ hu (.inl ⟨_,_,rfl⟩)
  ·cases hk
 ·split at hk
  ·rename_i hu;exact scalar _ hu (.inr (.inl ⟨_,rfl⟩))
  ·cases hk
 ·split at hk
  ·rename_i hu;exact scalar _ hu (.inr (.inr ⟨_,rfl⟩))
  ·cases hk
 ·rename_i xs
  split at hk
  ·rename_i sh hf
   obtain⟨d,hud,hag⟩:=(hT.flat _ _ hf).desc
   have hself:VR ρ (.agg ⟨xs⟩) (.agg ⟨xs⟩):=by
    refine .agg (plainL_VR ρ xs ?_)
    clear hk' h scalar hf
    induction sh generalizing xs with
    |nil=>cases xs<;>first|rfl|(simp [inShape]at hk)
    |cons c sh ih=>
     cases xs with
     |nil=>rfl
     |cons x xs=>cases c<;>cases x<;>simp only[inShape,Bool.false_eq_true]at hk<;>simp [plainL,plain,ih xs hk]
   obtain⟨r',h1,h2⟩:=findAsking_run hT w hself h hm
   cases es' with
   |nil=>
    cases es with
    |nil=>
     simp only[findA,Option.some.injEq]at h
     subst h
     exact⟨none,by simp [Instr.findKey,run_underlying hud,Instr.findNow],trivial⟩
    |cons _ _=>exact hm.elim
   |cons x' es'=>
    refine⟨r',?_,h2⟩
    have hnow:Instr.findNow d (.agg ⟨xs⟩) (x' :: es') 0=none:=by
     simp only[Instr.findNow]
     cases d<;>simp [isAggB]at hag<;>simp [Instr.sameNow]
    simp [Instr.findKey,run_underlying hud,hnow,h1]
  ·cases hk
 ·cases hk
def opLookup(T:TT)(U:St)(t:TypeId)(ok:Bool)(x k:Value):Option ORes:=
 match T.und t with
 |some (.map kt et)=>
  match T.info et with
  |some i=>match i.zero with
   |some z=>
    if keyOk T kt k=true/\plain z=true then
     match x with
     |.map none=>some (.val (if ok then .tuple ⟨[z,.bool false]⟩ else z) [])
     |.map (some r)=>match U.get r with
      |some (.map es _)=>match findA T kt k es 0 with
       |some none=>some (.val (if ok then .tuple ⟨[z,.bool false]⟩ else z) [r])
       |some (some (_,e))=>some (.val (if ok then .tuple ⟨[e.val,.bool true]⟩ else e.val) [r])
       |none=>none
      |_=>none
     |_=>none
    else none
   |none=>none
  |none=>none
 |_=>none
theorem lookup_sound(hT:T.Ok P){o:Oper}{ts:List Value}{U:St}{t:TypeId}{ok:Bool}{x y:Operand}{u v:Value}{r:ORes}(ho:o.op=.lookup t x y ok)(hx:ev ts x=some u)(hy:ev ts y=some v)(h:opLookup T U t ok u v=some r):Sound P o ts U r:=by
 unfold opLookup at h
 split at h
 ·rename_i kt et hu
  split at h
  ·rename_i i hi
   split at h
   ·rename_i z hz
    split at h
    ·rename_i hc
     obtain⟨hko,hpz⟩:=hc
     have zr:=λw=>run_zeroValue (P:=P) (hT.info _ _ hi) hz w
     split at h
     ·cases h
      refine val_sound λρ w a hts=>?_
      have hvx:=ev_VR hts hx
      have hvy:=ev_VR hts hy
      have hke:=keyOk_VR hko hvy
      generalize he:a.eval x=xv at hvx
      cases hvx
      refine⟨if ok then .tuple #[z,.bool false] else z,?_,?_⟩
      ·have hck:=checkKey_run (P:=P) hT hko true w
       have hfk:(Instr.findKey kt v []).run P w=.ok none w:=by
        obtain⟨r',h1,h2⟩:=findKey_run hT (ρ:=ρ) hko w (es:=[]) (es':=[]) (r:=none) rfl trivial
        cases r' with|none=>exact h1|some _=>exact h2.elim
       simp [execOp,ho,Instr.lookup,run_underlying (hT.und hu),he,hke,hck,hfk,zr]
      ·cases ok
       ·exact plain_VR ρ z hpz
       ·exact .tuple (.cons (plain_VR ρ z hpz) (.cons (.bool _) .nil))
     ·rename_i r'
      split at h
      ·rename_i es clock hg
       have key:∀(fr:Option (Nat×MapEntry)),findA T kt v es 0=some fr->Sound P o ts U (.val (match fr with|none=>(if ok then .tuple ⟨[z,.bool false]⟩ else z)|some (_,e)=>(if ok then .tuple ⟨[e.val,.bool true]⟩ else e.val)) [r']):=λfr hfr=>by
        intro ρ w a hts hrd
        have hvx:=ev_VR hts hx
        have hvy:=ev_VR hts hy
        have hke:=keyOk_VR hko hvy
        generalize he:a.eval x=xv at hvx
        cases hvx with
        |map hl=>
         rename_i l
         obtain⟨es',h1,h2⟩:=hrd r' (by simp) l _ hl hg
         obtain⟨r2,h3,h4⟩:=findKey_run hT hko w hfr h2
         have hck:=checkKey_run (P:=P) hT hko es'.isEmpty w
         have hget:(getObj l.block).run P w=.ok (.map es' clock) w:=by simp [getObj,Sem.run,h1]
         cases fr with
         |none=>
          cases r2 with
          |some _=>exact h4.elim
          |none=>
           refine⟨if ok then .tuple #[z,.bool false] else z,?_,?_⟩
           ·simp [execOp,ho,Instr.lookup,run_underlying (hT.und hu),he,hke,hget,hck,h3,zr]
           ·cases ok
            ·exact plain_VR ρ z hpz
            ·exact .tuple (.cons (plain_VR ρ z hpz) (.cons (.bool _) .nil))
         |some p=>
          obtain⟨j,e⟩:=p
          cases r2 with
          |none=>exact h4.elim
          |some q=>
           obtain⟨j',v'⟩:=q
           obtain⟨_,_,_,e',_,h6,h7⟩:=h4
           subst h7
           refine⟨if ok then .tuple #[e'.val,.bool true] else e'.val,?_,?_⟩
           ·simp [execOp,ho,Instr.lookup,run_underlying (hT.und hu),he,hke,hget,hck,h3]
           ·cases ok
            ·exact h6
            ·exact .tuple (.cons h6 (.cons (.bool _) .nil))
       split at h
       ·rename_i hf;cases h;exact key none hf
       ·rename_i j e hf;cases h;exact key (some (j,e)) hf
       ·cases h
      ·cases h
     ·cases h
    ·cases h
   ·cases h
  ·cases h
 ·cases h
end Go.Ab
namespace Go.Ab
variable {P:Program} {T:TT}
def modE:List MapEntry->Nat->Value->Value->List MapEntry
 |[],_,_,_=>[]
 |e :: es,0,k,v=>{e with key:=k,val:=v} :: es
 |e :: es,n+1,k,v=>e :: modE es n k v
def delE:List MapEntry->Nat->List MapEntry
 |[],_=>[]
 |_ :: es,0=>es
 |e :: es,n+1=>e :: delE es n
def pushE:List MapEntry->MapEntry->List MapEntry
 |[],x=>[x]
 |e :: es,x=>e :: pushE es x
theorem ME.modE{ρ:Ren}{k k' v v':Value}(hk:VR ρ k k')(hv:VR ρ v v'):∀{a b:List MapEntry} (n:Nat),ME ρ a b->ME ρ (modE a n k v) (b.modify n λe=>{e with key:=k',val:=v'})
 |[],[],_,_=>by simp [Ab.modE,ME]
 |x :: a,y :: b,0,h=>by simp [Ab.modE,ME];exact⟨⟨hk,hv,h.1.2.2⟩,h.2⟩
 |x :: a,y :: b,n+1,h=>by simp [Ab.modE,ME];exact⟨h.1,ME.modE hk hv n h.2⟩
 |[],_ :: _,_,h=>h.elim
 |_ :: _,[],_,h=>h.elim
theorem ME.delE{ρ:Ren}:∀{a b:List MapEntry} (n:Nat),ME ρ a b->ME ρ (delE a n) (b.eraseIdx n)
 |[],[],_,_=>by simp [Ab.delE,ME]
 |x :: a,y :: b,0,h=>by simp [Ab.delE];exact h.2
 |x :: a,y :: b,n+1,h=>by simp [Ab.delE,ME];exact⟨h.1,ME.delE n h.2⟩
 |[],_ :: _,_,h=>h.elim
 |_ :: _,[],_,h=>h.elim
theorem ME.pushE{ρ:Ren}{x y:MapEntry}(hx:VR ρ x.key y.key/\VR ρ x.val y.val/\x.born=y.born):∀{a b:List MapEntry},ME ρ a b->ME ρ (pushE a x) (b++[y])
 |[],[],_=>⟨hx,trivial⟩
 |_ :: a,_ :: b,h=>⟨h.1,ME.pushE hx h.2⟩
 |[],_ :: _,h=>h.elim
 |_ :: _,[],h=>h.elim
def opMapUpdate(T:TT)(U:St)(t:TypeId)(m k v:Value):Option ORes:=
 match T.und t,m with
 |some (.map kt _),.map (some r)=>
  match U.get r with
  |some (.map es clock)=>
   if keyOk T kt k=true then
    match findA T kt k es 0 with
    |some none=>some (.eff undef (U.set r (.map (pushE es {key:=k,val:=v,born:=clock}) (clock+1))) [r])
    |some (some (j,_))=>some (.eff undef (U.set r (.map (modE es j k v) clock)) [r])
    |none=>none
   else none
  |_=>none
 |_,_=>none
theorem run_setObj_map{w:World}{r:Nat}{es:Array MapEntry}{c:Nat}(h:w.heap[r]?=some (.map es c))(o:Obj):(setObj r o).run P w=.ok () {w with heap:=w.heap.setIfInBounds r o}:=by
 simp [setObj,Sem.run,h]
theorem keyThatStays_run{t:TypeId}{k:Value}(h:keyOk T t k=true)(w:World):(Instr.keyThatStays k k).run P w=.ok k w:=by
 unfold Instr.keyThatStays
 have:Instr.sameBits 10000 k k=true:=sameBits_self h 9998
 simp [this]
theorem mapUpdate_sound(hT:T.Ok P){o:Oper}{ts:List Value}{U:St}{t:TypeId}{x y z:Operand}{m k v:Value}{r:ORes}(ho:o.op=.mapUpdate t x y z\/o.op=.insert t x y z)(hx:ev ts x=some m)(hy:ev ts y=some k)(hz:ev ts z=some v)(h:opMapUpdate T U t m k v=some r):Sound P o ts U r:=by
 unfold opMapUpdate at h
 split at h
 ·rename_i kt et r' hu
  split at h
  ·rename_i es clock hg
   split at h
   ·rename_i hko
    have key:∀(ρ:Ren) (w:World) (a:Act),WR ρ U w.heap->VRL ρ ts a.tmps.toList->∃(l:Loc) (es':Array MapEntry) (v':Value),ρ r'=some l/\w.heap[l.block]?=some (.map es' clock)/\ME ρ es es'.toList/\a.eval x=.map (some l.block)/\a.eval y=k/\VR ρ k k/\a.eval z=v'/\VR ρ v v':=λρ w a hw hts=>by
     have hvx:=ev_VR hts hx
     have hvy:=ev_VR hts hy
     have hvz:=ev_VR hts hz
     have hke:=keyOk_VR hko hvy
     rw[hke]at hvy
     generalize he:a.eval x=xv at hvx
     cases hvx with
     |map hl=>
      rename_i l
      obtain⟨es',h1,h2⟩:=hw.obj r' l _ hl hg
      exact⟨l,es',a.eval z,hl,h1,h2,rfl,hke,hvy,rfl,hvz⟩
    have hlive:U.get r'≠none:=by rw[hg];simp
    split at h
    ·rename_i hf
     cases h
     refine⟨?_,logged_put _ _ _⟩
     intro ρ w a hw hts
     obtain⟨l,es',v',hl,h1,h2,e1,e2,hkk,e3,hvv⟩:=key ρ w a hw hts
     obtain⟨r2,h3,h4⟩:=findKey_run hT hko w hf h2
     cases r2 with
     |some _=>exact h4.elim
     |none=>
      have hlt:l.block<w.heap.size:=(hw.dom r' l hl).2
      refine⟨ρ,undef,{w with heap:=w.heap.setIfInBounds l.block (.map (es'.push {key:=k,val:=v',born:=clock}) (clock+1))},.inr ⟨?_,rfl⟩,undef_VR ρ,Aft.put hw hl hlive (hw.nofix hl hg (by simp)) rfl rfl rfl rfl ⟨es'.push {key:=k,val:=v',born:=clock},?_,?_⟩⟩
      ·have hget:(getObj l.block).run P w=.ok (.map es' clock) w:=by simp [getObj,Sem.run,h1]
       have hck:=checkKey_run (P:=P) hT hko false w
       rcases ho with ho|ho<;>simp [execOp,ho,Instr.mapUpdate,run_underlying (hT.und hu),e1,e2,e3,hget,hck,h3,run_setObj_map h1]
      ·simp [hlt]
      ·rw[Array.toList_push]
       exact ME.pushE (x:=⟨k,v,clock⟩) (y:=⟨k,v',clock⟩) ⟨hkk,hvv,rfl⟩ h2
    ·rename_i j e hf
     cases h
     refine⟨?_,logged_put _ _ _⟩
     intro ρ w a hw hts
     obtain⟨l,es',v',hl,h1,h2,e1,e2,hkk,e3,hvv⟩:=key ρ w a hw hts
     obtain⟨r2,h3,h4⟩:=findKey_run hT hko w hf h2
     cases r2 with
     |none=>exact h4.elim
     |some q=>
      obtain⟨j',u⟩:=q
      obtain⟨rfl,_,h5,e',h6,_,_⟩:=h4
      have hlt:l.block<w.heap.size:=(hw.dom r' l hl).2
      have hkey:e'.key=k:=by
       have hfound:∀(es:List MapEntry) (i:Nat),findA T kt k es i=some (some (j,e))->k=e.key:=by
        intro es
        induction es with
        |nil=>intro i hq;simp [findA]at hq
        |cons x es ih=>
         intro i hq
         simp only[findA]at hq
         split at hq
         ·cases hq
         ·rename_i hkq;cases hq;exact keyEq_true hkq
         ·exact ih _ hq
       have hke:=hfound es 0 hf
       have hpair:∀(a b:List MapEntry) (n:Nat) (x y:MapEntry),ME ρ a b->a[n]?=some x->b[n]?=some y->VR ρ x.key y.key:=by
        intro a
        induction a with
        |nil=>intro b n x y _ hx;simp at hx
        |cons p a ih=>
         intro b n x y hm hx hy
         cases b with
         |nil=>exact hm.elim
         |cons q b=>cases n with
          |zero=>simp at hx hy;subst hx hy;exact hm.1.1
          |succ n=>simp at hx hy;exact ih b n x y hm.2 hx hy
       have:=hpair _ _ _ _ _ h2 h5 h6
       rw[<-hke]at this
       exact keyOk_VR hko this
      refine⟨ρ,undef,{w with heap:=w.heap.setIfInBounds l.block (.map (es'.modify j λe=>{e with key:=k,val:=v'}) clock)},.inr ⟨?_,rfl⟩,undef_VR ρ,Aft.put hw hl hlive (hw.nofix hl hg (by simp)) rfl rfl rfl rfl ⟨es'.modify j λe=>{e with key:=k,val:=v'},?_,?_⟩⟩
      ·have hget:(getObj l.block).run P w=.ok (.map es' clock) w:=by simp [getObj,Sem.run,h1]
       have hck:=checkKey_run (P:=P) hT hko false w
       have hold:((es'[j]?).map (·.key)).getD k=k:=by
        have:es'[j]?=some e':=by simpa using h6
        rw[this];exact hkey
       rcases ho with ho|ho<;>simp [execOp,ho,Instr.mapUpdate,run_underlying (hT.und hu),e1,e2,e3,hget,hck,h3,hold,keyThatStays_run hko,run_setObj_map h1]
      ·simp [hlt]
      ·rw[Array.toList_modify]
       exact ME.modE hkk hvv j h2
    ·cases h
   ·cases h
  ·cases h
 ·cases h
def opDelete(T:TT)(U:St)(t:TypeId)(m k:Value):Option ORes:=
 match T.und t,m with
 |some (.map kt _),.map (some r)=>
  match U.get r with
  |some (.map es clock)=>
   if keyOk T kt k=true then
    match findA T kt k es 0 with
    |some none=>some (.eff (.tuple #[]) (U.set r (.map es clock)) [r])
    |some (some (j,_))=>some (.eff (.tuple #[]) (U.set r (.map (delE es j) clock)) [r])
    |none=>none
   else none
  |_=>none
 |_,_=>none
theorem delete_sound(hT:T.Ok P){o:Oper}{ts:List Value}{U:St}{t t':TypeId}{x y:Operand}{m k:Value}{r:ORes}(ho:o.op=.call {callee:=.builtin .delete,args:=#[x,y],argTypes:=#[t,t']})(hx:ev ts x=some m)(hy:ev ts y=some k)(h:opDelete T U t m k=some r):Sound P o ts U r:=by
 have hb:∀(consts:Array Bool) (as:Array Value),builtin .delete #[t,t'] o.type consts as=(do pure (.value (<-Builtin.delete_ #[t,t'] o.type as))):=λ_ _=>rfl
 unfold opDelete at h
 split at h
 ·rename_i kt et r' hu
  split at h
  ·rename_i es clock hg
   split at h
   ·rename_i hko
    have key:∀(ρ:Ren) (w:World) (a:Act),WR ρ U w.heap->VRL ρ ts a.tmps.toList->∃(l:Loc) (es':Array MapEntry),ρ r'=some l/\w.heap[l.block]?=some (.map es' clock)/\ME ρ es es'.toList/\a.eval x=.map (some l.block)/\a.eval y=k:=λρ w a hw hts=>by
     have hvx:=ev_VR hts hx
     have hke:=keyOk_VR hko (ev_VR hts hy)
     generalize he:a.eval x=xv at hvx
     cases hvx with
     |map hl=>
      rename_i l
      obtain⟨es',h1,h2⟩:=hw.obj r' l _ hl hg
      exact⟨l,es',hl,h1,h2,rfl,hke⟩
    have hlive:U.get r'≠none:=by rw[hg];simp
    split at h
    ·rename_i hf
     cases h
     refine⟨?_,logged_put _ _ _⟩
     intro ρ w a hw hts
     obtain⟨l,es',hl,h1,h2,e1,e2⟩:=key ρ w a hw hts
     obtain⟨r2,h3,h4⟩:=findKey_run hT hko w hf h2
     cases r2 with
     |some _=>exact h4.elim
     |none=>
      have hlt:l.block<w.heap.size:=(hw.dom r' l hl).2
      refine⟨ρ,.tuple #[],{w with heap:=w.heap.setIfInBounds l.block (.map es' clock)},.inl ?_,undef_VR ρ,Aft.put hw hl hlive (hw.nofix hl hg (by simp)) rfl rfl rfl rfl ⟨es',?_,h2⟩⟩
      ·refine exec_builtin ho λconsts=>?_
       rw[hb]
       have hget:(getObj l.block).run P w=.ok (.map es' clock) w:=by simp [getObj,Sem.run,h1]
       have hck:=checkKey_run (P:=P) hT hko es'.isEmpty w
       simp [Builtin.delete_,run_underlying (hT.und hu),e1,e2,hget,hck,h3,run_setObj_map h1]
      ·simp [hlt]
    ·rename_i j e hf
     cases h
     refine⟨?_,logged_put _ _ _⟩
     intro ρ w a hw hts
     obtain⟨l,es',hl,h1,h2,e1,e2⟩:=key ρ w a hw hts
     obtain⟨r2,h3,h4⟩:=findKey_run hT hko w hf h2
     cases r2 with
     |none=>exact h4.elim
     |some q=>
      obtain⟨j',u⟩:=q
      obtain⟨rfl,_,h5,e',h6,_,_⟩:=h4
      have hlt:l.block<w.heap.size:=(hw.dom r' l hl).2
      refine⟨ρ,.tuple #[],{w with heap:=w.heap.setIfInBounds l.block (.map (es'.eraseIdxIfInBounds j) clock)},.inl ?_,undef_VR ρ,Aft.put hw hl hlive (hw.nofix hl hg (by simp)) rfl rfl rfl rfl ⟨es'.eraseIdxIfInBounds j,?_,?_⟩⟩
      ·refine exec_builtin ho λconsts=>?_
       rw[hb]
       have hget:(getObj l.block).run P w=.ok (.map es' clock) w:=by simp [getObj,Sem.run,h1]
       have hck:=checkKey_run (P:=P) hT hko es'.isEmpty w
       simp [Builtin.delete_,run_underlying (hT.und hu),e1,e2,hget,hck,h3,run_setObj_map h1]
      ·simp [hlt]
      ·have:(es'.eraseIdxIfInBounds j).toList=es'.toList.eraseIdx j:=by
        unfold Array.eraseIdxIfInBounds
        split
        ·simp
        ·rw[List.eraseIdx_of_length_le (by simp;omega)]
       rw[this]
       exact ME.delE j h2
    ·cases h
   ·cases h
  ·cases h
 ·cases h
def atomA(k:IntKind)(v:Option Value)(f:Int->Option ORes):Option ORes:=
 match v with
 |some (.int k' n)=>if k=k' then f n else none
 |_=>none
theorem atomA_some{k:IntKind}{v:Option Value}{f:Int->Option ORes}{r:ORes}(h:atomA k v f=some r):∃n,v=some (.int k n)/\f n=some r:=by
 unfold atomA at h
 split at h
 ·split at h
  ·rename_i hk;subst hk;exact⟨_,rfl,h⟩
  ·cases h
 ·cases h
def extA(U:St):Option Ext->List Value->Option ORes
 |some .add64,[.int .u64 x,.int .u64 y,.int .u64 c]=>if 0<=x/\0<=y/\0<=c/\c<=1 then some (.val (.tuple ⟨[.int .u64 ((x+y+c) % 18446744073709551616),.int .u64 ((x+y+c) / 18446744073709551616)]⟩) []) else none
 |some .sub64,[.int .u64 x,.int .u64 y,.int .u64 b]=>if 0<=x/\0<=y/\0<=b/\b<=1/\y+b<=x+18446744073709551616 then some (.val (.tuple ⟨[.int .u64 ((x+18446744073709551616 - y - b) % 18446744073709551616),.int .u64 (if x<y+b then 1 else 0)]⟩) []) else none
 |some .clone,[.iface t (.map (some r))]=>match U.get r with
  |some (.map es clock)=>some (.new (.map es clock) (.iface t (.map (some U.next))) [r])
  |_=>none
 |some (.loadI k),[.pointer (some ⟨b,off,none⟩)]=>match U.get b with
  |some (.cells vs _)=>atomA k (lget? vs off) λn=>some (.val (.int k n) [b])
  |_=>none
 |some .storeI,[.pointer (some ⟨b,off,none⟩),.int k n]=>match U.get b with
  |some (.cells vs false)=>if off+1<=vs.length then some (.eff (.tuple ⟨[]⟩) (U.set b (.cells (over vs off [.int k n]) false)) [b]) else none
  |_=>none
 |some (.addI k),[.pointer (some ⟨b,off,none⟩),.int _ y]=>match U.get b with
  |some (.cells vs false)=>atomA k (lget? vs off) λn=>some (.eff (.int k (k.wrap (n+y))) (U.set b (.cells (over vs off [.int k (k.wrap (n+y))]) false)) [b])
  |_=>none
 |some (.casI k),[.pointer (some ⟨b,off,none⟩),.int _ x,.int k' y]=>match U.get b with
  |some (.cells vs false)=>atomA k (lget? vs off) λn=>if n=x then some (.eff (.bool true) (U.set b (.cells (over vs off [.int k' y]) false)) [b]) else none
  |_=>none
 |some (.raceN _),[]=>some (.val (.tuple ⟨[]⟩) [])
 |some (.raceA _),[.pointer (some ⟨_,_,none⟩)]=>some (.val (.tuple ⟨[]⟩) [])
 |_,_=>none
def opCall(T:TT)(bodies:FuncId->Bool)(U:St)(f:Value)(args:List Value):Option ORes:=
 match f with
 |.func (.func g) ⟨xs⟩ ⟨ys⟩=>if bodies g then some (.enter g (xs++args++ys)) else extA U (T.ext g) (xs++args++ys)
 |.func (.yield l) ⟨[]⟩ ⟨[]⟩=>some (.round l args)
 |_=>none
def HasBody(P : Program)(g : FuncId) : Prop := ∃ fn, P.funcs[g]? = some fn ∧ fn.body.isSome = true ∧ fn.name ≠ "runtime.NumGoroutine"
theorem callFunc_run{g:FuncId}(h:HasBody P g)(args:Array Value)(w:World):(callFunc g args).run P w=.ok (.enter g args) w:=by
 obtain⟨fn,h1,h2,h3⟩:=h
 have h2':fn.body.isNone=false:=by cases hb:fn.body with|none=>rw[hb]at h2;cases h2|some _=>rfl
 simp [callFunc,h1,h3,h2']
 intro hn;rw[hn]at h2;cases h2
theorem run_ext{g:FuncId}{x:Ext}(h:ExtIs P g x)(args:Array Value)(w:World):(callFunc g args).run P w=((x.row args).run P w).andThen λv w'=>.ok (.value v) w':=by
 obtain⟨fn,h1,h2,h3,h4,h5⟩:=h
 exact run_callFunc_extern h1 h2 h3 h4 h5 args w
theorem run_sub64Row(x y b:Int)(hx:0<=x)(hy:0<=y)(hb0:0<=b)(hb:b<=1)(hs:y+b<=x+18446744073709551616)(w:World):
  (sub64Row #[.int .u64 x,.int .u64 y,.int .u64 b]).run P w=
   .ok (.tuple #[.int .u64 ((x+18446744073709551616 - y - b) % 18446744073709551616),.int .u64 (if x<y+b then 1 else 0)]) w:=by
 have key:∀k:Nat,k<=1->(sub64Row #[.int .u64 x,.int .u64 y,.int .u64 (k:Int)]).run P w=
   .ok (Extern.MathBitsCarry.pair ((x.toNat+Extern.MathBitsCarry.m64 - y.toNat - k) % Extern.MathBitsCarry.m64) (if x.toNat<y.toNat+k then 1 else 0)) w:=by
  intro k hk
  have:k=0\/k=1:=by omega
  rcases this with rfl|rfl<;>rfl
 obtain⟨k,rfl⟩:=Int.eq_ofNat_of_zero_le hb0
 rw[key k (by omega)]
 obtain⟨X,rfl⟩:=Int.eq_ofNat_of_zero_le hx
 obtain⟨Y,rfl⟩:=Int.eq_ofNat_of_zero_le hy
 simp only[Extern.MathBitsCarry.pair,Extern.MathBitsCarry.m64,Int.toNat_natCast,Int.ofNat_eq_natCast]
 have e1:(((X+2 ^ 64 - Y - k) % 2 ^ 64:Nat):Int)=((X:Int)+18446744073709551616 - Y - k) % 18446744073709551616:=by omega
 have e2:(((if X<Y+k then 1 else 0):Nat):Int)=if(X:Int)<Y+k then 1 else 0:=by
  by_cases hc:X<Y+k
  ·rw[if_pos hc,if_pos (by omega)];rfl
  ·rw[if_neg hc,if_neg (by omega)];rfl
 rw[e1,e2]
theorem VRL.ints{ρ:Ren}{vs:List Value}(hp:plainL vs=true){ws:List Value}(h:VRL ρ vs ws)(he:∀v∈vs,∃k n,v=.int k n):ws=vs:=by
 induction vs generalizing ws with
 |nil=>cases h;rfl
 |cons v vs ih=>
  cases h with
  |cons h t=>
   obtain⟨k,n,rfl⟩:=he v (by simp)
   cases h
   rw[ih (by simpa [plainL,plain]using hp) t λv hv=>he v (by simp [hv])]
theorem run_read{k:IntKind}{n:Int}{w:World}{a:Addr}(h:w.cell? a=some (.int k n)):(Extern.Atomic.read (.int k) a).run P w=.ok (.int k n) w:=by
 simp [Extern.Atomic.read,load,Sem.run,h]
theorem run_storeAt{w:World}{a:Addr}{u v:Value}(m:Mode)(ha:a.spot=none)(h:w.cell? a=some u):(store a v m).run P w=(storeCells a [v]).run P w:=by
 obtain⟨b,o,s⟩:=a
 simp only at ha
 subst ha
 simp only[storeCells,Addr.add_lit,Nat.add_zero,store,Sem.run_bind]
 cases v<;>simp [Sem.run,h]<;>split<;>simp [Result.andThen]
theorem OR.cellAt{ρ:Ren}{l:Loc}{w:World}{vs:List Value}{ro:Bool}(h:OR ρ l w.heap (.cells vs ro)){off:Nat}{k:IntKind}{n:Int}(hv:lget? vs off=some (.int k n)):w.cell? ⟨l.block,l.off+off,none⟩=some (.int k n):=by
 obtain⟨cs,hcs,hc⟩:=h.cellsAt
 rw[lget?_eq]at hv
 obtain⟨u,h1,h2⟩:=hcs.get off hv
 cases h2
 exact hc w rfl off _ h1
theorem OR.anyCell{ρ:Ren}{l:Loc}{w:World}{vs:List Value}{ro:Bool}(h:OR ρ l w.heap (.cells vs ro)){off:Nat}(hv:off<vs.length):∃u,w.cell? ⟨l.block,l.off+off,none⟩=some u:=by
 obtain⟨cs,hcs,hc⟩:=h.cellsAt
 have hl:=hcs.length
 exact⟨_,hc w rfl off _ (List.getElem?_eq_getElem (by omega))⟩
theorem run_unviewed{ρ:Ren}{l:Loc}{w:World}{vs:List Value}(h:OR ρ l w.heap (.cells vs false))(off:Nat):(Extern.Atomic.touchesFrozen ⟨l.block,l.off+off,none⟩).run P w=.ok false w:=by
 obtain⟨c,e,fz,h1,h2,h3,h4,h6⟩:=h
 obtain rfl:=h4.1 rfl
 simp [Extern.Atomic.touchesFrozen,viewAt,shape,frozen,Sem.run,World.shape?,World.frozen?,h1]
theorem atom_eff{o:Oper}{ts:List Value}{U:St}{g:FuncId}{vs:List Value}{b off:Nat}{k:IntKind}{n:Int}{v:Value}{cs:List Value}{row:Array Value->Sem Value}
  (hE:∀(args:Array Value) (w:World),(callFunc g args).run P w=((row args).run P w).andThen λv w'=>.ok (.value v) w')
  (hg:U.get b=some (.cells cs false)) (hfit:off+1<=cs.length)
  (hrun:∀(ρ:Ren) (a:Act),VRL ρ ts a.tmps.toList->∃args':Array Value,(∀w:World,(execOp a.eval o).run P w=(callFunc g args').run P w)/\VRL ρ vs args'.toList)
  (hb:∀ρ,∀args':Array Value,VRL ρ vs args'.toList->∃l:Loc,ρ b=some l/\∀w:World,OR ρ l w.heap (.cells cs false)->(row args').run P w=((storeCells ⟨l.block,l.off+off,none⟩ [.int k n]).run P w).andThen λ_ w'=>.ok v w') (hpv:plain v=true):
  Sound P o ts U (.eff v (U.set b (.cells (over cs off [.int k n]) false)) [b]):=by
 refine⟨?_,logged_put _ _ _⟩
 intro ρ w a hw hts
 obtain⟨args',h1,h2⟩:=hrun ρ a hts
 obtain⟨l,hl,h3⟩:=hb ρ args' h2
 have hO:=hw.obj b l _ hl hg
 obtain⟨w',q1,q2,⟨o',q3⟩,q4,q5,q6⟩:=OR.over (P:=P) hO off [.int k n] [.int k n] (.cons (.int _ _) .nil) (by simpa using hfit) rfl
 refine⟨ρ,v,w',.inl ?_,plain_VR ρ _ hpv,Aft.put hw hl (by rw[hg];simp) (hw.nofix hl hg (by simp)) q3 q4 q5 q6 q2⟩
 rw[h1,hE,h3 w hO,q1]
 rfl
theorem load_is{t:Extern.Atomic.T}{p:Value}:Extern.Atomic.loadT t ⟨[p]⟩=(do Extern.Atomic.read t (<-asAddr p)):=rfl
theorem store_is{p v:Value}:Extern.Atomic.storeT ⟨[p,v]⟩=(do store (<-asAddr p) v .atomic;pure Extern.Atomic.none_):=rfl
theorem upd_is{op:IntKind->Int->Int->Sem Value}{k:IntKind}{b:Bool}{p y:Value}:Extern.Atomic.update op k b ⟨[p,y]⟩=(do
  let a <-asAddr p
  let old <-Extern.Atomic.read (.int k) a
  let new <-op k (<-asInt old) (<-asInt y)
  store a new .atomic
  pure (if b then new else old)):=rfl
theorem cas_run{a:Addr}{k k' kx:IntKind}{n x y:Int}{w:World}(hf:(Extern.Atomic.touchesFrozen a).run P w=.ok false w)(hr:(Extern.Atomic.read (.int k) a).run P w=.ok (.int k n) w)(hnx:n=x):
  (Extern.Atomic.casT (.int k) ⟨[.pointer (some a),.int kx x,.int k' y]⟩).run P w=((store a (.int k' y) .atomic).run P w).andThen λ_ w'=>.ok (.bool true) w':=by
 show Sem.run P (bind (asAddr (.pointer (some a))) _) w=_
 simp [asAddr,hf,hr,hnx,Array.getLit]
theorem lget?_lt{vs:List Value}{n:Nat}{v:Value}(h:lget? vs n=some v):n<vs.length:=by
 rw[lget?_eq]at h
 exact(List.getElem?_eq_some_iff.1 h).1
theorem extA_sound{T:TT}(hT:T.Ok P){o:Oper}{ts:List Value}{U:St}{g:FuncId}{vs:List Value}{r:ORes}(h:extA U (T.ext g) vs=some r)
  (hrun:∀(ρ:Ren) (a:Act),VRL ρ ts a.tmps.toList→∃args':Array Value,(∀w:World,(execOp a.eval o).run P w=(callFunc g args').run P w)∧VRL ρ vs args'.toList):Sound P o ts U r:=by
 cases hx:T.ext g with
 |none=>rw[hx]at h;simp [extA]at h
 |some x=>
  have hE:=hT.ext g x hx
  rw[hx]at h
  unfold extA at h
  split at h
  ·rename_i x y c he
   cases he
   split at h
   ·rename_i hc
    cases h
    intro ρ w a hts _
    obtain⟨args',h1,h2⟩:=hrun ρ a hts
    have:=VRL.ints rfl h2 (by simp)
    obtain rfl:args'=#[.int .u64 x,.int .u64 y,.int .u64 c]:=by cases args';simp_all
    refine⟨_,?_,plain_VR ρ _ rfl⟩
    rw[h1,run_ext hE]
    show((add64Entry _).run P w).andThen _=_
    rw[run_add64 x y c hc.1 hc.2.1 hc.2.2.1 hc.2.2.2]
    rfl
   ·cases h
  ·rename_i x y c he
   cases he
   split at h
   ·rename_i hc
    cases h
    intro ρ w a hts _
    obtain⟨args',h1,h2⟩:=hrun ρ a hts
    have:=VRL.ints rfl h2 (by simp)
    obtain rfl:args'=#[.int .u64 x,.int .u64 y,.int .u64 c]:=by cases args';simp_all
    refine⟨_,?_,plain_VR ρ _ rfl⟩
    rw[h1,run_ext hE]
    show((sub64Row _).run P w).andThen _=_
    rw[run_sub64Row x y c hc.1 hc.2.1 hc.2.2.1 hc.2.2.2.1 hc.2.2.2.2]
    rfl
   ·cases h
  ·rename_i t r₀ he
   cases he
   split at h
   ·rename_i es clock hg
    cases h
    intro ρ w a hts hrd
    obtain⟨args',h1,h2⟩:=hrun ρ a hts
    obtain⟨l,hl,rfl⟩:∃l:Loc,ρ r₀=some l∧args'=#[.iface t (.map (some l.block))]:=by
     obtain⟨as⟩:=args'
     cases h2 with
     |cons q1 q2=>
      cases q2
      cases q1 with
      |iface q=>cases q with|map q=>exact⟨_,q,rfl⟩
    obtain⟨es',g1,g2⟩:=hrd r₀ (by simp) l _ hl hg
    refine⟨.iface t (.map (some w.heap.size)),w.alloc (.map es' clock),.map es' clock,0,?_,rfl,rfl,rfl,rfl,fun ρ' hle hn=>⟨.iface (.map hn),⟨es',by show(w.heap.push _)[w.heap.size]?=_;simp,g2.mono hle⟩⟩⟩
    rw[h1,run_ext hE]
    have e:Ext.row .clone #[.iface t (.map (some l.block))]=(do
      let .map entries clock ← getObj l.block | stuck "maps.clone: a map expected"
      pure (.iface t (.map (some (←newObj (.map entries clock)))))):=rfl
    rw[e]
    simp [getObj,newObj,Sem.run,g1]
   ·cases h
  ·rename_i k b off he
   cases he
   split at h
   ·rename_i cs ro hg
    obtain⟨n,hn,h⟩:=atomA_some h
    cases h
    intro ρ w a hts hrd
    obtain⟨args',h1,h2⟩:=hrun ρ a hts
    obtain⟨l,hl,rfl⟩:∃l:Loc,ρ b=some l∧args'=#[.pointer (some ⟨l.block,l.off+off,none⟩)]:=by
     obtain⟨as⟩:=args'
     cases h2 with
     |cons q1 q2=>
      cases q2
      cases q1 with
      |ptr q=>exact⟨_,q,rfl⟩
    refine⟨_,?_,.int _ _⟩
    rw[h1,run_ext hE]
    show((Extern.Atomic.loadT (.int k) ⟨[.pointer (some ⟨l.block,l.off+off,none⟩)]⟩).run P w).andThen _=_
    rw[load_is]
    simp [asAddr,run_read ((hrd b (by simp) l _ hl hg).cellAt hn),Result.andThen]
   ·cases h
  ·rename_i b off k n he
   cases he
   split at h
   ·rename_i cs hg
    split at h
    ·rename_i hfit
     cases h
     refine atom_eff (row:=Ext.row .storeI) (run_ext hE) hg hfit hrun (fun ρ args' h2=>?_) rfl
     obtain⟨as⟩:=args'
     cases h2 with
     |cons q1 q2=>
      cases q2 with
      |cons q2 q3=>
       cases q3
       cases q2
       cases q1 with
       |ptr q=>
        refine⟨_,q,fun w hO=>?_⟩
        obtain⟨u,hu⟩:=hO.anyCell (off:=off) (by omega)
        rw[←run_storeAt .atomic rfl hu]
        rw[show Ext.row .storeI=Extern.Atomic.storeT from rfl,store_is]
        simp [asAddr,Extern.Atomic.none_]
    ·cases h
   ·cases h
  ·rename_i k b off k' y he
   cases he
   split at h
   ·rename_i cs hg
    obtain⟨n,hn,h⟩:=atomA_some h
    cases h
    refine atom_eff (row:=Ext.row (.addI k)) (run_ext hE) hg (lget?_lt hn) hrun (fun ρ args' h2=>?_) rfl
    obtain⟨as⟩:=args'
    cases h2 with
    |cons q1 q2=>
     cases q2 with
     |cons q2 q3=>
      cases q3
      cases q2
      cases q1 with
      |ptr q=>
       refine⟨_,q,fun w hO=>?_⟩
       have hu:=hO.cellAt hn
       rw[←run_storeAt .atomic rfl hu]
       rw[show Ext.row (.addI k)=Extern.Atomic.update (Op.intArith .add) k true from rfl,upd_is]
       simp [asAddr,run_read hu,Op.intArith,asInt,asIntOf]
   ·cases h
  ·rename_i k b off kx x k' y he
   cases he
   split at h
   ·rename_i cs hg
    obtain⟨n,hn,h⟩:=atomA_some h
    split at h
    ·rename_i hnx
     cases h
     refine atom_eff (row:=Ext.row (.casI k)) (run_ext hE) hg (lget?_lt hn) hrun (fun ρ args' h2=>?_) rfl
     obtain⟨as⟩:=args'
     cases h2 with
     |cons q1 q2=>
      cases q2 with
      |cons q2 q3=>
       cases q3 with
       |cons q3 q4=>
        cases q4
        cases q3
        cases q2
        cases q1 with
        |ptr q=>
         refine⟨_,q,fun w hO=>?_⟩
         have hu:=hO.cellAt hn
         rw[←run_storeAt .atomic rfl hu]
         rw[show Ext.row (.casI k)=Extern.Atomic.casT (.int k) from rfl]
         exact cas_run (run_unviewed hO off) (run_read hu) hnx
    ·cases h
   ·cases h
  ·rename_i m he
   cases he
   cases h
   intro ρ w a hts _
   obtain⟨args',h1,h2⟩:=hrun ρ a hts
   refine⟨.tuple #[],?_,.tuple .nil⟩
   rw[h1,run_ext hE]
   show((mark m >>= fun _=>pure Extern.Race.none_:Sem Value).run P w).andThen _=_
   simp [mark,Sem.run,Extern.Race.none_]
  ·rename_i m b off he
   cases he
   cases h
   intro ρ w a hts _
   obtain⟨args',h1,h2⟩:=hrun ρ a hts
   obtain⟨l,rfl⟩:∃l:Loc,args'=#[.pointer (some ⟨l.block,l.off+off,none⟩)]:=by
    obtain⟨as⟩:=args'
    cases h2 with
    |cons q1 q2=>
     cases q2
     cases q1 with
     |ptr q=>exact⟨_,rfl⟩
   refine⟨.tuple #[],?_,.tuple .nil⟩
   rw[h1,run_ext hE]
   show((Extern.Race.marked m #[.pointer (some ⟨l.block,l.off+off,none⟩)]).run P w).andThen _=_
   simp [Extern.Race.marked,Extern.Race.at_,mark,Sem.run,Extern.Race.none_]
  ·cases h
theorem call_sound{T:TT}(hT:T.Ok P){bodies:FuncId->Bool}(hB:∀g,bodies g=true->HasBody P g){o:Oper}{ts:List Value}{U:St}{f:Operand}{xs:Array Operand}{tys:Array TypeId}{fv:Value}{vs:List Value}{r:ORes}
  (ho:o.op=.call {callee:=.value f,args:=xs,argTypes:=tys}) (hf:ev ts f=some fv) (hxs:evs ts xs.toList=some vs) (h:opCall T bodies U fv vs=some r):Sound P o ts U r:=by
 have hargs:∀a:Act,xs.map a.eval=⟨xs.toList.map a.eval⟩:=λa=>by apply Array.ext';simp
 unfold opCall at h
 split at h
 ·rename_i g us ys
  split at h
  ·rename_i hbd
   cases h
   intro ρ w a hts
   have hfv:=ev_VR hts hf
   have hvs:=evs_VR hts hxs
   generalize he:a.eval f=fv' at hfv
   cases hfv with
   |func h1 h2=>
    rename_i us' ys'
    refine⟨⟨us'⟩++⟨xs.toList.map a.eval⟩++⟨ys'⟩,?_,?_⟩
    ·simp only[execOp,ho,resolve,he,Deferred.ofValue,Sem.run_bind,Sem.run_pure,Result.andThen_ok,invoke,hargs]
     rw[callFunc_run (hB g hbd)]
    ·simpa using(h1.append hvs).append h2
  ·refine extA_sound hT h λρ a hts=>?_
   have hfv:=ev_VR hts hf
   have hvs:=evs_VR hts hxs
   generalize he:a.eval f=fv' at hfv
   cases hfv with
   |func h1 h2=>
    rename_i us' ys'
    refine⟨⟨us'⟩++⟨xs.toList.map a.eval⟩++⟨ys'⟩,λw=>?_,?_⟩
    ·simp only[execOp,ho,resolve,he,Deferred.ofValue,Sem.run_bind,Sem.run_pure,Result.andThen_ok,invoke,hargs]
    ·simpa using(h1.append hvs).append h2
 ·rename_i l
  cases h
  intro ρ w a hts
  have hfv:=ev_VR hts hf
  have hvs:=evs_VR hts hxs
  generalize he:a.eval f=fv' at hfv
  cases hfv with
  |yield hl=>
   rename_i lc
   refine⟨_,lc,⟨xs.toList.map a.eval⟩,ho,hl,?_,hvs⟩
   simp only[execOp,ho,resolve,he,Deferred.ofValue,Sem.run_bind,Sem.run_pure,Result.andThen_ok,invoke,hargs]
   simp
 ·cases h
def opPanic(v:Value):Option ORes:=
 match v with
 |.iface t u=>some (.panic (.iface t u))
 |_=>none
theorem panic_sound{o:Oper}{ts:List Value}{U:St}{x:Operand}{v:Value}{r:ORes}(ho:o.op=.panic x)(hx:ev ts x=some v)(h:opPanic v=some r):Sound P o ts U r:=by
 unfold opPanic at h
 split at h
 ·cases h
  intro ρ w a hts
  have hv:=ev_VR hts hx
  generalize he:a.eval x=xv at hv
  cases hv with
  |iface hv=>
   exact⟨_,by simp [execOp,ho,he,Instr.panic],.iface hv⟩
 ·cases h
def opDefer(bodies:FuncId->Bool)(f:Value)(args:List Value):Option ORes:=
 match f with
 |.func (.func g) ⟨xs⟩ ⟨ys⟩=>if bodies g then some (.defer {target:=.fn (.func g) ⟨ys⟩,args:=⟨xs++args⟩}) else none
 |_=>none
theorem defer_sound{bodies:FuncId->Bool}{o:Oper}{ts:List Value}{U:St}{f:Operand}{xs:Array Operand}{tys:Array TypeId}{fv:Value}{vs:List Value}{r:ORes}
  (ho:o.op=.defer {callee:=.value f,args:=xs,argTypes:=tys}) (hf:ev ts f=some fv) (hxs:evs ts xs.toList=some vs) (h:opDefer bodies fv vs=some r):Sound P o ts U r:=by
 have hargs:∀a:Act,xs.map a.eval=⟨xs.toList.map a.eval⟩:=λa=>by apply Array.ext';simp
 unfold opDefer at h
 split at h
 ·rename_i g us ys
  split at h
  ·cases h
   intro ρ w a hts
   have hfv:=ev_VR hts hf
   have hvs:=evs_VR hts hxs
   generalize he:a.eval f=fv' at hfv
   cases hfv with
   |func h1 h2=>
    rename_i us' ys'
    refine⟨_,{target:=.fn (.func g) ⟨ys'⟩,args:=⟨us'⟩++⟨xs.toList.map a.eval⟩},ho,?_,.inl ⟨g,⟨ys⟩,⟨ys'⟩,rfl,rfl,h2,?_⟩⟩
    ·simp only[resolve,he,Deferred.ofValue,Sem.run_pure,hargs]
    ·simpa using h1.append hvs
  ·cases h
 ·cases h
theorem recover_sound{o:Oper}{ts:List Value}{U:St}{tys:Array TypeId}(ho:o.op=.call {callee:=.builtin .recover,args:=#[],argTypes:=tys}):Sound P o ts U .recover:=by
 intro w a
 simp [execOp,ho,resolve,invoke,builtin]
end Go.Ab
namespace Go.Ab
variable {P:Program} {T:TT}
def opRange(T:TT)(U:St)(t:TypeId)(v:Value):Option ORes:=
 match T.und t,v with
 |some (.map _ _),.map none=>some (.new (.mapIter none 0 #[] 0) (.pointer (some ⟨U.next,0,none⟩)) [])
 |some (.map _ _),.map (some r)=>match U.get r with
  |some (.map _ clock)=>some (.new (.mapIter (some r) clock #[] clock) (.pointer (some ⟨U.next,0,none⟩)) [r])
  |_=>none
 |some .string,.string s=>some (.new (.stringIter s 0) (.pointer (some ⟨U.next,0,none⟩)) [])
 |_,_=>none
theorem range_sound(hT:T.Ok P){o:Oper}{ts:List Value}{U:St}{t:TypeId}{x:Operand}{v:Value}{r:ORes}(ho:o.op=.range t x)(hx:ev ts x=some v)(h:opRange T U t v=some r):Sound P o ts U r:=by
 unfold opRange at h
 split at h
 ·rename_i k e hu
  cases h
  intro ρ w a hts _
  have hv:=ev_VR hts hx
  generalize he:a.eval x=xv at hv
  cases hv
  exact⟨_,w.alloc (.mapIter none 0 #[] 0),.mapIter none 0 #[] 0,0,by simp [execOp,ho,he,Instr.range,run_underlying (hT.und hu)],rfl,rfl,rfl,rfl,λρ' hle hn=>⟨.ptr hn,rfl,none,heap_alloc_new w _,.mapNil⟩⟩
 ·rename_i k e r₀ hu
  split at h
  ·rename_i es clock hg
   cases h
   intro ρ w a hts hrd
   have hv:=ev_VR hts hx
   generalize he:a.eval x=xv at hv
   cases hv with
   |map hl=>
    rename_i l
    obtain⟨es',h1,h2⟩:=hrd r₀ (by simp) l _ hl hg
    exact⟨_,w.alloc (.mapIter (some l.block) clock #[] clock),.mapIter (some l.block) clock #[] clock,0,by simp [execOp,ho,he,Instr.range,run_underlying (hT.und hu),MapKept.run_getObj_map h1],rfl,rfl,rfl,rfl,λρ' hle hn=>⟨.ptr hn,rfl,some l.block,heap_alloc_new w _,.map (hle _ _ hl)⟩⟩
  ·cases h
 ·rename_i s hu
  cases h
  intro ρ w a hts _
  have hv:=ev_VR hts hx
  generalize he:a.eval x=xv at hv
  cases hv
  exact⟨_,w.alloc (.stringIter s 0),.stringIter s 0,0,by simp [execOp,ho,he,Instr.range,run_underlying (hT.und hu)],rfl,rfl,rfl,rfl,λρ' hle hn=>⟨.ptr hn,rfl,heap_alloc_new w _⟩⟩
 ·cases h
def hasN:List Nat->Nat->Bool
 |[],_=>false
 |x :: xs,n=>Nat.beq n x || hasN xs n
def leftE(seen:List Nat):List MapEntry->List MapEntry
 |[]=>[]
 |e :: es=>match hasN seen e.born with
  |true=>leftE seen es
  |false=>e :: leftE seen es
def oneLeft(since:Nat):List MapEntry->Option (Option MapEntry)
 |[]=>some none
 |[e]=>match Nat.blt e.born since with
  |true=>some (some e)
  |false=>none
 |_=>none
def elderE(last:Nat):List MapEntry->Bool
 |[]=>true
 |e :: es=>Nat.ble last e.born&&elderE last es
def nextMap(U:St)(b m:Nat)(since:Nat)(seen:List Nat)(last:Nat)(es:List MapEntry)(clock:Nat):Option ORes:=
 match !seen.isEmpty&&!es.isEmpty&&elderE last es,oneLeft since (leftE seen es) with
 |false,some none=>some (.val (.tuple ⟨[.bool false]⟩) [b,m])
 |false,some (some e)=>some (.eff (.tuple ⟨[.bool true,e.key,e.val]⟩) (U.set b (.mapIter (some m) since ⟨seen++[e.born]⟩ clock)) [b])
 |_,_=>none
def opNext(U:St)(isString:Bool)(v:Value):Option ORes:=
 match v with
 |.pointer (some ⟨b,0,none⟩)=>match U.get b,isString with
  |some (.mapIter none _ _ _),false=>some (.val (.tuple ⟨[.bool false]⟩) [b])
  |some (.mapIter (some m) since ⟨seen⟩ last),false=>match U.get m with
   |some (.map es clock)=>nextMap U b m since seen last es clock
   |_=>none
  |some (.stringIter s pos),true=>
   if pos<s.size then some (.eff (.tuple ⟨[.bool true,goInt pos,.int .i32 (Utf8.decode s pos).1]⟩) (U.set b (.stringIter s (pos+(Utf8.decode s pos).2))) [b])
   else some (.val (.tuple ⟨[.bool false]⟩) [b])
  |_,_=>none
 |_=>none
def findE(stamp:Nat):List MapEntry->Option MapEntry
 |[]=>none
 |e :: es=>match Nat.beq e.born stamp with
  |true=>some e
  |false=>findE stamp es
def lastN:List Nat->Option Nat
 |[]=>none
 |[x]=>some x
 |_ :: xs=>lastN xs
def opEntry(U:St)(v:Value):Option ORes:=
 match v with
 |.pointer (some ⟨b,0,none⟩)=>match U.get b with
  |some (.mapIter (some m) _ ⟨seen⟩ stepped)=>match lastN seen,U.get m with
   |some stamp,some (.map es clock)=>match Nat.beq clock stepped,findE stamp es with
    |true,some e=>some (.val (.tuple ⟨[e.key,e.val]⟩) [b,m])
    |_,_=>none
   |_,_=>none
  |_=>none
 |_=>none
theorem nbeq_is{a b:Nat}:Nat.beq a b=(a==b):=by rw[Bool.eq_iff_iff,Nat.beq_eq,beq_iff_eq]
theorem hasN_eq:∀(seen:List Nat) (n:Nat),hasN seen n=seen.contains n
 |[],_=>rfl
 |x :: xs,n=>by
  rw[hasN,List.contains_cons,hasN_eq xs n,nbeq_is]
theorem ME.elder{ρ:Ren}{last:Nat}:∀{a b:List MapEntry},ME ρ a b->elderE last a=b.all (λx=>decide (x.born>=last))
 |[],[],_=>rfl
 |x :: a,y :: b,h=>by
  rw[elderE,List.all_cons,ME.elder h.2,h.1.2.2]
  congr 1
  rw[Bool.eq_iff_iff]
  simp [Nat.ble_eq]
 |[],_ :: _,h=>h.elim
 |_ :: _,[],h=>h.elim
theorem ME.left{ρ:Ren}{seen:List Nat}:∀{a b:List MapEntry},ME ρ a b->ME ρ (leftE seen a) (b.filter λe=>!seen.contains e.born)
 |[],[],_=>trivial
 |x :: a,y :: b,h=>by
  rw[leftE,hasN_eq,h.1.2.2,List.filter_cons]
  cases hc:seen.contains y.born with
  |true=>simpa using ME.left h.2
  |false=>exact⟨h.1,ME.left h.2⟩
 |[],_ :: _,h=>h.elim
 |_ :: _,[],h=>h.elim
theorem ME.isEmpty{ρ:Ren}:∀{a b:List MapEntry},ME ρ a b->a.isEmpty=b.isEmpty
 |[],[],_=>rfl
 |_ :: _,_ :: _,_=>rfl
 |[],_ :: _,h=>h.elim
 |_ :: _,[],h=>h.elim
theorem oneLeft_none{since:Nat}:∀{l:List MapEntry},oneLeft since l=some none->l=[]
 |[],_=>rfl
 |[e],h=>by
  simp only[oneLeft]at h
  split at h<;>cases h
 |_ :: _ :: _,h=>by simp [oneLeft]at h
theorem oneLeft_some{since:Nat}{e:MapEntry}:∀{l:List MapEntry},oneLeft since l=some (some e)->l=[e]/\e.born<since
 |[],h=>by simp [oneLeft]at h
 |[x],h=>by
  simp only[oneLeft]at h
  split at h
  ·rename_i hb
   cases h
   exact⟨rfl,by simpa [Nat.blt_eq]using hb⟩
  ·cases h
 |_ :: _ :: _,h=>by simp [oneLeft]at h
theorem run_next_none{w:World}{r bm since last clock:Nat}{seen:Array Nat}{es:Array MapEntry}{ty:TypeId}{sel:Option Nat}(hr:w.heap[r]?=some (.mapIter (some bm) since seen last))(hb:w.heap[bm]?=some (.map es clock))
  (ht:(!seen.isEmpty&&!es.isEmpty&&es.all (λx=>decide (x.born>=last)))=false) (hl:es.filter (λe=>!seen.contains e.born)=#[]):
  (Instr.next (.pointer (some ⟨r,0,sel⟩)) false ty).run P w=.ok (.tuple #[.bool false]) w:=by
 simp only[Instr.next,getObj,Sem.run_bind,Sem.run,hr,hb,Result.andThen,ht,hl,Bool.false_eq_true,if_false]
 simp [choose,Sem.run,Question.forced]
theorem run_next_one{w:World}{r bm since last clock:Nat}{seen:Array Nat}{es:Array MapEntry}{ty:TypeId}{sel:Option Nat}{e:MapEntry}(hr:w.heap[r]?=some (.mapIter (some bm) since seen last))(hb:w.heap[bm]?=some (.map es clock))
  (ht:(!seen.isEmpty&&!es.isEmpty&&es.all (λx=>decide (x.born>=last)))=false) (hl:es.filter (λe=>!seen.contains e.born)=#[e]) (he:e.born<since):
  (Instr.next (.pointer (some ⟨r,0,sel⟩)) false ty).run P w=.ok (.tuple #[.bool true,e.key,e.val]) {w with heap:=w.heap.setIfInBounds r (.mapIter (some bm) since (seen.push e.born) clock)}:=by
 have h2:¬e.born>=since:=by omega
 simp only[Instr.next,getObj,Sem.run_bind,Sem.run,hr,hb,Result.andThen,ht,hl,Bool.false_eq_true,if_false]
 simp [choose,Sem.run,Question.forced,he,h2,setObj,hr]
theorem next_sound{o:Oper}{ts:List Value}{U:St}{it:Operand}{isS:Bool}{v:Value}{r:ORes}(ho:o.op=.next it isS)(hx:ev ts it=some v)(h:opNext U isS v=some r):Sound P o ts U r:=by
 unfold opNext at h
 split at h
 ·rename_i b
  split at h
  ·rename_i since seen stepped hg
   cases h
   intro ρ w a hts hrd
   have hv:=ev_VR hts hx
   generalize he:a.eval it=xv at hv
   cases hv with
   |ptr hl=>
    rename_i l
    obtain⟨h0,m',h1,h2⟩:=hrd b (by simp) l _ hl hg
    cases h2
    refine⟨_,?_,.tuple (.cons (.bool _) .nil)⟩
    have hget:(getObj l.block).run P w=.ok (.mapIter none since seen stepped) w:=by simp [getObj,Sem.run,h1]
    simp [execOp,ho,he,Instr.next,h0,hget]
  ·rename_i m since seen last hg
   split at h
   ·rename_i es clock hm
    have key:∀(ρ:Ren) (w:World) (a:Act),VRL ρ ts a.tmps.toList->Reads ρ U w.heap [b,m]->∃(l lm:Loc) (es':Array MapEntry),ρ b=some l/\ρ m=some lm/\a.eval it=.pointer (some ⟨l.block,0,none⟩)/\w.heap[l.block]?=some (.mapIter (some lm.block) since ⟨seen⟩ last)/\w.heap[lm.block]?=some (.map es' clock)/\ME ρ es es'.toList:=λρ w a hts hrd=>by
     have hv:=ev_VR hts hx
     generalize he:a.eval it=xv at hv
     cases hv with
     |ptr hl=>
      rename_i l
      obtain⟨h0,m',h1,h2⟩:=hrd b (by simp) l _ hl hg
      cases h2 with
      |map hlm=>
       rename_i lm
       obtain⟨es',h3,h4⟩:=hrd m (by simp) lm _ hlm hm
       refine⟨l,lm,es',hl,hlm,?_,h1,h3,h4⟩
       simp [h0]
    unfold nextMap at h
    split at h
    ·rename_i ht hone
     cases h
     intro ρ w a hts hrd
     obtain⟨l,lm,es',hl,hlm,he,h1,h3,h4⟩:=key ρ w a hts hrd
     have hz:=oneLeft_none hone
     have hL:=ME.left (seen:=seen) h4
     rw[hz]at hL
     have hf:es'.filter (λe=>!(⟨seen⟩:Array Nat).contains e.born)=#[]:=by
      apply Array.toList_inj.1
      rw[Array.toList_filter]
      cases hc:List.filter (λe=>!(seen.contains e.born)) es'.toList with
      |nil=>simpa using hc
      |cons y ys=>rw[hc]at hL;exact hL.elim
     have ht':(!(⟨seen⟩:Array Nat).isEmpty&&!es'.isEmpty&&es'.all (λx=>decide (x.born>=last)))=false:=by
      rw[ME.elder h4,ME.isEmpty h4]at ht
      rw[<-ht]
      congr 1
      ·congr 1
       ·congr 1
        cases seen<;>rfl
       ·congr 1
        obtain⟨es'⟩:=es'
        cases es'<;>rfl
      ·simp
     exact⟨_,by simp [execOp,ho,he,run_next_none h1 h3 ht' hf],.tuple (.cons (.bool _) .nil)⟩
    ·rename_i e ht hone
     cases h
     refine⟨?_,logged_put _ _ _⟩
     intro ρ w a hw hts
     obtain⟨l,lm,es',hl,hlm,he,h1,h3,h4⟩:=key ρ w a hts (hw.reads _)
     obtain⟨hz,hb⟩:=oneLeft_some hone
     have hL:=ME.left (seen:=seen) h4
     rw[hz]at hL
     obtain⟨e',hf,hk,hvv,hbn⟩:∃e',es'.filter (λe=>!(⟨seen⟩:Array Nat).contains e.born)=#[e']/\VR ρ e.key e'.key/\VR ρ e.val e'.val/\e.born=e'.born:=by
      cases hc:List.filter (λe=>!(seen.contains e.born)) es'.toList with
      |nil=>rw[hc]at hL;exact hL.elim
      |cons y ys=>
       rw[hc]at hL
       cases ys with
       |cons _ _=>exact hL.2.elim
       |nil=>
        refine⟨y,?_,hL.1⟩
        apply Array.toList_inj.1
        rw[Array.toList_filter]
        simpa using hc
     have ht':(!(⟨seen⟩:Array Nat).isEmpty&&!es'.isEmpty&&es'.all (λx=>decide (x.born>=last)))=false:=by
      rw[ME.elder h4,ME.isEmpty h4]at ht
      rw[<-ht]
      congr 1
      ·congr 1
       ·congr 1
        cases seen<;>rfl
       ·congr 1
        obtain⟨es'⟩:=es'
        cases es'<;>rfl
      ·simp
     have hlive:U.get b≠none:=by rw[hg];simp
     have hlt:l.block<w.heap.size:=(hw.dom b l hl).2
     have h0:l.off=0:=(hw.obj b l _ hl hg).1
     refine⟨ρ,_,{w with heap:=w.heap.setIfInBounds l.block (.mapIter (some lm.block) since ((⟨seen⟩:Array Nat).push e'.born) clock)},.inl (by simp [execOp,ho,he,run_next_one h1 h3 ht' hf (by omega)]),.tuple (.cons (.bool _) (.cons hk (.cons hvv .nil))),Aft.put hw hl hlive (hw.nofix hl hg (by simp)) rfl rfl rfl rfl ⟨h0,some lm.block,?_,.map hlm⟩⟩
     rw[hbn]
     simp [hlt]
    ·cases h
   ·cases h
  ·rename_i s pos hg
   split at h
   ·rename_i hp
    cases h
    refine⟨?_,logged_put _ _ _⟩
    intro ρ w a hw hts
    have hv:=ev_VR hts hx
    generalize he:a.eval it=xv at hv
    cases hv with
    |ptr hl=>
     rename_i l
     obtain⟨h0,h1⟩:=hw.obj b l _ hl hg
     have hlive:U.get b≠none:=by rw[hg];simp
     have hlt:l.block<w.heap.size:=(hw.dom b l hl).2
     have hget:(getObj l.block).run P w=.ok (.stringIter s pos) w:=by simp [getObj,Sem.run,h1]
     refine⟨ρ,_,{w with heap:=w.heap.setIfInBounds l.block (.stringIter s (pos+(Utf8.decode s pos).2))},.inl (by simp [execOp,ho,he,Instr.next,h0,hget,hp,setObj,Sem.run,h1,goInt]),.tuple (.cons (.bool _) (.cons (.int _ _) (.cons (.int _ _) .nil))),Aft.put hw hl hlive (hw.nofix hl hg (by simp)) rfl rfl rfl rfl ⟨h0,by simp [hlt]⟩⟩
   ·rename_i hp
    cases h
    intro ρ w a hts hrd
    have hv:=ev_VR hts hx
    generalize he:a.eval it=xv at hv
    cases hv with
    |ptr hl=>
     rename_i l
     obtain⟨h0,h1⟩:=hrd b (by simp) l _ hl hg
     have hget:(getObj l.block).run P w=.ok (.stringIter s pos) w:=by simp [getObj,Sem.run,h1]
     exact⟨_,by simp [execOp,ho,he,Instr.next,h0,hget,hp],.tuple (.cons (.bool _) .nil)⟩
  ·cases h
 ·cases h
theorem nbeq'{a b:Nat}(h:Nat.beq a b=true):a=b:=Nat.eq_of_beq_eq_true h
theorem lastN_eq:∀l:List Nat,lastN l=l.getLast?
 |[]=>rfl
 |[x]=>rfl
 |x :: y :: l=>by rw[lastN,lastN_eq (y :: l),List.getLast?_cons_cons];intro h;cases h
theorem ME.find{ρ:Ren}{stamp:Nat}{e:MapEntry}:∀{a b:List MapEntry},ME ρ a b->findE stamp a=some e->∃e',b.find? (λx=>x.born==stamp)=some e'/\VR ρ e.key e'.key/\VR ρ e.val e'.val
 |[],[],_,h=>by cases h
 |x :: a,y :: b,h,hf=>by
  rw[findE]at hf
  have hb:Nat.beq x.born stamp=(y.born==stamp):=by rw[h.1.2.2];exact nbeq_is
  rw[hb]at hf
  rw[List.find?_cons]
  split at hf
  ·rename_i hq
   cases hf
   rw[hq]
   exact⟨y,rfl,h.1.1,h.1.2.1⟩
  ·rename_i hq
   rw[hq]
   exact ME.find h.2 hf
 |[],_ :: _,h,_=>h.elim
 |_ :: _,[],h,_=>h.elim
theorem entry_sound{o:Oper}{ts:List Value}{U:St}{it:Operand}{v:Value}{r:ORes}(ho:o.op=.entry it)(hx:ev ts it=some v)(h:opEntry U v=some r):Sound P o ts U r:=by
 unfold opEntry at h
 split at h
 ·rename_i b
  split at h
  ·rename_i m since seen stepped hg
   split at h
   ·rename_i stamp es clock hl hm
    split at h
    ·rename_i e hc hf
     cases h
     intro ρ w a hts hrd
     have hv:=ev_VR hts hx
     generalize he:a.eval it=xv at hv
     cases hv with
     |ptr hl'=>
      rename_i l
      obtain⟨h0,m',h1,h2⟩:=hrd b (by simp) l _ hl' hg
      cases h2 with
      |map hlm=>
       rename_i lm
       obtain⟨es',h3,h4⟩:=hrd m (by simp) lm _ hlm hm
       obtain⟨e',h5,h6,h7⟩:=h4.find hf
       refine⟨.tuple ⟨[e'.key,e'.val]⟩,?_,.tuple (.cons h6 (.cons h7 .nil))⟩
       have hget:(getObj l.block).run P w=.ok (.mapIter (some lm.block) since ⟨seen⟩ stepped) w:=by simp [getObj,Sem.run,h1]
       have hget2:(getObj lm.block).run P w=.ok (.map es' clock) w:=by simp [getObj,Sem.run,h3]
       have hback:(⟨seen⟩:Array Nat).back?=some stamp:=by
        rw[lastN_eq]at hl
        simpa [List.getLast?_eq_getElem?,Array.back?]using hl
       have hcs:clock=stepped:=nbeq' hc
       have hfind:es'.find? (λx=>x.born==stamp)=some e':=by
        rw[<-Array.find?_toList];exact h5
       simp [execOp,ho,he,Instr.entry,h0,hget,hget2,hback,hcs,hfind]
    ·cases h
   ·cases h
  ·cases h
 ·cases h
end Go.Ab
namespace Go.Ab
variable {P:Program} {T:TT}
def isMapD:TypeDesc->Bool
 |.map _ _=>true
 |_=>false
def stepBuiltin(T:TT)(o:Oper)(b:Builtin)(xs:List Operand)(tys:List TypeId)(ts:List Value)(U:St):Option ORes:=
 match b,xs,tys with
 |.len,[x],[t]=>match ev ts x with|some v=>opLen T U t v|none=>none
 |.cap,[x],[t]=>match ev ts x with|some v=>opCap T t v|none=>none
 |.append,[x,y],[t,t']=>match ev ts x,ev ts y with|some u,some v=>opAppend T U t t' u v|_,_=>none
 |.copy,[x,y],[t,_]=>match ev ts x,ev ts y with|some u,some v=>opCopy T U t u v|_,_=>none
 |.delete,[x,y],[t,_]=>match ev ts x,ev ts y with|some u,some v=>opDelete T U t u v|_,_=>none
 |.max,[x,y],_=>match ev ts x,ev ts y with|some u,some v=>opMax u v|_,_=>none
 |.min,[x,y],_=>match ev ts x,ev ts y with|some u,some v=>opMin u v|_,_=>none
 |.recover,[],_=>some .recover
 |_,_,_=>none
def stepOp(T:TT)(bodies:FuncId->Bool)(o:Oper)(ts:List Value)(U:St):Option ORes:=
 match o.op with
 |.move x|.assign x=>match ev ts x with|some v=>some (.val v [])|none=>none
 |.pick c x y=>match ev ts c,ev ts x,ev ts y with|some cv,some u,some v=>opPick cv u v|_,_,_=>none
 |.alloc t=>opAlloc T U t
 |.box _ x=>match ev ts x with|some v=>opBox U v|none=>none
 |.build t ps=>match partsA ts ps.toList with|some ps=>opBuild T t ps|none=>none
 |.buildSlice t n ps=>match partsA ts ps.toList with|some ps=>opBuildSlice T U t n ps|none=>none
 |.load t x=>match ev ts x with|some v=>opLoad T U t v|none=>none
 |.store t x y=>match ev ts x,ev ts y with|some u,some v=>opStore T U t u v|_,_=>none
 |.nilCheck x=>match ev ts x with|some v=>opNilCheck v|none=>none
 |.binOp op t x y _=>match ev ts x,ev ts y with|some u,some v=>opBin T op t u v|_,_=>none
 |.unOp op _ x=>match ev ts x with|some v=>opUn op v|none=>none
 |.convert s d x=>match ev ts x with|some (.pointer q)=>opConvP T U s d (.pointer q)|some v=>opConvert T s d v|none=>none
 |.makeInterface t x=>match ev ts x with|some v=>opMakeIface T t v|none=>none
 |.makeFunc fn xs ys=>match evs ts xs.toList,evs ts ys.toList with|some us,some vs=>opMakeFunc fn us vs|_,_=>none
 |.makeMap t r=>match T.und t,evo ts r with|some d,some v=>if isMapD d then opMakeMap U v else none|_,_=>none
 |.makeSlice t x y=>match ev ts x,ev ts y with|some u,some v=>opMakeSlice T U t u v|_,_=>none
 |.slice t x lo hi mx=>match ev ts x,evo ts lo,evo ts hi,evo ts mx with|some v,some l,some h,some m=>opSlice T t v l h m|_,_,_,_=>none
 |.fieldAddr t x k=>match ev ts x with|some v=>opFieldAddr T t k v|none=>none
 |.field t x k=>match ev ts x with|some v=>opField T t k v|none=>none
 |.indexAddr t x y=>match ev ts x,ev ts y with|some u,some v=>opIndexAddr T t u v|_,_=>none
 |.index t x y=>match ev ts x,ev ts y with|some u,some v=>opIndex T t u v|_,_=>none
 |.lookup t x y ok=>match ev ts x,ev ts y with|some u,some v=>opLookup T U t ok u v|_,_=>none
 |.mapUpdate t x y z|.insert t x y z=>match ev ts x,ev ts y,ev ts z with|some m,some k,some v=>opMapUpdate T U t m k v|_,_,_=>none
 |.typeAssert x _ u ok=>match ev ts x with|some v=>opTypeAssert T u ok v|none=>none
 |.extract x k=>match ev ts x with|some v=>opExtract k v|none=>none
 |.call c=>match c.callee with
  |.builtin b=>stepBuiltin T o b c.args.toList c.argTypes.toList ts U
  |.value f=>match ev ts f,evs ts c.args.toList with|some fv,some vs=>opCall T bodies U fv vs|_,_=>none
  |.invoke _ _=>none
 |.defer c=>match c.callee with
  |.value f=>match ev ts f,evs ts c.args.toList with|some fv,some vs=>opDefer bodies fv vs|_,_=>none
  |_=>none
 |.panic x=>match ev ts x with|some v=>opPanic v|none=>none
 |.range t x=>match ev ts x with|some v=>opRange T U t v|none=>none
 |.next x s=>match ev ts x with|some v=>opNext U s v|none=>none
 |.entry x=>match ev ts x with|some v=>opEntry U v|none=>none
 |_=>none
theorem stepBuiltin_sound(hT:T.Ok P){o:Oper}{b:Builtin}{c:Call}{ts:List Value}{U:St}{r:ORes}(ho:o.op=.call c)(hb:c.callee=.builtin b)(h:stepBuiltin T o b c.args.toList c.argTypes.toList ts U=some r):Sound P o ts U r:=by
 obtain⟨callee,args,tys⟩:=c
 obtain⟨args⟩:=args
 obtain⟨tys⟩:=tys
 simp only at hb
 subst hb
 unfold stepBuiltin at h
 simp only at h
 split at h
 ·split at h
  ·rename_i hx;exact len_sound hT ho hx h
  ·cases h
 ·split at h
  ·rename_i hx;exact cap_sound hT ho hx h
  ·cases h
 ·split at h
  ·rename_i hx hy;exact append_sound hT ho hx hy h
  ·cases h
 ·split at h
  ·rename_i hx hy;exact copy_sound hT ho hx hy h
  ·cases h
 ·split at h
  ·rename_i hx hy;exact delete_sound hT ho hx hy h
  ·cases h
 ·split at h
  ·rename_i hx hy;exact max_sound ho hx hy h
  ·cases h
 ·split at h
  ·rename_i hx hy;exact min_sound ho hx hy h
  ·cases h
 ·cases h;exact recover_sound ho
 ·cases h
theorem stepOp_sound(hT:T.Ok P){bodies:FuncId->Bool}(hB:∀g,bodies g=true->HasBody P g){o:Oper}{ts:List Value}{U:St}{r:ORes}(h:stepOp T bodies o ts U=some r):Sound P o ts U r:=by
 unfold stepOp at h
 split at h
 ·rename_i x ho
  split at h
  ·rename_i hx;cases h;exact move_sound (.inl ho) hx
  ·cases h
 ·rename_i x ho
  split at h
  ·rename_i hx;cases h;exact move_sound (.inr ho) hx
  ·cases h
 ·rename_i ho
  split at h
  ·rename_i hc hx hy;exact pick_sound ho hc hx hy h
  ·cases h
 ·rename_i ho;exact alloc_sound hT ho h
 ·rename_i ho
  split at h
  ·rename_i hx;exact box_sound ho hx h
  ·cases h
 ·rename_i ho
  split at h
  ·rename_i hx;exact build_sound hT ho hx h
  ·cases h
 ·rename_i ho
  split at h
  ·rename_i hx;exact buildSlice_sound hT ho hx h
  ·cases h
 ·rename_i ho
  split at h
  ·rename_i hx;exact load_sound hT ho hx h
  ·cases h
 ·rename_i ho
  split at h
  ·rename_i hx hy;exact store_sound hT ho hx hy h
  ·cases h
 ·rename_i ho
  split at h
  ·rename_i hx;exact nilCheck_sound ho hx h
  ·cases h
 ·rename_i ho
  split at h
  ·rename_i hx hy;exact bin_sound hT ho hx hy h
  ·cases h
 ·rename_i ho
  split at h
  ·rename_i hx;exact un_sound ho hx h
  ·cases h
 ·rename_i ho
  split at h
  ·rename_i hx;exact convP_sound hT ho hx h
  ·rename_i hx;exact convert_sound hT ho hx h
  ·cases h
 ·rename_i ho
  split at h
  ·rename_i hx;exact makeIface_sound hT ho hx h
  ·cases h
 ·rename_i ho
  split at h
  ·rename_i hx hy;exact makeFunc_sound ho hx hy h
  ·cases h
 ·rename_i ho
  split at h
  ·rename_i d v hu hx
   split at h
   ·rename_i hd
    refine makeMap_sound ho ?_ hx h
    cases d<;>first
     |exact⟨_,_,hT.und hu⟩
     |(simp [isMapD]at hd)
   ·cases h
  ·cases h
 ·rename_i ho
  split at h
  ·rename_i hx hy;exact makeSlice_sound hT ho hx hy h
  ·cases h
 ·rename_i ho
  split at h
  ·rename_i hx h1 h2 h3;exact slice_sound hT ho hx h1 h2 h3 h
  ·cases h
 ·rename_i ho
  split at h
  ·rename_i hx;exact fieldAddr_sound hT ho hx h
  ·cases h
 ·rename_i ho
  split at h
  ·rename_i hx;exact field_sound hT ho hx h
  ·cases h
 ·rename_i ho
  split at h
  ·rename_i hx hy;exact indexAddr_sound hT ho hx hy h
  ·cases h
 ·rename_i ho
  split at h
  ·rename_i hx hy;exact index_sound hT ho hx hy h
  ·cases h
 ·rename_i ho
  split at h
  ·rename_i hx hy;exact lookup_sound hT ho hx hy h
  ·cases h
 ·rename_i ho
  split at h
  ·rename_i hx hy hz;exact mapUpdate_sound hT (.inl ho) hx hy hz h
  ·cases h
 ·rename_i ho
  split at h
  ·rename_i hx hy hz;exact mapUpdate_sound hT (.inr ho) hx hy hz h
  ·cases h
 ·rename_i ho
  split at h
  ·rename_i hx;exact typeAssert_sound hT ho hx h
  ·cases h
 ·rename_i ho
  split at h
  ·rename_i hx;exact extract_sound ho hx h
  ·cases h
 ·rename_i c ho
  split at h
  ·rename_i hb;exact stepBuiltin_sound hT ho hb h
  ·rename_i f hf
   split at h
   ·rename_i hx hy
    obtain⟨callee,args,tys⟩:=c
    simp only at hf
    subst hf
    exact call_sound hT hB ho hx hy h
   ·cases h
  ·cases h
 ·rename_i c ho
  split at h
  ·rename_i f hf
   split at h
   ·rename_i hx hy
    obtain⟨callee,args,tys⟩:=c
    simp only at hf
    subst hf
    exact defer_sound ho hx hy h
   ·cases h
  ·cases h
 ·rename_i ho
  split at h
  ·rename_i hx;exact panic_sound ho hx h
  ·cases h
 ·rename_i ho
  split at h
  ·rename_i hx;exact range_sound hT ho hx h
  ·cases h
 ·rename_i ho
  split at h
  ·rename_i hx;exact next_sound ho hx h
  ·cases h
 ·rename_i ho
  split at h
  ·rename_i hx;exact entry_sound ho hx h
  ·cases h
 ·cases h
end Go.Ab
