/- PortWorksSaid: part 3 of 8 of the proof that it returns true for every input and leaves its arguments as they were; no condition. -/
import Derived.Test.YtphmndfjmoacfaaGreatJPortWorksSaid1
import Derived.Test.YtphmndfjmoacfaaGreatProg
import Derived.KernelRfl
import Derived.Laws.BitsLemmas
import Derived.Laws.Bits64
import Derived.DataShut
import Init
set_option maxHeartbeats 6400000
set_option maxRecDepth 20000
set_option linter.unusedSimpArgs false
set_option linter.unusedVariables false
namespace Go.Ab
variable {P:Program}
def shapeFields(P:Program)(S:TypeId→Option (List CK)):List Field→Nat→Option (List CK)
 |[],_=>some []
 |f :: fs,off=>
  if f.name == "_" || f.offset != off then none else
  match S f.type,P.info? f.type with
  |some sh,some i=>if i.size=sh.length then(match shapeFields P S fs (off+sh.length) with|some r=>some (sh++r)|none=>none) else none
  |_,_=>none
def repShape(sh:List CK):Nat->List CK
 |0=>[]
 |n+1=>sh++repShape sh n
def shapeOf(P:Program):Nat->TypeId->Option (List CK)
 |0,_=>none
 |n+1,t=>match P.underlying t with
  |some (.int _)=>some [.int]
  |some .bool=>some [.bool]
  |some .string=>some [.string]
  |some (.struct fs)=>if P.stoodInHeld t then none else shapeFields P (shapeOf P n) fs.toList 0
  |some (.array len e)=>match shapeOf P n e,P.info? e with
   |some sh,some i=>if i.size=sh.length then some (repShape sh len) else none
   |_,_=>none
  |_=>none
theorem eqCells_append:∀{s₁ s₂:List CK} {X Y:List Value} {r:Bool},eqCells (s₁++s₂) X Y=some r->
  (eqCells s₁ (X.take s₁.length) (Y.take s₁.length)=some false/\r=false)\/
  (eqCells s₁ (X.take s₁.length) (Y.take s₁.length)=some true/\eqCells s₂ (X.drop s₁.length) (Y.drop s₁.length)=some r)
 |[],s₂,X,Y,r,h=>.inr ⟨by simp [eqCells],by simpa using h⟩
 |k :: s₁,s₂,X,Y,r,h=>by
  cases X with
  |nil=>cases k<;>simp [eqCells]at h
  |cons x X=>
   cases Y with
   |nil=>cases k<;>cases x<;>simp [eqCells]at h
   |cons y Y=>
    simp only[List.length_cons,List.take_succ_cons,List.drop_succ_cons,List.cons_append]at h ⊢
    cases k<;>cases x<;>cases y<;>simp only[eqCells]at h ⊢<;>try (cases h;done)
    ·split at h
     ·rename_i hk
      rw[if_pos hk]
      split at h
      ·rename_i he;rw[if_pos he];exact eqCells_append h
      ·rename_i he;rw[if_neg he];cases h;exact .inl ⟨rfl,rfl⟩
     ·cases h
    ·split at h
     ·rename_i he;rw[if_pos he];exact eqCells_append h
     ·rename_i he;rw[if_neg he];cases h;exact .inl ⟨rfl,rfl⟩
    ·split at h
     ·rename_i he;rw[if_pos he];exact eqCells_append h
     ·rename_i he;rw[if_neg he];cases h;exact .inl ⟨rfl,rfl⟩
theorem inShape_append:∀{s₁ s₂:List CK} {X:List Value},inShape (s₁++s₂) X=true->inShape s₁ (X.take s₁.length)=true/\inShape s₂ (X.drop s₁.length)=true
 |[],s₂,X,h=>⟨by simp [inShape],by simpa using h⟩
 |k :: s₁,s₂,X,h=>by
  cases X with
  |nil=>cases k<;>simp [inShape]at h
  |cons x X=>
   simp only[List.length_cons,List.take_succ_cons,List.drop_succ_cons,List.cons_append]at h ⊢
   cases k<;>cases x<;>simp only[inShape]at h ⊢<;>first|(cases h;done)|exact inShape_append h
def CellsOf(P:Program)(t:TypeId)(v:Value)(xs:List Value):Prop:=
 ∃d,P.underlying t=some d/\((isAggD d=true/\v=.agg ⟨xs⟩)\/(isAggD d=false/\xs=[v]))
theorem run_part{t:TypeId}{i:TypeInfo}{sh:List CK}{n:Nat}(hs:shapeOf P n t=some sh)(hi:P.info? t=some i)(hsz:i.size=sh.length)(cs:List Value)(off:Nat)(w:World)
  (hne:isAggD ((P.underlying t).getD default)=false->(cs.drop off).take sh.length≠[]):
  ∃v,(part t ⟨cs⟩ off).run P w=.ok v w/\CellsOf P t v ((cs.drop off).take sh.length):=by
 cases n with
 |zero=>cases hs
 |succ n=>
  simp only[shapeOf]at hs
  cases hu:P.underlying t with
  |none=>rw[hu]at hs;cases hs
  |some d=>
   rw[hu]at hs hne
   unfold part
   cases ha:isAggD d with
   |true=>
    refine⟨.agg ⟨(cs.drop off).take sh.length⟩,?_,d,hu,.inl ⟨ha,rfl⟩⟩
    simp only[Sem.run_bind,run_isAgg hu,ha,Result.andThen_ok,if_true,run_sizeOf hi,hsz]
    simp [List.extract_eq_take_drop,List.take_drop]
   |false=>
    have h1:sh.length=1:=by
     cases d<;>simp [isAggD]at ha<;>simp at hs<;>(try (cases hs;rfl))
    have h2:=hne (by simpa using ha)
    rw[h1]at h2 ⊢
    cases hx:cs[off]? with
    |none=>
     rw[List.drop_eq_nil_of_le (by simpa using hx)]at h2
     simp at h2
    |some v=>
     have e:(cs.drop off).take 1=[v]:=by
      obtain⟨hlt,hv⟩:=List.getElem?_eq_some_iff.1 hx
      rw[List.drop_eq_getElem_cons hlt,hv];rfl
     refine⟨v,?_,d,hu,.inr ⟨ha,e⟩⟩
     simp [run_isAgg hu,ha,hx]
def EqT(P:Program)(d:Nat)(t:TypeId)(sh:List CK):Prop:=
 ∀(u v:Value) (xs ys:List Value) (r:Bool) (w:World),CellsOf P t u xs->CellsOf P t v ys->eqCells sh xs ys=some r->(Op.equalIn d t u v).run P w=.ok r w
theorem ne_nil_of_eqCells{sh:List CK}{xs ys:List Value}{r:Bool}(h:eqCells sh xs ys=some r)(hs:sh≠[]):xs≠[]/\ys≠[]:=by
 cases sh with
 |nil=>exact absurd rfl hs
 |cons k sh=>
  cases xs with
  |nil=>cases k<;>simp [eqCells]at h
  |cons x xs=>cases ys with
   |nil=>cases k<;>cases x<;>simp [eqCells]at h
   |cons y ys=>exact⟨by simp,by simp⟩
theorem shape_ne{n:Nat}{t:TypeId}{sh:List CK}(hs:shapeOf P n t=some sh)(ha:isAggD ((P.underlying t).getD default)=false):sh≠[]:=by
 cases n with
 |zero=>cases hs
 |succ n=>
  simp only[shapeOf]at hs
  cases hu:P.underlying t with
  |none=>rw[hu]at hs;cases hs
  |some d=>
   rw[hu]at hs ha
   cases d<;>simp [isAggD]at ha<;>simp at hs<;>(try (cases hs;simp))
theorem fields_eq{n d:Nat}(ih:∀t sh,shapeOf P n t=some sh->EqT P d t sh){xs ys:List Value}:∀(fs:List Field) (off:Nat) (sh:List CK) (r:Bool) (w:World),shapeFields P (shapeOf P n) fs off=some sh->eqCells sh (xs.drop off) (ys.drop off)=some r->
  (Op.eqFields d ⟨xs⟩ ⟨ys⟩ fs).run P w=.ok r w
 |[],off,sh,r,w,hs,h=>by
  simp only[shapeFields,Option.some.injEq]at hs
  subst hs
  have:r=true:=by
   cases hx:xs.drop off<;>cases hy:ys.drop off<;>rw[hx,hy]at h<;>simp [eqCells]at h
   first|exact h|exact h.symm
  subst this
  simp [Op.eqFields]
 |f :: fs,off,sh,r,w,hs,h=>by
  simp only[shapeFields]at hs
  split at hs
  ·cases hs
  ·rename_i hf
   simp only[Bool.or_eq_true,not_or,bne_iff_ne,ne_eq,Decidable.not_not,beq_iff_eq]at hf
   obtain⟨hn,ho⟩:=hf
   split at hs
   ·rename_i sh₁ i h1 hi
    split at hs
    ·rename_i hsz
     split at hs
     ·rename_i sh₂ h2
      cases hs
      have ap:=eqCells_append h
      have ne:isAggD ((P.underlying f.type).getD default)=false->(xs.drop off).take sh₁.length≠[]/\(ys.drop off).take sh₁.length≠[]:=λha=>by
       have hne:=shape_ne h1 ha
       rcases ap with⟨a,_⟩|⟨a,_⟩<;>exact ne_nil_of_eqCells a hne
      obtain⟨u,hu1,hu2⟩:=run_part h1 hi hsz xs off w λha=>(ne ha).1
      obtain⟨v,hv1,hv2⟩:=run_part h1 hi hsz ys off w λha=>(ne ha).2
      simp only[Op.eqFields,ne_eq,hn,not_false_eq_true,if_true,Sem.run_bind,ho,hu1,hv1,Result.andThen_ok]
      rcases ap with⟨a,rfl⟩|⟨a,b⟩
      ·rw[ih _ _ h1 u v _ _ _ w hu2 hv2 a]
       simp
      ·rw[ih _ _ h1 u v _ _ _ w hu2 hv2 a]
       simp only[Result.andThen_ok,Bool.not_true,Bool.false_eq_true,if_false]
       refine fields_eq ih fs _ _ r w h2 ?_
       rw[<-List.drop_drop,<-List.drop_drop];exact b
     ·cases hs
    ·cases hs
   ·cases hs
theorem loop_eq{n d:Nat}{e:TypeId}{i:TypeInfo}{sh:List CK}(h1:shapeOf P n e=some sh)(hi:P.info? e=some i)(hsz:i.size=sh.length)(ih:EqT P d e sh){xs ys:List Value}:∀(m k:Nat) (r:Bool) (w:World),eqCells (repShape sh m) (xs.drop (k*sh.length)) (ys.drop (k*sh.length))=some r->
  (forIn (List.range' k m) ((none,()):Option Bool×Unit) λi _=>do
   let a <-part e ⟨xs⟩ (i*sh.length)
   let b <-part e ⟨ys⟩ (i*sh.length)
   let c <-Op.equalIn d e a b
   if(!c)=true then pure (ForInStep.done (some false,())) else pure (ForInStep.yield (none,()))).run P w=.ok ((if r then none else some false),()) w
 |0,k,r,w,h=>by
  have:r=true:=by
   simp only[repShape]at h
   cases hx:xs.drop (k*sh.length)<;>cases hy:ys.drop (k*sh.length)<;>rw[hx,hy]at h<;>simp [eqCells]at h
   first|exact h|exact h.symm
  subst this
  simp
 |m+1,k,r,w,h=>by
  simp only[repShape]at h
  have ap:=eqCells_append h
  have ne:isAggD ((P.underlying e).getD default)=false->(xs.drop (k*sh.length)).take sh.length≠[]/\(ys.drop (k*sh.length)).take sh.length≠[]:=λha=>by
   have hne:=shape_ne h1 ha
   rcases ap with⟨a,_⟩|⟨a,_⟩<;>exact ne_nil_of_eqCells a hne
  obtain⟨u,hu1,hu2⟩:=run_part h1 hi hsz xs (k*sh.length) w λha=>(ne ha).1
  obtain⟨v,hv1,hv2⟩:=run_part h1 hi hsz ys (k*sh.length) w λha=>(ne ha).2
  rw[List.range'_succ,List.forIn_cons]
  simp only[Sem.run_bind,hu1,hv1,Result.andThen_ok]
  rcases ap with⟨a,rfl⟩|⟨a,b⟩
  ·rw[ih u v _ _ _ w hu2 hv2 a]
   simp
  ·rw[ih u v _ _ _ w hu2 hv2 a]
   simp only[Result.andThen_ok,Bool.not_true,Bool.false_eq_true,if_false,Sem.run_pure]
   refine loop_eq h1 hi hsz ih m (k+1) r w ?_
   rw[Nat.add_mul,Nat.one_mul,<-List.drop_drop,<-List.drop_drop];exact b
theorem eq_shape:∀(n d:Nat) (t:TypeId) (sh:List CK),n<=d->shapeOf P n t=some sh->EqT P d t sh:=by
 intro n
 induction n with
 |zero=>intro d t sh _ h;cases h
 |succ n ih=>
  intro d t sh hd hs u v xs ys r w hu hv he
  obtain⟨d,rfl⟩:∃k,d=k+1:=⟨d - 1,by omega⟩
  have hs0:=hs
  simp only[shapeOf]at hs
  obtain⟨td,hut,hu⟩:=hu
  obtain⟨td',hvt,hv⟩:=hv
  rw[hut]at hvt;cases hvt
  rw[hut]at hs
  have scalar:∀k,sh=[k]->isAggD td=false->xs=[u]/\ys=[v]:=λk _ ha=>by
   rcases hu with⟨h,_⟩|⟨_,h⟩
   ·rw[ha]at h;cases h
   ·rcases hv with⟨h',_⟩|⟨_,h'⟩
    ·rw[ha]at h';cases h'
    ·exact⟨h,h'⟩
  have aggr:isAggD td=true->u=.agg ⟨xs⟩/\v=.agg ⟨ys⟩:=λha=>by
   rcases hu with⟨_,h⟩|⟨h,_⟩
   ·rcases hv with⟨_,h'⟩|⟨h',_⟩
    ·exact⟨h,h'⟩
    ·rw[ha]at h';cases h'
   ·rw[ha]at h;cases h
  cases td with
  |int k=>
   simp only[Option.some.injEq]at hs;subst hs
   obtain⟨rfl,rfl⟩:=scalar _ rfl rfl
   cases u<;>cases v<;>simp only[eqCells]at he<;>try (cases he;done)
   split at he
   ·rename_i hk;subst hk
    rw[run_equalIn_int w d t _ _ _ _ hut]
    split at he
    ·rename_i h;rw[h];cases he;rfl
    ·rename_i h;simp only[Bool.not_eq_true]at h;rw[h];cases he;rfl
   ·cases he
  |bool=>
   simp only[Option.some.injEq]at hs;subst hs
   obtain⟨rfl,rfl⟩:=scalar _ rfl rfl
   cases u<;>cases v<;>simp only[eqCells]at he<;>try (cases he;done)
   rw[run_equalIn_bool' w d t _ _ hut]
   split at he
   ·rename_i h;rw[h];cases he;rfl
   ·rename_i h;simp only[Bool.not_eq_true]at h;rw[h];cases he;rfl
  |string=>
   simp only[Option.some.injEq]at hs;subst hs
   obtain⟨rfl,rfl⟩:=scalar _ rfl rfl
   cases u<;>cases v<;>simp only[eqCells]at he<;>try (cases he;done)
   rw[run_equalIn_string w d t _ _ hut]
   split at he
   ·rename_i h;rw[h];cases he;rfl
   ·rename_i h;simp only[Bool.not_eq_true]at h;rw[h];cases he;rfl
  |struct fs=>
   simp only at hs
   split at hs
   ·cases hs
   ·rename_i hp
    obtain⟨rfl,rfl⟩:=aggr rfl
    have hf:P.fieldsOf t=fs:=by unfold Program.fieldsOf;rw[hut]
    rw[run_equalIn_struct w d t _ _ (by rw[hf];exact hut) (by simpa using hp),hf]
    exact fields_eq (λt sh h=>ih d t sh (by omega) h) fs.toList 0 sh r w hs (by simpa using he)
  |array len e=>
   simp only at hs
   split at hs
   ·rename_i sh₁ i h1 hi
    split at hs
    ·rename_i hsz
     cases hs
     obtain⟨rfl,rfl⟩:=aggr rfl
     simp only[Op.equalIn,Sem.run_bind,run_underlying hut,Result.andThen_ok,run_sizeOf hi,hsz]
     rw[Std.Legacy.Range.forIn_eq_forIn_range']
     have:=loop_eq h1 hi hsz (ih d e sh₁ (by omega) h1) (xs:=xs) (ys:=ys) len 0 r w (by simpa using he)
     have hr:(Std.Legacy.Range.size [:len])=len:=by simp [Std.Legacy.Range.size]
     rw[hr]
     simp only at this ⊢
     rw[this]
     cases r<;>simp
    ·cases hs
   ·cases hs
  |_=>simp at hs
def KeyT(P:Program)(emp:Bool)(d:Nat)(t:TypeId)(sh:List CK):Prop:=
 ∀(u:Value) (xs:List Value) (w:World),CellsOf P t u xs->inShape sh xs=true->(Instr.checkKey emp d t u).run P w=.ok () w
theorem ne_nil_of_inShape{sh:List CK}{xs:List Value}(h:inShape sh xs=true)(hs:sh≠[]):xs≠[]:=by
 cases sh with
 |nil=>exact absurd rfl hs
 |cons k sh=>cases xs with
  |nil=>cases k<;>simp [inShape]at h
  |cons x xs=>simp
theorem fields_key{emp:Bool}{n d:Nat}(ih:∀t sh,shapeOf P n t=some sh→KeyT P emp d t sh){xs:List Value}:∀(fs:List Field) (off:Nat) (sh:List CK) (w:World),shapeFields P (shapeOf P n) fs off=some sh→inShape sh (xs.drop off)=true→
  (forIn fs () fun (f : Field) _ => if f.name ≠ "_" then do
    let a ←part f.type ⟨xs⟩ f.offset
    Instr.checkKey emp d f.type a
    pure (ForInStep.yield ())
   else pure (ForInStep.yield ())).run P w=.ok () w
 |[],off,sh,w,hs,h=>by simp
 |f :: fs,off,sh,w,hs,h=>by
  simp only[shapeFields]at hs
  split at hs
  ·cases hs
  ·rename_i hf
   simp only[Bool.or_eq_true,not_or,bne_iff_ne,ne_eq,Decidable.not_not,beq_iff_eq]at hf
   obtain⟨hn,ho⟩:=hf
   split at hs
   ·rename_i sh₁ i h1 hi
    split at hs
    ·rename_i hsz
     split at hs
     ·rename_i sh₂ h2
      cases hs
      have ap:=inShape_append h
      obtain⟨u,hu1,hu2⟩:=run_part h1 hi hsz xs off w fun ha=>ne_nil_of_inShape ap.1 (shape_ne h1 ha)
      rw[List.forIn_cons]
      simp only[ne_eq,hn,not_false_eq_true,if_true,Sem.run_bind,ho,hu1,Result.andThen_ok,ih _ _ h1 u _ w hu2 ap.1,Sem.run_pure]
      refine fields_key ih fs _ _ w h2 ?_
      rw[←List.drop_drop];exact ap.2
     ·cases hs
    ·cases hs
   ·cases hs
theorem loop_key{emp:Bool}{n d:Nat}{e:TypeId}{i:TypeInfo}{sh:List CK}(h1:shapeOf P n e=some sh)(hi:P.info? e=some i)(hsz:i.size=sh.length)(ih:KeyT P emp d e sh){xs:List Value}:∀(m k:Nat) (w:World),inShape (repShape sh m) (xs.drop (k*sh.length))=true->
  (forIn (List.range' k m) () λi _=>do
   let n <-sizeOf e
   let a <-part e ⟨xs⟩ (i*n)
   Instr.checkKey emp d e a
   pure (ForInStep.yield ())).run P w=.ok () w
 |0,k,w,h=>by simp
 |m+1,k,w,h=>by
  simp only[repShape]at h
  have ap:=inShape_append h
  obtain⟨u,hu1,hu2⟩:=run_part h1 hi hsz xs (k*sh.length) w λha=>ne_nil_of_inShape ap.1 (shape_ne h1 ha)
  rw[List.range'_succ,List.forIn_cons]
  simp only[Sem.run_bind,run_sizeOf hi,hsz,hu1,Result.andThen_ok,ih u _ w hu2 ap.1,Sem.run_pure]
  refine loop_key h1 hi hsz ih m (k+1) w ?_
  rw[Nat.add_mul,Nat.one_mul,<-List.drop_drop];exact ap.2
theorem key_shape{emp:Bool}:∀(n d:Nat) (t:TypeId) (sh:List CK),n<=d->shapeOf P n t=some sh->KeyT P emp d t sh:=by
 intro n
 induction n with
 |zero=>intro d t sh _ h;cases h
 |succ n ih=>
  intro d t sh hd hs u xs w hu he
  obtain⟨d,rfl⟩:∃k,d=k+1:=⟨d - 1,by omega⟩
  simp only[shapeOf]at hs
  obtain⟨td,hut,hu⟩:=hu
  rw[hut]at hs
  have aggr:isAggD td=true->u=.agg ⟨xs⟩:=λha=>by
   rcases hu with⟨_,h⟩|⟨h,_⟩
   ·exact h
   ·rw[ha]at h;cases h
  cases td with
  |int k=>simp [Instr.checkKey,run_underlying hut]
  |bool=>simp [Instr.checkKey,run_underlying hut]
  |string=>simp [Instr.checkKey,run_underlying hut]
  |struct fs=>
   simp only at hs
   split at hs
   ·cases hs
   ·obtain rfl:=aggr rfl
    simp only[Instr.checkKey,Sem.run_bind,run_underlying hut,Result.andThen_ok]
    rw[<-Array.forIn_toList]
    have:=fields_key (λt sh h=>ih d t sh (by omega) h) fs.toList 0 sh w hs (emp:=emp) (xs:=xs) (by simpa using he)
    exact(congrArg (λr:Result Unit=>r.andThen λ_ w'=>Sem.run P (pure ()) w') this).trans rfl
  |array len e=>
   simp only at hs
   split at hs
   ·rename_i sh₁ i h1 hi
    split at hs
    ·rename_i hsz
     cases hs
     obtain rfl:=aggr rfl
     simp only[Instr.checkKey,Sem.run_bind,run_underlying hut,Result.andThen_ok]
     rw[Std.Legacy.Range.forIn_eq_forIn_range']
     have:=loop_key h1 hi hsz (ih d e sh₁ (by omega) h1) (emp:=emp) (xs:=xs) len 0 w (by simpa using he)
     have hr:(Std.Legacy.Range.size [:len])=len:=by simp [Std.Legacy.Range.size]
     rw[hr]
     exact(congrArg (λr:Result Unit=>r.andThen λ_ w'=>Sem.run P (pure ()) w') this).trans rfl
    ·cases hs
   ·cases hs
  |_=>simp at hs
def flats(P:Program)(t:TypeId):Option (List CK):=
 match P.underlying t with
 |some d=>if isAggB d&&!P.eqGuardType P.depth t then shapeOf P 50 t else none
 |none=>none
theorem flats_ok (t : TypeId) (sh : List CK) (h : flats P t = some sh) : FlatEq P t sh := by
  unfold flats at h
  split at h
  · rename_i d hd
    split at h
    · rename_i hc
      simp only [Bool.and_eq_true, Bool.not_eq_true'] at hc
      have hag : isAggD d = true := by cases d <;> simp [isAggB] at hc <;> rfl
      exact { guard := hc.2
              eq := fun xs ys r w he => eq_shape 50 Op.maxDepth t sh (by decide) h _ _ xs ys r w ⟨d, hd, .inl ⟨hag, rfl⟩⟩ ⟨d, hd, .inl ⟨hag, rfl⟩⟩ he
              key := fun e xs w hs => key_shape 50 10000 t sh (by decide) h _ xs w ⟨d, hd, .inl ⟨hag, rfl⟩⟩ hs
              desc := ⟨d, hd, hc.1⟩ }
    · cases h
  · cases h
abbrev cP(P:Program):Cx:=cx P (flats P)
theorem cP_ok:(cP P).Ok P:=cx_ok flats_ok
end Go.Ab
namespace Go.Ab
open Go.Proofs
theorem info0:Tryz.prog.info? 0=some Tryz.t0:=by kernel_rfl
theorem info1:Tryz.prog.info? 1=some Tryz.t1:=by kernel_rfl
theorem info2:Tryz.prog.info? 2=some Tryz.t2:=by kernel_rfl
theorem info3:Tryz.prog.info? 3=some Tryz.t3:=by kernel_rfl
theorem info4:Tryz.prog.info? 4=some Tryz.t4:=by kernel_rfl
theorem info5:Tryz.prog.info? 5=some Tryz.t5:=by kernel_rfl
theorem info6:Tryz.prog.info? 6=some Tryz.t6:=by kernel_rfl
theorem info7:Tryz.prog.info? 7=some Tryz.t7:=by kernel_rfl
theorem info8:Tryz.prog.info? 8=some Tryz.t8:=by kernel_rfl
theorem info9:Tryz.prog.info? 9=some Tryz.t9:=by kernel_rfl
theorem info10:Tryz.prog.info? 10=some Tryz.t10:=by kernel_rfl
theorem info11:Tryz.prog.info? 11=some Tryz.t11:=by kernel_rfl
theorem info12:Tryz.prog.info? 12=some Tryz.t12:=by kernel_rfl
theorem info13:Tryz.prog.info? 13=some Tryz.t13:=by kernel_rfl
theorem info14:Tryz.prog.info? 14=some Tryz.t14:=by kernel_rfl
theorem info15:Tryz.prog.info? 15=some Tryz.t15:=by kernel_rfl
theorem info16:Tryz.prog.info? 16=some Tryz.t16:=by kernel_rfl
theorem info17:Tryz.prog.info? 17=some Tryz.t17:=by kernel_rfl
theorem info18:Tryz.prog.info? 18=some Tryz.t18:=by kernel_rfl
theorem info19:Tryz.prog.info? 19=some Tryz.t19:=by kernel_rfl
theorem info20:Tryz.prog.info? 20=some Tryz.t20:=by kernel_rfl
theorem info21:Tryz.prog.info? 21=some Tryz.t21:=by kernel_rfl
theorem info22:Tryz.prog.info? 22=some Tryz.t22:=by kernel_rfl
theorem info23:Tryz.prog.info? 23=some Tryz.t23:=by kernel_rfl
theorem info24:Tryz.prog.info? 24=some Tryz.t24:=by kernel_rfl
theorem info25:Tryz.prog.info? 25=some Tryz.t25:=by kernel_rfl
theorem info26:Tryz.prog.info? 26=some Tryz.t26:=by kernel_rfl
theorem info27:Tryz.prog.info? 27=some Tryz.t27:=by kernel_rfl
theorem info28:Tryz.prog.info? 28=some Tryz.t28:=by kernel_rfl
theorem info29:Tryz.prog.info? 29=some Tryz.t29:=by kernel_rfl
theorem info32:Tryz.prog.info? 32=some Tryz.t32:=by kernel_rfl
theorem info33:Tryz.prog.info? 33=some Tryz.t33:=by kernel_rfl
theorem info37:Tryz.prog.info? 37=some Tryz.t37:=by kernel_rfl
theorem info38:Tryz.prog.info? 38=some Tryz.t38:=by kernel_rfl
theorem info39:Tryz.prog.info? 39=some Tryz.t39:=by kernel_rfl
theorem info40:Tryz.prog.info? 40=some Tryz.t40:=by kernel_rfl
theorem info41:Tryz.prog.info? 41=some Tryz.t41:=by kernel_rfl
theorem info45:Tryz.prog.info? 45=some Tryz.t45:=by kernel_rfl
theorem info46:Tryz.prog.info? 46=some Tryz.t46:=by kernel_rfl
theorem info47:Tryz.prog.info? 47=some Tryz.t47:=by kernel_rfl
theorem info48:Tryz.prog.info? 48=some Tryz.t48:=by kernel_rfl
theorem info52:Tryz.prog.info? 52=some Tryz.t52:=by kernel_rfl
theorem info53:Tryz.prog.info? 53=some Tryz.t53:=by kernel_rfl
theorem info59:Tryz.prog.info? 59=some Tryz.t59:=by kernel_rfl
theorem info60:Tryz.prog.info? 60=some Tryz.t60:=by kernel_rfl
theorem info62:Tryz.prog.info? 62=some Tryz.t62:=by kernel_rfl
theorem info66:Tryz.prog.info? 66=some Tryz.t66:=by kernel_rfl
theorem info68:Tryz.prog.info? 68=some Tryz.t68:=by kernel_rfl
theorem info69:Tryz.prog.info? 69=some Tryz.t69:=by kernel_rfl
theorem info70:Tryz.prog.info? 70=some Tryz.t70:=by kernel_rfl
theorem info71:Tryz.prog.info? 71=some Tryz.t71:=by kernel_rfl
theorem info72:Tryz.prog.info? 72=some Tryz.t72:=by kernel_rfl
theorem info73:Tryz.prog.info? 73=some Tryz.t73:=by kernel_rfl
theorem info74:Tryz.prog.info? 74=some Tryz.t74:=by kernel_rfl
theorem info77:Tryz.prog.info? 77=some Tryz.t77:=by kernel_rfl
theorem info78:Tryz.prog.info? 78=some Tryz.t78:=by kernel_rfl
theorem info89:Tryz.prog.info? 89=some Tryz.t89:=by kernel_rfl
theorem info91:Tryz.prog.info? 91=some Tryz.t91:=by kernel_rfl
theorem info93:Tryz.prog.info? 93=some Tryz.t93:=by kernel_rfl
theorem info94:Tryz.prog.info? 94=some Tryz.t94:=by kernel_rfl
theorem info95:Tryz.prog.info? 95=some Tryz.t95:=by kernel_rfl
theorem info96:Tryz.prog.info? 96=some Tryz.t96:=by kernel_rfl
theorem info97:Tryz.prog.info? 97=some Tryz.t97:=by kernel_rfl
theorem info100:Tryz.prog.info? 100=some Tryz.t100:=by kernel_rfl
theorem info102:Tryz.prog.info? 102=some Tryz.t102:=by kernel_rfl
theorem info105:Tryz.prog.info? 105=some Tryz.t105:=by kernel_rfl
theorem info107:Tryz.prog.info? 107=some Tryz.t107:=by kernel_rfl
theorem info108:Tryz.prog.info? 108=some Tryz.t108:=by kernel_rfl
theorem info109:Tryz.prog.info? 109=some Tryz.t109:=by kernel_rfl
theorem info117:Tryz.prog.info? 117=some Tryz.t117:=by kernel_rfl
theorem info118:Tryz.prog.info? 118=some Tryz.t118:=by kernel_rfl
theorem info119:Tryz.prog.info? 119=some Tryz.t119:=by kernel_rfl
theorem info122:Tryz.prog.info? 122=some Tryz.t122:=by kernel_rfl
theorem info123:Tryz.prog.info? 123=some Tryz.t123:=by kernel_rfl
theorem info124:Tryz.prog.info? 124=some Tryz.t124:=by kernel_rfl
theorem info126:Tryz.prog.info? 126=some Tryz.t126:=by kernel_rfl
theorem info130:Tryz.prog.info? 130=some Tryz.t130:=by kernel_rfl
theorem info132:Tryz.prog.info? 132=some Tryz.t132:=by kernel_rfl
theorem info134:Tryz.prog.info? 134=some Tryz.t134:=by kernel_rfl
theorem info136:Tryz.prog.info? 136=some Tryz.t136:=by kernel_rfl
theorem info138:Tryz.prog.info? 138=some Tryz.t138:=by kernel_rfl
theorem info141:Tryz.prog.info? 141=some Tryz.t141:=by kernel_rfl
theorem info144:Tryz.prog.info? 144=some Tryz.t144:=by kernel_rfl
theorem info147:Tryz.prog.info? 147=some Tryz.t147:=by kernel_rfl
theorem info148:Tryz.prog.info? 148=some Tryz.t148:=by kernel_rfl
theorem info149:Tryz.prog.info? 149=some Tryz.t149:=by kernel_rfl
theorem info150:Tryz.prog.info? 150=some Tryz.t150:=by kernel_rfl
theorem info153:Tryz.prog.info? 153=some Tryz.t153:=by kernel_rfl
theorem info158:Tryz.prog.info? 158=some Tryz.t158:=by kernel_rfl
theorem info159:Tryz.prog.info? 159=some Tryz.t159:=by kernel_rfl
theorem info160:Tryz.prog.info? 160=some Tryz.t160:=by kernel_rfl
theorem info162:Tryz.prog.info? 162=some Tryz.t162:=by kernel_rfl
theorem info163:Tryz.prog.info? 163=some Tryz.t163:=by kernel_rfl
theorem info164:Tryz.prog.info? 164=some Tryz.t164:=by kernel_rfl
theorem info165:Tryz.prog.info? 165=some Tryz.t165:=by kernel_rfl
theorem info166:Tryz.prog.info? 166=some Tryz.t166:=by kernel_rfl
theorem info167:Tryz.prog.info? 167=some Tryz.t167:=by kernel_rfl
theorem info173:Tryz.prog.info? 173=some Tryz.t173:=by kernel_rfl
theorem info181:Tryz.prog.info? 181=some Tryz.t181:=by kernel_rfl
theorem info182:Tryz.prog.info? 182=some Tryz.t182:=by kernel_rfl
theorem info183:Tryz.prog.info? 183=some Tryz.t183:=by kernel_rfl
theorem info184:Tryz.prog.info? 184=some Tryz.t184:=by kernel_rfl
theorem info185:Tryz.prog.info? 185=some Tryz.t185:=by kernel_rfl
theorem info188:Tryz.prog.info? 188=some Tryz.t188:=by kernel_rfl
theorem info189:Tryz.prog.info? 189=some Tryz.t189:=by kernel_rfl
theorem info191:Tryz.prog.info? 191=some Tryz.t191:=by kernel_rfl
theorem info193:Tryz.prog.info? 193=some Tryz.t193:=by kernel_rfl
theorem info194:Tryz.prog.info? 194=some Tryz.t194:=by kernel_rfl
theorem info196:Tryz.prog.info? 196=some Tryz.t196:=by kernel_rfl
theorem info200:Tryz.prog.info? 200=some Tryz.t200:=by kernel_rfl
theorem info202:Tryz.prog.info? 202=some Tryz.t202:=by kernel_rfl
theorem info208:Tryz.prog.info? 208=some Tryz.t208:=by kernel_rfl
theorem info210:Tryz.prog.info? 210=some Tryz.t210:=by kernel_rfl
theorem info214:Tryz.prog.info? 214=some Tryz.t214:=by kernel_rfl
theorem info216:Tryz.prog.info? 216=some Tryz.t216:=by kernel_rfl
theorem info217:Tryz.prog.info? 217=some Tryz.t217:=by kernel_rfl
theorem info224:Tryz.prog.info? 224=some Tryz.t224:=by kernel_rfl
theorem info229:Tryz.prog.info? 229=some Tryz.t229:=by kernel_rfl
theorem info230:Tryz.prog.info? 230=some Tryz.t230:=by kernel_rfl
theorem info232:Tryz.prog.info? 232=some Tryz.t232:=by kernel_rfl
theorem info234:Tryz.prog.info? 234=some Tryz.t234:=by kernel_rfl
theorem info235:Tryz.prog.info? 235=some Tryz.t235:=by kernel_rfl
theorem info237:Tryz.prog.info? 237=some Tryz.t237:=by kernel_rfl
theorem info239:Tryz.prog.info? 239=some Tryz.t239:=by kernel_rfl
theorem info243:Tryz.prog.info? 243=some Tryz.t243:=by kernel_rfl
theorem info245:Tryz.prog.info? 245=some Tryz.t245:=by kernel_rfl
theorem info246:Tryz.prog.info? 246=some Tryz.t246:=by kernel_rfl
theorem info249:Tryz.prog.info? 249=some Tryz.t249:=by kernel_rfl
theorem info250:Tryz.prog.info? 250=some Tryz.t250:=by kernel_rfl
theorem info254:Tryz.prog.info? 254=some Tryz.t254:=by kernel_rfl
theorem info263:Tryz.prog.info? 263=some Tryz.t263:=by kernel_rfl
theorem info268:Tryz.prog.info? 268=some Tryz.t268:=by kernel_rfl
theorem info272:Tryz.prog.info? 272=some Tryz.t272:=by kernel_rfl
theorem info275:Tryz.prog.info? 275=some Tryz.t275:=by kernel_rfl
theorem info280:Tryz.prog.info? 280=some Tryz.t280:=by kernel_rfl
theorem info281:Tryz.prog.info? 281=some Tryz.t281:=by kernel_rfl
theorem info284:Tryz.prog.info? 284=some Tryz.t284:=by kernel_rfl
theorem info286:Tryz.prog.info? 286=some Tryz.t286:=by kernel_rfl
theorem info287:Tryz.prog.info? 287=some Tryz.t287:=by kernel_rfl
theorem info300:Tryz.prog.info? 300=some Tryz.t300:=by kernel_rfl
theorem info304:Tryz.prog.info? 304=some Tryz.t304:=by kernel_rfl
theorem info313:Tryz.prog.info? 313=some Tryz.t313:=by kernel_rfl
theorem info314:Tryz.prog.info? 314=some Tryz.t314:=by kernel_rfl
theorem body5:(cP Tryz.prog).bodies 5=true:=cx_bodies Tryz.func5 (by kernel_rfl)
theorem body9:(cP Tryz.prog).bodies 9=true:=cx_bodies Tryz.func9 (by kernel_rfl)
theorem body12:(cP Tryz.prog).bodies 12=true:=cx_bodies Tryz.func12 (by kernel_rfl)
theorem body13:(cP Tryz.prog).bodies 13=true:=cx_bodies Tryz.func13 (by kernel_rfl)
theorem body14:(cP Tryz.prog).bodies 14=true:=cx_bodies Tryz.func14 (by kernel_rfl)
theorem body15:(cP Tryz.prog).bodies 15=true:=cx_bodies Tryz.func15 (by kernel_rfl)
theorem body16:(cP Tryz.prog).bodies 16=true:=cx_bodies Tryz.func16 (by kernel_rfl)
theorem body18:(cP Tryz.prog).bodies 18=true:=cx_bodies Tryz.func18 (by kernel_rfl)
theorem body19:(cP Tryz.prog).bodies 19=true:=cx_bodies Tryz.func19 (by kernel_rfl)
theorem body20:(cP Tryz.prog).bodies 20=true:=cx_bodies Tryz.func20 (by kernel_rfl)
theorem body21:(cP Tryz.prog).bodies 21=true:=cx_bodies Tryz.func21 (by kernel_rfl)
theorem body22:(cP Tryz.prog).bodies 22=true:=cx_bodies Tryz.func22 (by kernel_rfl)
theorem body24:(cP Tryz.prog).bodies 24=true:=cx_bodies Tryz.func24 (by kernel_rfl)
theorem body25:(cP Tryz.prog).bodies 25=true:=cx_bodies Tryz.func25 (by kernel_rfl)
theorem body26:(cP Tryz.prog).bodies 26=true:=cx_bodies Tryz.func26 (by kernel_rfl)
theorem body27:(cP Tryz.prog).bodies 27=true:=cx_bodies Tryz.func27 (by kernel_rfl)
theorem body28:(cP Tryz.prog).bodies 28=true:=cx_bodies Tryz.func28 (by kernel_rfl)
theorem body32:(cP Tryz.prog).bodies 32=true:=cx_bodies Tryz.func32 (by kernel_rfl)
theorem body33:(cP Tryz.prog).bodies 33=true:=cx_bodies Tryz.func33 (by kernel_rfl)
theorem body34:(cP Tryz.prog).bodies 34=true:=cx_bodies Tryz.func34 (by kernel_rfl)
theorem body35:(cP Tryz.prog).bodies 35=true:=cx_bodies Tryz.func35 (by kernel_rfl)
theorem body36:(cP Tryz.prog).bodies 36=true:=cx_bodies Tryz.func36 (by kernel_rfl)
theorem body37:(cP Tryz.prog).bodies 37=true:=cx_bodies Tryz.func37 (by kernel_rfl)
theorem body38:(cP Tryz.prog).bodies 38=true:=cx_bodies Tryz.func38 (by kernel_rfl)
theorem body39:(cP Tryz.prog).bodies 39=true:=cx_bodies Tryz.func39 (by kernel_rfl)
theorem body40:(cP Tryz.prog).bodies 40=true:=cx_bodies Tryz.func40 (by kernel_rfl)
theorem body41:(cP Tryz.prog).bodies 41=true:=cx_bodies Tryz.func41 (by kernel_rfl)
theorem body42:(cP Tryz.prog).bodies 42=true:=cx_bodies Tryz.func42 (by kernel_rfl)
theorem body43:(cP Tryz.prog).bodies 43=true:=cx_bodies Tryz.func43 (by kernel_rfl)
theorem body47:(cP Tryz.prog).bodies 47=true:=cx_bodies Tryz.func47 (by kernel_rfl)
theorem body48:(cP Tryz.prog).bodies 48=true:=cx_bodies Tryz.func48 (by kernel_rfl)
theorem body49:(cP Tryz.prog).bodies 49=true:=cx_bodies Tryz.func49 (by kernel_rfl)
theorem body50:(cP Tryz.prog).bodies 50=true:=cx_bodies Tryz.func50 (by kernel_rfl)
theorem body51:(cP Tryz.prog).bodies 51=true:=cx_bodies Tryz.func51 (by kernel_rfl)
theorem body52:(cP Tryz.prog).bodies 52=true:=cx_bodies Tryz.func52 (by kernel_rfl)
theorem body53:(cP Tryz.prog).bodies 53=true:=cx_bodies Tryz.func53 (by kernel_rfl)
theorem body54:(cP Tryz.prog).bodies 54=true:=cx_bodies Tryz.func54 (by kernel_rfl)
theorem body55:(cP Tryz.prog).bodies 55=true:=cx_bodies Tryz.func55 (by kernel_rfl)
theorem body56:(cP Tryz.prog).bodies 56=true:=cx_bodies Tryz.func56 (by kernel_rfl)
theorem body57:(cP Tryz.prog).bodies 57=true:=cx_bodies Tryz.func57 (by kernel_rfl)
theorem body58:(cP Tryz.prog).bodies 58=true:=cx_bodies Tryz.func58 (by kernel_rfl)
theorem body59:(cP Tryz.prog).bodies 59=true:=cx_bodies Tryz.func59 (by kernel_rfl)
theorem body60:(cP Tryz.prog).bodies 60=true:=cx_bodies Tryz.func60 (by kernel_rfl)
theorem body61:(cP Tryz.prog).bodies 61=true:=cx_bodies Tryz.func61 (by kernel_rfl)
theorem body62:(cP Tryz.prog).bodies 62=true:=cx_bodies Tryz.func62 (by kernel_rfl)
theorem body63:(cP Tryz.prog).bodies 63=true:=cx_bodies Tryz.func63 (by kernel_rfl)
theorem body64:(cP Tryz.prog).bodies 64=true:=cx_bodies Tryz.func64 (by kernel_rfl)
theorem body65:(cP Tryz.prog).bodies 65=true:=cx_bodies Tryz.func65 (by kernel_rfl)
theorem body66:(cP Tryz.prog).bodies 66=true:=cx_bodies Tryz.func66 (by kernel_rfl)
theorem body67:(cP Tryz.prog).bodies 67=true:=cx_bodies Tryz.func67 (by kernel_rfl)
theorem body68:(cP Tryz.prog).bodies 68=true:=cx_bodies Tryz.func68 (by kernel_rfl)
theorem body69:(cP Tryz.prog).bodies 69=true:=cx_bodies Tryz.func69 (by kernel_rfl)
theorem body70:(cP Tryz.prog).bodies 70=true:=cx_bodies Tryz.func70 (by kernel_rfl)
theorem body72:(cP Tryz.prog).bodies 72=true:=cx_bodies Tryz.func72 (by kernel_rfl)
theorem body73:(cP Tryz.prog).bodies 73=true:=cx_bodies Tryz.func73 (by kernel_rfl)
theorem body74:(cP Tryz.prog).bodies 74=true:=cx_bodies Tryz.func74 (by kernel_rfl)
theorem body75:(cP Tryz.prog).bodies 75=true:=cx_bodies Tryz.func75 (by kernel_rfl)
theorem body76:(cP Tryz.prog).bodies 76=true:=cx_bodies Tryz.func76 (by kernel_rfl)
theorem body77:(cP Tryz.prog).bodies 77=true:=cx_bodies Tryz.func77 (by kernel_rfl)
theorem body78:(cP Tryz.prog).bodies 78=true:=cx_bodies Tryz.func78 (by kernel_rfl)
theorem body79:(cP Tryz.prog).bodies 79=true:=cx_bodies Tryz.func79 (by kernel_rfl)
theorem body80:(cP Tryz.prog).bodies 80=true:=cx_bodies Tryz.func80 (by kernel_rfl)
theorem body81:(cP Tryz.prog).bodies 81=true:=cx_bodies Tryz.func81 (by kernel_rfl)
theorem body82:(cP Tryz.prog).bodies 82=true:=cx_bodies Tryz.func82 (by kernel_rfl)
theorem body83:(cP Tryz.prog).bodies 83=true:=cx_bodies Tryz.func83 (by kernel_rfl)
theorem body84:(cP Tryz.prog).bodies 84=true:=cx_bodies Tryz.func84 (by kernel_rfl)
theorem body85:(cP Tryz.prog).bodies 85=true:=cx_bodies Tryz.func85 (by kernel_rfl)
theorem body86:(cP Tryz.prog).bodies 86=true:=cx_bodies Tryz.func86 (by kernel_rfl)
theorem body87:(cP Tryz.prog).bodies 87=true:=cx_bodies Tryz.func87 (by kernel_rfl)
theorem body88:(cP Tryz.prog).bodies 88=true:=cx_bodies Tryz.func88 (by kernel_rfl)
theorem body89:(cP Tryz.prog).bodies 89=true:=cx_bodies Tryz.func89 (by kernel_rfl)
theorem body90:(cP Tryz.prog).bodies 90=true:=cx_bodies Tryz.func90 (by kernel_rfl)
theorem body93:(cP Tryz.prog).bodies 93=true:=cx_bodies Tryz.func93 (by kernel_rfl)
theorem body95:(cP Tryz.prog).bodies 95=true:=cx_bodies Tryz.func95 (by kernel_rfl)
theorem body96:(cP Tryz.prog).bodies 96=true:=cx_bodies Tryz.func96 (by kernel_rfl)
theorem body97:(cP Tryz.prog).bodies 97=true:=cx_bodies Tryz.func97 (by kernel_rfl)
theorem body98:(cP Tryz.prog).bodies 98=true:=cx_bodies Tryz.func98 (by kernel_rfl)
theorem body99:(cP Tryz.prog).bodies 99=true:=cx_bodies Tryz.func99 (by kernel_rfl)
theorem body100:(cP Tryz.prog).bodies 100=true:=cx_bodies Tryz.func100 (by kernel_rfl)
theorem body101:(cP Tryz.prog).bodies 101=true:=cx_bodies Tryz.func101 (by kernel_rfl)
theorem body102:(cP Tryz.prog).bodies 102=true:=cx_bodies Tryz.func102 (by kernel_rfl)
theorem body103:(cP Tryz.prog).bodies 103=true:=cx_bodies Tryz.func103 (by kernel_rfl)
theorem body104:(cP Tryz.prog).bodies 104=true:=cx_bodies Tryz.func104 (by kernel_rfl)
theorem body105:(cP Tryz.prog).bodies 105=true:=cx_bodies Tryz.func105 (by kernel_rfl)
theorem body106:(cP Tryz.prog).bodies 106=true:=cx_bodies Tryz.func106 (by kernel_rfl)
theorem body107:(cP Tryz.prog).bodies 107=true:=cx_bodies Tryz.func107 (by kernel_rfl)
theorem body108:(cP Tryz.prog).bodies 108=true:=cx_bodies Tryz.func108 (by kernel_rfl)
theorem body109:(cP Tryz.prog).bodies 109=true:=cx_bodies Tryz.func109 (by kernel_rfl)
theorem body110:(cP Tryz.prog).bodies 110=true:=cx_bodies Tryz.func110 (by kernel_rfl)
theorem body111:(cP Tryz.prog).bodies 111=true:=cx_bodies Tryz.func111 (by kernel_rfl)
theorem body112:(cP Tryz.prog).bodies 112=true:=cx_bodies Tryz.func112 (by kernel_rfl)
theorem body113:(cP Tryz.prog).bodies 113=true:=cx_bodies Tryz.func113 (by kernel_rfl)
theorem body114:(cP Tryz.prog).bodies 114=true:=cx_bodies Tryz.func114 (by kernel_rfl)
theorem body115:(cP Tryz.prog).bodies 115=true:=cx_bodies Tryz.func115 (by kernel_rfl)
theorem body116:(cP Tryz.prog).bodies 116=true:=cx_bodies Tryz.func116 (by kernel_rfl)
theorem body117:(cP Tryz.prog).bodies 117=true:=cx_bodies Tryz.func117 (by kernel_rfl)
theorem body118:(cP Tryz.prog).bodies 118=true:=cx_bodies Tryz.func118 (by kernel_rfl)
theorem body119:(cP Tryz.prog).bodies 119=true:=cx_bodies Tryz.func119 (by kernel_rfl)
theorem body120:(cP Tryz.prog).bodies 120=true:=cx_bodies Tryz.func120 (by kernel_rfl)
theorem body121:(cP Tryz.prog).bodies 121=true:=cx_bodies Tryz.func121 (by kernel_rfl)
theorem body122:(cP Tryz.prog).bodies 122=true:=cx_bodies Tryz.func122 (by kernel_rfl)
theorem body123:(cP Tryz.prog).bodies 123=true:=cx_bodies Tryz.func123 (by kernel_rfl)
theorem body124:(cP Tryz.prog).bodies 124=true:=cx_bodies Tryz.func124 (by kernel_rfl)
theorem body125:(cP Tryz.prog).bodies 125=true:=cx_bodies Tryz.func125 (by kernel_rfl)
theorem body126:(cP Tryz.prog).bodies 126=true:=cx_bodies Tryz.func126 (by kernel_rfl)
theorem body127:(cP Tryz.prog).bodies 127=true:=cx_bodies Tryz.func127 (by kernel_rfl)
theorem body128:(cP Tryz.prog).bodies 128=true:=cx_bodies Tryz.func128 (by kernel_rfl)
theorem body129:(cP Tryz.prog).bodies 129=true:=cx_bodies Tryz.func129 (by kernel_rfl)
theorem body130:(cP Tryz.prog).bodies 130=true:=cx_bodies Tryz.func130 (by kernel_rfl)
theorem body131:(cP Tryz.prog).bodies 131=true:=cx_bodies Tryz.func131 (by kernel_rfl)
theorem body132:(cP Tryz.prog).bodies 132=true:=cx_bodies Tryz.func132 (by kernel_rfl)
theorem body133:(cP Tryz.prog).bodies 133=true:=cx_bodies Tryz.func133 (by kernel_rfl)
theorem body134:(cP Tryz.prog).bodies 134=true:=cx_bodies Tryz.func134 (by kernel_rfl)
theorem body135:(cP Tryz.prog).bodies 135=true:=cx_bodies Tryz.func135 (by kernel_rfl)
theorem body136:(cP Tryz.prog).bodies 136=true:=cx_bodies Tryz.func136 (by kernel_rfl)
theorem body137:(cP Tryz.prog).bodies 137=true:=cx_bodies Tryz.func137 (by kernel_rfl)
theorem body138:(cP Tryz.prog).bodies 138=true:=cx_bodies Tryz.func138 (by kernel_rfl)
theorem body139:(cP Tryz.prog).bodies 139=true:=cx_bodies Tryz.func139 (by kernel_rfl)
theorem body143:(cP Tryz.prog).bodies 143=true:=cx_bodies Tryz.func143 (by kernel_rfl)
theorem body144:(cP Tryz.prog).bodies 144=true:=cx_bodies Tryz.func144 (by kernel_rfl)
theorem body145:(cP Tryz.prog).bodies 145=true:=cx_bodies Tryz.func145 (by kernel_rfl)
theorem body146:(cP Tryz.prog).bodies 146=true:=cx_bodies Tryz.func146 (by kernel_rfl)
theorem body147:(cP Tryz.prog).bodies 147=true:=cx_bodies Tryz.func147 (by kernel_rfl)
theorem body148:(cP Tryz.prog).bodies 148=true:=cx_bodies Tryz.func148 (by kernel_rfl)
theorem body149:(cP Tryz.prog).bodies 149=true:=cx_bodies Tryz.func149 (by kernel_rfl)
theorem body150:(cP Tryz.prog).bodies 150=true:=cx_bodies Tryz.func150 (by kernel_rfl)
theorem body151:(cP Tryz.prog).bodies 151=true:=cx_bodies Tryz.func151 (by kernel_rfl)
theorem body152:(cP Tryz.prog).bodies 152=true:=cx_bodies Tryz.func152 (by kernel_rfl)
theorem body153:(cP Tryz.prog).bodies 153=true:=cx_bodies Tryz.func153 (by kernel_rfl)
theorem body154:(cP Tryz.prog).bodies 154=true:=cx_bodies Tryz.func154 (by kernel_rfl)
theorem body155:(cP Tryz.prog).bodies 155=true:=cx_bodies Tryz.func155 (by kernel_rfl)
theorem body156:(cP Tryz.prog).bodies 156=true:=cx_bodies Tryz.func156 (by kernel_rfl)
theorem body157:(cP Tryz.prog).bodies 157=true:=cx_bodies Tryz.func157 (by kernel_rfl)
theorem body158:(cP Tryz.prog).bodies 158=true:=cx_bodies Tryz.func158 (by kernel_rfl)
theorem body159:(cP Tryz.prog).bodies 159=true:=cx_bodies Tryz.func159 (by kernel_rfl)
theorem body160:(cP Tryz.prog).bodies 160=true:=cx_bodies Tryz.func160 (by kernel_rfl)
theorem body161:(cP Tryz.prog).bodies 161=true:=cx_bodies Tryz.func161 (by kernel_rfl)
theorem body162:(cP Tryz.prog).bodies 162=true:=cx_bodies Tryz.func162 (by kernel_rfl)
theorem body163:(cP Tryz.prog).bodies 163=true:=cx_bodies Tryz.func163 (by kernel_rfl)
theorem body164:(cP Tryz.prog).bodies 164=true:=cx_bodies Tryz.func164 (by kernel_rfl)
theorem body165:(cP Tryz.prog).bodies 165=true:=cx_bodies Tryz.func165 (by kernel_rfl)
theorem body166:(cP Tryz.prog).bodies 166=true:=cx_bodies Tryz.func166 (by kernel_rfl)
theorem body167:(cP Tryz.prog).bodies 167=true:=cx_bodies Tryz.func167 (by kernel_rfl)
theorem body168:(cP Tryz.prog).bodies 168=true:=cx_bodies Tryz.func168 (by kernel_rfl)
theorem body169:(cP Tryz.prog).bodies 169=true:=cx_bodies Tryz.func169 (by kernel_rfl)
theorem body170:(cP Tryz.prog).bodies 170=true:=cx_bodies Tryz.func170 (by kernel_rfl)
theorem body171:(cP Tryz.prog).bodies 171=true:=cx_bodies Tryz.func171 (by kernel_rfl)
theorem body172:(cP Tryz.prog).bodies 172=true:=cx_bodies Tryz.func172 (by kernel_rfl)
theorem body173:(cP Tryz.prog).bodies 173=true:=cx_bodies Tryz.func173 (by kernel_rfl)
theorem body174:(cP Tryz.prog).bodies 174=true:=cx_bodies Tryz.func174 (by kernel_rfl)
theorem body177:(cP Tryz.prog).bodies 177=true:=cx_bodies Tryz.func177 (by kernel_rfl)
theorem body178:(cP Tryz.prog).bodies 178=true:=cx_bodies Tryz.func178 (by kernel_rfl)
theorem body179:(cP Tryz.prog).bodies 179=true:=cx_bodies Tryz.func179 (by kernel_rfl)
theorem body180:(cP Tryz.prog).bodies 180=true:=cx_bodies Tryz.func180 (by kernel_rfl)
theorem body181:(cP Tryz.prog).bodies 181=true:=cx_bodies Tryz.func181 (by kernel_rfl)
theorem body184:(cP Tryz.prog).bodies 184=true:=cx_bodies Tryz.func184 (by kernel_rfl)
theorem body185:(cP Tryz.prog).bodies 185=true:=cx_bodies Tryz.func185 (by kernel_rfl)
theorem body186:(cP Tryz.prog).bodies 186=true:=cx_bodies Tryz.func186 (by kernel_rfl)
theorem body187:(cP Tryz.prog).bodies 187=true:=cx_bodies Tryz.func187 (by kernel_rfl)
theorem body188:(cP Tryz.prog).bodies 188=true:=cx_bodies Tryz.func188 (by kernel_rfl)
theorem body189:(cP Tryz.prog).bodies 189=true:=cx_bodies Tryz.func189 (by kernel_rfl)
theorem body190:(cP Tryz.prog).bodies 190=true:=cx_bodies Tryz.func190 (by kernel_rfl)
theorem body191:(cP Tryz.prog).bodies 191=true:=cx_bodies Tryz.func191 (by kernel_rfl)
theorem body194:(cP Tryz.prog).bodies 194=true:=cx_bodies Tryz.func194 (by kernel_rfl)
theorem body195:(cP Tryz.prog).bodies 195=true:=cx_bodies Tryz.func195 (by kernel_rfl)
theorem body196:(cP Tryz.prog).bodies 196=true:=cx_bodies Tryz.func196 (by kernel_rfl)
theorem body197:(cP Tryz.prog).bodies 197=true:=cx_bodies Tryz.func197 (by kernel_rfl)
theorem body198:(cP Tryz.prog).bodies 198=true:=cx_bodies Tryz.func198 (by kernel_rfl)
theorem body199:(cP Tryz.prog).bodies 199=true:=cx_bodies Tryz.func199 (by kernel_rfl)
theorem body200:(cP Tryz.prog).bodies 200=true:=cx_bodies Tryz.func200 (by kernel_rfl)
theorem body201:(cP Tryz.prog).bodies 201=true:=cx_bodies Tryz.func201 (by kernel_rfl)
theorem body202:(cP Tryz.prog).bodies 202=true:=cx_bodies Tryz.func202 (by kernel_rfl)
theorem body203:(cP Tryz.prog).bodies 203=true:=cx_bodies Tryz.func203 (by kernel_rfl)
theorem body204:(cP Tryz.prog).bodies 204=true:=cx_bodies Tryz.func204 (by kernel_rfl)
theorem body205:(cP Tryz.prog).bodies 205=true:=cx_bodies Tryz.func205 (by kernel_rfl)
theorem body206:(cP Tryz.prog).bodies 206=true:=cx_bodies Tryz.func206 (by kernel_rfl)
theorem body207:(cP Tryz.prog).bodies 207=true:=cx_bodies Tryz.func207 (by kernel_rfl)
theorem body208:(cP Tryz.prog).bodies 208=true:=cx_bodies Tryz.func208 (by kernel_rfl)
theorem body211:(cP Tryz.prog).bodies 211=true:=cx_bodies Tryz.func211 (by kernel_rfl)
theorem body212:(cP Tryz.prog).bodies 212=true:=cx_bodies Tryz.func212 (by kernel_rfl)
theorem body213:(cP Tryz.prog).bodies 213=true:=cx_bodies Tryz.func213 (by kernel_rfl)
theorem body214:(cP Tryz.prog).bodies 214=true:=cx_bodies Tryz.func214 (by kernel_rfl)
theorem body215:(cP Tryz.prog).bodies 215=true:=cx_bodies Tryz.func215 (by kernel_rfl)
theorem body216:(cP Tryz.prog).bodies 216=true:=cx_bodies Tryz.func216 (by kernel_rfl)
theorem body217:(cP Tryz.prog).bodies 217=true:=cx_bodies Tryz.func217 (by kernel_rfl)
theorem body218:(cP Tryz.prog).bodies 218=true:=cx_bodies Tryz.func218 (by kernel_rfl)
theorem body219:(cP Tryz.prog).bodies 219=true:=cx_bodies Tryz.func219 (by kernel_rfl)
theorem body220:(cP Tryz.prog).bodies 220=true:=cx_bodies Tryz.func220 (by kernel_rfl)
theorem body221:(cP Tryz.prog).bodies 221=true:=cx_bodies Tryz.func221 (by kernel_rfl)
theorem body222:(cP Tryz.prog).bodies 222=true:=cx_bodies Tryz.func222 (by kernel_rfl)
theorem body223:(cP Tryz.prog).bodies 223=true:=cx_bodies Tryz.func223 (by kernel_rfl)
theorem body224:(cP Tryz.prog).bodies 224=true:=cx_bodies Tryz.func224 (by kernel_rfl)
theorem body233:(cP Tryz.prog).bodies 233=true:=cx_bodies Tryz.func233 (by kernel_rfl)
theorem body234:(cP Tryz.prog).bodies 234=true:=cx_bodies Tryz.func234 (by kernel_rfl)
theorem body235:(cP Tryz.prog).bodies 235=true:=cx_bodies Tryz.func235 (by kernel_rfl)
theorem body236:(cP Tryz.prog).bodies 236=true:=cx_bodies Tryz.func236 (by kernel_rfl)
theorem body240:(cP Tryz.prog).bodies 240=true:=cx_bodies Tryz.func240 (by kernel_rfl)
attribute [simp] callK_ret callK_panic opsK_val opsK_new opsK_eff opsK_panic opsK_enter opsK_round opsK_defer wantK_true wantK_false consD_some callD_ret drawnK_val drawnK_new drawnK_eff drawnK_enter condK_true condK_false blockK_some preO_some thenR_norm thenR_exit thenR_goto thenR_ret thenR_panic jumpK_some jumpK_none scopeK_goto scopeK_norm scopeK_exit scopeK_ret scopeK_panic regO_some regD_some regionR_false regionR_true runOps_nil runOps_cons runDrawn_nil runDrawn_cons run_loop_job run_scope_job run_skip run_label run_exit run_goto run_ret run_seq run_cond run_block run_loop run_scope run_region pureK_some pureO_call dynOk loud quietK  stepOp stepBuiltin start Fr.put putL wantedA yieldedA lget? ev evs evo lget plain plainL partsA cx_und cx_info cx_flat opBin isShift intOp shiftOp strOp eqOp
 opUn opConvert RR.pre endsA resA resList resOne opPick opExtract opBuild opBuildSlice opBox opNilCheck opField opIndex opCall AX.inBlock findLabel isAggD partA placesA fillA opMakeFunc opMakeIface opPanic opDefer bnd oneCells vcells over
theorem mixed:Tryz.prog.follows .mixedOrders=true:=by kernel_rfl
theorem calls{f:FuncId}{fn:Func}{c:Code}{args:List Value}{U:St}{orc:Orc}(hO:orc.Ok Tryz.prog)(hf:Tryz.prog.funcs[f]?=some fn)(hb:fn.body=some c)(n:Nat)(bt:Nat->List Nat)(hs:statAll bt c=true){e:AE}{U':St}{l:Log}
  (h:∃r,run (cP Tryz.prog) orc bt false n (.code c) (start args fn.ntmps) U=some r/\endsA (cP Tryz.prog).T fn.results.toList r=some e/\r.U=U'/\r.lg=l):DCall Tryz.prog f args U e U' l:=by
 obtain⟨r,h1,h2,rfl,rfl⟩:=h
 exact call_of_run cP_ok mixed hO hf hb n bt hs h1 h2
theorem runs{c:Code}{fr:Fr}{U:St}{orc:Orc}(hO:orc.Ok Tryz.prog)(n:Nat)(bt:Nat->List Nat)(hs:statAll bt c=true){r:RR}(h:run (cP Tryz.prog) orc bt false n (.code c) fr U=some r):DC Tryz.prog false c fr U r:=
 run_sound cP_ok hO mixed n (.code c) _ _ _ hs h
theorem callsL{f:FuncId}{fn:Func}{c:Code}{args:List Value}{U:St}{orc:Orc}(hO:orc.Ok Tryz.prog)(hf:Tryz.prog.funcs[f]?=some fn)(hb:fn.body=some c)(n:Nat)(bt:Nat->List Nat)(hs:statAll bt c=true){e:AE}{U':St}
  (h:∃r,run (cP Tryz.prog) orc bt false n (.code c) (start args fn.ntmps) U=some r/\endsA (cP Tryz.prog).T fn.results.toList r=some e/\r.U=U'/\∀b,b<U.next->U'.get b=U.get b):DCall Tryz.prog f args U e U' []:=by
 obtain⟨r,h1,h2,rfl,h3⟩:=h
 have h4:=call_of_run cP_ok mixed hO hf hb n bt hs h1 h2
 exact⟨⟨h4.1.1,λb hb _=>h3 b hb⟩,h4.2⟩
theorem callsD{f:FuncId}{fn:Func}{c:Code}{args:List Value}{U U':St}{l:Log}{r:RR}{e:AE}(hf:Tryz.prog.funcs[f]?=some fn)(hb:fn.body=some c)(h:DC Tryz.prog false c (start args fn.ntmps) U r)
  (he:endsA (cP Tryz.prog).T fn.results.toList r=some e) (hUs:r.U=U') (hl:r.lg=l):DCall Tryz.prog f args U e U' l:=by
 subst hUs hl
 exact DCall.of_code cP_ok.T ⟨hf,hb⟩ h he
def loopOf:Code->Code
 |.seq a b=>match loopOf a with|.skip=>loopOf b|c=>c
 |.block _ b=>loopOf b
 |.scope b=>loopOf b
 |.loop b=>b
 |_=>.skip
def nobt(_:Nat):List Nat:=[]
theorem iteR{α:Sort _}{β:Sort _}(a:α)[Decidable (a=a)](x y:β):(if a=a then x else y)=x:=if_pos rfl
attribute [go_sem] iteR
theorem pre_mk{x:AX}{fr:Fr}{U:St}{l lg:Log}:RR.pre l ⟨x,fr,U,lg⟩=⟨x,fr,U,l++lg⟩:=rfl
attribute [go_sem] pre_mk nadd_le nadd_lt nle_add nlt_add nadd_eq neq_add Nat.add_le_add_iff_left Nat.add_lt_add_iff_left Nat.add_left_cancel_iff Nat.add_assoc Nat.testBit_eq_decide_div_mod_eq runOps_nil runOps_cons runDrawn_nil runDrawn_cons run_loop_job run_scope_job run_skip run_label run_exit run_goto run_ret run_seq run_cond run_block run_loop run_scope run_region pureK_some pureO_call callK_ret callK_panic opsK_val opsK_new opsK_eff opsK_panic opsK_enter opsK_round opsK_defer wantK_true wantK_false consD_some callD_ret drawnK_val drawnK_new drawnK_eff drawnK_enter condK_true condK_false blockK_some preO_some thenR_norm thenR_exit thenR_goto thenR_ret thenR_panic jumpK_some jumpK_none scopeK_goto scopeK_norm scopeK_exit scopeK_ret scopeK_panic regO_some regD_some regionR_false regionR_true dynOk loud quietK stepOp stepBuiltin start Fr.put putL wantedA yieldedA lget? ev evs evo lget plain plainL partsA cx_und cx_info cx_flat opBin isShift intOp shiftOp strOp eqOp opUn opConvert endsA resA resList resOne opPick opExtract opBuild opBuildSlice opBuild.lgetP Nat.le_zero_eq Nat.zero_le opBox opNilCheck opField opIndex opCall AX.inBlock findLabel isAggD partA placesA fillA opMakeFunc opMakeIface opPanic opDefer bnd oneCells vcells over opLoad opStore opAlloc opFieldAddr opIndexAddr St.get_new St.get_set St.get_put St.next_new St.next_set clash SK.isFull SK.lg SK.rd List.set_cons_succ List.set_cons_zero List.getElem?_cons_succ List.getElem?_cons_zero List.length_cons List.length_nil List.append_nil List.nil_append List.cons_append List.replicate_succ List.replicate_zero List.drop_zero List.drop_succ_cons List.take_zero List.take_succ_cons List.take_nil List.drop_nil Option.map_some Option.map_none Bool.and_true Bool.true_and Bool.and_false Bool.false_and Bool.or_true Bool.true_or Bool.or_false Bool.false_or Bool.not_true Bool.not_false decide_true decide_false if_true if_false ite_true ite_false dite_true dite_false List.all_cons List.all_nil List.any_cons List.any_nil List.contains_cons List.contains_nil List.isEmpty_nil List.isEmpty_cons Nat.zero_add Nat.add_zero beq_self_eq_true Bool.true_beq Bool.false_beq bne_iff_ne bne_self_eq_false List.getD_cons_succ List.getD_cons_zero List.getD_nil and_true true_and and_self not_true_eq_false not_false_eq_true eq_self ne_eq Option.some.injEq beq_iff_eq Nat.lt_irrefl Nat.le_refl Nat.succ_ne_self List.size_toArray Int.cast_ofNat_Int Nat.zero_mul Nat.one_mul Nat.mul_one
theorem size_call(n:Int)(U:St)(h0:-9223372036854775808<=n)(h1:n<9223372036854775808):DCall Tryz.prog 129 [.int .i64 n] U (.ret (.int .u64 n.natAbs)) U []:=by
 refine calls Orc.none_ok Tryz.func129 rfl 20 nobt (by kernel_rfl) ?_
 by_cases h:n<0
 ·refine⟨_,by simp [Tryz.f129,Tryz.underlying2,Tryz.underlying196,h];rfl,?_⟩
  simp [Tryz.f129,IntKind.wrap_i64,IntKind.wrap_u64]
  omega
 ·refine⟨_,by simp [Tryz.f129,Tryz.underlying2,Tryz.underlying196,h];rfl,?_⟩
  simp [Tryz.f129,IntKind.wrap_i64,IntKind.wrap_u64]
  omega
def bt77:Nat->List Nat
 |2=>[0,0,0,6,3,31]
 |_=>[]
theorem gcd_loop(U:St):∀(b a:Nat) (x:List Value),x.length=10->a<18446744073709551616->b<18446744073709551616->
  ∃y,y.length=10/\DL Tryz.prog false (loopOf (Tryz.f162.body.getD .skip)) ⟨.int .u64 a :: .int .u64 b :: x,[]⟩ U ⟨.exit 0,⟨.int .u64 (Nat.gcd a b) :: .int .u64 0 :: y,[]⟩,U,[]⟩:=by
 intro b
 induction b using Nat.strongRecOn with
 |_ b ih=>
  intro a x hx ha hb
  obtain⟨x2,x3,x4,x5,x6,x7,x8,x9,x10,x11,rfl⟩:∃x2 x3 x4 x5 x6 x7 x8 x9 x10 x11,x=[x2,x3,x4,x5,x6,x7,x8,x9,x10,x11]:=by
   match x,hx with
   |[x2,x3,x4,x5,x6,x7,x8,x9,x10,x11],_=>exact⟨_,_,_,_,_,_,_,_,_,_,rfl⟩
  by_cases h:b=0
  ·subst h
   refine⟨_,?_,DL.out (runs Orc.none_ok 20 bt77 (by kernel_rfl) (r:=⟨.exit 0,⟨_,[]⟩,U,[]⟩) (by simp [loopOf,Tryz.f162,Tryz.underlying196]<;>rfl)) rfl⟩
   rfl
  ·have hb0:0<b:=by omega
   have hne:(b:Int)≠0:=by omega
   obtain⟨y,hy,hl⟩:=ih (a % b) (Nat.mod_lt _ (by omega)) b [x2,x3,x4,.int .u64 b,.bool true,.int .u64 b,.int .u64 a,.int .u64 b,.int .u64 ((a % b:Nat):Int),x11] rfl hb (Nat.lt_trans (Nat.mod_lt _ (by omega)) hb)
   refine⟨y,hy,?_⟩
   have e:Nat.gcd a b=Nat.gcd b (a % b):=by rw[Nat.gcd_comm b,<-Nat.gcd_rec,Nat.gcd_comm]
   rw[e]
   refine DL.next (r':=⟨.exit 0,⟨_,[]⟩,U,[]⟩) (runs Orc.none_ok 20 bt77 (by kernel_rfl) (r:=⟨.norm,⟨_,[]⟩,U,[]⟩) (by simp [loopOf,Tryz.f162,Tryz.underlying196,hb0,h]<;>rfl)) rfl ?_
   have et:((a:Int).tmod b)=((a % b:Nat):Int):=by
    rw[Int.tmod_eq_emod_of_nonneg (by omega)];rfl
   rw[et]
   exact hl
theorem gcd_call(a b:Nat)(U:St)(ha:a<18446744073709551616)(hb:b<18446744073709551616):DCall Tryz.prog 162 [.int .u64 a,.int .u64 b] U (.ret (.int .u64 (Nat.gcd a b))) U []:=by
 obtain⟨y,hy,hl⟩:=gcd_loop U b a [undef,undef,.int .u64 0,undef,undef,undef,undef,undef,undef,undef] rfl ha hb
 obtain⟨y2,y3,y4,y5,y6,y7,y8,y9,y10,y11,rfl⟩:∃x2 x3 x4 x5 x6 x7 x8 x9 x10 x11,y=[x2,x3,x4,x5,x6,x7,x8,x9,x10,x11]:=by
  match y,hy with
  |[x2,x3,x4,x5,x6,x7,x8,x9,x10,x11],_=>exact⟨_,_,_,_,_,_,_,_,_,_,rfl⟩
 refine callsD Tryz.func162 rfl (DC.seq (runs Orc.none_ok 20 nobt (by kernel_rfl) (r:=⟨.norm,⟨_,[]⟩,U,[]⟩) (by simp [Tryz.f162]<;>rfl)) rfl
  (DC.seq (DC.block (DC.loop hl)) rfl (runs Orc.none_ok 20 nobt (by kernel_rfl) (r:=⟨.ret,⟨_,[]⟩,U,[]⟩) (by simp<;>rfl)))) ?_ rfl rfl
 simp [Tryz.f162]
attribute [simp] opLoad opStore opAlloc opFieldAddr opIndexAddr St.get_new St.get_set St.get_put clash SK.isFull SK.lg SK.rd
def okI(n:Int):Bool:=decide (-9223372036854775808<=n)&&decide (n<9223372036854775808)
def okU(n:Int):Bool:=decide (0<=n)&&decide (n<18446744073709551616)
def p1:FuncId->List Value->Option Value
 |129,[.int .i64 n]=>if okI n then some (.int .u64 n.natAbs) else none
 |162,[.int .u64 a,.int .u64 b]=>if okU a&&okU b then some (.int .u64 (Int.gcd a b)) else none
 |_,_=>none
theorem p1_ok:(pureO p1).Ok Tryz.prog:=pureO_ok λf args v h U=>by
 unfold p1 at h
 split at h
 ·split at h
  ·rename_i n hn
   simp only[okI,Bool.and_eq_true,decide_eq_true_eq]at hn
   cases h;exact size_call n U hn.1 hn.2
  ·cases h
 ·split at h
  ·rename_i a b hn
   simp only[okU,Bool.and_eq_true,decide_eq_true_eq]at hn
   cases h
   have:=gcd_call a.natAbs b.natAbs U (by omega) (by omega)
   rw[Int.natAbs_of_nonneg hn.1.1,Int.natAbs_of_nonneg hn.2.1]at this
   exact this
  ·cases h
 ·cases h
def bt45:Nat->List Nat
 |1=>[0,1,3,7,15,31,63,127,255,511,1023,2047,511,4607,12799,32767,65535,131071]
 |_=>[]
def chk(n d:Int):Prop:=1<=d/\n≠-9223372036854775808/\Int.gcd n d=1
instance (n d:Int):Decidable (chk n d):=inferInstanceAs (Decidable (_/\_/\_))
theorem check_call(n d:Int)(U:St)(hn:okI n=true)(hd:okI d=true):DCall Tryz.prog 132 [.agg ⟨[.int .i64 n,.int .i64 d]⟩] U (.ret (.int .i64 (if chk n d then 0 else 2))) U []:=by
 refine DCall.forget (U':=U.new (.cells [.int .i64 n,.int .i64 d] false)) ?_ (by split<;>rfl)
 refine calls p1_ok Tryz.func132 rfl 20 bt45 (by kernel_rfl) ?_
 have hn':=hn
 have hd':=hd
 simp only[okI,Bool.and_eq_true,decide_eq_true_eq]at hn' hd'
 by_cases h1:d<1
 ·refine⟨_,by simp only[go_sem,seval,Tryz.f132,Tryz.underlying2,info2,Tryz.t2,Tryz.underlying38,info38,Tryz.t38,Tryz.underlying47,info47,Tryz.t47,Tryz.underlying196,info196,Tryz.t196,h1]<;>rfl,?_⟩
  have:¬chk n d:=λh=>by have:=h.1;omega
  simp [Tryz.f132,this]
 ·by_cases h2:n=-9223372036854775808
  ·subst h2
   refine⟨_,by simp only[go_sem,seval,Tryz.f132,Tryz.underlying2,info2,Tryz.t2,Tryz.underlying38,info38,Tryz.t38,Tryz.underlying47,info47,Tryz.t47,Tryz.underlying196,info196,Tryz.t196,h1]<;>rfl,?_⟩
   have:¬chk (-9223372036854775808) d:=λh=>h.2.1 rfl
   simp [Tryz.f132,this]
  ·have hb:(n==-9223372036854775808)=false:=by simp [h2]
   have hw:IntKind.u64.wrap d=d:=by rw[IntKind.wrap_u64];omega
   have hu1:okU (n.natAbs:Int)=true:=by simp [okU];omega
   have hu2:okU d=true:=by simp [okU];omega
   have hgg:Int.gcd (n.natAbs:Int) d=Int.gcd n d:=by simp [Int.gcd]
   by_cases h3:Int.gcd n d=1
   ·have hg:((Int.gcd (n.natAbs:Int) d:Int) != 1)=false:=by rw[hgg,h3];rfl
    refine⟨_,by simp only[go_sem,seval,bt45,p1,Tryz.f132,Tryz.underlying2,info2,Tryz.t2,Tryz.underlying38,info38,Tryz.t38,Tryz.underlying47,info47,Tryz.t47,Tryz.underlying196,info196,Tryz.t196,h1,hb,hw,hn,hu1,hu2,hg,body162,body129]<;>rfl,?_⟩
    have:chk n d:=⟨by omega,h2,h3⟩
    simp [Tryz.f132,this]
   ·have hg:((Int.gcd (n.natAbs:Int) d:Int) != 1)=true:=by rw[hgg];simp;omega
    refine⟨_,by simp only[go_sem,seval,bt45,p1,Tryz.f132,Tryz.underlying2,info2,Tryz.t2,Tryz.underlying38,info38,Tryz.t38,Tryz.underlying47,info47,Tryz.t47,Tryz.underlying196,info196,Tryz.t196,h1,hb,hw,hn,hu1,hu2,hg,body162,body129]<;>rfl,?_⟩
    have:¬chk n d:=λh=>h3 h.2.2
    simp [Tryz.f132,this]
theorem and32(x:Int):IntKind.u64.wrap ((BitVec.ofInt IntKind.u64.bits x &&& BitVec.ofInt IntKind.u64.bits 4294967295).toNat:Int)=x % 4294967296:=by
 have e:((BitVec.ofInt IntKind.u64.bits x).toNat:Int)=x % 18446744073709551616:=by
  rw[BitVec.toNat_ofInt]
  have:(2:Int) ^ IntKind.u64.bits=18446744073709551616:=rfl
  have h2:((2 ^ IntKind.u64.bits:Nat):Int)=18446744073709551616:=rfl
  rw[h2,Int.toNat_of_nonneg (Int.emod_nonneg _ (by decide))]
 have h3:(BitVec.ofInt IntKind.u64.bits 4294967295).toNat=2 ^ 32 - 1:=rfl
 rw[BitVec.toNat_and,h3,Nat.and_two_pow_sub_one_eq_mod,IntKind.wrap_u64]
 have h4:(((BitVec.ofInt IntKind.u64.bits x).toNat % 2 ^ 32:Nat):Int)=(x % 18446744073709551616) % 4294967296:=by
  rw[Int.natCast_emod,e];rfl
 rw[h4]
 omega
theorem sh32(x:Int):x.fdiv (2 ^ min 32 IntKind.u64.bits)=x / 4294967296:=by
 have:(2:Int) ^ min 32 IntKind.u64.bits=4294967296:=rfl
 rw[this,Int.fdiv_eq_ediv_of_nonneg _ (by decide)]
theorem prod_le{a b:Int}(ha:0<=a)(ha':a<=4294967295)(hb:0<=b)(hb':b<=4294967295):0<=a*b/\a*b<=18446744065119617025:=
 ⟨Int.mul_nonneg ha hb,Int.le_trans (Int.mul_le_mul ha' hb' hb (by decide)) (by decide)⟩
theorem mul64_math(x y:Int)(hx0:0<=x)(hx1:x<18446744073709551616)(hy0:0<=y)(hy1:y<18446744073709551616):
  IntKind.u64.wrap (IntKind.u64.wrap (IntKind.u64.wrap (x / 4294967296*(y / 4294967296))+IntKind.u64.wrap (IntKind.u64.wrap (x / 4294967296*(y % 4294967296))+IntKind.u64.wrap (x % 4294967296*(y % 4294967296)) / 4294967296) / 4294967296) +
   IntKind.u64.wrap (IntKind.u64.wrap (IntKind.u64.wrap (x / 4294967296*(y % 4294967296))+IntKind.u64.wrap (x % 4294967296*(y % 4294967296)) / 4294967296) % 4294967296+IntKind.u64.wrap (x % 4294967296*(y / 4294967296))) / 4294967296)=x*y / 18446744073709551616:=by
 have ex:x=4294967296*(x / 4294967296)+x % 4294967296:=(Int.mul_ediv_add_emod x 4294967296).symm
 have ey:y=4294967296*(y / 4294967296)+y % 4294967296:=(Int.mul_ediv_add_emod y 4294967296).symm
 have bx1:0<=x / 4294967296/\x / 4294967296<=4294967295:=by omega
 have by1:0<=y / 4294967296/\y / 4294967296<=4294967295:=by omega
 have bx0:0<=x % 4294967296/\x % 4294967296<=4294967295:=by omega
 have by0:0<=y % 4294967296/\y % 4294967296<=4294967295:=by omega
 generalize x / 4294967296=X1 at *
 generalize x % 4294967296=X0 at *
 generalize y / 4294967296=Y1 at *
 generalize y % 4294967296=Y0 at *
 have h11:=prod_le bx1.1 bx1.2 by1.1 by1.2
 have h10:=prod_le bx1.1 bx1.2 by0.1 by0.2
 have h01:=prod_le bx0.1 bx0.2 by1.1 by1.2
 have h00:=prod_le bx0.1 bx0.2 by0.1 by0.2
 have e:x*y=18446744073709551616*(X1*Y1)+4294967296*(X1*Y0)+4294967296*(X0*Y1)+X0*Y0:=by
  rw[ex,ey];grind
 rw[e]
 generalize X1*Y1=p11 at *
 generalize X1*Y0=p10 at *
 generalize X0*Y1=p01 at *
 generalize X0*Y0=p00 at *
 simp only[IntKind.wrap_u64]
 omega
theorem mul64_call(x y:Int)(U:St)(hx:okU x=true)(hy:okU y=true):DCall Tryz.prog 180 [.int .u64 x,.int .u64 y] U (.ret (.tuple ⟨[.int .u64 (x*y / 18446744073709551616),.int .u64 (x*y % 18446744073709551616)]⟩)) U []:=by
 simp only[okU,Bool.and_eq_true,decide_eq_true_eq]at hx hy
 refine calls Orc.none_ok Tryz.func180 rfl 40 nobt (by kernel_rfl) ?_
 refine⟨_,by simp only[nadd_le,nadd_lt,nle_add,nlt_add,nadd_eq,neq_add,Nat.add_le_add_iff_left,Nat.add_lt_add_iff_left,Nat.add_left_cancel_iff,Nat.add_assoc,Nat.testBit_eq_decide_div_mod_eq,Nat.reducePow,Nat.reduceDiv,Nat.reduceMod,runOps_nil,runOps_cons,runDrawn_nil,runDrawn_cons,run_loop_job,run_scope_job,run_skip,run_label,run_exit,run_goto,run_ret,run_seq,run_cond,run_block,run_loop,run_scope,run_region,pureK_some,pureO_call,callK_ret,callK_panic,opsK_val,opsK_new,opsK_eff,opsK_panic,opsK_enter,opsK_round,opsK_defer,wantK_true,wantK_false,consD_some,callD_ret,drawnK_val,drawnK_new,drawnK_eff,drawnK_enter,condK_true,condK_false,blockK_some,preO_some,thenR_norm,thenR_exit,thenR_goto,thenR_ret,thenR_panic,jumpK_some,jumpK_none,scopeK_goto,scopeK_norm,scopeK_exit,scopeK_ret,scopeK_panic,regO_some,regD_some,regionR_false,regionR_true,dynOk,loud,quietK,stepOp,stepBuiltin,start,Fr.put,putL,wantedA,yieldedA,lget?,ev,evs,evo,lget,plain,plainL,partsA,cx_und,cx_info,cx_flat,opBin,isShift,intOp,shiftOp,strOp,eqOp,opUn,opConvert,RR.pre,endsA,resA,resList,resOne,opPick,opExtract,opBuild,opBuildSlice,opBuild.lgetP,Nat.le_zero_eq,Nat.zero_le,opBox,opNilCheck,opField,opIndex,opCall,AX.inBlock,findLabel,isAggD,partA,placesA,fillA,opMakeFunc,opMakeIface,opPanic,opDefer,bnd,oneCells,vcells,over,opLoad,opStore,opAlloc,opFieldAddr,opIndexAddr,St.get_new,St.get_set,St.get_put,St.next_new,St.next_set,clash,SK.isFull,SK.lg,SK.rd,List.set_cons_succ,List.set_cons_zero,List.getElem?_cons_succ,List.getElem?_cons_zero,List.length_cons,List.length_nil,List.append_nil,List.nil_append,List.cons_append,List.replicate_succ,List.replicate_zero,List.drop_zero,List.drop_succ_cons,List.take_zero,List.take_succ_cons,List.take_nil,List.drop_nil,Option.map_some,Option.map_none,Bool.and_true,Bool.true_and,Bool.and_false,Bool.false_and,Bool.or_true,Bool.true_or,Bool.or_false,Bool.false_or,Bool.not_true,Bool.not_false,decide_true,decide_false,if_true,if_false,ite_true,ite_false,dite_true,dite_false,List.all_cons,List.all_nil,List.any_cons,List.any_nil,List.contains_cons,List.contains_nil,List.isEmpty_nil,List.isEmpty_cons,Nat.reduceAdd,Nat.reduceSub,Nat.reduceMul,Nat.reduceLeDiff,Nat.reduceLT,Nat.reduceEqDiff,Nat.zero_add,Nat.add_zero,beq_self_eq_true,Bool.true_beq,Bool.false_beq,bne_iff_ne,bne_self_eq_false,reduceCtorEq,List.getD_cons_succ,List.getD_cons_zero,List.getD_nil,and_true,true_and,and_self,not_true_eq_false,not_false_eq_true,eq_self,ne_eq,reduceIte,reduceDIte,Option.some.injEq,if_pos rfl,beq_iff_eq,Int.reduceLT,Int.reduceLE,Int.reduceEq,Int.reduceNeg,Int.reduceAdd,Int.reduceSub,Int.reduceMul,Nat.lt_irrefl,Nat.le_refl,Nat.succ_ne_self,List.size_toArray,Int.cast_ofNat_Int,Int.reduceToNat,Nat.zero_mul,Nat.one_mul,Nat.mul_one,Tryz.f180,Tryz.underlying196,info196,Tryz.t196,and32,sh32]<;>rfl,?_⟩
 have e:=IntKind.wrap_u64 (x*y)
 simp only[nadd_le,nadd_lt,nle_add,nlt_add,nadd_eq,neq_add,Nat.add_le_add_iff_left,Nat.add_lt_add_iff_left,Nat.add_left_cancel_iff,Nat.add_assoc,Nat.testBit_eq_decide_div_mod_eq,Nat.reducePow,Nat.reduceDiv,Nat.reduceMod,runOps_nil,runOps_cons,runDrawn_nil,runDrawn_cons,run_loop_job,run_scope_job,run_skip,run_label,run_exit,run_goto,run_ret,run_seq,run_cond,run_block,run_loop,run_scope,run_region,pureK_some,pureO_call,callK_ret,callK_panic,opsK_val,opsK_new,opsK_eff,opsK_panic,opsK_enter,opsK_round,opsK_defer,wantK_true,wantK_false,consD_some,callD_ret,drawnK_val,drawnK_new,drawnK_eff,drawnK_enter,condK_true,condK_false,blockK_some,preO_some,thenR_norm,thenR_exit,thenR_goto,thenR_ret,thenR_panic,jumpK_some,jumpK_none,scopeK_goto,scopeK_norm,scopeK_exit,scopeK_ret,scopeK_panic,regO_some,regD_some,regionR_false,regionR_true,dynOk,loud,quietK,stepOp,stepBuiltin,start,Fr.put,putL,wantedA,yieldedA,lget?,ev,evs,evo,lget,plain,plainL,partsA,cx_und,cx_info,cx_flat,opBin,isShift,intOp,shiftOp,strOp,eqOp,opUn,opConvert,RR.pre,endsA,resA,resList,resOne,opPick,opExtract,opBuild,opBuildSlice,opBuild.lgetP,Nat.le_zero_eq,Nat.zero_le,opBox,opNilCheck,opField,opIndex,opCall,AX.inBlock,findLabel,isAggD,partA,placesA,fillA,opMakeFunc,opMakeIface,opPanic,opDefer,bnd,oneCells,vcells,over,opLoad,opStore,opAlloc,opFieldAddr,opIndexAddr,St.get_new,St.get_set,St.get_put,St.next_new,St.next_set,clash,SK.isFull,SK.lg,SK.rd,List.set_cons_succ,List.set_cons_zero,List.getElem?_cons_succ,List.getElem?_cons_zero,List.length_cons,List.length_nil,List.append_nil,List.nil_append,List.cons_append,List.replicate_succ,List.replicate_zero,List.drop_zero,List.drop_succ_cons,List.take_zero,List.take_succ_cons,List.take_nil,List.drop_nil,Option.map_some,Option.map_none,Bool.and_true,Bool.true_and,Bool.and_false,Bool.false_and,Bool.or_true,Bool.true_or,Bool.or_false,Bool.false_or,Bool.not_true,Bool.not_false,decide_true,decide_false,if_true,if_false,ite_true,ite_false,dite_true,dite_false,List.all_cons,List.all_nil,List.any_cons,List.any_nil,List.contains_cons,List.contains_nil,List.isEmpty_nil,List.isEmpty_cons,Nat.reduceAdd,Nat.reduceSub,Nat.reduceMul,Nat.reduceLeDiff,Nat.reduceLT,Nat.reduceEqDiff,Nat.zero_add,Nat.add_zero,beq_self_eq_true,Bool.true_beq,Bool.false_beq,bne_iff_ne,bne_self_eq_false,reduceCtorEq,List.getD_cons_succ,List.getD_cons_zero,List.getD_nil,and_true,true_and,and_self,not_true_eq_false,not_false_eq_true,eq_self,ne_eq,reduceIte,reduceDIte,Option.some.injEq,if_pos rfl,beq_iff_eq,Int.reduceLT,Int.reduceLE,Int.reduceEq,Int.reduceNeg,Int.reduceAdd,Int.reduceSub,Int.reduceMul,Nat.lt_irrefl,Nat.le_refl,Nat.succ_ne_self,List.size_toArray,Int.cast_ofNat_Int,Int.reduceToNat,Nat.zero_mul,Nat.one_mul,Nat.mul_one,Tryz.f180,mul64_math x y hx.1 hx.2 hy.1 hy.2,e]
def p2:FuncId->List Value->Option Value
 |180,[.int .u64 x,.int .u64 y]=>if okU x&&okU y then some (.tuple ⟨[.int .u64 (x*y / 18446744073709551616),.int .u64 (x*y % 18446744073709551616)]⟩) else none
 |f,args=>p1 f args
theorem p1_is:∀f args v,p1 f args=some v->∀U,DCall Tryz.prog f args U (.ret v) U []:=λf args v h U=>
 p1_ok.call f args U (.ret v) U [] (by rw[pureO_call,h];rfl)
theorem p2_is:∀f args v,p2 f args=some v->∀U,DCall Tryz.prog f args U (.ret v) U []:=λf args v h U=>by
 unfold p2 at h
 split at h
 ·split at h
  ·rename_i x y hn
   simp only[Bool.and_eq_true]at hn
   cases h
   exact mul64_call x y U hn.1 hn.2
  ·cases h
 ·exact p1_is f args v h U
theorem p2_ok:(pureO p2).Ok Tryz.prog:=pureO_ok p2_is
def wideV(n:Int):Value:=.agg ⟨[.int .u64 (n / 18446744073709551616),.int .u64 (n % 18446744073709551616)]⟩
theorem times_call(x y:Int)(U:St)(hx:okU x=true)(hy:okU y=true):DCall Tryz.prog 159 [.int .u64 x,.int .u64 y] U (.ret (wideV (x*y))) U []:=by
 refine DCall.forget (U':=(U.new (.cells [.int .u64 0,.int .u64 0] false)).set U.next (.cells [.int .u64 (x*y / 18446744073709551616),.int .u64 (x*y % 18446744073709551616)] false)) ?_ rfl
 have h:=callsL p2_ok Tryz.func159 rfl 40 nobt (by kernel_rfl) (args:=[.int .u64 x,.int .u64 y]) (U:=U) (e:=.ret (wideV (x*y)))
  (U':=(U.new (.cells [.int .u64 0,.int .u64 0] false)).set U.next (.cells [.int .u64 (x*y / 18446744073709551616),.int .u64 (x*y % 18446744073709551616)] false))
  ⟨_,by simp only[go_sem,seval,Tryz.f159,p2,Tryz.underlying196,info196,Tryz.t196,Tryz.underlying245,info245,Tryz.t245,Tryz.underlying246,info246,Tryz.t246,Tryz.underlying254,info254,Tryz.t254,hx,hy,body180]<;>rfl,by simp only[go_sem,seval,Tryz.f159,Tryz.underlying196,info196,Tryz.t196,Tryz.underlying245,info245,Tryz.t245,Tryz.underlying246,info246,Tryz.t246,wideV],rfl,λc hc=>by rw[St.get_set,if_neg (by omega),St.get_new,if_neg (by omega)]⟩
 exact h
theorem less_call(a b:Int)(U:St):DCall Tryz.prog 160 [wideV a,wideV b] U (.ret (.bool (decide (a<b)))) U []:=by
 have dec:∀x y:Int,decide (x<y)=(decide (x / 18446744073709551616<y / 18446744073709551616) || ((x / 18446744073709551616==y / 18446744073709551616)&&decide (x % 18446744073709551616<y % 18446744073709551616))):=λx y=>by
  by_cases h:x<y
  ·have:x / 18446744073709551616<y / 18446744073709551616\/x / 18446744073709551616=y / 18446744073709551616/\x % 18446744073709551616<y % 18446744073709551616:=by omega
   simp [h];omega
  ·simp [h];omega
 refine DCall.forget (U':=(U.new (.cells [.int .u64 (a / 18446744073709551616),.int .u64 (a % 18446744073709551616)] false)).new (.cells [.int .u64 (b / 18446744073709551616),.int .u64 (b % 18446744073709551616)] false)) ?_ rfl
 rw[dec]
 unfold wideV
 generalize a / 18446744073709551616=a1
 generalize a % 18446744073709551616=a0
 generalize b / 18446744073709551616=b1
 generalize b % 18446744073709551616=b0
 refine callsL p2_ok Tryz.func160 rfl 40 nobt (by kernel_rfl) ?_
 by_cases h1:a1<b1
 ·exact⟨_,by simp only[go_sem,seval,Tryz.f160,Tryz.underlying4,info4,Tryz.t4,Tryz.underlying196,info196,Tryz.t196,Tryz.underlying245,info245,Tryz.t245,Tryz.underlying246,info246,Tryz.t246,h1]<;>rfl,by simp only[go_sem,seval,Tryz.f160,h1],rfl,λc hc=>by rw[St.get_new,if_neg (by simp;omega),St.get_new,if_neg (by omega)]⟩
 ·by_cases h2:a1=b1
  ·subst h2
   by_cases h3:a0<b0
   ·exact⟨_,by simp only[go_sem,seval,Tryz.f160,Tryz.underlying4,info4,Tryz.t4,Tryz.underlying196,info196,Tryz.t196,Tryz.underlying245,info245,Tryz.t245,Tryz.underlying246,info246,Tryz.t246,h1,h3]<;>rfl,by simp only[go_sem,seval,Tryz.f160,h1,h3],rfl,λc hc=>by rw[St.get_new,if_neg (by simp;omega),St.get_new,if_neg (by omega)]⟩
   ·exact⟨_,by simp only[go_sem,seval,Tryz.f160,Tryz.underlying4,info4,Tryz.t4,Tryz.underlying196,info196,Tryz.t196,Tryz.underlying245,info245,Tryz.t245,Tryz.underlying246,info246,Tryz.t246,h1,h3]<;>rfl,by simp only[go_sem,seval,Tryz.f160,h1,h3],rfl,λc hc=>by rw[St.get_new,if_neg (by simp;omega),St.get_new,if_neg (by omega)]⟩
  ·have h4:(a1==b1)=false:=by simp [h2]
   exact⟨_,by simp only[go_sem,seval,Tryz.f160,Tryz.underlying4,info4,Tryz.t4,Tryz.underlying196,info196,Tryz.t196,Tryz.underlying245,info245,Tryz.t245,Tryz.underlying246,info246,Tryz.t246,h1,h4]<;>rfl,by simp only[go_sem,seval,Tryz.f160,h1,h4],rfl,λc hc=>by rw[St.get_new,if_neg (by simp;omega),St.get_new,if_neg (by omega)]⟩
theorem must_call(k:IntKind)(n:Int)(U:St):DCall Tryz.prog 127 [.bool true,.int k n] U (.ret (.tuple ⟨[]⟩)) U []:=by
 refine calls Orc.none_ok Tryz.func127 rfl 20 nobt (by kernel_rfl) ?_
 exact⟨_,by simp only[go_sem,seval,Tryz.f127,Tryz.underlying4,info4,Tryz.t4,Tryz.underlying47,info47,Tryz.t47,Tryz.underlying196,info196,Tryz.t196]<;>rfl,by simp only[go_sem,seval,Tryz.f127],rfl,rfl⟩
def p3:FuncId->List Value->Option Value
 |132,[.agg ⟨[.int .i64 n,.int .i64 d]⟩]=>if okI n&&okI d then some (.int .i64 (if chk n d then 0 else 2)) else none
 |127,[.bool true,.int _ _]=>some (.tuple ⟨[]⟩)
 |f,args=>p2 f args
theorem p3_is:∀f args v,p3 f args=some v->∀U,DCall Tryz.prog f args U (.ret v) U []:=λf args v h U=>by
 unfold p3 at h
 split at h
 ·split at h
  ·rename_i n d hn
   simp only[Bool.and_eq_true]at hn
   cases h
   exact check_call n d U hn.1 hn.2
  ·cases h
 ·cases h;exact must_call _ _ U
 ·exact p2_is f args v h U
theorem p3_ok:(pureO p3).Ok Tryz.prog:=pureO_ok p3_is
theorem both_call(b:Nat)(n₁ d₁ n₂ d₂:Int)(U:St)(hb:b<U.next)(hg:U.get b=some (.cells [.int .i64 n₁,.int .i64 d₁,.int .i64 n₂,.int .i64 d₂] false))
  (h1:okI n₁=true) (h2:okI d₁=true) (h3:okI n₂=true) (h4:okI d₂=true) (c1:chk n₁ d₁) (c2:chk n₂ d₂):
  DCall Tryz.prog 158 [.slice (some ⟨b,0,some 0⟩) 2 2] U (.ret (.tuple ⟨[]⟩)) U []:=by
 have hne:¬U.next=b:=by omega
 have hne2:¬U.next+1=b:=by omega
 let U':=((((U.new (.cells [.int .i64 0,.int .i64 0] false)).set U.next (.cells [.int .i64 n₁,.int .i64 d₁] false)).new (.cells [.int .i64 0,.int .i64 0] false)).set (U.next+1) (.cells [.int .i64 n₂,.int .i64 d₂] false))
 refine DCall.forget (U':=U') ?_ rfl
 refine callsL p3_ok Tryz.func158 rfl 60 nobt (by kernel_rfl) ?_
 have w1:IntKind.i64.wrap 1=1:=by decide
 have w2:IntKind.i64.wrap 2=2:=by decide
 refine⟨_,by simp only[go_sem,seval,Tryz.f158,p3,opLen,Tryz.underlying2,info2,Tryz.t2,Tryz.underlying3,info3,Tryz.t3,Tryz.underlying4,info4,Tryz.t4,Tryz.underlying208,info208,Tryz.t208,Tryz.underlying38,info38,Tryz.t38,Tryz.underlying47,info47,Tryz.t47,Tryz.underlying196,info196,Tryz.t196,h1,h2,h3,h4,c1,c2,hg,hne,hne2,w1,w2,body132,body127]<;>rfl,by simp only[go_sem,seval,Tryz.f158],rfl,λc hc=>?_⟩
 rw[St.get_set,if_neg (by omega),St.get_new,if_neg (by simp;omega),St.get_set,if_neg (by omega),St.get_new,if_neg (by omega)]
def cmpR(n₁ d₁ n₂ d₂:Int):Int:=if n₁*d₂=n₂*d₁ then 0 else if n₁*d₂<n₂*d₁ then -1 else 1
def p4:FuncId->List Value->Option Value
 |159,[.int .u64 x,.int .u64 y]=>if okU x&&okU y then some (wideV (x*y)) else none
 |f,args=>p3 f args
theorem p4_is:∀f args v,p4 f args=some v->∀U,DCall Tryz.prog f args U (.ret v) U []:=λf args v h U=>by
 unfold p4 at h
 split at h
 ·split at h
  ·rename_i x y hn
   simp only[Bool.and_eq_true]at hn
   cases h
   exact times_call x y U hn.1 hn.2
  ·cases h
 ·exact p3_is f args v h U
theorem p4_ok:(pureO p4).Ok Tryz.prog:=pureO_ok p4_is
def bt88:Nat->List Nat
 |5=>[0,1,3,0,8,24,63,0,128,511,0,1024,3072,8191,0,0,65535,131071]
 |8=>[0,0,3,0,8,24,63,127]
 |_=>[]
def pl(a b:Int):FuncId->List Value->Option Value
 |160,[.agg ⟨[.int .u64 x1,.int .u64 x0]⟩,.agg ⟨[.int .u64 y1,.int .u64 y0]⟩]=>if x1=a / 18446744073709551616/\x0=a % 18446744073709551616/\y1=b / 18446744073709551616/\y0=b % 18446744073709551616 then some (.bool (decide (a<b))) else none
 |f,args=>p4 f args
theorem pl_ok(a b:Int):(pureO (pl a b)).Ok Tryz.prog:=pureO_ok λf args v h U=>by
 unfold pl at h
 split at h
 ·split at h
  ·rename_i hn
   obtain⟨rfl,rfl,rfl,rfl⟩:=hn
   cases h
   exact less_call a b U
  ·cases h
 ·exact p4_is f args v h U
theorem flat191:flats Tryz.prog 246=some [.int,.int]:=by kernel_rfl
theorem eqW(x y:Int):eqCells [.int,.int] [.int .u64 (x / 18446744073709551616),.int .u64 (x % 18446744073709551616)] [.int .u64 (y / 18446744073709551616),.int .u64 (y % 18446744073709551616)]=some (x==y):=by
 simp only[eqCells,if_true]
 by_cases h:x=y
 ·subst h;simp
 ·by_cases h1:x / 18446744073709551616=y / 18446744073709551616
  ·have h2:¬x % 18446744073709551616=y % 18446744073709551616:=by omega
   simp [h,h1,h2]
  ·simp [h,h1]
theorem compared_same(n₁ d₁ n₂ d₂ X Y:Int)(neg:Bool)(U:St)(h1:okI n₁=true)(h2:okI d₁=true)(h3:okI n₂=true)(h4:okI d₂=true)
  (u1:okU (n₁.natAbs:Int)=true) (u2:okU (n₂.natAbs:Int)=true) (u3:okU d₁=true) (u4:okU d₂=true) (wd1:IntKind.u64.wrap d₁=d₁) (wd2:IntKind.u64.wrap d₂=d₂)
  (s1:decide (n₁<0)=neg) (s2:decide (n₂<0)=neg) (hX:(n₁.natAbs:Int)*d₂=X) (hY:(n₂.natAbs:Int)*d₁=Y):
  ∃U',DCall Tryz.prog 124 [.agg ⟨[.int .i64 n₁,.int .i64 d₁]⟩,.agg ⟨[.int .i64 n₂,.int .i64 d₂]⟩] U (.ret (.int .i64 (if X=Y then 0 else if decide (X<Y) != neg then -1 else 1))) U' []:=by
 refine⟨_,callsL (pl_ok X Y) Tryz.func124 rfl 60 bt88 (by kernel_rfl) (U':=(((((U.new (.cells [.int .i64 n₁,.int .i64 d₁] false)).new (.cells [.int .i64 n₂,.int .i64 d₂] false)).new (.cells [.int .u64 0,.int .u64 0] false)).new (.cells [.int .u64 0,.int .u64 0] false)).set (U.next+2) (.cells [.int .u64 (X / 18446744073709551616),.int .u64 (X % 18446744073709551616)] false)).set (U.next+3) (.cells [.int .u64 (Y / 18446744073709551616),.int .u64 (Y % 18446744073709551616)] false)) ?_⟩
 have fin:∀c,c<U.next->((((((U.new (.cells [.int .i64 n₁,.int .i64 d₁] false)).new (.cells [.int .i64 n₂,.int .i64 d₂] false)).new (.cells [.int .u64 0,.int .u64 0] false)).new (.cells [.int .u64 0,.int .u64 0] false)).set (U.next+2) (.cells [.int .u64 (X / 18446744073709551616),.int .u64 (X % 18446744073709551616)] false)).set (U.next+3) (.cells [.int .u64 (Y / 18446744073709551616),.int .u64 (Y % 18446744073709551616)] false)).get c=U.get c:=λc hc=>by
  rw[St.get_set,if_neg (by omega),St.get_set,if_neg (by omega),St.get_new,if_neg (by simp;omega),St.get_new,if_neg (by simp;omega),St.get_new,if_neg (by simp;omega),St.get_new,if_neg (by omega)]
 by_cases e:X=Y
 ·subst e
  cases neg<;>simp only[decide_eq_true_eq,decide_eq_false_iff_not]at s1 s2
  ·refine⟨_,by simp only[go_sem,seval,wideV,eqW,flat191,bt88,p1,p2,p3,p4,pl,Tryz.f124,Tryz.underlying2,info2,Tryz.t2,Tryz.underlying3,info3,Tryz.t3,Tryz.underlying4,info4,Tryz.t4,Tryz.underlying38,info38,Tryz.t38,Tryz.underlying196,info196,Tryz.t196,Tryz.underlying245,info245,Tryz.t245,Tryz.underlying246,info246,Tryz.t246,s1,s2,h1,h2,h3,h4,u1,u2,u3,u4,wd1,wd2,hX,hY,body129,body159,body160]<;>rfl,by simp only[go_sem,seval,Tryz.f124],rfl,fin⟩
  ·refine⟨_,by simp only[go_sem,seval,wideV,eqW,flat191,bt88,p1,p2,p3,p4,pl,Tryz.f124,Tryz.underlying2,info2,Tryz.t2,Tryz.underlying3,info3,Tryz.t3,Tryz.underlying4,info4,Tryz.t4,Tryz.underlying38,info38,Tryz.t38,Tryz.underlying196,info196,Tryz.t196,Tryz.underlying245,info245,Tryz.t245,Tryz.underlying246,info246,Tryz.t246,s1,s2,h1,h2,h3,h4,u1,u2,u3,u4,wd1,wd2,hX,hY,body129,body159,body160]<;>rfl,by simp only[go_sem,seval,Tryz.f124],rfl,fin⟩
 ·have e':(X==Y)=false:=by simp [e]
  by_cases l:X<Y
  ·cases neg<;>simp only[decide_eq_true_eq,decide_eq_false_iff_not]at s1 s2
   ·refine⟨_,by simp only[go_sem,seval,wideV,eqW,flat191,bt88,p1,p2,p3,p4,pl,Tryz.f124,Tryz.underlying2,info2,Tryz.t2,Tryz.underlying3,info3,Tryz.t3,Tryz.underlying4,info4,Tryz.t4,Tryz.underlying38,info38,Tryz.t38,Tryz.underlying196,info196,Tryz.t196,Tryz.underlying245,info245,Tryz.t245,Tryz.underlying246,info246,Tryz.t246,s1,s2,h1,h2,h3,h4,u1,u2,u3,u4,wd1,wd2,hX,hY,e',l,body129,body159,body160]<;>rfl,by simp only[go_sem,seval,Tryz.f124,e,l],rfl,fin⟩
   ·refine⟨_,by simp only[go_sem,seval,wideV,eqW,flat191,bt88,p1,p2,p3,p4,pl,Tryz.f124,Tryz.underlying2,info2,Tryz.t2,Tryz.underlying3,info3,Tryz.t3,Tryz.underlying4,info4,Tryz.t4,Tryz.underlying38,info38,Tryz.t38,Tryz.underlying196,info196,Tryz.t196,Tryz.underlying245,info245,Tryz.t245,Tryz.underlying246,info246,Tryz.t246,s1,s2,h1,h2,h3,h4,u1,u2,u3,u4,wd1,wd2,hX,hY,e',l,body129,body159,body160]<;>rfl,by simp only[go_sem,seval,Tryz.f124,e,l],rfl,fin⟩
  ·cases neg<;>simp only[decide_eq_true_eq,decide_eq_false_iff_not]at s1 s2
   ·refine⟨_,by simp only[go_sem,seval,wideV,eqW,flat191,bt88,p1,p2,p3,p4,pl,Tryz.f124,Tryz.underlying2,info2,Tryz.t2,Tryz.underlying3,info3,Tryz.t3,Tryz.underlying4,info4,Tryz.t4,Tryz.underlying38,info38,Tryz.t38,Tryz.underlying196,info196,Tryz.t196,Tryz.underlying245,info245,Tryz.t245,Tryz.underlying246,info246,Tryz.t246,s1,s2,h1,h2,h3,h4,u1,u2,u3,u4,wd1,wd2,hX,hY,e',l,body129,body159,body160]<;>rfl,by simp only[go_sem,seval,Tryz.f124,e,l],rfl,fin⟩
   ·refine⟨_,by simp only[go_sem,seval,wideV,eqW,flat191,bt88,p1,p2,p3,p4,pl,Tryz.f124,Tryz.underlying2,info2,Tryz.t2,Tryz.underlying3,info3,Tryz.t3,Tryz.underlying4,info4,Tryz.t4,Tryz.underlying38,info38,Tryz.t38,Tryz.underlying196,info196,Tryz.t196,Tryz.underlying245,info245,Tryz.t245,Tryz.underlying246,info246,Tryz.t246,s1,s2,h1,h2,h3,h4,u1,u2,u3,u4,wd1,wd2,hX,hY,e',l,body129,body159,body160]<;>rfl,by simp only[go_sem,seval,Tryz.f124,e,l],rfl,fin⟩
theorem compared_call(n₁ d₁ n₂ d₂:Int)(U:St)(h1:okI n₁=true)(h2:okI d₁=true)(h3:okI n₂=true)(h4:okI d₂=true)(c1:chk n₁ d₁)(c2:chk n₂ d₂):
  DCall Tryz.prog 124 [.agg ⟨[.int .i64 n₁,.int .i64 d₁]⟩,.agg ⟨[.int .i64 n₂,.int .i64 d₂]⟩] U (.ret (.int .i64 (cmpR n₁ d₁ n₂ d₂))) U []:=by
 have k1:=h1
 have k2:=h2
 have k3:=h3
 have k4:=h4
 simp only[okI,Bool.and_eq_true,decide_eq_true_eq]at k1 k2 k3 k4
 have e1:=c1.1
 have e2:=c2.1
 have u1:okU (n₁.natAbs:Int)=true:=by simp [okU];omega
 have u2:okU (n₂.natAbs:Int)=true:=by simp [okU];omega
 have u3:okU d₁=true:=by simp [okU];omega
 have u4:okU d₂=true:=by simp [okU];omega
 have wd1:IntKind.u64.wrap d₁=d₁:=by rw[IntKind.wrap_u64];omega
 have wd2:IntKind.u64.wrap d₂=d₂:=by rw[IntKind.wrap_u64];omega
 by_cases s1:n₁<0
 ·by_cases s2:n₂<0
  ·obtain⟨U',h⟩:=compared_same n₁ d₁ n₂ d₂ (-(n₁*d₂)) (-(n₂*d₁)) true U h1 h2 h3 h4 u1 u2 u3 u4 wd1 wd2 (by simp [s1]) (by simp [s2]) (by rw[show(n₁.natAbs:Int)=-n₁ by omega,Int.neg_mul]) (by rw[show(n₂.natAbs:Int)=-n₂ by omega,Int.neg_mul])
   have e:(if -(n₁*d₂)=-(n₂*d₁) then(0:Int) else if decide (-(n₁*d₂) < -(n₂*d₁)) != true then -1 else 1)=cmpR n₁ d₁ n₂ d₂:=by
    unfold cmpR
    generalize n₁*d₂=a
    generalize n₂*d₁=b
    by_cases h:a=b
    ·simp [h]
    ·rw[if_neg (by omega),if_neg h]
     by_cases l:a<b
     ·have:¬-a < -b:=by omega
      simp [l,this]
     ·have:-a < -b:=by omega
      simp [l,this]
   rw[e]at h
   exact h.forget rfl
  ·have hlt:n₁*d₂<n₂*d₁:=by
    have a:n₁*d₂<0:=Int.mul_neg_of_neg_of_pos s1 (by omega)
    have b:0<=n₂*d₁:=Int.mul_nonneg (by omega) (by omega)
    omega
   have hc:cmpR n₁ d₁ n₂ d₂=-1:=by unfold cmpR;rw[if_neg (by omega),if_pos hlt]
   rw[hc]
   refine DCall.forget (U':=(U.new (.cells [.int .i64 n₁,.int .i64 d₁] false)).new (.cells [.int .i64 n₂,.int .i64 d₂] false)) ?_ rfl
   refine callsL p4_ok Tryz.func124 rfl 60 bt88 (by kernel_rfl) ?_
   refine⟨_,by simp only[go_sem,seval,Tryz.f124,p4,Tryz.underlying2,info2,Tryz.t2,Tryz.underlying3,info3,Tryz.t3,Tryz.underlying4,info4,Tryz.t4,Tryz.underlying38,info38,Tryz.t38,Tryz.underlying196,info196,Tryz.t196,Tryz.underlying246,info246,Tryz.t246,s1,s2]<;>rfl,by simp only[go_sem,seval,Tryz.f124],rfl,λc hc=>?_⟩
   rw[St.get_new,if_neg (by simp;omega),St.get_new,if_neg (by omega)]
 ·by_cases s2:n₂<0
  ·have hlt:n₂*d₁<n₁*d₂:=by
    have a:n₂*d₁<0:=Int.mul_neg_of_neg_of_pos s2 (by omega)
    have b:0<=n₁*d₂:=Int.mul_nonneg (by omega) (by omega)
    omega
   have hc:cmpR n₁ d₁ n₂ d₂=1:=by unfold cmpR;rw[if_neg (by omega),if_neg (by omega)]
   rw[hc]
   refine DCall.forget (U':=(U.new (.cells [.int .i64 n₁,.int .i64 d₁] false)).new (.cells [.int .i64 n₂,.int .i64 d₂] false)) ?_ rfl
   refine callsL p4_ok Tryz.func124 rfl 60 bt88 (by kernel_rfl) ?_
   refine⟨_,by simp only[go_sem,seval,Tryz.f124,p4,Tryz.underlying2,info2,Tryz.t2,Tryz.underlying3,info3,Tryz.t3,Tryz.underlying4,info4,Tryz.t4,Tryz.underlying38,info38,Tryz.t38,Tryz.underlying196,info196,Tryz.t196,Tryz.underlying246,info246,Tryz.t246,s1,s2]<;>rfl,by simp only[go_sem,seval,Tryz.f124],rfl,λc hc=>?_⟩
   rw[St.get_new,if_neg (by simp;omega),St.get_new,if_neg (by omega)]
  ·obtain⟨U',h⟩:=compared_same n₁ d₁ n₂ d₂ (n₁*d₂) (n₂*d₁) false U h1 h2 h3 h4 u1 u2 u3 u4 wd1 wd2 (by simp [s1]) (by simp [s2]) (by rw[show(n₁.natAbs:Int)=n₁ by omega]) (by rw[show(n₂.natAbs:Int)=n₂ by omega])
   have e:(if(n₁*d₂)=(n₂*d₁) then(0:Int) else if decide ((n₁*d₂)<(n₂*d₁)) != false then -1 else 1)=cmpR n₁ d₁ n₂ d₂:=by
    unfold cmpR
    by_cases h:n₁*d₂=n₂*d₁
    ·simp [h]
    ·rw[if_neg h,if_neg h]
     by_cases l:n₁*d₂<n₂*d₁<;>simp [l]
   rw[e]at h
   exact h.forget rfl
theorem one_other{orc:Orc}{f f':FuncId}{args args':List Value}{U U':St}{r:AE×St×Log}(h:¬f'=f):(orc.one f args U r).call f' args' U'=orc.call f' args' U':=by simp [Orc.one,h]
theorem one_ok'{P:Program}{orc:Orc}(h:orc.Ok P){f:FuncId}{args:List Value}{U U':St}{e:AE}{l:Log}(hr:DCall P f args U e U' l):(orc.one f args U (e,U',l)).Ok P:=Orc.one_ok h hr
def okR(n d:Int):Bool:=okI n&&okI d&&decide (chk n d)
def p5:FuncId->List Value->Option Value
 |124,[.agg ⟨[.int .i64 n₁,.int .i64 d₁]⟩,.agg ⟨[.int .i64 n₂,.int .i64 d₂]⟩]=>if okR n₁ d₁&&okR n₂ d₂ then some (.int .i64 (cmpR n₁ d₁ n₂ d₂)) else none
 |f,args=>p4 f args
theorem p5_is:∀f args v,p5 f args=some v->∀U,DCall Tryz.prog f args U (.ret v) U []:=λf args v h U=>by
 unfold p5 at h
 split at h
 ·split at h
  ·rename_i hn
   simp only[okR,Bool.and_eq_true,decide_eq_true_eq]at hn
   cases h
   exact compared_call _ _ _ _ U hn.1.1.1 hn.1.1.2 hn.2.1.1 hn.2.1.2 hn.1.2 hn.2.2
  ·cases h
 ·exact p4_is f args v h U
theorem p5_ok:(pureO p5).Ok Tryz.prog:=pureO_ok p5_is
theorem cmp1_call(p q:Nat)(n₁ d₁ n₂ d₂:Int)(U:St)(hp:p<U.next)(hq:q<U.next)(gp:U.get p=some (.cells [.int .i64 n₁,.int .i64 d₁] false))(gq:U.get q=some (.cells [.int .i64 n₂,.int .i64 d₂] false))
  (h1:okR n₁ d₁=true) (h2:okR n₂ d₂=true):
  DCall Tryz.prog 198 [.pointer (some ⟨p,0,none⟩),.pointer (some ⟨q,0,none⟩)] U (.ret (.int .i64 (cmpR n₁ d₁ n₂ d₂))) U []:=by
 have k1:=h1
 have k2:=h2
 simp only[okR,Bool.and_eq_true,decide_eq_true_eq]at k1 k2
 have np:¬U.next=p:=by omega
 have nq:¬U.next=q:=by omega
 let ob:AObj:=.cells [.int .i64 n₁,.int .i64 d₁,.int .i64 n₂,.int .i64 d₂] false
 have hb:=both_call U.next n₁ d₁ n₂ d₂ (U.new ob) (by simp) (by rw[St.get_new,if_pos rfl]) k1.1.1 k1.1.2 k2.1.1 k2.1.2 k1.2 k2.2
 refine DCall.forget (U':=U.new ob) ?_ rfl
 refine callsL (one_ok' p5_ok hb) Tryz.func198 rfl 60 nobt (by kernel_rfl) ?_
 refine⟨_,by simp only[go_sem,seval,ob,p5,one_other,Orc.one_call,zerosN,Tryz.f198,Tryz.underlying2,info2,Tryz.t2,Tryz.underlying3,info3,Tryz.t3,Tryz.underlying208,info208,Tryz.t208,Tryz.underlying38,info38,Tryz.t38,gp,gq,np,nq,h1,h2,body124,body158]<;>rfl,by simp only[go_sem,seval,Tryz.f198],rfl,λc hc=>?_⟩
 rw[St.get_new,if_neg (by omega)]
def bt149:Nat->List Nat
 |8=>[0,0,2,1,15]
 |_=>[]
theorem try_call(g:FuncId)(ys:List Value)(r:Int)(U:St)(hg:(cP Tryz.prog).bodies g=true)
  (H:DCall Tryz.prog g ys ((U.new (.cells [.int .i64 0] false)).new (.cells [.int .i64 0] false)) (.ret (.int .i64 r)) ((U.new (.cells [.int .i64 0] false)).new (.cells [.int .i64 0] false)) []):
  DCall Tryz.prog 197 [.func (.func g) ⟨[]⟩ ⟨ys⟩] U (.ret (.tuple ⟨[.int .i64 r,.int .i64 0]⟩)) U []:=by
 let U3:=(((U.new (.cells [.int .i64 0] false)).new (.cells [.int .i64 0] false)).set U.next (.cells [.int .i64 r] false)).set (U.next+1) (.cells [.int .i64 0] false)
 have hd:DDefer Tryz.prog 219 [.pointer (some ⟨U.next,0,none⟩),.pointer (some ⟨U.next+1,0,none⟩)] .returning U3 (.ret (.tuple ⟨[]⟩)) .returning U3 []:=by
  have:=DDefer.of_recover (u:=.returning) (U:=U3) (args:=[.pointer (some ⟨U.next,0,none⟩),.pointer (some ⟨U.next+1,0,none⟩)]) cP_ok.T ⟨Tryz.func219,rfl⟩ rfl rfl
   (runs Orc.none_ok 20 bt149 (by kernel_rfl) (r:=⟨.norm,⟨_,[]⟩,U3,[]⟩) (by simp only[go_sem,seval,recoverA,Tryz.f219,Tryz.underlying20,info20,Tryz.t20]<;>rfl)) (e:=.ret (.tuple ⟨[]⟩)) (by simp only[go_sem,seval,Tryz.f219])
  exact this
 refine DCall.forget (U':=U3) ?_ rfl
 have hc:∃r',run (cP Tryz.prog) (Orc.none.one g ys ((U.new (.cells [.int .i64 0] false)).new (.cells [.int .i64 0] false)) (.ret (.int .i64 r),(U.new (.cells [.int .i64 0] false)).new (.cells [.int .i64 0] false),[])) nobt false 30 (.code (Tryz.f197.body.getD .skip)) (start [.func (.func g) ⟨[]⟩ ⟨ys⟩] Tryz.f197.ntmps) U=some r'/\
   r'.x=.ret/\r'.U=U3/\r'.fr.ds=[{target:=.fn (.func 219) ⟨[.pointer (some ⟨U.next,0,none⟩),.pointer (some ⟨U.next+1,0,none⟩)]⟩,args:=⟨[]⟩}]/\lget r'.fr.ts 2=.pointer (some ⟨U.next,0,none⟩)/\lget r'.fr.ts 3=.pointer (some ⟨U.next+1,0,none⟩):=by
  refine⟨_,by simp only[go_sem,seval,Option.getD,Orc.one_call,Tryz.f197,Tryz.underlying1,info1,Tryz.t1,Tryz.underlying3,info3,Tryz.t3,Tryz.underlying47,info47,Tryz.t47,hg,body219]<;>rfl,?_⟩
  exact⟨rfl,rfl,rfl,rfl,rfl⟩
 obtain⟨r',h1,hx,hUs,hds,t2,t3⟩:=hc
 have h2:=runs (one_ok' Orc.none_ok H) 30 nobt (by kernel_rfl) h1
 have hl:DLeave Tryz.prog Tryz.f197 r'.fr.ts r'.fr.ds .returning r'.U (.ret (.tuple ⟨[.int .i64 r,.int .i64 0]⟩)) U3 ([]++[]):=by
  rw[hds,hUs]
  refine DLeave.cons rfl (cP_ok.bodies 219 body219) hd rfl (DLeave.returned cP_ok.T ?_)
  simp only[go_sem,seval,Tryz.f197,t2,t3,U3,Tryz.underlying3,info3,Tryz.t3,Tryz.underlying47,info47,Tryz.t47]
 have h3:=DCall.of_code_defers (f:=197) ⟨Tryz.func197,rfl⟩ h2 (.inl ⟨.inr hx,rfl⟩) hl
 refine⟨⟨h3.1.1,λc hc _=>?_⟩,h3.2⟩
 rw[St.get_set,if_neg (by omega),St.get_set,if_neg (by omega),St.get_new,if_neg (by simp;omega),St.get_new,if_neg (by omega)]
theorem cmp_call(n₁ d₁ n₂ d₂:Int)(U:St)(h1:okR n₁ d₁=true)(h2:okR n₂ d₂=true):
  DCall Tryz.prog 186 [.agg ⟨[.int .i64 n₁,.int .i64 d₁]⟩,.agg ⟨[.int .i64 n₂,.int .i64 d₂]⟩] U (.ret (.tuple ⟨[.int .i64 (cmpR n₁ d₁ n₂ d₂),.int .i64 0]⟩)) U []:=by
 let U2:=(U.new (.cells [.int .i64 n₁,.int .i64 d₁] false)).new (.cells [.int .i64 n₂,.int .i64 d₂] false)
 have hH:=cmp1_call U.next (U.next+1) n₁ d₁ n₂ d₂ ((U2.new (.cells [.int .i64 0] false)).new (.cells [.int .i64 0] false)) (by simp [U2]<;>omega) (by simp [U2])
  (by rw[St.get_new,if_neg (by simp [U2]<;>omega),St.get_new,if_neg (by simp [U2]<;>omega),St.get_new,if_neg (by simp),St.get_new,if_pos rfl])
  (by rw[St.get_new,if_neg (by simp [U2]<;>omega),St.get_new,if_neg (by simp [U2]<;>omega),St.get_new,if_pos (by simp)]) h1 h2
 have hT:=try_call 198 _ _ U2 body198 hH
 refine DCall.forget (U':=U2) ?_ rfl
 refine callsL (one_ok' Orc.none_ok hT) Tryz.func186 rfl 60 nobt (by kernel_rfl) ?_
 refine⟨_,by simp only[go_sem,seval,U2,Orc.one_call,Tryz.f186,Tryz.underlying2,info2,Tryz.t2,Tryz.underlying3,info3,Tryz.t3,Tryz.underlying38,info38,Tryz.t38,Tryz.underlying47,info47,Tryz.t47,body197,body198]<;>rfl,by simp only[go_sem,seval,Tryz.f186],rfl,λc hc=>?_⟩
 rw[St.get_new,if_neg (by simp;omega),St.get_new,if_neg (by omega)]
theorem nan_call(x:Int)(U:St):DCall Tryz.prog 174 [.int .i64 x] U (.ret (.bool false)) U []:=by
 refine calls Orc.none_ok Tryz.func174 rfl 20 nobt (by kernel_rfl) ?_
 have e:(x != x)=false:=by simp
 exact⟨_,by simp only[go_sem,seval,e,Tryz.f174,Tryz.underlying2,info2,Tryz.t2,Tryz.underlying4,info4,Tryz.t4]<;>rfl,by simp only[go_sem,seval,Tryz.f174],rfl,rfl⟩
def cmpI(x y:Int):Int:=if x<y then -1 else if y<x then 1 else 0
def p6:FuncId->List Value->Option Value
 |174,[.int .i64 _]=>some (.bool false)
 |186,[.agg ⟨[.int .i64 n₁,.int .i64 d₁]⟩,.agg ⟨[.int .i64 n₂,.int .i64 d₂]⟩]=>if okR n₁ d₁&&okR n₂ d₂ then some (.tuple ⟨[.int .i64 (cmpR n₁ d₁ n₂ d₂),.int .i64 0]⟩) else none
 |f,args=>p5 f args
theorem p6_is:∀f args v,p6 f args=some v->∀U,DCall Tryz.prog f args U (.ret v) U []:=λf args v h U=>by
 unfold p6 at h
 split at h
 ·cases h;exact nan_call _ U
 ·split at h
  ·rename_i hn
   rw[Bool.and_eq_true]at hn
   cases h
   exact cmp_call _ _ _ _ U hn.1 hn.2
  ·cases h
 ·exact p5_is f args v h U
theorem p6_ok:(pureO p6).Ok Tryz.prog:=pureO_ok p6_is
theorem compare_call(x y:Int)(U:St):DCall Tryz.prog 139 [.int .i64 x,.int .i64 y] U (.ret (.int .i64 (cmpI x y))) U []:=by
 refine calls p6_ok Tryz.func139 rfl 40 nobt (by kernel_rfl) ?_
 unfold cmpI
 by_cases h1:x<y
 ·exact⟨_,by simp only[go_sem,seval,p6,Tryz.f139,Tryz.underlying2,info2,Tryz.t2,Tryz.underlying3,info3,Tryz.t3,Tryz.underlying4,info4,Tryz.t4,h1,body174]<;>rfl,by simp only[go_sem,seval,Tryz.f139,h1],rfl,rfl⟩
 ·by_cases h2:y<x
  ·exact⟨_,by simp only[go_sem,seval,p6,Tryz.f139,Tryz.underlying2,info2,Tryz.t2,Tryz.underlying3,info3,Tryz.t3,Tryz.underlying4,info4,Tryz.t4,h1,h2,body174]<;>rfl,by simp only[go_sem,seval,Tryz.f139,h1,h2],rfl,rfl⟩
  ·exact⟨_,by simp only[go_sem,seval,p6,Tryz.f139,Tryz.underlying2,info2,Tryz.t2,Tryz.underlying3,info3,Tryz.t3,Tryz.underlying4,info4,Tryz.t4,h1,h2,body174]<;>rfl,by simp only[go_sem,seval,Tryz.f139,h1,h2],rfl,rfl⟩
theorem or_call(b:Nat)(x y:Int)(U:St)(hg:U.get b=some (.cells [.int .i64 x,.int .i64 y] false)):
  DCall Tryz.prog 187 [.slice (some ⟨b,0,some 0⟩) 2 2] U (.ret (.int .i64 (if x=0 then y else x))) U []:=by
 have w1:IntKind.i64.wrap 1=1:=by decide
 have w2:IntKind.i64.wrap 2=2:=by decide
 refine calls Orc.none_ok Tryz.func187 rfl 60 nobt (by kernel_rfl) ?_
 by_cases h1:x=0
 ·subst h1
  have e0:((0:Int) != 0)=false:=by decide
  by_cases h2:y=0
  ·subst h2
   exact⟨_,by simp only[go_sem,seval,opLen,e0,hg,w1,w2,Tryz.f187,Tryz.underlying2,info2,Tryz.t2,Tryz.underlying3,info3,Tryz.t3,Tryz.underlying4,info4,Tryz.t4,Tryz.underlying284,info284,Tryz.t284]<;>rfl,by simp only[go_sem,seval,Tryz.f187],rfl,rfl⟩
  ·have e1:(y != 0)=true:=by simp [h2]
   exact⟨_,by simp only[go_sem,seval,opLen,e0,e1,hg,w1,w2,Tryz.f187,Tryz.underlying2,info2,Tryz.t2,Tryz.underlying3,info3,Tryz.t3,Tryz.underlying4,info4,Tryz.t4,Tryz.underlying284,info284,Tryz.t284]<;>rfl,by simp only[go_sem,seval,Tryz.f187],rfl,rfl⟩
 ·have e1:(x != 0)=true:=by simp [h1]
  exact⟨_,by simp only[go_sem,seval,opLen,e1,hg,w1,w2,Tryz.f187,Tryz.underlying2,info2,Tryz.t2,Tryz.underlying3,info3,Tryz.t3,Tryz.underlying4,info4,Tryz.t4,Tryz.underlying284,info284,Tryz.t284]<;>rfl,by simp only[go_sem,seval,Tryz.f187,h1],rfl,rfl⟩
structure Item where
 id:Int
 n:Int
 d:Int
 turn:Int
def Item.cells(x:Item):List Value:=[.int .i64 x.id,.int .i64 x.n,.int .i64 x.d,.int .i64 x.turn]
def Item.ok(x:Item):Bool:=okI x.id&&okR x.n x.d&&okI x.turn
def cmpItem(x y:Item):Int:=if cmpR x.n x.d y.n y.d=0 then cmpI x.turn y.turn else cmpR x.n x.d y.n y.d
def p7:FuncId->List Value->Option Value
 |139,[.int .i64 x,.int .i64 y]=>some (.int .i64 (cmpI x y))
 |f,args=>p6 f args
theorem p7_is:∀f args v,p7 f args=some v->∀U,DCall Tryz.prog f args U (.ret v) U []:=λf args v h U=>by
 unfold p7 at h
 split at h
 ·cases h;exact compare_call _ _ U
 ·exact p6_is f args v h U
theorem p7_ok:(pureO p7).Ok Tryz.prog:=pureO_ok p7_is
theorem order_call(x y:Item)(U:St)(hx:x.ok=true)(hy:y.ok=true):DCall Tryz.prog 169 [.agg ⟨x.cells⟩,.agg ⟨y.cells⟩] U (.ret (.int .i64 (cmpItem x y))) U []:=by
 simp only[Item.ok,Bool.and_eq_true]at hx hy
 have r1:=hx.1.2
 have r2:=hy.1.2
 let U2:=(U.new (.cells x.cells false)).new (.cells y.cells false)
 let U3:=U2.new (.cells [.int .i64 (cmpR x.n x.d y.n y.d),.int .i64 (cmpI x.turn y.turn)] false)
 have hO:=or_call (U.next+2) (cmpR x.n x.d y.n y.d) (cmpI x.turn y.turn) U3 (by rw[St.get_new,if_pos (by simp [U2])])
 refine DCall.forget (U':=U3) ?_ rfl
 refine callsL (one_ok' p7_ok hO) Tryz.func169 rfl 60 nobt (by kernel_rfl) ?_
 refine⟨_,by simp only[go_sem,seval,U2,U3,Item.cells,p7,p6,one_other,Orc.one_call,zerosN,Tryz.f169,Tryz.underlying2,info2,Tryz.t2,Tryz.underlying3,info3,Tryz.t3,Tryz.underlying38,info38,Tryz.t38,Tryz.underlying47,info47,Tryz.t47,Tryz.underlying158,info158,Tryz.t158,Tryz.underlying159,info159,Tryz.t159,Tryz.underlying268,info268,Tryz.t268,Tryz.underlying284,info284,Tryz.t284,r1,r2,body186,body187,body139]<;>rfl,by simp only[go_sem,seval,Tryz.f169,cmpItem],rfl,λc hc=>?_⟩
 rw[St.get_new,if_neg (by simp [U2]<;>omega),St.get_new,if_neg (by simp;omega),St.get_new,if_neg (by omega)]
def lk:List MapEntry->Int->Option Int
 |[],_=>none
 |e :: es,k=>match e.key with
  |.int .i64 k'=>if k'=k then(match e.val with|.int .i64 v=>some v|_=>none) else lk es k
  |_=>lk es k
structure KV(es:List MapEntry):Prop where
 ints:∀e∈es,∃k v,e.key=.int .i64 k/\e.val=.int .i64 v
 nodup:es.Pairwise λa b=>a.key≠b.key
theorem KV.tail{e:MapEntry}{es:List MapEntry}(h:KV (e :: es)):KV es:=⟨λx hx=>h.ints x (by simp [hx]),(List.pairwise_cons.1 h.nodup).2⟩
theorem find_none{T:TT}(hT:∃k,T.und 2=some (.int k)){k:Int}:∀{es:List MapEntry} {i:Nat},KV es->lk es k=none->findA T 2 (.int .i64 k) es i=some none
 |[],_,_,_=>rfl
 |e :: es,i,h,hk=>by
  obtain⟨kk,hu⟩:=hT
  obtain⟨k',v,h1,h2⟩:=h.ints e (by simp)
  simp only[lk,h1,h2]at hk
  split at hk
  ·cases hk
  ·rename_i hne
   have:(k==k')=false:=by
    simp only[beq_eq_false_iff_ne];rintro rfl;exact hne rfl
   simp only[findA,keyEq,h1,hu,if_true,this]
   exact find_none ⟨kk,hu⟩ h.tail hk
theorem find_some{T:TT}(hT:∃k,T.und 2=some (.int k)){k v:Int}:∀{es:List MapEntry} {i:Nat},KV es->lk es k=some v->∃j e,findA T 2 (.int .i64 k) es i=some (some (i+j,e))/\e.val=.int .i64 v/\es[j]?=some e/\e.key=.int .i64 k
 |[],_,_,h=>by cases h
 |e :: es,i,h,hk=>by
  obtain⟨kk,hu⟩:=hT
  obtain⟨k',v',h1,h2⟩:=h.ints e (by simp)
  simp only[lk,h1,h2]at hk
  split at hk
  ·rename_i he
   subst he
   cases hk
   refine⟨0,e,?_,h2,rfl,h1⟩
   simp [findA,keyEq,h1,hu]
  ·rename_i hne
   have:(k==k')=false:=by
    simp only[beq_eq_false_iff_ne];rintro rfl;exact hne rfl
   obtain⟨j,e',a1,a2,a3,a4⟩:=find_some (i:=i+1) ⟨kk,hu⟩ h.tail hk
   refine⟨j+1,e',?_,a2,by simpa using a3,a4⟩
   simp only[findA,keyEq,h1,hu,if_true,this,a1]
   congr 3
   omega
theorem lk_none_key{k:Int}:∀{es:List MapEntry},KV es->lk es k=none->∀e∈es,e.key≠.int .i64 k
 |[],_,_,_,h=>by cases h
 |x :: es,h,hk,e,he=>by
  obtain⟨k',v',h1,h2⟩:=h.ints x (by simp)
  simp only[lk,h1,h2]at hk
  split at hk
  ·cases hk
  ·rename_i hne
   rcases List.mem_cons.1 he with rfl|he
   ·rw[h1];intro e';simp only[Value.int.injEq,true_and]at e';exact hne e'
   ·exact lk_none_key h.tail hk e he
theorem pushE_eq(es:List MapEntry)(x:MapEntry):pushE es x=es++[x]:=by induction es with
 |nil=>rfl
 |cons e es ih=>simp [pushE,ih]
theorem push_KV{es:List MapEntry}{k v:Int}{c:Nat}(h:KV es)(hk:lk es k=none):KV (pushE es ⟨.int .i64 k,.int .i64 v,c⟩):=by
 rw[pushE_eq]
 refine⟨λe he=>?_,?_⟩
 ·rcases List.mem_append.1 he with he|he
  ·exact h.ints e he
  ·simp only[List.mem_singleton]at he;subst he;exact⟨k,v,rfl,rfl⟩
 ·rw[List.pairwise_append]
  exact⟨h.nodup,by simp,λa ha b hb=>by simp only[List.mem_singleton]at hb;subst hb;exact lk_none_key h hk a ha⟩
theorem push_lk{k v:Int}{c:Nat}:∀{es:List MapEntry},KV es->lk es k=none->∀k',lk (pushE es ⟨.int .i64 k,.int .i64 v,c⟩) k'=if k'=k then some v else lk es k'
 |[],_,_,k'=>by
  simp only[pushE,lk,Value.int.injEq,true_and]
  by_cases e:k=k'
  ·subst e;simp
  ·rw[if_neg e,if_neg (Ne.symm e)]
 |x :: es,h,hk,k'=>by
  obtain⟨kx,vx,h1,h2⟩:=h.ints x (by simp)
  have hne:kx≠k:=λe=>lk_none_key h hk x (by simp) (by rw[h1,e])
  have hk':lk es k=none:=by
   simp only[lk,h1,h2,Value.int.injEq,true_and,if_neg hne]at hk;exact hk
  simp only[pushE,lk,h1,h2,Value.int.injEq,true_and]
  rw[push_lk h.tail hk' k']
  by_cases e:kx=k'
  ·subst e;rw[if_pos rfl,if_neg hne,if_pos rfl]
  ·rw[if_neg e,if_neg e]
theorem mod_KV{k v:Int}:∀{es:List MapEntry} {j:Nat} {e:MapEntry},KV es->es[j]?=some e->e.key=.int .i64 k->
  KV (modE es j (.int .i64 k) (.int .i64 v))/\∀k',lk (modE es j (.int .i64 k) (.int .i64 v)) k'=if k'=k then some v else lk es k'
 |[],_,_,_,h,_=>by simp at h
 |x :: es,0,e,h,he,hk=>by
  simp only[List.getElem?_cons_zero,Option.some.injEq]at he
  subst he
  simp only[modE]
  refine⟨⟨λy hy=>?_,?_⟩,λk'=>?_⟩
  ·rcases List.mem_cons.1 hy with rfl|hy
   ·exact⟨k,v,rfl,rfl⟩
   ·exact h.ints y (by simp [hy])
  ·have:=List.pairwise_cons.1 h.nodup
   refine List.pairwise_cons.2 ⟨λy hy=>?_,this.2⟩
   have:=this.1 y hy
   rw[hk]at this;exact this
  ·obtain⟨kx,vx,h1,h2⟩:=h.ints x (by simp)
   simp only[lk,hk,h2,Value.int.injEq,true_and]
   by_cases e:k=k'
   ·subst e;simp
   ·rw[if_neg e,if_neg (Ne.symm e),if_neg e]
 |x :: es,j+1,e,h,he,hk=>by
  simp only[List.getElem?_cons_succ]at he
  obtain⟨a,b⟩:=mod_KV h.tail he hk (v:=v)
  obtain⟨kx,vx,h1,h2⟩:=h.ints x (by simp)
  have hm:e∈es:=List.mem_of_getElem? he
  have hne:kx≠k:=λe'=>(List.pairwise_cons.1 h.nodup).1 e hm (by rw[h1,hk,e'])
  simp only[modE]
  refine⟨⟨λy hy=>?_,List.pairwise_cons.2 ⟨λy hy hkey=>?_,a.nodup⟩⟩,λk'=>?_⟩
  ·rcases List.mem_cons.1 hy with rfl|hy
   ·exact⟨kx,vx,h1,h2⟩
   ·exact a.ints y hy
  ·
   have keys:∀{l:List MapEntry} {i:Nat} {z:MapEntry},l[i]?=some z->z.key=.int .i64 k->∀y∈modE l i (.int .i64 k) (.int .i64 v),∃z∈l,z.key=y.key:=by
    intro l
    induction l with
    |nil=>intro i z h;simp at h
    |cons w l ih=>
     intro i z hz hzk y hy
     cases i with
     |zero=>
      simp only[List.getElem?_cons_zero,Option.some.injEq]at hz
      subst hz
      simp only[modE,List.mem_cons]at hy
      rcases hy with rfl|hy
      ·exact⟨w,by simp,hzk⟩
      ·exact⟨y,by simp [hy],rfl⟩
     |succ i=>
      simp only[List.getElem?_cons_succ]at hz
      simp only[modE,List.mem_cons]at hy
      rcases hy with rfl|hy
      ·exact⟨y,by simp,rfl⟩
      ·obtain⟨z',a1,a2⟩:=ih hz hzk y hy
       exact⟨z',by simp [a1],a2⟩
   obtain⟨z,hz,hzk⟩:=keys he hk y hy
   exact(List.pairwise_cons.1 h.nodup).1 z hz (by rw[hzk];exact hkey)
  ·simp only[lk,h1,h2,Value.int.injEq,true_and,b k']
   by_cases e:kx=k'
   ·subst e;rw[if_pos rfl,if_neg hne,if_pos rfl]
   ·rw[if_neg e,if_neg e]
theorem del_KV{k:Int}:∀{es:List MapEntry} {j:Nat} {e:MapEntry},KV es->es[j]?=some e->e.key=.int .i64 k->
  KV (delE es j)/\∀k',lk (delE es j) k'=if k'=k then none else lk es k'
 |[],_,_,_,h,_=>by simp at h
 |x :: es,0,e,h,he,hk=>by
  simp only[List.getElem?_cons_zero,Option.some.injEq]at he
  subst he
  obtain⟨kx,vx,h1,h2⟩:=h.ints x (by simp)
  simp only[delE]
  refine⟨h.tail,λk'=>?_⟩
  simp only[lk,hk,h2,Value.int.injEq,true_and]
  by_cases e:k=k'
  ·subst e
   rw[if_pos rfl]
   cases hl:lk es k with
   |none=>rfl
   |some v=>
    obtain⟨j,y,_,_,hy,hyk⟩:=find_some (T:=⟨λ_=>some {(default:TypeInfo) with desc:=.int .i64},λ_=>none,λ_=>none⟩) ⟨.i64,rfl⟩ (i:=0) h.tail hl
    exact absurd (hk.trans hyk.symm) ((List.pairwise_cons.1 h.nodup).1 y (List.mem_of_getElem? hy))
  ·rw[if_neg (Ne.symm e),if_neg e]
 |x :: es,j+1,e,h,he,hk=>by
  simp only[List.getElem?_cons_succ]at he
  obtain⟨a,b⟩:=del_KV h.tail he hk
  obtain⟨kx,vx,h1,h2⟩:=h.ints x (by simp)
  have hm:e∈es:=List.mem_of_getElem? he
  have hne:kx≠k:=λe'=>(List.pairwise_cons.1 h.nodup).1 e hm (by rw[h1,hk,e'])
  have sub:∀{l:List MapEntry} {i:Nat},∀y∈delE l i,y∈l:=by
   intro l
   induction l with
   |nil=>intro i y hy;cases hy
   |cons w l ih=>
    intro i y hy
    cases i with
    |zero=>simp only[delE]at hy;simp [hy]
    |succ i=>
     simp only[delE,List.mem_cons]at hy
     rcases hy with rfl|hy
     ·simp
     ·simp [ih y hy]
  simp only[delE]
  refine⟨⟨λy hy=>?_,List.pairwise_cons.2 ⟨λy hy=>(List.pairwise_cons.1 h.nodup).1 y (sub y hy),a.nodup⟩⟩,λk'=>?_⟩
  ·rcases List.mem_cons.1 hy with rfl|hy
   ·exact⟨kx,vx,h1,h2⟩
   ·exact a.ints y hy
  ·simp only[lk,h1,h2,Value.int.injEq,true_and,b k']
   by_cases e:kx=k'
   ·subst e;rw[if_pos rfl,if_neg hne,if_pos rfl]
   ·rw[if_neg e,if_neg e]
def cellsL:List Item->List Value
 |[]=>[]
 |x :: xs=>x.cells++cellsL xs
theorem Item.cells_length(x:Item):x.cells.length=4:=rfl
theorem cellsL_length:∀L:List Item,(cellsL L).length=4*L.length
 |[]=>rfl
 |x :: xs=>by simp [cellsL,Item.cells_length,cellsL_length xs];omega
theorem cells_at{G:List Value}:∀{L:List Item} {i:Nat} {x:Item},L[i]?=some x->((cellsL L++G).drop (i*4)).take 4=x.cells
 |[],_,_,h=>by simp at h
 |y :: L,0,x,h=>by
  simp only[List.getElem?_cons_zero,Option.some.injEq]at h
  subst h
  simp [cellsL,Item.cells]
 |y :: L,i+1,x,h=>by
  simp only[List.getElem?_cons_succ]at h
  have:=cells_at (G:=G) h
  have e:(i+1)*4=4+i*4:=by omega
  rw[e,<-List.drop_drop]
  simpa [cellsL,Item.cells]using this
theorem over_at{G:List Value}:∀{L:List Item} {i:Nat} (x:Item),i<L.length->over (cellsL L++G) (i*4) x.cells=cellsL (L.set i x)++G
 |[],_,_,h=>by simp at h
 |y :: L,0,x,h=>by simp [over,cellsL,Item.cells]
 |y :: L,i+1,x,h=>by
  have:=over_at (G:=G) (L:=L) (i:=i) x (by simpa using h)
  have e:(i+1)*4=i*4+4:=by omega
  rw[e,List.set_cons_succ]
  simp only[cellsL,Item.cells,List.cons_append,List.nil_append,over]at this ⊢
  rw[this]
def upd(f:Int->Option Int)(k v:Int):Int->Option Int:=λk'=>if k'=k then some v else f k'
structure HS(U:St)(h a m:Nat)(L:List Item)(cap:Nat)(turns:Int)(f:Int->Option Int):Prop where
 gh:U.get h=some (.cells [.map (some m),.slice (some ⟨a,0,some 6⟩) L.length cap,.int .i64 turns] false)
 ga:∃G,U.get a=some (.cells (cellsL L++G) false)/\L.length*4+G.length=cap*4
 gm:∃es ck,U.get m=some (.map es ck)/\KV es/\∀k,lk es k=f k
 ne:h≠a/\h≠m/\a≠m
 lt:h<U.next/\a<U.next/\m<U.next
theorem map_set{U:St}{m:Nat}{es:List MapEntry}{ck:Nat}{f:Int->Option Int}{k v:Int}(hg:U.get m=some (.map es ck))(hk:KV es)(hf:∀k,lk es k=f k):
  ∃es' ck',opMapUpdate (cP Tryz.prog).T U 162 (.map (some m)) (.int .i64 k) (.int .i64 v)=some (.eff undef (U.set m (.map es' ck')) [m])/\KV es'/\∀k',lk es' k'=upd f k v k':=by
 have hu:(cP Tryz.prog).T.und 2=some (.int .i64):=(cx_und 2).trans Tryz.underlying2
 have h96:(cP Tryz.prog).T.und 162=some (.map 2 3):=(cx_und 162).trans Tryz.underlying162
 cases hl:lk es k with
 |none=>
  refine⟨_,ck+1,?_,push_KV hk hl (v:=v) (c:=ck),λk'=>?_⟩
  ·simp only[opMapUpdate,h96,hg,keyOk,hu,if_true,find_none ⟨_,hu⟩ hk hl]
  ·rw[push_lk hk hl,hf];rfl
 |some u=>
  obtain⟨j,e,a1,a2,a3,a4⟩:=find_some (i:=0) ⟨_,hu⟩ hk hl
  obtain⟨b1,b2⟩:=mod_KV hk a3 a4 (v:=v)
  refine⟨_,ck,?_,b1,λk'=>?_⟩
  ·simp only[opMapUpdate,h96,hg,keyOk,hu,if_true,a1,Nat.zero_add]
  ·rw[b2,hf];rfl
theorem lget_id{L:List Item}{G:List Value}{i:Nat}{x:Item}(h:L[i]?=some x):lget? (cellsL L++G) (i*4)=some (.int .i64 x.id):=by
 have:=cells_at (G:=G) h
 rw[lget?_eq]
 have e:=congrArg (·[0]?) this
 simpa [Item.cells]using e
def bt46:Nat->List Nat
 |0=>[0,1,3,7,15,0,32,96,224,0,992,2016,4064,0,16383]
 |_=>[]
theorem lay_call{U:St}{h a m:Nat}{L:List Item}{cap:Nat}{t:Int}{f:Int->Option Int}(H:HS U h a m L cap t f){i:Nat}{x:Item}(hi:L[i]?=some x):
  ∃U',DCall Tryz.prog 133 [.pointer (some ⟨h,0,none⟩),.int .i64 i] U (.ret (.tuple ⟨[]⟩)) U' [m]/\HS U' h a m L cap t (upd f x.id i)/\U'.next=U.next/\∀c,c≠m->U'.get c=U.get c:=by
 obtain⟨G,ga,hG⟩:=H.ga
 obtain⟨es,ck,gm,hkv,hlk⟩:=H.gm
 obtain⟨n1,n2,n3⟩:=H.ne
 have gh:=H.gh
 have hil:i<L.length:=(List.getElem?_eq_some_iff.1 hi).1
 obtain⟨es',ck',hup,kv',lk'⟩:=map_set (k:=x.id) (v:=i) gm hkv hlk
 have c1:(0:Int)<=(i:Int)/\(i:Int)<(L.length:Int):=by omega
 have hld:=lget_id (G:=G) hi
 refine⟨U.set m (.map es' ck'),?_,⟨?_,⟨G,?_,hG⟩,⟨es',ck',by rw[St.get_set,if_pos rfl],kv',lk'⟩,H.ne,H.lt⟩,rfl,λc hc=>by rw[St.get_set,if_neg (Ne.symm hc)]⟩
 ·refine calls Orc.none_ok Tryz.func133 rfl 20 bt46 (by kernel_rfl) ?_
  have nh:¬U.next<=h:=by have:=H.lt.1;omega
  have na:¬U.next<=a:=by have:=H.lt.2.1;omega
  exact⟨_,by simp only[go_sem,seval,bt46,gh,ga,c1,hld,hup,nh,na,Int.toNat_natCast,Tryz.f133,Tryz.underlying2,info2,Tryz.t2,Tryz.underlying3,info3,Tryz.t3,Tryz.underlying158,info158,Tryz.t158,Tryz.underlying159,info159,Tryz.t159,Tryz.underlying165,info165,Tryz.t165,Tryz.underlying162,info162,Tryz.t162,Tryz.underlying163,info163,Tryz.t163,Tryz.underlying164,info164,Tryz.t164,Tryz.underlying166,info166,Tryz.t166,Tryz.underlying167,info167,Tryz.t167]<;>rfl,by simp only[go_sem,seval,Tryz.f133],rfl,rfl⟩
 ·rw[St.get_set,if_neg (Ne.symm n2)];exact gh
 ·rw[St.get_set,if_neg (Ne.symm n3)];exact ga
def bt115:Nat->List Nat
 |0=>[0,0,0,0,0,0,48,112,0,0,768,1792,4083,8179,16383,32767]
 |_=>[]
def swapL(L:List Item)(i j:Nat)(x y:Item):List Item:=(L.set i y).set j x
theorem change_call{U:St}{a:Nat}{L:List Item}{G:List Value}{cap:Nat}{i j:Nat}{x y:Item}(ga:U.get a=some (.cells (cellsL L++G) false))(hlt:a<U.next)(hi:L[i]?=some x)(hj:L[j]?=some y):
  DCall Tryz.prog 188 [.slice (some ⟨a,0,some 6⟩) L.length cap,.int .i64 i,.int .i64 j] U (.ret (.tuple ⟨[]⟩)) ((U.set a (.cells (cellsL (L.set i y)++G) false)).set a (.cells (cellsL (swapL L i j x y)++G) false)) [a,a]:=by
 have hil:i<L.length:=(List.getElem?_eq_some_iff.1 hi).1
 have hjl:j<L.length:=(List.getElem?_eq_some_iff.1 hj).1
 have c1:(0:Int)<=(i:Int)/\(i:Int)<(L.length:Int):=by omega
 have c2:(0:Int)<=(j:Int)/\(j:Int)<(L.length:Int):=by omega
 have e1:=cells_at (G:=G) hi
 have e2:=cells_at (G:=G) hj
 have o1:=over_at (G:=G) (L:=L) y hil
 have o2:=over_at (G:=G) (L:=L.set i y) x (by simpa using hjl)
 have l1:i*4+4<=(cellsL L++G).length:=by simp [cellsL_length];omega
 have l2:j*4+4<=(cellsL L++G).length:=by simp [cellsL_length];omega
 have l3:j*4+4<=(cellsL (L.set i y)++G).length:=by simp [cellsL_length];omega
 have na:¬U.next<=a:=by omega
 simp only[Item.cells]at e1 e2 o1 o2
 refine calls Orc.none_ok Tryz.func188 rfl 20 bt115 (by kernel_rfl) ?_
 exact⟨_,by simp only[go_sem,seval,bt115,ga,c1,c2,e1,e2,l1,l2,l3,o1,o2,na,Int.toNat_natCast,Tryz.f188,Tryz.underlying3,info3,Tryz.t3,Tryz.underlying158,info158,Tryz.t158,Tryz.underlying159,info159,Tryz.t159,Tryz.underlying165,info165,Tryz.t165]<;>rfl,by simp only[go_sem,seval,Tryz.f188],rfl,rfl⟩
theorem swapL_length(L:List Item)(i j:Nat)(x y:Item):(swapL L i j x y).length=L.length:=by simp [swapL]
theorem DCall.weaken{P:Program}{f:FuncId}{args:List Value}{U U':St}{e:AE}{l l':Log}(h:DCall P f args U e U' l)(hs:∀c∈l,c∈l'):DCall P f args U e U' l':=
 ⟨⟨h.1.1,λc hc hn=>h.1.2 c hc λhm=>hn (hs c hm)⟩,h.2⟩
theorem swap_call{U:St}{h a m:Nat}{L:List Item}{cap:Nat}{t:Int}{f:Int->Option Int}(H:HS U h a m L cap t f){i j:Nat}{x y:Item}(hi:L[i]?=some x)(hj:L[j]?=some y):
  ∃U',DCall Tryz.prog 170 [.pointer (some ⟨h,0,none⟩),.int .i64 i,.int .i64 j] U (.ret (.tuple ⟨[]⟩)) U' [a,m]/\HS U' h a m (swapL L i j x y) cap t (upd (upd f (if i=j then x.id else y.id) i) x.id j)/\U'.next=U.next/\∀c,c≠a->c≠m->U'.get c=U.get c:=by
 obtain⟨G,ga,hG⟩:=H.ga
 have gh:=H.gh
 obtain⟨n1,n2,n3⟩:=H.ne
 have hil:i<L.length:=(List.getElem?_eq_some_iff.1 hi).1
 have hjl:j<L.length:=(List.getElem?_eq_some_iff.1 hj).1
 have hc:=change_call (cap:=cap) ga H.lt.2.1 hi hj
 let U1:=(U.set a (.cells (cellsL (L.set i y)++G) false)).set a (.cells (cellsL (swapL L i j x y)++G) false)
 have H1:HS U1 h a m (swapL L i j x y) cap t f:=by
  obtain⟨es,ck,gm,hkv,hlk⟩:=H.gm
  refine⟨?_,⟨G,by rw[St.get_set,if_pos rfl],by rw[swapL_length];exact hG⟩,⟨es,ck,?_,hkv,hlk⟩,H.ne,H.lt⟩
  ·rw[St.get_set,if_neg (Ne.symm n1),St.get_set,if_neg (Ne.symm n1),swapL_length];exact gh
  ·rw[St.get_set,if_neg n3,St.get_set,if_neg n3];exact gm
 have hx':(swapL L i j x y)[i]?=some (if i=j then x else y):=by
  unfold swapL
  by_cases e:i=j
  ·subst e;simp [hil]
  ·rw[List.getElem?_set_ne (Ne.symm e)];simp [hil,e]
 have hy':(swapL L i j x y)[j]?=some x:=by simp [swapL,hjl]
 obtain⟨U2,d2,H2,nx2,k2⟩:=lay_call H1 hx'
 obtain⟨U3,d3,H3,nx3,k3⟩:=lay_call H2 hy'
 refine⟨U3,?_,?_,by rw[nx3,nx2];rfl,λc h1 h2=>by rw[k3 c h2,k2 c h2,St.get_set,if_neg (Ne.symm h1),St.get_set,if_neg (Ne.symm h1)]⟩
 ·refine DCall.weaken (l:=([a,a]++([m]++[m]))) (callsD Tryz.func170 rfl (DC.seq (runs (one_ok' Orc.none_ok hc) 20 nobt (by kernel_rfl) (r:=⟨.norm,⟨_,[]⟩,U1,[a,a]⟩) (by simp only[go_sem,seval,Orc.one_call,gh,Tryz.f170,Tryz.underlying3,info3,Tryz.t3,Tryz.underlying91,info91,Tryz.t91,Tryz.underlying165,info165,Tryz.t165,Tryz.underlying166,info166,Tryz.t166,Tryz.underlying167,info167,Tryz.t167,body188]<;>rfl)) rfl
   (DC.seq (runs (one_ok' Orc.none_ok d2) 20 nobt (by kernel_rfl) (r:=⟨.norm,⟨_,[]⟩,U2,[m]⟩) (by simp only[go_sem,seval,Orc.one_call,body133]<;>rfl)) rfl (runs (one_ok' Orc.none_ok d3) 20 nobt (by kernel_rfl) (r:=⟨.norm,⟨_,[]⟩,U3,[m]⟩) (by simp only[go_sem,seval,Orc.one_call,body133]<;>rfl)))) (by simp only[go_sem,seval,Tryz.f170]) rfl rfl) (by simp)
 ·have e:(if i=j then x else y).id=(if i=j then x.id else y.id):=by split<;>rfl
  rw[e]at H3
  exact H3
structure Idx(L:List Item)(f:Int->Option Int):Prop where
 fwd:∀(i:Nat) (x:Item),L[i]?=some x->f x.id=some (i:Int)
 bwd:∀k v,f k=some v->∃(i:Nat) (x:Item),L[i]?=some x/\x.id=k/\v=i
theorem Idx.inj{L:List Item}{f:Int->Option Int}(h:Idx L f){i j:Nat}{x y:Item}(hi:L[i]?=some x)(hj:L[j]?=some y)(e:x.id=y.id):i=j:=by
 have a:=h.fwd i x hi
 have b:=h.fwd j y hj
 rw[e,b]at a
 simp only[Option.some.injEq]at a
 omega
theorem swapL_get{L:List Item}{i j:Nat}{x y:Item}(hi:L[i]?=some x)(hj:L[j]?=some y)(k:Nat):(swapL L i j x y)[k]?=if k=j then some x else if k=i then some y else L[k]?:=by
 have hil:i<L.length:=(List.getElem?_eq_some_iff.1 hi).1
 have hjl:j<L.length:=(List.getElem?_eq_some_iff.1 hj).1
 unfold swapL
 by_cases e:k=j
 ·subst e;rw[if_pos rfl,List.getElem?_set_self (by simpa using hjl)]
 ·rw[if_neg e,List.getElem?_set_ne (Ne.symm e)]
  by_cases e2:k=i
  ·subst e2;rw[if_pos rfl,List.getElem?_set_self hil]
  ·rw[if_neg e2,List.getElem?_set_ne (Ne.symm e2)]
theorem Idx.swap{L:List Item}{f:Int->Option Int}(h:Idx L f){i j:Nat}{x y:Item}(hi:L[i]?=some x)(hj:L[j]?=some y):Idx (swapL L i j x y) (upd (upd f (if i=j then x.id else y.id) i) x.id j):=by
 constructor
 ·intro k z hz
  rw[swapL_get hi hj]at hz
  unfold upd
  by_cases e:k=j
  ·rw[if_pos e]at hz;cases hz;rw[if_pos rfl,e]
  ·rw[if_neg e]at hz
   by_cases e2:k=i
   ·rw[if_pos e2]at hz;cases hz
    have hij:i≠j:=λq=>e (e2.trans q)
    have hne:y.id≠x.id:=λq=>hij (h.inj hi hj q.symm)
    rw[if_neg hne,if_neg hij,if_pos rfl,e2]
   ·rw[if_neg e2]at hz
    have n1:z.id≠x.id:=λq=>e2 (h.inj hz hi q)
    have n2:z.id≠y.id:=λq=>e (h.inj hz hj q)
    rw[if_neg n1,if_neg (by split;exact n1;exact n2)]
    exact h.fwd k z hz
 ·intro k v hk
  unfold upd at hk
  by_cases e:k=x.id
  ·rw[if_pos e]at hk;cases hk
   exact⟨j,x,by rw[swapL_get hi hj,if_pos rfl],e.symm,rfl⟩
  ·rw[if_neg e]at hk
   by_cases e2:k=(if i=j then x.id else y.id)
   ·rw[if_pos e2]at hk;cases hk
    have hij:i≠j:=λq=>e (by rw[e2,if_pos q])
    rw[if_neg hij]at e2
    exact⟨i,y,by rw[swapL_get hi hj,if_neg hij,if_pos rfl],e2.symm,rfl⟩
   ·rw[if_neg e2]at hk
    obtain⟨i0,x0,a1,a2,a3⟩:=h.bwd k v hk
    have n1:i0≠i:=λq=>e (by subst q;rw[hi]at a1;cases a1;exact a2.symm)
    have n2:i0≠j:=λq=>by
     subst q
     rw[hj]at a1;cases a1
     apply e2
     by_cases hij:i=i0
     ·exact absurd hij.symm n1
     ·rw[if_neg hij];exact a2.symm
    exact⟨i0,x0,by rw[swapL_get hi hj,if_neg n2,if_neg n1];exact a1,a2,a3⟩
structure HI(U:St)(h a m:Nat)(L:List Item)(cap:Nat)(t:Int):Prop where
 hs:∃f,HS U h a m L cap t f/\Idx L f
 ok:∀x∈L,x.ok=true
 small:L.length<=1000000
theorem HI.swap{U:St}{h a m:Nat}{L:List Item}{cap:Nat}{t:Int}(H:HI U h a m L cap t){i j:Nat}{x y:Item}(hi:L[i]?=some x)(hj:L[j]?=some y):
  ∃U',DCall Tryz.prog 170 [.pointer (some ⟨h,0,none⟩),.int .i64 i,.int .i64 j] U (.ret (.tuple ⟨[]⟩)) U' [a,m]/\HI U' h a m (swapL L i j x y) cap t/\U'.next=U.next/\∀c,c≠a->c≠m->U'.get c=U.get c:=by
 obtain⟨f,H1,hx⟩:=H.hs
 obtain⟨U',d,H2,nx,k⟩:=swap_call H1 hi hj
 refine⟨U',d,⟨⟨_,H2,hx.swap hi hj⟩,λz hz=>?_,by rw[swapL_length];exact H.small⟩,nx,k⟩
 obtain⟨q,hq⟩:=List.getElem?_of_mem hz
 rw[swapL_get hi hj]at hq
 split at hq
 ·cases hq;exact H.ok _ (List.mem_of_getElem? hi)
 ·split at hq
  ·cases hq;exact H.ok _ (List.mem_of_getElem? hj)
  ·exact H.ok _ (List.mem_of_getElem? hq)
def p8:FuncId->List Value->Option Value
 |169,[.agg ⟨[.int .i64 a,.int .i64 b,.int .i64 c,.int .i64 d]⟩,.agg ⟨[.int .i64 a',.int .i64 b',.int .i64 c',.int .i64 d']⟩]=>
  if Item.ok ⟨a,b,c,d⟩&&Item.ok ⟨a',b',c',d'⟩ then some (.int .i64 (cmpItem ⟨a,b,c,d⟩ ⟨a',b',c',d'⟩)) else none
 |f,args=>p7 f args
theorem p8_is:∀f args v,p8 f args=some v->∀U,DCall Tryz.prog f args U (.ret v) U []:=λf args v h U=>by
 unfold p8 at h
 split at h
 ·split at h
  ·rename_i hn
   rw[Bool.and_eq_true]at hn
   cases h
   exact order_call _ _ U hn.1 hn.2
  ·cases h
 ·exact p7_is f args v h U
theorem p8_ok:(pureO p8).Ok Tryz.prog:=pureO_ok p8_is
def riseL:Nat->List Item->Nat->List Item
 |0,L,_=>L
 |k+1,L,n=>if n=0 then L else
  match L[(n - 1) / 2]?,L[n]? with
  |some x,some y=>if cmpItem x y<=0 then L else riseL k (swapL L ((n - 1) / 2) n x y) ((n - 1) / 2)
  |_,_=>L
def bt47:Nat->List Nat
 |2=>[0,1,3,7,0,31,63,0,128,384,896,0,3968,8064,16383,32767]
 |_=>[]
theorem rise_loop{h a m:Nat}{cap:Nat}{t:Int}:∀(k n:Nat) (L:List Item) (U:St) (z:List Value),n<k->z.length=29->HI U h a m L cap t->n<L.length->
  ∃U' lg y y1,DL Tryz.prog false (loopOf (Tryz.f134.body.getD .skip)) ⟨.pointer (some ⟨h,0,none⟩) :: .int .i64 n :: z,[]⟩ U ⟨.exit 0,⟨.pointer (some ⟨h,0,none⟩) :: y1 :: y,[]⟩,U',lg⟩/\y.length=29/\(∀c∈lg,c∈[a,m])/\
   HI U' h a m (riseL k L n) cap t/\U'.next=U.next/\∀c,c≠a->c≠m->U'.get c=U.get c:=by
 intro k
 induction k with
 |zero=>intro n L U z hk;omega
 |succ k ih=>
  intro n L U z hk hz H hn
  obtain⟨x2,x3,x4,x5,x6,x7,x8,x9,x10,x11,x12,x13,x14,x15,x16,x17,x18,x19,x20,x21,x22,x23,x24,x25,x26,x27,x28,x29,x30,rfl⟩:∃x2 x3 x4 x5 x6 x7 x8 x9 x10 x11 x12 x13 x14 x15 x16 x17 x18 x19 x20 x21 x22 x23 x24 x25 x26 x27 x28 x29 x30,z=[x2,x3,x4,x5,x6,x7,x8,x9,x10,x11,x12,x13,x14,x15,x16,x17,x18,x19,x20,x21,x22,x23,x24,x25,x26,x27,x28,x29,x30]:=by
   match z,hz with
   |[x2,x3,x4,x5,x6,x7,x8,x9,x10,x11,x12,x13,x14,x15,x16,x17,x18,x19,x20,x21,x22,x23,x24,x25,x26,x27,x28,x29,x30],_=>exact⟨_,_,_,_,_,_,_,_,_,_,_,_,_,_,_,_,_,_,_,_,_,_,_,_,_,_,_,_,_,rfl⟩
  by_cases h0:n=0
  ·subst h0
   refine⟨U,[],_,_,DL.out (runs p8_ok 20 bt47 (by kernel_rfl) (r:=⟨.exit 0,⟨_,[]⟩,U,[]⟩) (by simp only[go_sem,seval,loopOf,Option.getD,Int.natCast_zero,Tryz.f134,Tryz.underlying3,info3,Tryz.t3]<;>rfl)) rfl,rfl,by simp,by simpa [riseL]using H,rfl,λ_ _ _=>rfl⟩
  ·have hu:(n - 1) / 2<L.length:=by omega
   obtain⟨x,hx⟩:∃x,L[(n - 1) / 2]?=some x:=⟨_,List.getElem?_eq_getElem hu⟩
   obtain⟨y,hy⟩:∃y,L[n]?=some y:=⟨_,List.getElem?_eq_getElem hn⟩
   obtain⟨f,H1,hi⟩:=H.hs
   obtain⟨G,ga,hG⟩:=H1.ga
   have gh:=H1.gh
   have sm:=H.small
   have b0:(0:Int)<(n:Int):=by omega
   have w1:IntKind.i64.wrap ((n:Int) - 1)=((n - 1:Nat):Int):=by rw[IntKind.wrap_i64];omega
   have w2:IntKind.i64.wrap (((n - 1:Nat):Int).tdiv 2)=(((n - 1) / 2:Nat):Int):=by
    rw[Int.tdiv_eq_ediv_of_nonneg (by omega),IntKind.wrap_i64];omega
   generalize hup:(n - 1) / 2=up at *
   have c1:(0:Int)<=(up:Int)/\(up:Int)<(L.length:Int):=by omega
   have c2:(0:Int)<=(n:Int)/\(n:Int)<(L.length:Int):=by omega
   have e1:=cells_at (G:=G) hx
   have e2:=cells_at (G:=G) hy
   have l1:up*4+4<=(cellsL L++G).length:=by simp [cellsL_length];omega
   have l2:n*4+4<=(cellsL L++G).length:=by simp [cellsL_length];omega
   have nh:¬U.next<=h:=by have:=H1.lt.1;omega
   have na:¬U.next<=a:=by have:=H1.lt.2.1;omega
   have ox:Item.ok ⟨x.id,x.n,x.d,x.turn⟩=true:=H.ok x (List.mem_of_getElem? hx)
   have oy:Item.ok ⟨y.id,y.n,y.d,y.turn⟩=true:=H.ok y (List.mem_of_getElem? hy)
   simp only[Item.cells]at e1 e2
   by_cases hc:cmpItem ⟨x.id,x.n,x.d,x.turn⟩ ⟨y.id,y.n,y.d,y.turn⟩<=0
   ·refine⟨U,[],_,_,DL.out (runs p8_ok 30 bt47 (by kernel_rfl) (r:=⟨.exit 0,⟨_,[]⟩,U,[]⟩) (by simp only[go_sem,seval,loopOf,Option.getD,bt47,p8,b0,w1,w2,c1,c2,e1,e2,l1,l2,nh,na,ox,oy,hc,gh,ga,Int.toNat_natCast,Tryz.f134,Tryz.underlying3,info3,Tryz.t3,Tryz.underlying91,info91,Tryz.t91,Tryz.underlying158,info158,Tryz.t158,Tryz.underlying159,info159,Tryz.t159,Tryz.underlying165,info165,Tryz.t165,Tryz.underlying166,info166,Tryz.t166,Tryz.underlying167,info167,Tryz.t167,body169]<;>rfl)) rfl,rfl,by simp,?_,rfl,λ_ _ _=>rfl⟩
    have hc':cmpItem x y<=0:=hc
    simpa [riseL,h0,hup,hx,hy,hc']using H
   ·obtain⟨U1,d,HS1,nx,kp⟩:=H.swap hx hy
    have hc':¬cmpItem x y<=0:=hc
    obtain⟨z',hz',hr⟩:∃z',z'.length=29/\DC Tryz.prog false (loopOf (Tryz.f134.body.getD .skip)) ⟨.pointer (some ⟨h,0,none⟩) :: .int .i64 n :: [x2,x3,x4,x5,x6,x7,x8,x9,x10,x11,x12,x13,x14,x15,x16,x17,x18,x19,x20,x21,x22,x23,x24,x25,x26,x27,x28,x29,x30],[]⟩ U ⟨.norm,⟨.pointer (some ⟨h,0,none⟩) :: .int .i64 up :: z',[]⟩,U1,[a,m]⟩:=
     ⟨[_,_,_,_,_,_,_,_,_,_,_,_,_,_,_,_,_,_,_,_,_,_,_,_,_,_,_,_,_],rfl,runs (one_ok' p8_ok d) 30 bt47 (by kernel_rfl) (by simp only[go_sem,seval,loopOf,Option.getD,bt47,p8,one_other,Orc.one_call,b0,w1,w2,c1,c2,e1,e2,l1,l2,nh,na,ox,oy,hc,gh,ga,Int.toNat_natCast,Tryz.f134,Tryz.underlying3,info3,Tryz.t3,Tryz.underlying91,info91,Tryz.t91,Tryz.underlying158,info158,Tryz.t158,Tryz.underlying159,info159,Tryz.t159,Tryz.underlying165,info165,Tryz.t165,Tryz.underlying166,info166,Tryz.t166,Tryz.underlying167,info167,Tryz.t167,body169,body170]<;>rfl)⟩
    obtain⟨U',lg,yy,y1,hl,hyl,hlg,HF,nx',kp'⟩:=ih up (swapL L up n x y) U1 z' (by omega) hz' HS1 (by rw[swapL_length];omega)
    refine⟨U',[a,m]++lg,yy,y1,DL.next hr rfl hl,hyl,?_,?_,by rw[nx',nx],λc h1 h2=>by rw[kp' c h1 h2,kp c h1 h2]⟩
    ·intro c hc2
     rcases List.mem_append.1 hc2 with h3|h3
     ·exact h3
     ·exact hlg c h3
    ·simpa [riseL,h0,hup,hx,hy,hc']using HF
theorem rise_call{U:St}{h a m:Nat}{L:List Item}{cap:Nat}{t:Int}(H:HI U h a m L cap t){n:Nat}(hn:n<L.length):
  ∃U',DCall Tryz.prog 134 [.pointer (some ⟨h,0,none⟩),.int .i64 n] U (.ret (.tuple ⟨[]⟩)) U' [a,m]/\HI U' h a m (riseL (n+1) L n) cap t/\U'.next=U.next/\∀c,c≠a->c≠m->U'.get c=U.get c:=by
 obtain⟨U',lg,y,y1,hl,hy,hlg,HF,nx,kp⟩:=rise_loop (n+1) n L U (List.replicate 29 undef) (by omega) rfl H hn
 refine⟨U',DCall.weaken (l:=[]++lg) (callsD Tryz.func134 rfl (DC.scope (DS.out (DC.seq (DC.label _ _ _ _) rfl (DC.block (DC.loop hl))) (λl h=>by simp [RR.pre,AX.inBlock]at h))) ?_ rfl rfl) (by simpa using hlg),HF,nx,kp⟩
 simp only[go_sem,seval,Tryz.f134]
def bt81:Nat->List Nat
 |4=>[0,0,2,6,14,30,63,127,255,511,1023,2047,255,8191,16383,255,33023,98559,229631,255,1016063,2064639,4194303,8388607,16777215]
 |_=>[]
def less1(L:List Item)(n k:Nat):Nat:=
 match L[k]?,L[n]? with
 |some y,some x=>if cmpItem y x<0 then k else n
 |_,_=>n
def leastL(L:List Item)(n:Nat):Nat:=less1 L (less1 L n (2*n+1)) (2*n+2)
theorem less1_lt{L:List Item}{n k:Nat}(h:n<L.length):less1 L n k<L.length:=by
 unfold less1
 split
 ·rename_i hk _
  split
  ·exact(List.getElem?_eq_some_iff.1 hk).1
  ·exact h
 ·exact h
theorem least_look{U:St}{h a q:Nat}{L:List Item}{G:List Value}{cap:Nat}{M T:Value}{n k:Nat}{j:Int}{K0 K1:Value}
  (gq:U.get q=some (.cells [.pointer (some ⟨h,0,none⟩)] false)) (gh:U.get h=some (.cells [M,.slice (some ⟨a,0,some 6⟩) L.length cap,T] false)) (ga:U.get a=some (.cells (cellsL L++G) false))
  (lt:q<U.next/\h<U.next/\a<U.next) (ok:∀x∈L,x.ok=true) (hn:n<L.length) (hj:j=0/\K0=.int .i64 k\/j=1/\K1=.int .i64 k)
  (z1:List Value) (hz1:z1.length=10) (z2:List Value) (hz2:z2.length=30):
  ∃z1' z2',z1'.length=10/\z2'.length=30/\DC Tryz.prog false (loopOf (Tryz.f189.body.getD .skip)) ⟨.int .i64 n :: .pointer (some ⟨q,0,none⟩) :: (z1++.agg ⟨[K0,K1]⟩ :: .int .i64 j :: z2),[]⟩ U
   ⟨.norm,⟨.int .i64 (less1 L n k) :: .pointer (some ⟨q,0,none⟩) :: (z1'++.agg ⟨[K0,K1]⟩ :: .int .i64 (j+1) :: z2'),[]⟩,U,[]⟩:=by
 obtain⟨x2,x3,x4,x5,x6,x7,x8,x9,x10,x11,rfl⟩:∃x2 x3 x4 x5 x6 x7 x8 x9 x10 x11,z1=[x2,x3,x4,x5,x6,x7,x8,x9,x10,x11]:=by
  match z1,hz1 with
  |[x2,x3,x4,x5,x6,x7,x8,x9,x10,x11],_=>exact⟨_,_,_,_,_,_,_,_,_,_,rfl⟩
 obtain⟨y14,y15,y16,y17,y18,y19,y20,y21,y22,y23,y24,y25,y26,y27,y28,y29,y30,y31,y32,y33,y34,y35,y36,y37,y38,y39,y40,y41,y42,y43,rfl⟩:∃y14 y15 y16 y17 y18 y19 y20 y21 y22 y23 y24 y25 y26 y27 y28 y29 y30 y31 y32 y33 y34 y35 y36 y37 y38 y39 y40 y41 y42 y43,z2=[y14,y15,y16,y17,y18,y19,y20,y21,y22,y23,y24,y25,y26,y27,y28,y29,y30,y31,y32,y33,y34,y35,y36,y37,y38,y39,y40,y41,y42,y43]:=by
  match z2,hz2 with
  |[y14,y15,y16,y17,y18,y19,y20,y21,y22,y23,y24,y25,y26,y27,y28,y29,y30,y31,y32,y33,y34,y35,y36,y37,y38,y39,y40,y41,y42,y43],_=>exact⟨_,_,_,_,_,_,_,_,_,_,_,_,_,_,_,_,_,_,_,_,_,_,_,_,_,_,_,_,_,_,rfl⟩
 obtain⟨x,hx⟩:∃x,L[n]?=some x:=⟨_,List.getElem?_eq_getElem hn⟩
 have c0:(0:Int)<=(n:Int)/\(n:Int)<(L.length:Int):=by omega
 have e0:=cells_at (G:=G) hx
 have l0:n*4+4<=(cellsL L++G).length:=by simp [cellsL_length];omega
 have nq:¬U.next<=q:=by omega
 have nh:¬U.next<=h:=by omega
 have na:¬U.next<=a:=by omega
 have ox:Item.ok ⟨x.id,x.n,x.d,x.turn⟩=true:=ok x (List.mem_of_getElem? hx)
 have w1:IntKind.i64.wrap 1=1:=by decide
 have w2:IntKind.i64.wrap 2=2:=by decide
 simp only[Item.cells]at e0
 by_cases hk:k<L.length
 ·obtain⟨y,hy⟩:∃y,L[k]?=some y:=⟨_,List.getElem?_eq_getElem hk⟩
  have f1:(k:Int)<(L.length:Int):=by omega
  have f2:(0:Int)<=(k:Int):=by omega
  have e1:=cells_at (G:=G) hy
  have l1:k*4+4<=(cellsL L++G).length:=by simp [cellsL_length];omega
  have oy:Item.ok ⟨y.id,y.n,y.d,y.turn⟩=true:=ok y (List.mem_of_getElem? hy)
  simp only[Item.cells]at e1
  by_cases hc:cmpItem ⟨y.id,y.n,y.d,y.turn⟩ ⟨x.id,x.n,x.d,x.turn⟩<0
  ·have hc':cmpItem y x<0:=hc
   have hl:less1 L n k=k:=by simp [less1,hx,hy,hc']
   rw[hl]
   rcases hj with⟨rfl,rfl⟩|⟨rfl,rfl⟩
   ·refine⟨[_,_,_,_,_,_,_,_,_,_],[_,_,_,_,_,_,_,_,_,_,_,_,_,_,_,_,_,_,_,_,_,_,_,_,_,_,_,_,_,_],rfl,rfl,runs p8_ok 40 bt81 (by kernel_rfl) (by simp only[go_sem,seval,loopOf,Option.getD,bt81,p8,opLen,w1,w2,c0,e0,l0,gq,gh,ga,nq,nh,na,ox,Int.toNat_natCast,Tryz.f189,Tryz.underlying2,info2,Tryz.t2,Tryz.underlying3,info3,Tryz.t3,Tryz.underlying91,info91,Tryz.t91,Tryz.underlying158,info158,Tryz.t158,Tryz.underlying159,info159,Tryz.t159,Tryz.underlying165,info165,Tryz.t165,Tryz.underlying272,info272,Tryz.t272,Tryz.underlying166,info166,Tryz.t166,Tryz.underlying167,info167,Tryz.t167,body169,f1,f2,e1,l1,oy,hc]<;>rfl)⟩
   ·refine⟨[_,_,_,_,_,_,_,_,_,_],[_,_,_,_,_,_,_,_,_,_,_,_,_,_,_,_,_,_,_,_,_,_,_,_,_,_,_,_,_,_],rfl,rfl,runs p8_ok 40 bt81 (by kernel_rfl) (by simp only[go_sem,seval,loopOf,Option.getD,bt81,p8,opLen,w1,w2,c0,e0,l0,gq,gh,ga,nq,nh,na,ox,Int.toNat_natCast,Tryz.f189,Tryz.underlying2,info2,Tryz.t2,Tryz.underlying3,info3,Tryz.t3,Tryz.underlying91,info91,Tryz.t91,Tryz.underlying158,info158,Tryz.t158,Tryz.underlying159,info159,Tryz.t159,Tryz.underlying165,info165,Tryz.t165,Tryz.underlying272,info272,Tryz.t272,Tryz.underlying166,info166,Tryz.t166,Tryz.underlying167,info167,Tryz.t167,body169,f1,f2,e1,l1,oy,hc]<;>rfl)⟩
  ·have hc':¬cmpItem y x<0:=hc
   have hl:less1 L n k=n:=by simp only[less1,hx,hy,if_neg hc']
   rw[hl]
   rcases hj with⟨rfl,rfl⟩|⟨rfl,rfl⟩
   ·refine⟨[_,_,_,_,_,_,_,_,_,_],[_,_,_,_,_,_,_,_,_,_,_,_,_,_,_,_,_,_,_,_,_,_,_,_,_,_,_,_,_,_],rfl,rfl,runs p8_ok 40 bt81 (by kernel_rfl) (by simp only[go_sem,seval,loopOf,Option.getD,bt81,p8,opLen,w1,w2,c0,e0,l0,gq,gh,ga,nq,nh,na,ox,Int.toNat_natCast,Tryz.f189,Tryz.underlying2,info2,Tryz.t2,Tryz.underlying3,info3,Tryz.t3,Tryz.underlying91,info91,Tryz.t91,Tryz.underlying158,info158,Tryz.t158,Tryz.underlying159,info159,Tryz.t159,Tryz.underlying165,info165,Tryz.t165,Tryz.underlying272,info272,Tryz.t272,Tryz.underlying166,info166,Tryz.t166,Tryz.underlying167,info167,Tryz.t167,body169,f1,f2,e1,l1,oy,hc]<;>rfl)⟩
   ·refine⟨[_,_,_,_,_,_,_,_,_,_],[_,_,_,_,_,_,_,_,_,_,_,_,_,_,_,_,_,_,_,_,_,_,_,_,_,_,_,_,_,_],rfl,rfl,runs p8_ok 40 bt81 (by kernel_rfl) (by simp only[go_sem,seval,loopOf,Option.getD,bt81,p8,opLen,w1,w2,c0,e0,l0,gq,gh,ga,nq,nh,na,ox,Int.toNat_natCast,Tryz.f189,Tryz.underlying2,info2,Tryz.t2,Tryz.underlying3,info3,Tryz.t3,Tryz.underlying91,info91,Tryz.t91,Tryz.underlying158,info158,Tryz.t158,Tryz.underlying159,info159,Tryz.t159,Tryz.underlying165,info165,Tryz.t165,Tryz.underlying272,info272,Tryz.t272,Tryz.underlying166,info166,Tryz.t166,Tryz.underlying167,info167,Tryz.t167,body169,f1,f2,e1,l1,oy,hc]<;>rfl)⟩
 ·have f1:¬(k:Int)<(L.length:Int):=by omega
  have hl:less1 L n k=n:=by simp only[less1,List.getElem?_eq_none (Nat.le_of_not_lt hk)]
  rw[hl]
  rcases hj with⟨rfl,rfl⟩|⟨rfl,rfl⟩
  ·refine⟨[_,_,_,_,_,_,_,_,_,_],[_,_,_,_,_,_,_,_,_,_,_,_,_,_,_,_,_,_,_,_,_,_,_,_,_,_,_,_,_,_],rfl,rfl,runs p8_ok 40 bt81 (by kernel_rfl) (by simp only[go_sem,seval,loopOf,Option.getD,bt81,p8,opLen,w1,w2,c0,e0,l0,gq,gh,ga,nq,nh,na,ox,Int.toNat_natCast,Tryz.f189,Tryz.underlying2,info2,Tryz.t2,Tryz.underlying3,info3,Tryz.t3,Tryz.underlying91,info91,Tryz.t91,Tryz.underlying158,info158,Tryz.t158,Tryz.underlying159,info159,Tryz.t159,Tryz.underlying165,info165,Tryz.t165,Tryz.underlying272,info272,Tryz.t272,Tryz.underlying166,info166,Tryz.t166,Tryz.underlying167,info167,Tryz.t167,body169,f1]<;>rfl)⟩
  ·refine⟨[_,_,_,_,_,_,_,_,_,_],[_,_,_,_,_,_,_,_,_,_,_,_,_,_,_,_,_,_,_,_,_,_,_,_,_,_,_,_,_,_],rfl,rfl,runs p8_ok 40 bt81 (by kernel_rfl) (by simp only[go_sem,seval,loopOf,Option.getD,bt81,p8,opLen,w1,w2,c0,e0,l0,gq,gh,ga,nq,nh,na,ox,Int.toNat_natCast,Tryz.f189,Tryz.underlying2,info2,Tryz.t2,Tryz.underlying3,info3,Tryz.t3,Tryz.underlying91,info91,Tryz.t91,Tryz.underlying158,info158,Tryz.t158,Tryz.underlying159,info159,Tryz.t159,Tryz.underlying165,info165,Tryz.t165,Tryz.underlying272,info272,Tryz.t272,Tryz.underlying166,info166,Tryz.t166,Tryz.underlying167,info167,Tryz.t167,body169,f1]<;>rfl)⟩
theorem sink1_call{U:St}{h a q:Nat}{L:List Item}{G:List Value}{cap:Nat}{M T:Value}{n:Nat}
  (gq:U.get q=some (.cells [.pointer (some ⟨h,0,none⟩)] false)) (gh:U.get h=some (.cells [M,.slice (some ⟨a,0,some 6⟩) L.length cap,T] false)) (ga:U.get a=some (.cells (cellsL L++G) false))
  (lt:q<U.next/\h<U.next/\a<U.next) (ok:∀x∈L,x.ok=true) (hn:n<L.length) (sm:L.length<=1000000):
  DCall Tryz.prog 189 [.int .i64 n,.pointer (some ⟨q,0,none⟩)] U (.ret (.int .i64 (leastL L n))) U []:=by
 have v1:IntKind.i64.wrap (2*(n:Int))=((2*n:Nat):Int):=by rw[IntKind.wrap_i64];omega
 have v2:IntKind.i64.wrap (((2*n:Nat):Int)+1)=((2*n+1:Nat):Int):=by rw[IntKind.wrap_i64];omega
 have v3:IntKind.i64.wrap (((2*n:Nat):Int)+2)=((2*n+2:Nat):Int):=by rw[IntKind.wrap_i64];omega
 generalize hk1:2*n+1=k1 at v2
 generalize hk2:2*n+2=k2 at v3
 generalize hk0:2*n=k0 at v1 v2 v3
 obtain⟨z1,z2,l1,l2,d1⟩:=least_look (n:=n) (k:=k1) (j:=0) (K0:=.int .i64 k1) (K1:=.int .i64 k2) gq gh ga lt ok hn (.inl ⟨rfl,rfl⟩)
  [undef,.int .i64 0,undef,undef,.int .i64 n,.int .i64 k0,.int .i64 k1,.int .i64 n,.int .i64 k0,.int .i64 k2] rfl (List.replicate 30 undef) rfl
 obtain⟨w1,w2,m1,m2,d2⟩:=least_look (n:=less1 L n k1) (k:=k2) (j:=1) (K0:=.int .i64 k1) (K1:=.int .i64 k2) gq gh ga lt ok (less1_lt hn) (.inr ⟨rfl,rfl⟩) z1 l1 z2 l2
 have hle:less1 L (less1 L n k1) k2=leastL L n:=by unfold leastL;rw[<-hk1,<-hk2,hk0]
 rw[hle]at d2
 obtain⟨x2,x3,x4,x5,x6,x7,x8,x9,x10,x11,rfl⟩:∃x2 x3 x4 x5 x6 x7 x8 x9 x10 x11,w1=[x2,x3,x4,x5,x6,x7,x8,x9,x10,x11]:=by
  match w1,m1 with
  |[x2,x3,x4,x5,x6,x7,x8,x9,x10,x11],_=>exact⟨_,_,_,_,_,_,_,_,_,_,rfl⟩
 obtain⟨y14,y15,y16,y17,y18,y19,y20,y21,y22,y23,y24,y25,y26,y27,y28,y29,y30,y31,y32,y33,y34,y35,y36,y37,y38,y39,y40,y41,y42,y43,rfl⟩:∃y14 y15 y16 y17 y18 y19 y20 y21 y22 y23 y24 y25 y26 y27 y28 y29 y30 y31 y32 y33 y34 y35 y36 y37 y38 y39 y40 y41 y42 y43,w2=[y14,y15,y16,y17,y18,y19,y20,y21,y22,y23,y24,y25,y26,y27,y28,y29,y30,y31,y32,y33,y34,y35,y36,y37,y38,y39,y40,y41,y42,y43]:=by
  match w2,m2 with
  |[y14,y15,y16,y17,y18,y19,y20,y21,y22,y23,y24,y25,y26,y27,y28,y29,y30,y31,y32,y33,y34,y35,y36,y37,y38,y39,y40,y41,y42,y43],_=>exact⟨_,_,_,_,_,_,_,_,_,_,_,_,_,_,_,_,_,_,_,_,_,_,_,_,_,_,_,_,_,_,rfl⟩
 refine callsD Tryz.func189 rfl (DC.seq (runs Orc.none_ok 20 nobt (by kernel_rfl) (r:=⟨.norm,⟨_,[]⟩,U,[]⟩) (by simp only[go_sem,seval,Tryz.f189]<;>rfl)) rfl
  (DC.seq (DC.seq (runs Orc.none_ok 20 nobt (by kernel_rfl) (r:=⟨.norm,⟨.int .i64 n :: .pointer (some ⟨q,0,none⟩) :: ([undef,.int .i64 0,undef,undef,.int .i64 n,.int .i64 k0,.int .i64 k1,.int .i64 n,.int .i64 k0,.int .i64 k2]++.agg ⟨[.int .i64 k1,.int .i64 k2]⟩ :: .int .i64 0 :: List.replicate 30 undef),[]⟩,U,[]⟩)
    (by simp only[go_sem,seval,v1,v2,v3,zerosN,Tryz.underlying3,info3,Tryz.t3,Tryz.underlying272,info272,Tryz.t272]<;>rfl)) rfl
   (DC.block (DC.loop (DL.next d1 rfl (DL.next d2 rfl (DL.out (runs Orc.none_ok 20 bt81 (by kernel_rfl) (r:=⟨.exit 0,⟨_,[]⟩,U,[]⟩) (by simp only[go_sem,seval,Int.reduceLT,Tryz.underlying3,info3,Tryz.t3]<;>rfl)) rfl)))))) rfl
   (runs Orc.none_ok 20 nobt (by kernel_rfl) (r:=⟨.ret,⟨_,[]⟩,U,[]⟩) (by simp only[go_sem,seval]<;>rfl)))) (by simp only[go_sem,seval,Tryz.f189]) rfl rfl
def sinkL:Nat->List Item->Nat->List Item
 |0,L,_=>L
 |f+1,L,n=>if leastL L n=n then L else
  match L[leastL L n]?,L[n]? with
  |some x,some y=>sinkL f (swapL L (leastL L n) n x y) (leastL L n)
  |_,_=>L
theorem less1_ge{L:List Item}{n k:Nat}:less1 L n k=n\/less1 L n k=k:=by
 unfold less1
 split
 ·split
  ·exact .inr rfl
  ·exact .inl rfl
 ·exact .inl rfl
theorem leastL_ge{L:List Item}{n:Nat}(h:leastL L n≠n):n<leastL L n:=by
 unfold leastL at h ⊢
 rcases less1_ge (L:=L) (n:=less1 L n (2*n+1)) (k:=2*n+2) with e|e
 ·rw[e]at h ⊢
  rcases less1_ge (L:=L) (n:=n) (k:=2*n+1) with e2|e2
  ·exact absurd e2 h
  ·omega
 ·omega
theorem leastL_lt{L:List Item}{n:Nat}(h:n<L.length):leastL L n<L.length:=less1_lt (less1_lt h)
theorem sink_loop{h a m q:Nat}{cap:Nat}{t:Int}(hqa:q≠a)(hqm:q≠m):∀(k n:Nat) (L:List Item) (U:St) (z3:Value) (z:List Value),L.length - n<k->z.length=13->HI U h a m L cap t->n<L.length->q<U.next->U.get q=some (.cells [.pointer (some ⟨h,0,none⟩)] false)->
  ∃U' lg y1 y3 y,DL Tryz.prog false (loopOf (Tryz.f171.body.getD .skip)) ⟨.pointer (some ⟨h,0,none⟩) :: .int .i64 n :: .pointer (some ⟨q,0,none⟩) :: z3 :: .func (.func 189) ⟨[]⟩ ⟨[.pointer (some ⟨q,0,none⟩)]⟩ :: z,[]⟩ U
    ⟨.exit 0,⟨.pointer (some ⟨h,0,none⟩) :: y1 :: .pointer (some ⟨q,0,none⟩) :: y3 :: .func (.func 189) ⟨[]⟩ ⟨[.pointer (some ⟨q,0,none⟩)]⟩ :: y,[]⟩,U',lg⟩/\(∀c∈lg,c∈[a,m])/\
   HI U' h a m (sinkL k L n) cap t/\U'.next=U.next/\∀c,c≠a->c≠m->U'.get c=U.get c:=by
 intro k
 induction k with
 |zero=>intro n L U z3 z hk;omega
 |succ k ih=>
  intro n L U z3 z hk hz H hn hq gq
  obtain⟨x5,x6,x7,x8,x9,x10,x11,x12,x13,x14,x15,x16,x17,rfl⟩:∃x5 x6 x7 x8 x9 x10 x11 x12 x13 x14 x15 x16 x17,z=[x5,x6,x7,x8,x9,x10,x11,x12,x13,x14,x15,x16,x17]:=by
   match z,hz with
   |[x5,x6,x7,x8,x9,x10,x11,x12,x13,x14,x15,x16,x17],_=>exact⟨_,_,_,_,_,_,_,_,_,_,_,_,_,rfl⟩
  obtain⟨f,H1,hi⟩:=H.hs
  obtain⟨G,ga,hG⟩:=H1.ga
  have hs:=sink1_call (n:=n) gq H1.gh ga ⟨hq,H1.lt.1,H1.lt.2.1⟩ H.ok hn H.small
  have hb:(cP Tryz.prog).bodies 189=true:=body189
  by_cases he:leastL L n=n
  ·have e:(((leastL L n:Nat):Int)==(n:Int))=true:=by rw[he];simp
   refine⟨U,[],_,_,_,DL.out (runs (one_ok' Orc.none_ok hs) 30 nobt (by kernel_rfl) (r:=⟨.exit 0,⟨_,[]⟩,U,[]⟩) (by simp only[go_sem,seval,loopOf,Option.getD,Orc.one_call,e,hb,Tryz.f171,Tryz.underlying3,info3,Tryz.t3]<;>rfl)) rfl,by simp,by simpa [sinkL,he]using H,rfl,λ_ _ _=>rfl⟩
  ·have e:(((leastL L n:Nat):Int)==(n:Int))=false:=by simp;omega
   obtain⟨x,hx⟩:∃x,L[leastL L n]?=some x:=⟨_,List.getElem?_eq_getElem (leastL_lt hn)⟩
   obtain⟨y,hy⟩:∃y,L[n]?=some y:=⟨_,List.getElem?_eq_getElem hn⟩
   obtain⟨U1,d,HS1,nx,kp⟩:=H.swap hx hy
   have hgt:=leastL_ge he
   obtain⟨z3',z',hz',hr⟩:∃z3' z',z'.length=13/\DC Tryz.prog false (loopOf (Tryz.f171.body.getD .skip)) ⟨.pointer (some ⟨h,0,none⟩) :: .int .i64 n :: .pointer (some ⟨q,0,none⟩) :: z3 :: .func (.func 189) ⟨[]⟩ ⟨[.pointer (some ⟨q,0,none⟩)]⟩ :: [x5,x6,x7,x8,x9,x10,x11,x12,x13,x14,x15,x16,x17],[]⟩ U
     ⟨.norm,⟨.pointer (some ⟨h,0,none⟩) :: .int .i64 (leastL L n:Nat) :: .pointer (some ⟨q,0,none⟩) :: z3' :: .func (.func 189) ⟨[]⟩ ⟨[.pointer (some ⟨q,0,none⟩)]⟩ :: z',[]⟩,U1,[a,m]⟩:=
    ⟨_,[_,_,_,_,_,_,_,_,_,_,_,_,_],rfl,runs (one_ok' (one_ok' Orc.none_ok hs) d) 30 nobt (by kernel_rfl) (by simp only[go_sem,seval,loopOf,Option.getD,one_other,Orc.one_call,e,hb,gq,Tryz.f171,Tryz.underlying3,info3,Tryz.t3,Tryz.underlying91,info91,Tryz.t91,body170]<;>rfl)⟩
   have gq1:U1.get q=some (.cells [.pointer (some ⟨h,0,none⟩)] false):=by rw[kp q hqa hqm];exact gq
   obtain⟨U',lg,y1,y3,yy,hl,hlg,HF,nx',kp'⟩:=ih (leastL L n) (swapL L (leastL L n) n x y) U1 z3' z' (by rw[swapL_length];omega) hz' HS1 (by rw[swapL_length];exact leastL_lt hn) (by omega) gq1
   refine⟨U',[a,m]++lg,y1,y3,yy,DL.next hr rfl hl,?_,?_,by rw[nx',nx],λc h1 h2=>by rw[kp' c h1 h2,kp c h1 h2]⟩
   ·intro c hc2
    rcases List.mem_append.1 hc2 with h3|h3
    ·exact h3
    ·exact hlg c h3
   ·simpa [sinkL,he,hx,hy]using HF
theorem HS.grow{U U':St}{h a m:Nat}{L:List Item}{cap:Nat}{t:Int}{f:Int->Option Int}(H:HS U h a m L cap t f)(hn:U.next<=U'.next)(hg:∀c,c<U.next->U'.get c=U.get c):HS U' h a m L cap t f:=by
 obtain⟨G,ga,hG⟩:=H.ga
 obtain⟨es,ck,gm,hkv,hlk⟩:=H.gm
 have l:=H.lt
 exact⟨by rw[hg h l.1];exact H.gh,⟨G,by rw[hg a l.2.1];exact ga,hG⟩,⟨es,ck,by rw[hg m l.2.2];exact gm,hkv,hlk⟩,H.ne,by omega⟩
theorem HI.grow{U U':St}{h a m:Nat}{L:List Item}{cap:Nat}{t:Int}(H:HI U h a m L cap t)(hn:U.next<=U'.next)(hg:∀c,c<U.next->U'.get c=U.get c):HI U' h a m L cap t:=
 let⟨f,h1,h2⟩:=H.hs
 ⟨⟨f,h1.grow hn hg,h2⟩,H.ok,H.small⟩
theorem sink_call{U:St}{h a m:Nat}{L:List Item}{cap:Nat}{t:Int}(H:HI U h a m L cap t){n:Nat}(hn:n<L.length):
  ∃U',DCall Tryz.prog 171 [.pointer (some ⟨h,0,none⟩),.int .i64 n] U (.ret (.tuple ⟨[]⟩)) U' [a,m]/\HI U' h a m (sinkL (L.length+1) L n) cap t/\U.next<=U'.next/\∀c,c<U.next->c≠a->c≠m->U'.get c=U.get c:=by
 obtain⟨f,H1,_⟩:=H.hs
 have l:=H1.lt
 have HG:HI (U.new (.cells [.pointer (some ⟨h,0,none⟩)] false)) h a m L cap t:=H.grow (by simp) λc hc=>by rw[St.get_new,if_neg (by omega)]
 obtain⟨U',lg,y1,y3,y,hl,hlg,HF,nx,kp⟩:=sink_loop (q:=U.next) (by omega) (by omega) (L.length+1) n L (U.new (.cells [.pointer (some ⟨h,0,none⟩)] false)) undef
  (undef :: .func (.func 189) ⟨[]⟩ ⟨[.pointer (some ⟨U.next,0,none⟩)]⟩ :: List.replicate 11 undef) (by omega) rfl HG hn (by simp) (by rw[St.get_new,if_pos rfl])
 refine⟨U',DCall.weaken (l:=[]++([]++([]++lg))) (callsD Tryz.func171 rfl (DC.seq (runs Orc.none_ok 20 nobt (by kernel_rfl) (r:=⟨.norm,⟨_,[]⟩,U.new (.cells [.pointer (some ⟨h,0,none⟩)] false),[]⟩) (by simp only[go_sem,seval,Tryz.f171]<;>rfl)) rfl
  (DC.scope (DS.out (DC.seq (runs Orc.none_ok 20 nobt (by kernel_rfl) (r:=⟨.norm,⟨.pointer (some ⟨h,0,none⟩) :: .int .i64 n :: .pointer (some ⟨U.next,0,none⟩) :: undef :: .func (.func 189) ⟨[]⟩ ⟨[.pointer (some ⟨U.next,0,none⟩)]⟩ :: (undef :: .func (.func 189) ⟨[]⟩ ⟨[.pointer (some ⟨U.next,0,none⟩)]⟩ :: List.replicate 11 undef),[]⟩,U.new (.cells [.pointer (some ⟨h,0,none⟩)] false),[]⟩) (by simp only[go_sem,seval]<;>rfl)) rfl
   (DC.seq (DC.label _ _ _ _) rfl (DC.block (DC.loop hl)))) (λl h=>by simp [RR.pre,AX.inBlock]at h)))) (by simp only[go_sem,seval,Tryz.f171]) rfl rfl) (by simpa using hlg),HF,by rw[nx];simp,λc hc h1 h2=>by rw[kp c h1 h2,St.get_new,if_neg (by omega)]⟩
theorem none_call{U:St}{h m:Nat}{s T:Value}(gh:U.get h=some (.cells [.map (some m),s,T] false)):DCall Tryz.prog 111 [.pointer (some ⟨h,0,none⟩)] U (.ret (.bool false)) U []:=by
 refine calls Orc.none_ok Tryz.func111 rfl 20 nobt (by kernel_rfl) ?_
 exact⟨_,by simp only[go_sem,seval,gh,Tryz.f111,Option.isNone_some,Tryz.underlying4,info4,Tryz.t4,Tryz.underlying91,info91,Tryz.t91,Tryz.underlying162,info162,Tryz.t162,Tryz.underlying163,info163,Tryz.t163,Tryz.underlying164,info164,Tryz.t164,Tryz.underlying166,info166,Tryz.t166,Tryz.underlying167,info167,Tryz.t167]<;>rfl,by simp only[go_sem,seval,Tryz.f111],rfl,rfl⟩
theorem len_call{U:St}{h m b:Nat}{n cap k:Nat}{T:Value}(gh:U.get h=some (.cells [.map (some m),.slice (some ⟨b,0,some k⟩) n cap,T] false)):DCall Tryz.prog 58 [.pointer (some ⟨h,0,none⟩)] U (.ret (.int .i64 n)) U []:=by
 refine calls (one_ok' Orc.none_ok (none_call gh)) Tryz.func58 rfl 20 nobt (by kernel_rfl) ?_
 exact⟨_,by simp only[go_sem,seval,Orc.one_call,opLen,gh,Tryz.f58,Tryz.underlying3,info3,Tryz.t3,Tryz.underlying91,info91,Tryz.t91,Tryz.underlying165,info165,Tryz.t165,Tryz.underlying166,info166,Tryz.t166,Tryz.underlying167,info167,Tryz.t167,body111]<;>rfl,by simp only[go_sem,seval,Tryz.f58],rfl,rfl⟩
theorem len_call0{U:St}{h m:Nat}{T:Value}(gh:U.get h=some (.cells [.map (some m),.slice none 0 0,T] false)):DCall Tryz.prog 58 [.pointer (some ⟨h,0,none⟩)] U (.ret (.int .i64 0)) U []:=by
 refine calls (one_ok' Orc.none_ok (none_call gh)) Tryz.func58 rfl 20 nobt (by kernel_rfl) ?_
 exact⟨_,by simp only[go_sem,seval,Orc.one_call,opLen,gh,Tryz.f58,Tryz.underlying3,info3,Tryz.t3,Tryz.underlying91,info91,Tryz.t91,Tryz.underlying165,info165,Tryz.t165,Tryz.underlying166,info166,Tryz.t166,Tryz.underlying167,info167,Tryz.t167,body111]<;>rfl,by simp only[go_sem,seval,Tryz.f58],rfl,rfl⟩
theorem new_call(U:St):DCall Tryz.prog 35 [] U (.ret (.pointer (some ⟨U.next+1,0,none⟩))) ((U.new (.map [] 0)).new (.cells [.map (some U.next),.slice none 0 0,.int .i64 0] false)) []:=by
 refine calls Orc.none_ok Tryz.func35 rfl 20 nobt (by kernel_rfl) ?_
 exact⟨_,by simp only[go_sem,seval,opMakeMap,isMapD,Tryz.f35,Tryz.underlying2,info2,Tryz.t2,Tryz.underlying3,info3,Tryz.t3,Tryz.underlying91,info91,Tryz.t91,Tryz.underlying165,info165,Tryz.t165,Tryz.underlying162,info162,Tryz.t162,Tryz.underlying163,info163,Tryz.t163,Tryz.underlying164,info164,Tryz.t164,Tryz.underlying166,info166,Tryz.t166,Tryz.underlying167,info167,Tryz.t167]<;>rfl,by simp only[go_sem,seval,Tryz.f35],rfl,rfl⟩
theorem DCall.weaken2{P:Program}{f:FuncId}{args:List Value}{U U':St}{e:AE}{l l':Log}(h:DCall P f args U e U' l)(hs:∀c∈l,c<U.next->c∈l'):DCall P f args U e U' l':=
 ⟨⟨h.1.1,λc hc hn=>h.1.2 c hc λhm=>hn (hs c hm hc)⟩,h.2⟩
theorem cellsL_take{L:List Item}{k:Nat}{x:Item}(hk:L[k]?=some x)(hl:L.length=k+1):cellsL L=cellsL (L.take k)++x.cells:=by
 induction L generalizing k with
 |nil=>simp at hk
 |cons y L ih=>
  cases k with
  |zero=>
   simp only[List.getElem?_cons_zero,Option.some.injEq]at hk
   subst hk
   have:L=[]:=by simpa using hl
   subst this
   simp [cellsL]
  |succ k=>
   simp only[List.getElem?_cons_succ]at hk
   simp only[List.length_cons,Nat.add_right_cancel_iff]at hl
   rw[List.take_succ_cons]
   simp only[cellsL]
   rw[ih hk hl,List.append_assoc]
theorem map_del{U:St}{m:Nat}{es:List MapEntry}{ck:Nat}{f:Int->Option Int}{k v:Int}(hg:U.get m=some (.map es ck))(hk:KV es)(hf:∀k,lk es k=f k)(hv:f k=some v):
  ∃es',opDelete (cP Tryz.prog).T U 162 (.map (some m)) (.int .i64 k)=some (.eff (.tuple #[]) (U.set m (.map es' ck)) [m])/\KV es'/\∀k',lk es' k'=if k'=k then none else f k':=by
 have hu:(cP Tryz.prog).T.und 2=some (.int .i64):=(cx_und 2).trans Tryz.underlying2
 have h96:(cP Tryz.prog).T.und 162=some (.map 2 3):=(cx_und 162).trans Tryz.underlying162
 obtain⟨j,e,a1,a2,a3,a4⟩:=find_some (i:=0) ⟨_,hu⟩ hk ((hf k).trans hv)
 obtain⟨b1,b2⟩:=del_KV hk a3 a4
 refine⟨delE es j,?_,b1,λk'=>by rw[b2,hf]⟩
 simp only[opDelete,h96,hg,keyOk,hu,if_true,a1,Nat.zero_add]
theorem Idx.drop{L:List Item}{f:Int->Option Int}{k:Nat}{x:Item}(h:Idx L f)(hk:L[k]?=some x)(hl:L.length=k+1):Idx (L.take k) (λi=>if i=x.id then none else f i):=by
 constructor
 ·intro i z hz
  rw[List.getElem?_take]at hz
  split at hz
  ·rename_i hik
   have hne:z.id≠x.id:=λe=>by have:=h.inj hz hk e;omega
   simp only[if_neg hne]
   exact h.fwd i z hz
  ·cases hz
 ·intro i v hv
  have hv:(if i=x.id then none else f i)=some v:=hv
  split at hv
  ·cases hv
  ·rename_i hne
   obtain⟨j,z,a1,a2,a3⟩:=h.bwd i v hv
   have hj:j<L.length:=(List.getElem?_eq_some_iff.1 a1).1
   have hjk:j≠k:=λe=>by
    subst e
    rw[hk]at a1;cases a1
    exact hne a2.symm
   exact⟨j,z,by rw[List.getElem?_take,if_pos (by omega)];exact a1,a2,a3⟩
def outL(L:List Item)(n:Nat):List Item:=
 match L[n]?,L[L.length - 1]? with
 |some x,some y=>
  if n<L.length - 1 then sinkL L.length (riseL (n+1) ((swapL L n (L.length - 1) x y).take (L.length - 1)) n) n
  else(swapL L n (L.length - 1) x y).take (L.length - 1)
 |_,_=>L
theorem riseL_length:∀(k:Nat) (L:List Item) (n:Nat),(riseL k L n).length=L.length
 |0,_,_=>rfl
 |k+1,L,n=>by
  simp only[riseL]
  split
  ·rfl
  ·split
   ·split
    ·rfl
    ·rw[riseL_length,swapL_length]
   ·rfl
def bt49:Nat->List Nat
 |1=>[0,1,3,7,0,31,63,0,128,384,896,1920,3968,0,8319,32767]
 |4=>[0,1,3,7,15,0,32,127]
 |_=>[]
theorem HI.set{U:St}{h a m:Nat}{L:List Item}{cap:Nat}{t:Int}(H:HI U h a m L cap t){c:Nat}(o:AObj)(h1:c≠h)(h2:c≠a)(h3:c≠m):HI (U.set c o) h a m L cap t:=by
 obtain⟨f,H1,hi⟩:=H.hs
 obtain⟨G,ga,hG⟩:=H1.ga
 obtain⟨es,ck,gm,hkv,hlk⟩:=H1.gm
 exact⟨⟨f,⟨by rw[St.get_set,if_neg h1];exact H1.gh,⟨G,by rw[St.get_set,if_neg h2];exact ga,hG⟩,⟨es,ck,by rw[St.get_set,if_neg h3];exact gm,hkv,hlk⟩,H1.ne,H1.lt⟩,hi⟩,H.ok,H.small⟩
theorem out_call{U:St}{h a m:Nat}{L:List Item}{cap:Nat}{t:Int}(H:HI U h a m L cap t){n:Nat}{x:Item}(hx:L[n]?=some x):
  ∃U',DCall Tryz.prog 135 [.pointer (some ⟨h,0,none⟩),.int .i64 n] U (.ret (.agg ⟨x.cells⟩)) U' [h,a,m]/\HI U' h a m (outL L n) cap t/\U.next<=U'.next/\∀c,c<U.next->c≠h->c≠a->c≠m->U'.get c=U.get c:=by
 have hn:n<L.length:=(List.getElem?_eq_some_iff.1 hx).1
 obtain⟨last,hlast⟩:∃last,L.length=last+1:=⟨L.length - 1,by omega⟩
 obtain⟨y,hy⟩:∃y,L[last]?=some y:=⟨_,List.getElem?_eq_getElem (by omega)⟩
 obtain⟨f,H1,hi⟩:=H.hs
 obtain⟨G,ga,hG⟩:=H1.ga
 have gh:=H1.gh
 have lt:=H1.lt
 have sm:=H.small
 let Z:AObj:=.cells [.int .i64 0,.int .i64 0,.int .i64 0,.int .i64 0] false
 let Ub:=((U.new Z).new Z).set (U.next+1) (.cells x.cells false)
 have gb:∀c,c<U.next->Ub.get c=U.get c:=λc hc=>by
  rw[St.get_set,if_neg (by omega),St.get_new,if_neg (by simp;omega),St.get_new,if_neg (by omega)]
 have HB:HI Ub h a m L cap t:=H.grow (by simp [Ub];omega) gb
 obtain⟨U1,d1,HS1,nx1,kp1⟩:=HB.swap hx hy
 obtain⟨f1,HH1,hi1⟩:=HS1.hs
 have hl1:(swapL L n last x y).length=last+1:=by rw[swapL_length,hlast]
 have hx1:(swapL L n last x y)[last]?=some x:=by rw[swapL_get hx hy,if_pos rfl]
 have gx1:U1.get (U.next+1)=some (.cells x.cells false):=by
  rw[kp1 _ (by omega) (by omega)]
  show Ub.get (U.next+1)=_
  rw[St.get_set,if_pos rfl]
 let U2:=U1.set h (.cells [.map (some m),.slice (some ⟨a,0,some 6⟩) last cap,.int .i64 t] false)
 obtain⟨es,ck,gm,hkv,hlk⟩:=HH1.gm
 obtain⟨G1,ga1,hG1⟩:=HH1.ga
 obtain⟨q1,q2,q3⟩:=HH1.ne
 have gm2:U2.get m=some (.map es ck):=by rw[St.get_set,if_neg q2];exact gm
 obtain⟨es',hdel,kv',lk'⟩:=map_del (k:=x.id) gm2 hkv hlk (hi1.fwd last x hx1)
 let U3:=U2.set m (.map es' ck)
 have nx3:U3.next=U.next+2:=by show U1.next=_;rw[nx1];rfl
 have H3:HI U3 h a m ((swapL L n last x y).take last) cap t:=by
  refine⟨⟨_,⟨?_,⟨x.cells++G1,?_,?_⟩,⟨es',ck,by rw[St.get_set,if_pos rfl],kv',λk=>by rw[lk' k]⟩,HH1.ne,HH1.lt⟩,hi1.drop hx1 hl1⟩,λz hz=>HS1.ok z (List.mem_of_mem_take hz),by rw[List.length_take];omega⟩
  ·rw[St.get_set,if_neg (Ne.symm q2),St.get_set,if_pos rfl,List.length_take,hl1,Nat.min_eq_left (by omega)]
  ·rw[St.get_set,if_neg (Ne.symm q3),St.get_set,if_neg q1,ga1,cellsL_take hx1 hl1,List.append_assoc]
  ·rw[List.length_take,hl1,Nat.min_eq_left (by omega),List.length_append,Item.cells_length]
   rw[hl1]at hG1;omega
 have gx3:U3.get (U.next+1)=some (.cells x.cells false):=by
  rw[St.get_set,if_neg (by omega),St.get_set,if_neg (by omega)];exact gx1
 have gx2:U2.get (U.next+1)=some (.cells x.cells false):=by rw[St.get_set,if_neg (by omega)];exact gx1
 have gr3:U3.get U.next=some Z:=by
  rw[St.get_set,if_neg (by omega),St.get_set,if_neg (by omega),kp1 _ (by omega) (by omega)]
  show Ub.get U.next=_
  rw[St.get_set,if_neg (by omega),St.get_new,if_neg (by simp),St.get_new,if_pos rfl]
 have gh1:=HH1.gh
 rw[hl1]at gh1
 have gh2:U2.get h=some (.cells [.map (some m),.slice (some ⟨a,0,some 6⟩) last cap,.int .i64 t] false):=by rw[St.get_set,if_pos rfl]
 have c1:(0:Int)<=(n:Int)/\(n:Int)<((last+1:Nat):Int):=by omega
 have cb:(0:Int)<=(last:Int)/\(last:Int)<=(cap:Int):=by omega
 have cc:0<cap:=by omega
 have e1:=cells_at (G:=G) hx
 have l1:n*4+4<=(cellsL L++G).length:=by simp [cellsL_length];omega
 have w1:IntKind.i64.wrap (((last+1:Nat):Int) - 1)=(last:Int):=by rw[IntKind.wrap_i64];omega
 have n1:¬U.next=h:=by omega
 have n2:¬U.next=a:=by omega
 have n3:¬U.next+1=h:=by omega
 have n4:¬U.next+1=a:=by omega
 have n5:¬U.next+1<=h:=by omega
 have n6:¬U.next+1<=a:=by omega
 have n7:(h==U.next+1)=false:=by simp;omega
 have n8:(a==U.next+1)=false:=by simp;omega
 rw[hlast]at gh
 simp only[Item.cells]at e1
 have hbnd:bnd cap (.int .i64 (last:Int))=some last:=by simp only[bnd];rw[if_pos cb];simp
 have hsb:sbA (last+1) cap none (some (.int .i64 last)) none=some (0,last,cap):=by
  delta sbA
  simp only[hbnd]
 have hsl:opSlice (cP Tryz.prog).T 165 (.slice (some ⟨a,0,some 6⟩) (last+1) cap) none (some (.int .i64 last)) none=some (.val (.slice (some ⟨a,0,some 6⟩) last cap) []):=by
  simp only[opSlice,cx_und,cx_info,Tryz.underlying165,info165,Tryz.t165,Tryz.underlying159,info159,Tryz.t159,hsb]
  simp [cc]
 have n9:¬U2.next<=U.next+1:=by
  have:U2.next=U.next+2:=nx1
  omega
 by_cases hb:n<last
 ·obtain⟨U4,d4,H4,nx4,kp4⟩:=rise_call H3 (n:=n) (by rw[List.length_take];omega)
  have hl4:(riseL (n+1) ((swapL L n last x y).take last) n).length=last:=by rw[riseL_length,List.length_take,hl1,Nat.min_eq_left (by omega)]
  obtain⟨U5,d5,H5,nx5,kp5⟩:=sink_call H4 (n:=n) (by rw[hl4];exact hb)
  have gx5:U5.get (U.next+1)=some (.cells x.cells false):=by rw[kp5 (U.next+1) (by omega) (by omega) (by omega),kp4 _ (by omega) (by omega)];exact gx3
  have gr5:U5.get U.next=some Z:=by rw[kp5 U.next (by omega) (by omega) (by omega),kp4 _ (by omega) (by omega)];exact gr3
  have b1:(n:Int)<(last:Int):=by omega
  have b0:(0:Int)<=(last:Int):=by omega
  let U6:=U5.set U.next (.cells x.cells false)
  refine⟨U6,DCall.weaken2 (l:=[]++([U.next+1]++([a,m]++([h]++([m]++(([]++([a,m]++[a,m]))++([U.next]++[]))))))) (callsD Tryz.func135 rfl (DC.seq (runs Orc.none_ok 20 bt49 (by kernel_rfl) (r:=⟨.norm,⟨_,[]⟩,U.new Z,[]⟩) (by simp only[go_sem,seval,Tryz.f135,Tryz.underlying159,info159,Tryz.t159]<;>rfl)) rfl
   (DC.seq (runs Orc.none_ok 20 bt49 (by kernel_rfl) (r:=⟨.norm,⟨_,[]⟩,Ub,[U.next+1]⟩) (by simp only[go_sem,seval,Z,Ub,bt49,opLen,gh,ga,c1,e1,l1,w1,n1,n2,n3,n4,n5,n6,n7,n8,Int.toNat_natCast,Item.cells,Tryz.underlying3,info3,Tryz.t3,Tryz.underlying158,info158,Tryz.t158,Tryz.underlying159,info159,Tryz.t159,Tryz.underlying165,info165,Tryz.t165,Tryz.underlying166,info166,Tryz.t166,Tryz.underlying167,info167,Tryz.t167]<;>rfl)) rfl
   (DC.seq (runs (one_ok' Orc.none_ok d1) 20 bt49 (by kernel_rfl) (r:=⟨.norm,⟨_,[]⟩,U1,[a,m]⟩) (by simp only[go_sem,seval,Orc.one_call,body170]<;>rfl)) rfl
   (DC.seq (runs Orc.none_ok 20 bt49 (by kernel_rfl) (r:=⟨.norm,⟨_,[]⟩,U2,[h]⟩) (by simp only[go_sem,seval,U2,hsl,gh1,Tryz.underlying3,info3,Tryz.t3,Tryz.underlying159,info159,Tryz.t159,Tryz.underlying165,info165,Tryz.t165,Tryz.underlying166,info166,Tryz.t166,Tryz.underlying167,info167,Tryz.t167]<;>rfl)) rfl
   (DC.seq (runs Orc.none_ok 20 bt49 (by kernel_rfl) (r:=⟨.norm,⟨_,[]⟩,U3,[m]⟩) (by simp only[go_sem,seval,U3,bt49,n9,gh2,gx2,hdel,Item.cells,Tryz.underlying2,info2,Tryz.t2,Tryz.underlying3,info3,Tryz.t3,Tryz.underlying158,info158,Tryz.t158,Tryz.underlying159,info159,Tryz.t159,Tryz.underlying162,info162,Tryz.t162,Tryz.underlying163,info163,Tryz.t163,Tryz.underlying164,info164,Tryz.t164,Tryz.underlying166,info166,Tryz.t166,Tryz.underlying167,info167,Tryz.t167]<;>rfl)) rfl
   (DC.seq (DC.seq (runs Orc.none_ok 20 bt49 (by kernel_rfl) (r:=⟨.norm,⟨_,[]⟩,U3,[]⟩) (by simp only[go_sem,seval,b1,Tryz.underlying3,info3,Tryz.t3]<;>rfl)) rfl (DC.cond (t:=true) (by simp only[go_sem,seval]) (DC.seq (runs (one_ok' Orc.none_ok d4) 20 bt49 (by kernel_rfl) (r:=⟨.norm,⟨_,[]⟩,U4,[a,m]⟩) (by simp only[go_sem,seval,Orc.one_call,body134]<;>rfl)) rfl
     (runs (one_ok' Orc.none_ok d5) 20 bt49 (by kernel_rfl) (r:=⟨.norm,⟨_,[]⟩,U5,[a,m]⟩) (by simp only[go_sem,seval,Orc.one_call,body171]<;>rfl))))) rfl
    (DC.seq (runs Orc.none_ok 20 bt49 (by kernel_rfl) (r:=⟨.norm,⟨_,[]⟩,U6,[U.next]⟩) (by simp only[go_sem,seval,U6,Z,gx5,gr5,Item.cells,Tryz.underlying158,info158,Tryz.t158,Tryz.underlying159,info159,Tryz.t159]<;>rfl)) rfl (DC.ret _ _ _))))))))
   (by simp only[go_sem,seval,Tryz.f135,U6,Item.cells,Tryz.underlying158,info158,Tryz.t158,Tryz.underlying159,info159,Tryz.t159]) rfl rfl) ?_,?_,?_,?_⟩
  ·intro c hc hcn
   simp at hc ⊢
   omega
  ·have:outL L n=sinkL L.length (riseL (n+1) ((swapL L n last x y).take last) n) n:=by
    unfold outL
    rw[hx,show L.length - 1=last by omega,hy]
    simp [hb]
   rw[this]
   have H5':=H5
   rw[hl4,<-hlast]at H5'
   exact H5'.set _ (by omega) (by omega) (by omega)
  ·show U.next<=U5.next;omega
  ·intro c hc h1 h2 h3
   rw[St.get_set,if_neg (by omega),kp5 c (by omega) h2 h3,kp4 c h2 h3,St.get_set,if_neg (Ne.symm h3),St.get_set,if_neg (Ne.symm h1),kp1 c h2 h3]
   exact gb c hc
 ·have b1:¬(n:Int)<(last:Int):=by omega
  let U6:=U3.set U.next (.cells x.cells false)
  refine⟨U6,DCall.weaken2 (l:=[]++([U.next+1]++([a,m]++([h]++([m]++(([]++[])++([U.next]++[]))))))) (callsD Tryz.func135 rfl (DC.seq (runs Orc.none_ok 20 bt49 (by kernel_rfl) (r:=⟨.norm,⟨_,[]⟩,U.new Z,[]⟩) (by simp only[go_sem,seval,Tryz.f135,Tryz.underlying159,info159,Tryz.t159]<;>rfl)) rfl
   (DC.seq (runs Orc.none_ok 20 bt49 (by kernel_rfl) (r:=⟨.norm,⟨_,[]⟩,Ub,[U.next+1]⟩) (by simp only[go_sem,seval,Z,Ub,bt49,opLen,gh,ga,c1,e1,l1,w1,n1,n2,n3,n4,n5,n6,n7,n8,Int.toNat_natCast,Item.cells,Tryz.underlying3,info3,Tryz.t3,Tryz.underlying158,info158,Tryz.t158,Tryz.underlying159,info159,Tryz.t159,Tryz.underlying165,info165,Tryz.t165,Tryz.underlying166,info166,Tryz.t166,Tryz.underlying167,info167,Tryz.t167]<;>rfl)) rfl
   (DC.seq (runs (one_ok' Orc.none_ok d1) 20 bt49 (by kernel_rfl) (r:=⟨.norm,⟨_,[]⟩,U1,[a,m]⟩) (by simp only[go_sem,seval,Orc.one_call,body170]<;>rfl)) rfl
   (DC.seq (runs Orc.none_ok 20 bt49 (by kernel_rfl) (r:=⟨.norm,⟨_,[]⟩,U2,[h]⟩) (by simp only[go_sem,seval,U2,hsl,gh1,Tryz.underlying3,info3,Tryz.t3,Tryz.underlying159,info159,Tryz.t159,Tryz.underlying165,info165,Tryz.t165,Tryz.underlying166,info166,Tryz.t166,Tryz.underlying167,info167,Tryz.t167]<;>rfl)) rfl
   (DC.seq (runs Orc.none_ok 20 bt49 (by kernel_rfl) (r:=⟨.norm,⟨_,[]⟩,U3,[m]⟩) (by simp only[go_sem,seval,U3,bt49,n9,gh2,gx2,hdel,Item.cells,Tryz.underlying2,info2,Tryz.t2,Tryz.underlying3,info3,Tryz.t3,Tryz.underlying158,info158,Tryz.t158,Tryz.underlying159,info159,Tryz.t159,Tryz.underlying162,info162,Tryz.t162,Tryz.underlying163,info163,Tryz.t163,Tryz.underlying164,info164,Tryz.t164,Tryz.underlying166,info166,Tryz.t166,Tryz.underlying167,info167,Tryz.t167]<;>rfl)) rfl
   (DC.seq (DC.seq (runs Orc.none_ok 20 bt49 (by kernel_rfl) (r:=⟨.norm,⟨_,[]⟩,U3,[]⟩) (by simp only[go_sem,seval,b1,Tryz.underlying3,info3,Tryz.t3]<;>rfl)) rfl (DC.cond (t:=false) (by simp only[go_sem,seval]) (DC.skip _ _ _))) rfl
    (DC.seq (runs Orc.none_ok 20 bt49 (by kernel_rfl) (r:=⟨.norm,⟨_,[]⟩,U6,[U.next]⟩) (by simp only[go_sem,seval,U6,Z,gx3,gr3,Item.cells,Tryz.underlying158,info158,Tryz.t158,Tryz.underlying159,info159,Tryz.t159]<;>rfl)) rfl (DC.ret _ _ _))))))))
   (by simp only[go_sem,seval,Tryz.f135,U6,Item.cells,Tryz.underlying158,info158,Tryz.t158,Tryz.underlying159,info159,Tryz.t159]) rfl rfl) ?_,?_,?_,?_⟩
  ·intro c hc hcn
   simp at hc ⊢
   omega
  ·have:outL L n=(swapL L n last x y).take last:=by
    unfold outL
    rw[hx,show L.length - 1=last by omega,hy]
    simp [hb]
   rw[this]
   exact H3.set _ (by omega) (by omega) (by omega)
  ·show U.next<=U3.next;omega
  ·intro c hc h1 h2 h3
   rw[St.get_set,if_neg (by omega),St.get_set,if_neg (Ne.symm h3),St.get_set,if_neg (Ne.symm h1),kp1 c h2 h3]
   exact gb c hc
theorem take_call{U:St}{h a m:Nat}{L:List Item}{cap:Nat}{t:Int}(H:HI U h a m L cap t){x:Item}(hx:L[0]?=some x):
  ∃U',DCall Tryz.prog 80 [.pointer (some ⟨h,0,none⟩)] U (.ret (.tuple ⟨[.agg ⟨x.cells⟩,.bool true]⟩)) U' [h,a,m]/\HI U' h a m (outL L 0) cap t/\U.next<=U'.next/\∀c,c<U.next->c≠h->c≠a->c≠m->U'.get c=U.get c:=by
 obtain⟨f,H1,hi⟩:=H.hs
 have lt:=H1.lt
 have hn:0<L.length:=(List.getElem?_eq_some_iff.1 hx).1
 let Z:AObj:=.cells [.int .i64 0,.int .i64 0,.int .i64 0,.int .i64 0] false
 have HZ:HI (U.new Z) h a m L cap t:=H.grow (by simp) λc hc=>by rw[St.get_new,if_neg (by omega)]
 obtain⟨f',H1',_⟩:=HZ.hs
 have hl:=len_call H1'.gh
 obtain⟨U1,d,HO,nx,kp⟩:=out_call HZ hx
 have nx':U.next+1<=U1.next:=nx
 have gz:U1.get U.next=some Z:=by
  rw[kp U.next (by simp) (by omega) (by omega) (by omega),St.get_new,if_pos rfl]
 have e:((L.length:Int)==0)=false:=by rw[beq_eq_false_iff_ne];omega
 let U2:=U1.set U.next (.cells x.cells false)
 refine⟨U2,DCall.weaken2 (l:=[]++(([]++[])++(([h,a,m]++[U.next])++[]))) (callsD Tryz.func80 rfl (DC.seq (runs Orc.none_ok 20 nobt (by kernel_rfl) (r:=⟨.norm,⟨_,[]⟩,U.new Z,[]⟩) (by simp only[go_sem,seval,Tryz.f80,Tryz.underlying159,info159,Tryz.t159]<;>rfl)) rfl
   (DC.seq (DC.seq (runs (one_ok' Orc.none_ok hl) 20 nobt (by kernel_rfl) (r:=⟨.norm,⟨_,[]⟩,U.new Z,[]⟩) (by simp only[go_sem,seval,Orc.one_call,e,Tryz.underlying3,info3,Tryz.t3,body58]<;>rfl)) rfl (DC.cond (t:=false) (by simp only[go_sem,seval]) (DC.skip _ _ _))) rfl
    (DC.seq (runs (one_ok' Orc.none_ok d) 20 nobt (by kernel_rfl) (r:=⟨.norm,⟨_,[]⟩,U2,[h,a,m]++[U.next]⟩) (by simp only[go_sem,seval,U2,Z,Orc.one_call,gz,Item.cells,Int.natCast_zero,Tryz.underlying158,info158,Tryz.t158,Tryz.underlying159,info159,Tryz.t159,body135]<;>rfl)) rfl (DC.ret _ _ _))))
   (by simp only[go_sem,seval,Tryz.f80,U2,Item.cells,Tryz.underlying158,info158,Tryz.t158,Tryz.underlying159,info159,Tryz.t159]) rfl rfl) ?_,?_,?_,?_⟩
 ·intro c hc hcn
  simp at hc ⊢
  omega
 ·exact HO.set _ (by omega) (by omega) (by omega)
 ·show U.next<=U1.next;omega
 ·intro c hc h1 h2 h3
  rw[St.get_set,if_neg (by omega),kp c (by simp;omega) h1 h2 h3,St.get_new,if_neg (by omega)]
theorem map_get{U:St}{m:Nat}{es:List MapEntry}{ck:Nat}{f:Int->Option Int}{k v:Int}{ok:Bool}(hg:U.get m=some (.map es ck))(hk:KV es)(hf:∀k,lk es k=f k)(hv:f k=some v):
  opLookup (cP Tryz.prog).T U 162 ok (.map (some m)) (.int .i64 k)=some (.val (if ok then .tuple ⟨[.int .i64 v,.bool true]⟩ else .int .i64 v) [m]):=by
 have hu:(cP Tryz.prog).T.und 2=some (.int .i64):=(cx_und 2).trans Tryz.underlying2
 have h96:(cP Tryz.prog).T.und 162=some (.map 2 3):=(cx_und 162).trans Tryz.underlying162
 have h3:(cP Tryz.prog).T.info 3=some Tryz.t3:=(cx_info 3).trans info3
 obtain⟨j,e,a1,a2,a3,a4⟩:=find_some (i:=0) ⟨_,hu⟩ hk ((hf k).trans hv)
 simp only[opLookup,h96,h3,Tryz.t3,keyOk,hu,plain,and_self,if_true,hg,a1,a2]
theorem map_not{U:St}{m:Nat}{es:List MapEntry}{ck:Nat}{f:Int->Option Int}{k:Int}{ok:Bool}(hg:U.get m=some (.map es ck))(hk:KV es)(hf:∀k,lk es k=f k)(hv:f k=none):
  opLookup (cP Tryz.prog).T U 162 ok (.map (some m)) (.int .i64 k)=some (.val (if ok then .tuple ⟨[.int .i64 0,.bool false]⟩ else .int .i64 0) [m]):=by
 have hu:(cP Tryz.prog).T.und 2=some (.int .i64):=(cx_und 2).trans Tryz.underlying2
 have h96:(cP Tryz.prog).T.und 162=some (.map 2 3):=(cx_und 162).trans Tryz.underlying162
 have h3:(cP Tryz.prog).T.info 3=some Tryz.t3:=(cx_info 3).trans info3
 simp only[opLookup,h96,h3,Tryz.t3,keyOk,hu,plain,and_self,if_true,hg,find_none ⟨_,hu⟩ hk ((hf k).trans hv)]
theorem swapL_mem{L:List Item}{i j:Nat}{x y z:Item}(hi:L[i]?=some x)(hj:L[j]?=some y)(hz:z∈L):z∈swapL L i j x y:=by
 obtain⟨k,hk⟩:=List.getElem?_of_mem hz
 by_cases e:k=j
 ·subst e
  rw[hj]at hk;cases hk
  by_cases e2:i=k
  ·subst e2
   rw[hi]at hj;cases hj
   exact List.mem_of_getElem? (i:=i) (by rw[swapL_get hi hi,if_pos rfl])
  ·exact List.mem_of_getElem? (i:=i) (by rw[swapL_get hi hj,if_neg e2,if_pos rfl])
 ·by_cases e2:k=i
  ·subst e2
   rw[hi]at hk;cases hk
   exact List.mem_of_getElem? (i:=j) (by rw[swapL_get hi hj,if_pos rfl])
  ·exact List.mem_of_getElem? (i:=k) (by rw[swapL_get hi hj,if_neg e,if_neg e2];exact hk)
def bt14:Nat->List Nat
 |11=>[0,0,2,6,14,0,0,0,128,384,896,2016,4064,8190,16383,32767,65535]
 |_=>[]
structure HE(U:St)(h m:Nat)(t:Int):Prop where
 gh:U.get h=some (.cells [.map (some m),.slice none 0 0,.int .i64 t] false)
 gm:∃ck,U.get m=some (.map [] ck)
 ne:h≠m
 lt:h<U.next/\m<U.next
theorem KV.nil:KV []:=⟨by simp,List.Pairwise.nil⟩
theorem cellsL_append(L M:List Item):cellsL (L++M)=cellsL L++cellsL M:=by
 induction L with
 |nil=>rfl
 |cons x L ih=>simp [cellsL,ih]
theorem over_end{G:List Value}{x:Item}:∀{L:List Item},4<=G.length->over (cellsL L++G) (L.length*4) x.cells=cellsL (L++[x])++G.drop 4
 |[],h=>by
  match G,h with
  |a :: b :: c :: d :: G,_=>simp [over,cellsL,Item.cells]
 |y :: L,h=>by
  have:=over_end (x:=x) (L:=L) h
  have e:(y :: L).length*4=L.length*4+4:=by simp;omega
  rw[e]
  simp only[cellsL,Item.cells,List.cons_append,List.nil_append,over]at this ⊢
  rw[this]
theorem Idx.add{L:List Item}{f:Int->Option Int}(h:Idx L f){x:Item}(hx:f x.id=none):Idx (L++[x]) (upd f x.id L.length):=by
 constructor
 ·intro i z hz
  rw[List.getElem?_append]at hz
  unfold upd
  split at hz
  ·have:=h.fwd i z hz
   rw[if_neg (λe=>by rw[e,hx]at this;cases this)]
   exact this
  ·rename_i hi
   have:i - L.length=0:=by
    cases hd:i - L.length with
    |zero=>rfl
    |succ k=>rw[hd]at hz;simp at hz
   rw[this]at hz
   simp only[List.getElem?_cons_zero,Option.some.injEq]at hz
   subst hz
   rw[if_pos rfl]
   congr 1
   omega
 ·intro k v hv
  unfold upd at hv
  split at hv
  ·rename_i e
   cases hv
   exact⟨L.length,x,by simp,e.symm,rfl⟩
  ·obtain⟨i,z,a1,a2,a3⟩:=h.bwd k v hv
   have hi:i<L.length:=(List.getElem?_eq_some_iff.1 a1).1
   exact⟨i,z,by rw[List.getElem?_append_left hi];exact a1,a2,a3⟩
theorem append_nil{U:St}{b:Nat}{x:Item}(hg:U.get b=some (.cells x.cells false)):
  opAppend (cP Tryz.prog).T U 165 165 (.slice none 0 0) (.slice (some ⟨b,0,some 0⟩) 1 1)=some (.new (.cells x.cells false) (.slice (some ⟨U.next,0,some 6⟩) 1 1) [b]):=by
 have h37:(cP Tryz.prog).T.und 165=some (.slice 159):=(cx_und 165).trans Tryz.underlying165
 have h31:(cP Tryz.prog).T.info 159=some Tryz.t159:=(cx_info 159).trans info159
 simp only[opAppend,h37,h31,srcLen,Tryz.t159,srcCells,hg]
 simp [isSeqD,Item.cells,oneCells,plain,plainL,vcells]
theorem put_first{U:St}{h m:Nat}{t:Int}(H:HE U h m t)(id kn kd:Int)(h0:0<=id)(h1:id<=4611686018427387904)(hk:okR kn kd=true)(ht:0<=t)(ht1:t<1000000):
  ∃U' a,DCall Tryz.prog 79 [.pointer (some ⟨h,0,none⟩),.int .i64 id,.agg ⟨[.int .i64 kn,.int .i64 kd]⟩] U (.ret (.int .i64 0)) U' [h,m]/\HI U' h a m [⟨id,kn,kd,t+1⟩] 1 (t+1)/\U.next<=a:=by
 obtain⟨ck,gm⟩:=H.gm
 have gh:=H.gh
 have lt:=H.lt
 have ne:=H.ne
 have hk':=hk
 simp only[okR,Bool.and_eq_true,decide_eq_true_eq]at hk'
 let x:Item:=⟨id,kn,kd,t+1⟩
 let U1:=U.new (.cells [.int .i64 kn,.int .i64 kd] false)
 have gm1:U1.get m=some (.map [] ck):=by rw[St.get_new,if_neg (by omega)];exact gm
 have gh1:U1.get h=some (.cells [.map (some m),.slice none 0 0,.int .i64 t] false):=by rw[St.get_new,if_neg (by omega)];exact gh
 have gk1:U1.get U.next=some (.cells [.int .i64 kn,.int .i64 kd] false):=by rw[St.get_new,if_pos rfl]
 have hno:=none_call gh1
 have hlo:=map_not (ok:=true) (k:=id) (f:=λ_=>none) gm1 KV.nil (λ_=>rfl) rfl
 let U2:=U1.set h (.cells [.map (some m),.slice none 0 0,.int .i64 (t+1)] false)
 have gh2:U2.get h=some (.cells [.map (some m),.slice none 0 0,.int .i64 (t+1)] false):=by rw[St.get_set,if_pos rfl]
 have gk2:U2.get U.next=some (.cells [.int .i64 kn,.int .i64 kd] false):=by rw[St.get_set,if_neg (by omega)];exact gk1
 let U3:=((U2.new (.cells x.cells false)).new (.cells x.cells false)).set h (.cells [.map (some m),.slice (some ⟨U.next+2,0,some 6⟩) 1 1,.int .i64 (t+1)] false)
 have hap:=append_nil (U:=U2.new (.cells x.cells false)) (b:=U.next+1) (x:=x) (by rw[St.get_new,if_pos (show U2.next=U.next+1 from rfl)])
 have H3:HS U3 h (U.next+2) m [x] 1 (t+1) (λ_=>none):=by
  refine⟨by rw[St.get_set,if_pos rfl];rfl,⟨[],?_,rfl⟩,⟨[],ck,?_,KV.nil,λ_=>rfl⟩,⟨by omega,ne,by omega⟩,?_⟩
  ·rw[St.get_set,if_neg (by omega),St.get_new,if_pos (show(U2.new (.cells x.cells false)).next=U.next+2 from rfl)];simp [cellsL]
  ·rw[St.get_set,if_neg ne,St.get_new,if_neg (by show ¬U.next+2=m;omega),St.get_new,if_neg (by show ¬U.next+1=m;omega),St.get_set,if_neg ne];exact gm1
  ·show h<U.next+3/\U.next+2<U.next+3/\m<U.next+3;omega
 obtain⟨U4,d4,H4,nx4,kp4⟩:=lay_call H3 (i:=0) (x:=x) rfl
 have hxo:x.ok=true:=by
  simp only[Item.ok,Bool.and_eq_true,okI,decide_eq_true_eq]
  exact⟨⟨by show _<=id/\id<_;omega,hk⟩,by show _<=t+1/\t+1<_;omega⟩
 have I4:HI U4 h (U.next+2) m [x] 1 (t+1):=by
  refine⟨⟨_,H4,?_⟩,λz hz=>by simp only[List.mem_singleton]at hz;rw[hz];exact hxo,by simp⟩
  have:=Idx.add (L:=[]) (f:=λ_=>none) ⟨λi z h=>by simp at h,λk v h=>by cases h⟩ (x:=x) rfl
  exact this
 obtain⟨U5,d5,H5,nx5,kp5⟩:=rise_call I4 (n:=0) (by simp)
 have gh3:=H3.gh
 have gh4:=H4.gh
 have n2':¬id<0:=by omega
 have n3:¬4611686018427387904<id:=by omega
 have e2:((0:Int) != 0)=false:=by decide
 have w1:IntKind.i64.wrap (t+1)=t+1:=by rw[IntKind.wrap_i64];omega
 have w0:IntKind.i64.wrap 0=0:=by decide
 refine⟨U5,U.next+2,?_,H5,by omega⟩
 have nh2:¬U2.next<=h:=by show ¬U.next+1<=h;omega
 have nk2:¬U2.next<=U.next:=by show ¬U.next+1<=U.next;omega
 have ns:¬U2.next=h:=by show ¬U.next+1=h;omega
 refine DCall.weaken2 (l:=[]++(([]++[])++([]++([]++([h]++([h]++([m]++([U.next+2,m]++([]++[]))))))))) (callsD Tryz.func79 rfl
  (DC.seq (runs Orc.none_ok 20 bt14 (by kernel_rfl) (r:=⟨.norm,⟨_,[]⟩,U1,[]⟩) (by simp only[go_sem,seval,Tryz.f79]<;>rfl)) rfl
  (DC.seq (DC.seq (runs (one_ok' Orc.none_ok hno) 20 bt14 (by kernel_rfl) (r:=⟨.norm,⟨_,[]⟩,U1,[]⟩) (by simp only[go_sem,seval,Orc.one_call,body111]<;>rfl)) rfl (DC.cond (t:=false) (by simp only[go_sem,seval]) (DC.skip _ _ _))) rfl
  (DC.seq (runs Orc.none_ok 20 bt14 (by kernel_rfl) (r:=⟨.norm,⟨_,[]⟩,U1,[]⟩) (by simp only[go_sem,seval,hlo,gh1,Tryz.underlying162,info162,Tryz.t162,Tryz.underlying163,info163,Tryz.t163,Tryz.underlying164,info164,Tryz.t164,Tryz.underlying166,info166,Tryz.t166,Tryz.underlying167,info167,Tryz.t167]<;>rfl)) rfl
  (DC.seq (runs p8_ok 20 bt14 (by kernel_rfl) (r:=⟨.norm,⟨_,[]⟩,U1,[]⟩) (by simp only[go_sem,seval,opLen,p8,p7,p6,p5,p4,p3,hk'.1.1,hk'.1.2,hk'.2,n2',n3,e2,gk1,gh1,Tryz.underlying2,info2,Tryz.t2,Tryz.underlying3,info3,Tryz.t3,Tryz.underlying4,info4,Tryz.t4,Tryz.underlying38,info38,Tryz.t38,Tryz.underlying47,info47,Tryz.t47,Tryz.underlying165,info165,Tryz.t165,Tryz.underlying166,info166,Tryz.t166,Tryz.underlying167,info167,Tryz.t167,body132]<;>rfl)) rfl
  (DC.seq (runs Orc.none_ok 20 bt14 (by kernel_rfl) (r:=⟨.norm,⟨_,[]⟩,U2,[h]⟩) (by simp only[go_sem,seval,U2,gh1,w1,Tryz.underlying2,info2,Tryz.t2,Tryz.underlying166,info166,Tryz.t166,Tryz.underlying167,info167,Tryz.t167]<;>rfl)) rfl
  (DC.seq (runs Orc.none_ok 20 bt14 (by kernel_rfl) (r:=⟨.norm,⟨_,[]⟩,U3,[h]⟩) (by
   have hap':=hap
   have nx2:U2.next=U.next+1:=rfl
   have nhh:¬U.next+1<=h:=by omega
   have nss:¬U.next+1=h:=by omega
   have nss2:¬U.next+2=h:=by omega
   simp only[x,Item.cells,St.next_new,nx2]at hap'
   simp only[go_sem,seval,bt14,zerosN,U3,x,Item.cells,gh2,gk2,hap',nx2,nhh,nss,nss2,Tryz.underlying2,info2,Tryz.t2,Tryz.underlying38,info38,Tryz.t38,Tryz.underlying158,info158,Tryz.t158,Tryz.underlying159,info159,Tryz.t159,Tryz.underlying165,info165,Tryz.t165,Tryz.underlying166,info166,Tryz.t166,Tryz.underlying167,info167,Tryz.t167]<;>rfl)) rfl
  (DC.seq (runs (one_ok' Orc.none_ok d4) 20 bt14 (by kernel_rfl) (r:=⟨.norm,⟨_,[]⟩,U4,[m]⟩) (by simp only[go_sem,seval,opLen,Orc.one_call,gh3,w0,Int.natCast_zero,Int.natCast_one,Tryz.underlying3,info3,Tryz.t3,Tryz.underlying165,info165,Tryz.t165,Tryz.underlying166,info166,Tryz.t166,Tryz.underlying167,info167,Tryz.t167,body133]<;>rfl)) rfl
  (DC.seq (runs (one_ok' Orc.none_ok d5) 20 bt14 (by kernel_rfl) (r:=⟨.norm,⟨_,[]⟩,U5,[U.next+2,m]⟩) (by simp only[go_sem,seval,opLen,Orc.one_call,gh4,w0,Int.natCast_zero,Int.natCast_one,Tryz.underlying3,info3,Tryz.t3,Tryz.underlying165,info165,Tryz.t165,Tryz.underlying166,info166,Tryz.t166,Tryz.underlying167,info167,Tryz.t167,body134]<;>rfl)) rfl
  (DC.seq (runs Orc.none_ok 20 bt14 (by kernel_rfl) (r:=⟨.norm,⟨_,[]⟩,U5,[]⟩) (by simp only[go_sem,seval]<;>rfl)) rfl (DC.ret _ _ _))))))))))
  (by simp only[go_sem,seval,Tryz.f79]) rfl rfl) ?_
 intro c hc hcn
 simp at hc ⊢
 omega
theorem append_in{U:St}{a b:Nat}{L:List Item}{G:List Value}{cap:Nat}{x:Item}(hab:U.get a=some (.cells (cellsL L++G) false))(hg:U.get b=some (.cells x.cells false))(hG:L.length*4+G.length=cap*4)(hl:L.length+1<=cap)(sm:L.length<=1000000):
  opAppend (cP Tryz.prog).T U 165 165 (.slice (some ⟨a,0,some 6⟩) L.length cap) (.slice (some ⟨b,0,some 0⟩) 1 1)=
   some (.eff (.slice (some ⟨a,0,some 6⟩) (L.length+1) cap) (U.set a (.cells (cellsL (L++[x])++G.drop 4) false)) [a]):=by
 have h37:(cP Tryz.prog).T.und 165=some (.slice 159):=(cx_und 165).trans Tryz.underlying165
 have h31:(cP Tryz.prog).T.info 159=some Tryz.t159:=(cx_info 159).trans info159
 have ov:=over_end (G:=G) (x:=x) (L:=L) (by omega)
 have l1:L.length*4<=(cellsL L++G).length:=by simp [cellsL_length];omega
 have l2:(L.length+1)*4<=(cellsL L++G).length:=by simp [cellsL_length];omega
 have l3:¬4294967296<=L.length:=by omega
 simp only[Item.cells]at ov hg
 simp only[opAppend,h37,h31,srcLen,Tryz.t159,srcCells,hg,hab]
 simp only[List.length_append]at l1 l2
 simp [isSeqD,oneCells,plain,plainL,vcells,hl,l3,ov,Item.cells,cellsL_length]
 omega
theorem append_move{U:St}{a b:Nat}{L:List Item}{G:List Value}{x:Item}(hab:U.get a=some (.cells (cellsL L++G) false))(hg:U.get b=some (.cells x.cells false))(sm:L.length<=1000000):
  opAppend (cP Tryz.prog).T U 165 165 (.slice (some ⟨a,0,some 6⟩) L.length L.length) (.slice (some ⟨b,0,some 0⟩) 1 1)=
   some (.eff (.slice (some ⟨U.next,0,some 6⟩) (L.length+1) (L.length+1)) ((U.new (.cells (cellsL (L++[x])) false)).put a none) [a]):=by
 have h37:(cP Tryz.prog).T.und 165=some (.slice 159):=(cx_und 165).trans Tryz.underlying165
 have h31:(cP Tryz.prog).T.info 159=some Tryz.t159:=(cx_info 159).trans info159
 have l3:¬4294967296<=L.length:=by omega
 have tk:(cellsL L++G).take (L.length*4)=cellsL L:=by
  rw[List.take_append_of_le_length (by rw[cellsL_length];omega),List.take_of_length_le (by rw[cellsL_length];omega)]
 have ap:cellsL (L++[x])=cellsL L++x.cells:=by rw[cellsL_append];simp [cellsL]
 rw[ap]
 simp only[Item.cells]at hg ⊢
 simp only[opAppend,h37,h31,srcLen,Tryz.t159,srcCells,hg,hab]
 simp [isSeqD,oneCells,plain,plainL,vcells,l3,tk,cellsL_length]
 omega
theorem put_in{U:St}{h a m:Nat}{L:List Item}{cap:Nat}{t:Int}(H:HI U h a m L cap t)(id kn kd:Int)(h0:0<=id)(h1:id<=4611686018427387904)(hk:okR kn kd=true)(ht:0<=t)(ht1:t<1000000)(hnew:∀y∈L,y.id≠id)(hsm:L.length<1000)(hcap:L.length+1<=cap):
  ∃U',DCall Tryz.prog 79 [.pointer (some ⟨h,0,none⟩),.int .i64 id,.agg ⟨[.int .i64 kn,.int .i64 kd]⟩] U (.ret (.int .i64 0)) U' [h,a,m]/\HI U' h a m (riseL (L.length+1) (L++[⟨id,kn,kd,t+1⟩]) L.length) cap (t+1)/\U.next<=U'.next/\∀c,c<U.next->c≠h->c≠a->c≠m->U'.get c=U.get c:=by
 obtain⟨f,H1,hi⟩:=H.hs
 obtain⟨G,ga,hG⟩:=H1.ga
 obtain⟨es,ck,gm,hkv,hlk⟩:=H1.gm
 have gh:=H1.gh
 have lt:=H1.lt
 obtain⟨q1,q2,q3⟩:=H1.ne
 have hk':=hk
 simp only[okR,Bool.and_eq_true,decide_eq_true_eq]at hk'
 let x:Item:=⟨id,kn,kd,t+1⟩
 have hfn:f id=none:=by
  cases hv:f id with
  |none=>rfl
  |some v=>
   obtain⟨i,z,a1,a2,_⟩:=hi.bwd id v hv
   exact absurd a2 (hnew z (List.mem_of_getElem? a1))
 let U1:=U.new (.cells [.int .i64 kn,.int .i64 kd] false)
 have gm1:U1.get m=some (.map es ck):=by rw[St.get_new,if_neg (by omega)];exact gm
 have ga1:U1.get a=some (.cells (cellsL L++G) false):=by rw[St.get_new,if_neg (by omega)];exact ga
 have gh1:U1.get h=some (.cells [.map (some m),.slice (some ⟨a,0,some 6⟩) L.length cap,.int .i64 t] false):=by rw[St.get_new,if_neg (by omega)];exact gh
 have gk1:U1.get U.next=some (.cells [.int .i64 kn,.int .i64 kd] false):=by rw[St.get_new,if_pos rfl]
 have hno:=none_call gh1
 have hlo:=map_not (ok:=true) (k:=id) gm1 hkv hlk hfn
 let U2:=U1.set h (.cells [.map (some m),.slice (some ⟨a,0,some 6⟩) L.length cap,.int .i64 (t+1)] false)
 have gh2:U2.get h=some (.cells [.map (some m),.slice (some ⟨a,0,some 6⟩) L.length cap,.int .i64 (t+1)] false):=by rw[St.get_set,if_pos rfl]
 have gk2:U2.get U.next=some (.cells [.int .i64 kn,.int .i64 kd] false):=by rw[St.get_set,if_neg (by omega)];exact gk1
 let U2n:=U2.new (.cells x.cells false)
 have ga2:U2n.get a=some (.cells (cellsL L++G) false):=by rw[St.get_new,if_neg (by show ¬U.next+1=a;omega),St.get_set,if_neg q1];exact ga1
 have gm2:U2n.get m=some (.map es ck):=by rw[St.get_new,if_neg (by show ¬U.next+1=m;omega),St.get_set,if_neg q2];exact gm1
 have gx2:U2n.get (U.next+1)=some (.cells x.cells false):=by rw[St.get_new,if_pos (show U2.next=U.next+1 from rfl)]
 have hap:=append_in (b:=U.next+1) (x:=x) ga2 gx2 hG hcap H.small
 let U3:=(U2n.set a (.cells (cellsL (L++[x])++G.drop 4) false)).set h (.cells [.map (some m),.slice (some ⟨a,0,some 6⟩) (L.length+1) cap,.int .i64 (t+1)] false)
 have H3:HS U3 h a m (L++[x]) cap (t+1) f:=by
  refine⟨by rw[St.get_set,if_pos rfl,List.length_append];rfl,⟨G.drop 4,?_,by simp;omega⟩,⟨es,ck,?_,hkv,hlk⟩,⟨q1,q2,q3⟩,?_⟩
  ·rw[St.get_set,if_neg q1,St.get_set,if_pos rfl]
  ·rw[St.get_set,if_neg q2,St.get_set,if_neg q3];exact gm2
  ·show h<U.next+2/\a<U.next+2/\m<U.next+2;omega
 have hln:(L++[x]).length=L.length+1:=by simp
 have hgx:(L++[x])[L.length]?=some x:=by simp
 obtain⟨U4,d4,H4,nx4,kp4⟩:=lay_call H3 hgx
 have hxo:x.ok=true:=by
  simp only[Item.ok,Bool.and_eq_true,okI,decide_eq_true_eq]
  exact⟨⟨by show _<=id/\id<_;omega,hk⟩,by show _<=t+1/\t+1<_;omega⟩
 have I4:HI U4 h a m (L++[x]) cap (t+1):=by
  refine⟨⟨_,H4,hi.add (x:=x) hfn⟩,λz hz=>?_,by rw[hln];omega⟩
  rcases List.mem_append.1 hz with hz|hz
  ·exact H.ok z hz
  ·simp only[List.mem_singleton]at hz;rw[hz];exact hxo
 obtain⟨U5,d5,H5,nx5,kp5⟩:=rise_call I4 (n:=L.length) (by rw[hln];omega)
 have gh3:=H3.gh
 have gh4:=H4.gh
 rw[hln]at gh3 gh4
 have n2':¬id<0:=by omega
 have n3:¬4611686018427387904<id:=by omega
 have n4:¬(100000:Int)<=(L.length:Int):=by omega
 have e2:((0:Int) != 0)=false:=by decide
 have w1:IntKind.i64.wrap (t+1)=t+1:=by rw[IntKind.wrap_i64];omega
 have w2:IntKind.i64.wrap (((L.length+1:Nat):Int) - 1)=(L.length:Int):=by rw[IntKind.wrap_i64];omega
 refine⟨U5,?_,H5,?_,?_⟩
 ·refine DCall.weaken2 (l:=[]++(([]++[])++([]++([]++([h]++([a,h]++([m]++([a,m]++([]++[]))))))))) (callsD Tryz.func79 rfl
   (DC.seq (runs Orc.none_ok 20 bt14 (by kernel_rfl) (r:=⟨.norm,⟨_,[]⟩,U1,[]⟩) (by simp only[go_sem,seval,Tryz.f79]<;>rfl)) rfl
   (DC.seq (DC.seq (runs (one_ok' Orc.none_ok hno) 20 bt14 (by kernel_rfl) (r:=⟨.norm,⟨_,[]⟩,U1,[]⟩) (by simp only[go_sem,seval,Orc.one_call,body111]<;>rfl)) rfl (DC.cond (t:=false) (by simp only[go_sem,seval]) (DC.skip _ _ _))) rfl
   (DC.seq (runs Orc.none_ok 20 bt14 (by kernel_rfl) (r:=⟨.norm,⟨_,[]⟩,U1,[]⟩) (by simp only[go_sem,seval,hlo,gh1,Tryz.underlying162,info162,Tryz.t162,Tryz.underlying163,info163,Tryz.t163,Tryz.underlying164,info164,Tryz.t164,Tryz.underlying166,info166,Tryz.t166,Tryz.underlying167,info167,Tryz.t167]<;>rfl)) rfl
   (DC.seq (runs p8_ok 20 bt14 (by kernel_rfl) (r:=⟨.norm,⟨_,[]⟩,U1,[]⟩) (by simp only[go_sem,seval,opLen,p8,p7,p6,p5,p4,p3,hk'.1.1,hk'.1.2,hk'.2,n2',n3,n4,e2,gk1,gh1,Tryz.underlying2,info2,Tryz.t2,Tryz.underlying3,info3,Tryz.t3,Tryz.underlying4,info4,Tryz.t4,Tryz.underlying38,info38,Tryz.t38,Tryz.underlying47,info47,Tryz.t47,Tryz.underlying165,info165,Tryz.t165,Tryz.underlying166,info166,Tryz.t166,Tryz.underlying167,info167,Tryz.t167,body132]<;>rfl)) rfl
   (DC.seq (runs Orc.none_ok 20 bt14 (by kernel_rfl) (r:=⟨.norm,⟨_,[]⟩,U2,[h]⟩) (by simp only[go_sem,seval,U2,gh1,w1,Tryz.underlying2,info2,Tryz.t2,Tryz.underlying166,info166,Tryz.t166,Tryz.underlying167,info167,Tryz.t167]<;>rfl)) rfl
   (DC.seq (runs Orc.none_ok 20 bt14 (by kernel_rfl) (r:=⟨.norm,⟨_,[]⟩,U3,[a,h]⟩) (by
    have hap':=hap
    have nx2:U2.next=U.next+1:=rfl
    have m1:¬U.next+1<=h:=by omega
    have m2:¬U.next+1=h:=by omega
    have m3:¬U.next+2=h:=by omega
    have m4:¬U.next+1<=a:=by omega
    have m5:¬a=h:=by omega
    have m6:(h==a)=false:=by simp;omega
    have m7:(U.next==a)=false:=by simp;omega
    simp only[U2n,x,Item.cells,St.next_new,nx2]at hap'
    simp only[go_sem,seval,bt14,zerosN,U3,U2n,x,Item.cells,gh2,gk2,hap',nx2,m1,m2,m3,m4,m5,m6,m7,Tryz.underlying2,info2,Tryz.t2,Tryz.underlying38,info38,Tryz.t38,Tryz.underlying158,info158,Tryz.t158,Tryz.underlying159,info159,Tryz.t159,Tryz.underlying165,info165,Tryz.t165,Tryz.underlying166,info166,Tryz.t166,Tryz.underlying167,info167,Tryz.t167]<;>rfl)) rfl
   (DC.seq (runs (one_ok' Orc.none_ok d4) 20 bt14 (by kernel_rfl) (r:=⟨.norm,⟨_,[]⟩,U4,[m]⟩) (by simp only[go_sem,seval,opLen,Orc.one_call,gh3,w2,Tryz.underlying3,info3,Tryz.t3,Tryz.underlying165,info165,Tryz.t165,Tryz.underlying166,info166,Tryz.t166,Tryz.underlying167,info167,Tryz.t167,body133]<;>rfl)) rfl
   (DC.seq (runs (one_ok' Orc.none_ok d5) 20 bt14 (by kernel_rfl) (r:=⟨.norm,⟨_,[]⟩,U5,[a,m]⟩) (by simp only[go_sem,seval,opLen,Orc.one_call,gh4,w2,Tryz.underlying3,info3,Tryz.t3,Tryz.underlying165,info165,Tryz.t165,Tryz.underlying166,info166,Tryz.t166,Tryz.underlying167,info167,Tryz.t167,body134]<;>rfl)) rfl
   (DC.seq (runs Orc.none_ok 20 bt14 (by kernel_rfl) (r:=⟨.norm,⟨_,[]⟩,U5,[]⟩) (by simp only[go_sem,seval]<;>rfl)) rfl (DC.ret _ _ _))))))))))
   (by simp only[go_sem,seval,Tryz.f79]) rfl rfl) ?_
  intro c hc hcn
  simp at hc ⊢
  omega
 ·rw[nx5,nx4];show U.next<=U.next+2;omega
 ·intro c hc b1 b2 b3
  rw[kp5 c b2 b3,kp4 c b3,St.get_set,if_neg (Ne.symm b1),St.get_set,if_neg (Ne.symm b2),St.get_new,if_neg (by show ¬U.next+1=c;omega),St.get_set,if_neg (Ne.symm b1),St.get_new,if_neg (by omega)]
theorem put_move{U:St}{h a m:Nat}{L:List Item}{cap:Nat}{t:Int}(H:HI U h a m L cap t)(id kn kd:Int)(h0:0<=id)(h1:id<=4611686018427387904)(hk:okR kn kd=true)(ht:0<=t)(ht1:t<1000000)(hnew:∀y∈L,y.id≠id)(hsm:L.length<1000)(hcap:cap=L.length):
  ∃U',DCall Tryz.prog 79 [.pointer (some ⟨h,0,none⟩),.int .i64 id,.agg ⟨[.int .i64 kn,.int .i64 kd]⟩] U (.ret (.int .i64 0)) U' [h,a,m]/\HI U' h (U.next+2) m (riseL (L.length+1) (L++[⟨id,kn,kd,t+1⟩]) L.length) (L.length+1) (t+1)/\U.next<=U'.next/\∀c,c<U.next->c≠h->c≠a->c≠m->U'.get c=U.get c:=by
 subst hcap
 obtain⟨f,H1,hi⟩:=H.hs
 obtain⟨G,ga,hG⟩:=H1.ga
 obtain⟨es,ck,gm,hkv,hlk⟩:=H1.gm
 have gh:=H1.gh
 have lt:=H1.lt
 obtain⟨q1,q2,q3⟩:=H1.ne
 have hk':=hk
 simp only[okR,Bool.and_eq_true,decide_eq_true_eq]at hk'
 let x:Item:=⟨id,kn,kd,t+1⟩
 have hfn:f id=none:=by
  cases hv:f id with
  |none=>rfl
  |some v=>
   obtain⟨i,z,a1,a2,_⟩:=hi.bwd id v hv
   exact absurd a2 (hnew z (List.mem_of_getElem? a1))
 let U1:=U.new (.cells [.int .i64 kn,.int .i64 kd] false)
 have gm1:U1.get m=some (.map es ck):=by rw[St.get_new,if_neg (by omega)];exact gm
 have ga1:U1.get a=some (.cells (cellsL L++G) false):=by rw[St.get_new,if_neg (by omega)];exact ga
 have gh1:U1.get h=some (.cells [.map (some m),.slice (some ⟨a,0,some 6⟩) L.length L.length,.int .i64 t] false):=by rw[St.get_new,if_neg (by omega)];exact gh
 have gk1:U1.get U.next=some (.cells [.int .i64 kn,.int .i64 kd] false):=by rw[St.get_new,if_pos rfl]
 have hno:=none_call gh1
 have hlo:=map_not (ok:=true) (k:=id) gm1 hkv hlk hfn
 let U2:=U1.set h (.cells [.map (some m),.slice (some ⟨a,0,some 6⟩) L.length L.length,.int .i64 (t+1)] false)
 have gh2:U2.get h=some (.cells [.map (some m),.slice (some ⟨a,0,some 6⟩) L.length L.length,.int .i64 (t+1)] false):=by rw[St.get_set,if_pos rfl]
 have gk2:U2.get U.next=some (.cells [.int .i64 kn,.int .i64 kd] false):=by rw[St.get_set,if_neg (by omega)];exact gk1
 let U2n:=U2.new (.cells x.cells false)
 have ga2:U2n.get a=some (.cells (cellsL L++G) false):=by rw[St.get_new,if_neg (by show ¬U.next+1=a;omega),St.get_set,if_neg q1];exact ga1
 have gm2:U2n.get m=some (.map es ck):=by rw[St.get_new,if_neg (by show ¬U.next+1=m;omega),St.get_set,if_neg q2];exact gm1
 have gx2:U2n.get (U.next+1)=some (.cells x.cells false):=by rw[St.get_new,if_pos (show U2.next=U.next+1 from rfl)]
 have hap:=append_move (b:=U.next+1) (x:=x) ga2 gx2 H.small
 let U3:=((U2n.new (.cells (cellsL (L++[x])) false)).put a none).set h (.cells [.map (some m),.slice (some ⟨U.next+2,0,some 6⟩) (L.length+1) (L.length+1),.int .i64 (t+1)] false)
 have H3:HS U3 h (U.next+2) m (L++[x]) (L.length+1) (t+1) f:=by
  refine⟨by rw[St.get_set,if_pos rfl,List.length_append];rfl,⟨[],?_,by simp⟩,⟨es,ck,?_,hkv,hlk⟩,⟨by omega,q2,by omega⟩,?_⟩
  ·rw[St.get_set,if_neg (by omega),St.get_put,if_neg (by omega),St.get_new,if_pos (show U2n.next=U.next+2 from rfl),List.append_nil]
  ·rw[St.get_set,if_neg q2,St.get_put,if_neg q3,St.get_new,if_neg (by show ¬U.next+2=m;omega)];exact gm2
  ·show h<U.next+3/\U.next+2<U.next+3/\m<U.next+3;omega
 have hln:(L++[x]).length=L.length+1:=by simp
 have hgx:(L++[x])[L.length]?=some x:=by simp
 obtain⟨U4,d4,H4,nx4,kp4⟩:=lay_call H3 hgx
 have hxo:x.ok=true:=by
  simp only[Item.ok,Bool.and_eq_true,okI,decide_eq_true_eq]
  exact⟨⟨by show _<=id/\id<_;omega,hk⟩,by show _<=t+1/\t+1<_;omega⟩
 have I4:HI U4 h (U.next+2) m (L++[x]) (L.length+1) (t+1):=by
  refine⟨⟨_,H4,hi.add (x:=x) hfn⟩,λz hz=>?_,by rw[hln];omega⟩
  rcases List.mem_append.1 hz with hz|hz
  ·exact H.ok z hz
  ·simp only[List.mem_singleton]at hz;rw[hz];exact hxo
 obtain⟨U5,d5,H5,nx5,kp5⟩:=rise_call I4 (n:=L.length) (by rw[hln];omega)
 have gh3:=H3.gh
 have gh4:=H4.gh
 rw[hln]at gh3 gh4
 have n2':¬id<0:=by omega
 have n3:¬4611686018427387904<id:=by omega
 have n4:¬(100000:Int)<=(L.length:Int):=by omega
 have e2:((0:Int) != 0)=false:=by decide
 have w1:IntKind.i64.wrap (t+1)=t+1:=by rw[IntKind.wrap_i64];omega
 have w2:IntKind.i64.wrap (((L.length+1:Nat):Int) - 1)=(L.length:Int):=by rw[IntKind.wrap_i64];omega
 refine⟨U5,?_,H5,?_,?_⟩
 ·refine DCall.weaken2 (l:=[]++(([]++[])++([]++([]++([h]++([a,h]++([m]++([U.next+2,m]++([]++[]))))))))) (callsD Tryz.func79 rfl
   (DC.seq (runs Orc.none_ok 20 bt14 (by kernel_rfl) (r:=⟨.norm,⟨_,[]⟩,U1,[]⟩) (by simp only[go_sem,seval,Tryz.f79]<;>rfl)) rfl
   (DC.seq (DC.seq (runs (one_ok' Orc.none_ok hno) 20 bt14 (by kernel_rfl) (r:=⟨.norm,⟨_,[]⟩,U1,[]⟩) (by simp only[go_sem,seval,Orc.one_call,body111]<;>rfl)) rfl (DC.cond (t:=false) (by simp only[go_sem,seval]) (DC.skip _ _ _))) rfl
   (DC.seq (runs Orc.none_ok 20 bt14 (by kernel_rfl) (r:=⟨.norm,⟨_,[]⟩,U1,[]⟩) (by simp only[go_sem,seval,hlo,gh1,Tryz.underlying162,info162,Tryz.t162,Tryz.underlying163,info163,Tryz.t163,Tryz.underlying164,info164,Tryz.t164,Tryz.underlying166,info166,Tryz.t166,Tryz.underlying167,info167,Tryz.t167]<;>rfl)) rfl
   (DC.seq (runs p8_ok 20 bt14 (by kernel_rfl) (r:=⟨.norm,⟨_,[]⟩,U1,[]⟩) (by simp only[go_sem,seval,opLen,p8,p7,p6,p5,p4,p3,hk'.1.1,hk'.1.2,hk'.2,n2',n3,n4,e2,gk1,gh1,Tryz.underlying2,info2,Tryz.t2,Tryz.underlying3,info3,Tryz.t3,Tryz.underlying4,info4,Tryz.t4,Tryz.underlying38,info38,Tryz.t38,Tryz.underlying47,info47,Tryz.t47,Tryz.underlying165,info165,Tryz.t165,Tryz.underlying166,info166,Tryz.t166,Tryz.underlying167,info167,Tryz.t167,body132]<;>rfl)) rfl
   (DC.seq (runs Orc.none_ok 20 bt14 (by kernel_rfl) (r:=⟨.norm,⟨_,[]⟩,U2,[h]⟩) (by simp only[go_sem,seval,U2,gh1,w1,Tryz.underlying2,info2,Tryz.t2,Tryz.underlying166,info166,Tryz.t166,Tryz.underlying167,info167,Tryz.t167]<;>rfl)) rfl
   (DC.seq (runs Orc.none_ok 20 bt14 (by kernel_rfl) (r:=⟨.norm,⟨_,[]⟩,U3,[a,h]⟩) (by
    have hap':=hap
    have nx2:U2.next=U.next+1:=rfl
    have m1:¬U.next+1<=h:=by omega
    have m2:¬U.next+1=h:=by omega
    have m3:¬U.next+2=h:=by omega
    have m4:¬U.next+1<=a:=by omega
    have m5:¬a=h:=by omega
    have m6:(h==a)=false:=by simp;omega
    have m7:(U.next==a)=false:=by simp;omega
    have m8:¬a=U.next:=by omega
    simp only[U2n,x,Item.cells,St.next_new,nx2]at hap'
    simp only[go_sem,seval,bt14,zerosN,U3,U2n,x,Item.cells,gh2,gk2,hap',nx2,m1,m2,m3,m4,m5,m6,m7,Tryz.underlying2,info2,Tryz.t2,Tryz.underlying38,info38,Tryz.t38,Tryz.underlying158,info158,Tryz.t158,Tryz.underlying159,info159,Tryz.t159,Tryz.underlying165,info165,Tryz.t165,Tryz.underlying166,info166,Tryz.t166,Tryz.underlying167,info167,Tryz.t167]<;>rfl)) rfl
   (DC.seq (runs (one_ok' Orc.none_ok d4) 20 bt14 (by kernel_rfl) (r:=⟨.norm,⟨_,[]⟩,U4,[m]⟩) (by simp only[go_sem,seval,opLen,Orc.one_call,gh3,w2,Tryz.underlying3,info3,Tryz.t3,Tryz.underlying165,info165,Tryz.t165,Tryz.underlying166,info166,Tryz.t166,Tryz.underlying167,info167,Tryz.t167,body133]<;>rfl)) rfl
   (DC.seq (runs (one_ok' Orc.none_ok d5) 20 bt14 (by kernel_rfl) (r:=⟨.norm,⟨_,[]⟩,U5,[U.next+2,m]⟩) (by simp only[go_sem,seval,opLen,Orc.one_call,gh4,w2,Tryz.underlying3,info3,Tryz.t3,Tryz.underlying165,info165,Tryz.t165,Tryz.underlying166,info166,Tryz.t166,Tryz.underlying167,info167,Tryz.t167,body134]<;>rfl)) rfl
   (DC.seq (runs Orc.none_ok 20 bt14 (by kernel_rfl) (r:=⟨.norm,⟨_,[]⟩,U5,[]⟩) (by simp only[go_sem,seval]<;>rfl)) rfl (DC.ret _ _ _))))))))))
   (by simp only[go_sem,seval,Tryz.f79]) rfl rfl) ?_
  intro c hc hcn
  simp at hc ⊢
  omega
 ·rw[nx5,nx4];show U.next<=U.next+3;omega
 ·intro c hc b1 b2 b3
  rw[kp5 c (by omega) b3,kp4 c b3,St.get_set,if_neg (Ne.symm b1),St.get_put,if_neg (Ne.symm b2),St.get_new,if_neg (by show ¬U.next+2=c;omega),St.get_new,if_neg (by show ¬U.next+1=c;omega),St.get_set,if_neg (Ne.symm b1),St.get_new,if_neg (by omega)]
theorem cross_le{n₁ d₁ n₂ d₂ n₃ d₃:Int}(h1:0<d₁)(h2:0<d₂)(h3:0<d₃)(a:n₁*d₂<=n₂*d₁)(b:n₂*d₃<=n₃*d₂):n₁*d₃<=n₃*d₁:=by
 have x:=Int.mul_le_mul_of_nonneg_right a (Int.le_of_lt h3)
 have y:=Int.mul_le_mul_of_nonneg_right b (Int.le_of_lt h1)
 refine Int.le_of_mul_le_mul_right (a:=d₂) ?_ h2
 have e1:n₁*d₂*d₃=n₁*d₃*d₂:=by grind
 have e2:n₂*d₁*d₃=n₂*d₃*d₁:=by grind
 have e3:n₃*d₂*d₁=n₃*d₁*d₂:=by grind
 omega
theorem cmpR_le{n₁ d₁ n₂ d₂:Int}:cmpR n₁ d₁ n₂ d₂<=0↔n₁*d₂<=n₂*d₁:=by
 unfold cmpR
 split
 ·omega
 ·split<;>omega
theorem cmpR_zero{n₁ d₁ n₂ d₂:Int}:cmpR n₁ d₁ n₂ d₂=0↔n₁*d₂=n₂*d₁:=by
 unfold cmpR
 split
 ·omega
 ·split<;>omega
theorem cmpI_le{x y:Int}:cmpI x y<=0↔x<=y:=by
 unfold cmpI
 split
 ·omega
 ·split<;>omega
def Item.pos(x:Item):Prop:=0<x.d
theorem Item.ok_pos{x:Item}(h:x.ok=true):x.pos:=by
 simp only[Item.ok,okR,Bool.and_eq_true,decide_eq_true_eq]at h
 have:=h.1.2.2.1
 show 0<x.d
 omega
theorem cmpItem_le{x y:Item}:cmpItem x y<=0↔x.n*y.d<y.n*x.d\/x.n*y.d=y.n*x.d/\x.turn<=y.turn:=by
 unfold cmpItem
 split
 ·rename_i h
  rw[cmpR_zero]at h
  rw[cmpI_le];omega
 ·rename_i h
  have h2:=h
  rw[cmpR_zero]at h2
  rw[cmpR_le];omega
theorem cmpItem_total(x y:Item):cmpItem x y<=0\/cmpItem y x<=0:=by
 rw[cmpItem_le,cmpItem_le];omega
theorem cmpItem_trans{x y z:Item}(hx:x.pos)(hy:y.pos)(hz:z.pos)(a:cmpItem x y<=0)(b:cmpItem y z<=0):cmpItem x z<=0:=by
 rw[cmpItem_le]at *
 have h1:x.n*z.d<=z.n*x.d:=cross_le (n₂:=y.n) hx hy hz (by omega) (by omega)
 by_cases e:x.n*z.d=z.n*x.d
 ·refine .inr ⟨e,?_⟩
  have h2:y.n*x.d<=x.n*y.d:=cross_le (n₂:=z.n) hy hz hx (by omega) (by omega)
  have h3:z.n*y.d<=y.n*z.d:=cross_le (n₂:=x.n) hz hx hy (by omega) (by omega)
  omega
 ·exact .inl (by omega)
def LeA(L:List Item)(i j:Nat):Prop:=∀x y,L[i]?=some x->L[j]?=some y->cmpItem x y<=0
def AllPos(L:List Item):Prop:=∀x∈L,x.pos
def Hp(L:List Item):Prop:=∀i,0<i->LeA L ((i - 1) / 2) i
def Over(L:List Item)(n:Nat):Prop:=0<n->∀i,0<i->(i - 1) / 2=n->LeA L ((n - 1) / 2) i
def HpR(L:List Item)(n:Nat):Prop:=(∀i,0<i->i≠n->LeA L ((i - 1) / 2) i)/\Over L n
def HpS(L:List Item)(n:Nat):Prop:=(∀i,0<i->(i - 1) / 2≠n->LeA L ((i - 1) / 2) i)/\Over L n
def HpX(L:List Item)(n:Nat):Prop:=(∀i,0<i->i≠n->(i - 1) / 2≠n->LeA L ((i - 1) / 2) i)/\Over L n
theorem swapL_pos{L:List Item}{i j:Nat}{x y:Item}(h:AllPos L)(hi:L[i]?=some x)(hj:L[j]?=some y):AllPos (swapL L i j x y):=λz hz=>by
 obtain⟨q,hq⟩:=List.getElem?_of_mem hz
 rw[swapL_get hi hj]at hq
 split at hq
 ·cases hq;exact h _ (List.mem_of_getElem? hi)
 ·split at hq
  ·cases hq;exact h _ (List.mem_of_getElem? hj)
  ·exact h _ (List.mem_of_getElem? hq)
theorem pos_at{L:List Item}{i:Nat}{x:Item}(h:AllPos L)(hi:L[i]?=some x):x.pos:=h _ (List.mem_of_getElem? hi)
theorem HpR.step{L:List Item}{n:Nat}{x y:Item}(hR:HpR L n)(hp:AllPos L)(hn:0<n)(hx:L[(n - 1) / 2]?=some x)(hy:L[n]?=some y)(hc:¬cmpItem x y<=0):HpR (swapL L ((n - 1) / 2) n x y) ((n - 1) / 2):=by
 have hyx:cmpItem y x<=0:=(cmpItem_total x y).resolve_left hc
 constructor
 ·intro i hi hne u v hu hv
  rw[swapL_get hx hy]at hu hv
  by_cases e:i=n
  ·subst e
   rw[if_pos rfl]at hv;cases hv
   rw[if_neg (by omega),if_pos rfl]at hu;cases hu
   exact hyx
  ·rw[if_neg e,if_neg hne]at hv
   by_cases e2:(i - 1) / 2=(n - 1) / 2
   ·rw[if_neg (by omega),if_pos e2]at hu;cases hu
    exact cmpItem_trans (pos_at hp hy) (pos_at hp hx) (pos_at hp hv) hyx (hR.1 i hi e x v (by rw[e2];exact hx) hv)
   ·by_cases e3:(i - 1) / 2=n
    ·rw[if_pos e3]at hu;cases hu
     exact hR.2 hn i hi e3 x v hx hv
    ·rw[if_neg e3,if_neg e2]at hu
     exact hR.1 i hi e u v hu hv
 ·intro h0 i hi he u v hu hv
  rw[swapL_get hx hy]at hu hv
  rw[if_neg (by omega),if_neg (by omega)]at hu
  have h1:=hR.1 ((n - 1) / 2) h0 (by omega) u x hu hx
  by_cases e:i=n
  ·subst e
   rw[if_pos rfl]at hv;cases hv
   exact h1
  ·rw[if_neg e,if_neg (by omega)]at hv
   exact cmpItem_trans (pos_at hp hu) (pos_at hp hx) (pos_at hp hv) h1 (hR.1 i hi e x v (by rw[he];exact hx) hv)
theorem rise_heap:∀(k n:Nat) (L:List Item),n<k->n<L.length->AllPos L->HpR L n->Hp (riseL k L n)
 |0,n,L,h,_,_,_=>absurd h (by omega)
 |k+1,n,L,h,hl,hp,hR=>by
  simp only[riseL]
  split
  ·rename_i e
   subst e
   exact λi hi=>hR.1 i hi (by omega)
  ·rename_i e
   split
   ·rename_i x y hx hy
    split
    ·rename_i hc
     intro i hi
     by_cases e2:i=n
     ·subst e2
      intro u v hu hv
      rw[hx]at hu;rw[hy]at hv;cases hu;cases hv
      exact hc
     ·exact hR.1 i hi e2
    ·rename_i hc
     exact rise_heap k _ _ (by omega) (by rw[swapL_length];omega) (swapL_pos hp hx hy) (hR.step hp (by omega) hx hy hc)
   ·rename_i hno
    exact absurd (hno _ _ (List.getElem?_eq_getElem (by omega)) (List.getElem?_eq_getElem hl)) id
theorem less1_le{L:List Item}{n k:Nat}:LeA L (less1 L n k) n/\LeA L (less1 L n k) k:=by
 unfold less1
 split
 ·rename_i y x hy hx
  split
  ·rename_i hc
   refine⟨λu v hu hv=>?_,λu v hu hv=>?_⟩
   ·rw[hy]at hu;rw[hx]at hv;cases hu;cases hv;omega
   ·rw[hu]at hv;cases hv
    rw[cmpItem_le];omega
  ·rename_i hc
   refine⟨λu v hu hv=>?_,λu v hu hv=>?_⟩
   ·rw[hu]at hv;cases hv
    rw[cmpItem_le];omega
   ·rw[hx]at hu;rw[hy]at hv;cases hu;cases hv
    rcases cmpItem_total x y with h|h
    ·exact h
    ·have h0:cmpItem y x=0:=by omega
     have:cmpItem x y<=0:=by
      unfold cmpItem at h0 ⊢
      unfold cmpR cmpI at *
      split at h0<;>split<;>split at h0<;>omega
     exact this
 ·rename_i hno
  refine⟨λu v hu hv=>?_,λu v hu hv=>?_⟩
  ·rw[hu]at hv;cases hv
   rw[cmpItem_le];omega
  ·exact absurd (hno _ _ hv hu) id
theorem leastL_le{L:List Item}{n:Nat}(hp:AllPos L)(hn:n<L.length):LeA L (leastL L n) n/\LeA L (leastL L n) (2*n+1)/\LeA L (leastL L n) (2*n+2):=by
 have a:=less1_le (L:=L) (n:=n) (k:=2*n+1)
 have b:=less1_le (L:=L) (n:=less1 L n (2*n+1)) (k:=2*n+2)
 have hm:less1 L n (2*n+1)<L.length:=less1_lt hn
 obtain⟨w,hw⟩:∃w,L[less1 L n (2*n+1)]?=some w:=⟨_,List.getElem?_eq_getElem hm⟩
 refine⟨λu v hu hv=>?_,λu v hu hv=>?_,b.2⟩
 ·exact cmpItem_trans (pos_at hp hu) (pos_at hp hw) (pos_at hp hv) (b.1 u w hu hw) (a.1 w v hw hv)
 ·exact cmpItem_trans (pos_at hp hu) (pos_at hp hw) (pos_at hp hv) (b.1 u w hu hw) (a.2 w v hw hv)
theorem leastL_is{L:List Item}{n:Nat}(h:leastL L n≠n):leastL L n=2*n+1\/leastL L n=2*n+2:=by
 unfold leastL at h ⊢
 rcases less1_ge (L:=L) (n:=less1 L n (2*n+1)) (k:=2*n+2) with e|e
 ·rw[e]at h ⊢
  rcases less1_ge (L:=L) (n:=n) (k:=2*n+1) with e2|e2
  ·exact absurd e2 h
  ·exact .inl e2
 ·exact .inr e
theorem sink_heap:∀(f n:Nat) (L:List Item),L.length<=f+n->AllPos L->HpS L n->Hp (sinkL f L n)
 |0,n,L,h,hp,hS=>by
  simp only[sinkL]
  intro i hi
  by_cases e:(i - 1) / 2=n
  ·intro u v hu hv
   have:i<L.length:=(List.getElem?_eq_some_iff.1 hv).1
   omega
  ·exact hS.1 i hi e
 |f+1,n,L,h,hp,hS=>by
  simp only[sinkL]
  by_cases hn:n<L.length
  ·have hl:=leastL_le hp hn
   split
   ·rename_i e
    rw[e]at hl
    intro i hi
    by_cases e2:(i - 1) / 2=n
    ·rw[e2]
     rcases(by omega:i=2*n+1\/i=2*n+2) with e3|e3
     ·rw[e3];exact hl.2.1
     ·rw[e3];exact hl.2.2
    ·exact hS.1 i hi e2
   ·rename_i e
    have hm:=leastL_lt hn
    have hi2:=leastL_is e
    generalize leastL L n=m at *
    split
    ·rename_i x y hx hy
     refine sink_heap f m _ (by rw[swapL_length];omega) (swapL_pos hp hx hy) ⟨?_,?_⟩
     ·intro i hi hne u v hu hv
      rw[swapL_get hx hy]at hu hv
      by_cases e1:i=m
      ·subst e1
       rw[if_neg (by omega),if_pos rfl]at hv;cases hv
       rw[if_pos (by omega)]at hu;cases hu
       exact hl.1 x y hx hy
      ·by_cases e2:(i - 1) / 2=n
       ·rw[if_pos e2]at hu;cases hu
        rw[if_neg (by omega),if_neg e1]at hv
        rcases(by omega:i=2*n+1\/i=2*n+2) with e3|e3
        ·rw[e3]at hv;exact hl.2.1 x v hx hv
        ·rw[e3]at hv;exact hl.2.2 x v hx hv
       ·rw[if_neg e2,if_neg hne]at hu
        by_cases e3:i=n
        ·subst e3
         rw[if_pos rfl]at hv;cases hv
         exact hS.2 hi m (by omega) (by omega) u x hu hx
        ·rw[if_neg e3,if_neg e1]at hv
         exact hS.1 i hi e2 u v hu hv
     ·intro h0 i hi he u v hu hv
      rw[swapL_get hx hy]at hu hv
      rw[if_pos (by omega)]at hu;cases hu
      rw[if_neg (by omega),if_neg (by omega)]at hv
      exact hS.1 i hi (by omega) x v (by rw[he];exact hx) hv
    ·rename_i hno
     exact absurd (hno _ _ (List.getElem?_eq_getElem hm) (List.getElem?_eq_getElem hn)) id
  ·have e:leastL L n=n:=by
    have g:L[n]?=none:=List.getElem?_eq_none (by omega)
    have e1:∀k,less1 L n k=n:=λk=>by
     unfold less1
     rw[g]
     split<;>first|rfl|(rename_i q;cases q)
    unfold leastL
    rw[e1,e1]
   rw[if_pos e]
   intro i hi
   by_cases e:(i - 1) / 2=n
   ·intro u v hu hv
    have:i<L.length:=(List.getElem?_eq_some_iff.1 hv).1
    omega
   ·exact hS.1 i hi e
theorem Hp.over{L:List Item}(h:Hp L)(hp:AllPos L){n:Nat}(hn:n<L.length):Over L n:=λh0 i hi he u v hu hv=>by
 obtain⟨w,hw⟩:∃w,L[n]?=some w:=⟨_,List.getElem?_eq_getElem hn⟩
 exact cmpItem_trans (pos_at hp hu) (pos_at hp hw) (pos_at hp hv) (h n h0 u w hu hw) (h i hi w v (by rw[he];exact hw) hv)
theorem Hp.toS{L:List Item}(h:Hp L)(hp:AllPos L){n:Nat}(hn:n<L.length):HpS L n:=⟨λi hi _=>h i hi,h.over hp hn⟩
theorem Hp.toX{L M:List Item}(h:Hp L)(hp:AllPos L){n:Nat}(hn:n<L.length)(hM:∀i v,i≠n->M[i]?=some v->L[i]?=some v):HpX M n:=by
 constructor
 ·intro i hi h1 h2 u v hu hv
  exact h i hi u v (hM _ _ h2 hu) (hM _ _ h1 hv)
 ·intro h0 i hi he u v hu hv
  exact h.over hp hn h0 i hi he u v (hM _ _ (by omega) hu) (hM _ _ (by omega) hv)
theorem fix{L:List Item}{n k:Nat}(hX:HpX L n)(hp:AllPos L)(hn:n<L.length)(hk:n<k):(riseL k L n=L/\HpS L n)\/Hp (riseL k L n):=by
 cases k with
 |zero=>omega
 |succ k=>
  by_cases h0:n=0
  ·subst h0
   refine .inl ⟨by simp [riseL],λi hi h1=>hX.1 i hi (by omega) h1,λh=>absurd h (by omega)⟩
  ·obtain⟨x,hx⟩:∃x,L[(n - 1) / 2]?=some x:=⟨_,List.getElem?_eq_getElem (by omega)⟩
   obtain⟨y,hy⟩:∃y,L[n]?=some y:=⟨_,List.getElem?_eq_getElem hn⟩
   by_cases hc:cmpItem x y<=0
   ·refine .inl ⟨by simp [riseL,h0,hx,hy,hc],λi hi h1=>?_,hX.2⟩
    by_cases e:i=n
    ·subst e
     intro u v hu hv
     rw[hx]at hu;rw[hy]at hv;cases hu;cases hv
     exact hc
    ·exact hX.1 i hi e h1
   ·refine .inr (rise_heap (k+1) n L hk hn hp ⟨λi hi h1=>?_,hX.2⟩)
    by_cases e:(i - 1) / 2=n
    ·intro u v hu hv
     rw[e,hy]at hu;cases hu
     exact cmpItem_trans (pos_at hp hy) (pos_at hp hx) (pos_at hp hv) ((cmpItem_total x y).resolve_left hc) (hX.2 (by omega) i hi e x v hx hv)
    ·exact hX.1 i hi h1 e
theorem riseL_pos:∀(k:Nat) (L:List Item) (n:Nat),AllPos L->AllPos (riseL k L n)
 |0,_,_,h=>h
 |k+1,L,n,h=>by
  simp only[riseL]
  split
  ·exact h
  ·split
   ·rename_i h1 h2
    split
    ·exact h
    ·exact riseL_pos k _ _ (swapL_pos h h1 h2)
   ·exact h
def Dist(L:List Item):Prop:=∀(i j:Nat) (x y:Item),L[i]?=some x->L[j]?=some y->x.id=y.id->i=j
theorem Idx.dist{L:List Item}{f:Int->Option Int}(h:Idx L f):Dist L:=λ_ _ _ _ hi hj e=>h.inj hi hj e
theorem swapL_mem_iff{L:List Item}{i j:Nat}{x y z:Item}(hi:L[i]?=some x)(hj:L[j]?=some y):z∈swapL L i j x y↔z∈L:=by
 refine⟨λh=>?_,swapL_mem hi hj⟩
 obtain⟨q,hq⟩:=List.getElem?_of_mem h
 rw[swapL_get hi hj]at hq
 split at hq
 ·cases hq;exact List.mem_of_getElem? hi
 ·split at hq
  ·cases hq;exact List.mem_of_getElem? hj
  ·exact List.mem_of_getElem? hq
theorem riseL_mem_iff{z:Item}:∀(k:Nat) (L:List Item) (n:Nat),z∈riseL k L n↔z∈L
 |0,_,_=>Iff.rfl
 |k+1,L,n=>by
  simp only[riseL]
  split
  ·exact Iff.rfl
  ·split
   ·rename_i h1 h2
    split
    ·exact Iff.rfl
    ·exact(riseL_mem_iff k _ _).trans (swapL_mem_iff h1 h2)
   ·exact Iff.rfl
theorem sinkL_mem_iff{z:Item}:∀(k:Nat) (L:List Item) (n:Nat),z∈sinkL k L n↔z∈L
 |0,_,_=>Iff.rfl
 |k+1,L,n=>by
  simp only[sinkL]
  split
  ·exact Iff.rfl
  ·split
   ·rename_i h1 h2
    exact(sinkL_mem_iff k _ _).trans (swapL_mem_iff h1 h2)
   ·exact Iff.rfl
theorem sinkL_length':∀(k:Nat) (L:List Item) (n:Nat),(sinkL k L n).length=L.length
 |0,_,_=>rfl
 |k+1,L,n=>by
  simp only[sinkL]
  split
  ·rfl
  ·split
   ·rw[sinkL_length',swapL_length]
   ·rfl
theorem put_heap{L:List Item}(h:Hp L)(hp:AllPos L){y:Item}(hy:y.pos):Hp (riseL (L.length+1) (L++[y]) L.length):=by
 refine rise_heap _ _ _ (by omega) (by simp) (λz hz=>?_) ⟨λi hi hne u v hu hv=>?_,λ_ i hi he u v hu hv=>?_⟩
 ·rcases List.mem_append.1 hz with h1|h1
  ·exact hp z h1
  ·simp only[List.mem_singleton]at h1
   rw[h1];exact hy
 ·have hl:=(List.getElem?_eq_some_iff.1 hv).1
  simp only[List.length_append,List.length_singleton]at hl
  rw[List.getElem?_append_left (by omega)]at hu hv
  exact h i hi u v hu hv
 ·have hl:=(List.getElem?_eq_some_iff.1 hv).1
  simp only[List.length_append,List.length_singleton]at hl
  omega
theorem out_heap{L:List Item}(h:Hp L)(hp:AllPos L){n:Nat}{x:Item}(hx:L[n]?=some x):Hp (outL L n):=by
 have hn:n<L.length:=(List.getElem?_eq_some_iff.1 hx).1
 obtain⟨y,hy⟩:∃y,L[L.length - 1]?=some y:=⟨_,List.getElem?_eq_getElem (by omega)⟩
 simp only[outL,hx,hy]
 have hM:∀i v,i≠n->((swapL L n (L.length - 1) x y).take (L.length - 1))[i]?=some v->L[i]?=some v:=λi v hi hv=>by
  have hl:=(List.getElem?_eq_some_iff.1 hv).1
  rw[List.length_take,swapL_length]at hl
  rw[List.getElem?_take_of_lt (by omega),swapL_get hx hy,if_neg (by omega),if_neg hi]at hv
  exact hv
 have hp1:AllPos ((swapL L n (L.length - 1) x y).take (L.length - 1)):=λz hz=>swapL_pos hp hx hy z (List.mem_of_mem_take hz)
 have hX:=h.toX hp hn hM
 split
 ·rename_i hlt
  have hl1:((swapL L n (L.length - 1) x y).take (L.length - 1)).length=L.length - 1:=by rw[List.length_take,swapL_length];omega
  have hp2:=riseL_pos (n+1) _ n hp1
  rcases fix hX hp1 (by omega) (Nat.lt_succ_self n) with⟨e,hS⟩|hH
  ·rw[e]
   exact sink_heap _ _ _ (by omega) hp1 hS
  ·exact sink_heap _ _ _ (by rw[riseL_length];omega) hp2 (hH.toS hp2 (by rw[riseL_length];omega))
 ·rename_i hlt
  intro i hi u v hu hv
  have hl:=(List.getElem?_eq_some_iff.1 hv).1
  rw[List.length_take,swapL_length]at hl
  exact h i hi u v (hM _ _ (by omega) hu) (hM _ _ (by omega) hv)
theorem outL_length{L:List Item}{n:Nat}{x:Item}(hx:L[n]?=some x):(outL L n).length=L.length - 1:=by
 have hn:n<L.length:=(List.getElem?_eq_some_iff.1 hx).1
 obtain⟨y,hy⟩:∃y,L[L.length - 1]?=some y:=⟨_,List.getElem?_eq_getElem (by omega)⟩
 simp only[outL,hx,hy]
 split
 ·rw[sinkL_length',riseL_length,List.length_take,swapL_length];omega
 ·rw[List.length_take,swapL_length];omega
theorem outL_mem{L:List Item}(hd:Dist L){n:Nat}{x z:Item}(hx:L[n]?=some x):z∈outL L n↔z∈L/\z.id≠x.id:=by
 have hn:n<L.length:=(List.getElem?_eq_some_iff.1 hx).1
 obtain⟨y,hy⟩:∃y,L[L.length - 1]?=some y:=⟨_,List.getElem?_eq_getElem (by omega)⟩
 have key:z∈(swapL L n (L.length - 1) x y).take (L.length - 1)↔z∈L/\z.id≠x.id:=by
  constructor
  ·intro h
   obtain⟨q,hq⟩:=List.getElem?_of_mem h
   have hl:=(List.getElem?_eq_some_iff.1 hq).1
   rw[List.length_take,swapL_length]at hl
   rw[List.getElem?_take_of_lt (by omega),swapL_get hx hy,if_neg (by omega)]at hq
   split at hq
   ·cases hq
    refine⟨List.mem_of_getElem? hy,λe=>?_⟩
    have:=hd _ _ _ _ hy hx e
    omega
   ·rename_i hne
    exact⟨List.mem_of_getElem? hq,λe=>hne (hd _ _ _ _ hq hx e)⟩
  ·rintro⟨h,hne⟩
   obtain⟨q,hq⟩:=List.getElem?_of_mem h
   have hql:=(List.getElem?_eq_some_iff.1 hq).1
   have e:q≠n:=λe=>by
    subst e;rw[hx]at hq;cases hq;exact hne rfl
   by_cases e2:q=L.length - 1
   ·subst e2
    rw[hy]at hq;cases hq
    refine List.mem_of_getElem? (i:=n) ?_
    rw[List.getElem?_take_of_lt (by omega),swapL_get hx hy,if_neg (Ne.symm e),if_pos rfl]
   ·refine List.mem_of_getElem? (i:=q) ?_
    rw[List.getElem?_take_of_lt (by omega),swapL_get hx hy,if_neg e2,if_neg e]
    exact hq
 simp only[outL,hx,hy]
 split
 ·rw[sinkL_mem_iff,riseL_mem_iff];exact key
 ·exact key
def fN(a r:Nat):Nat:=a / Nat.gcd a r
def fD(a r:Nat):Nat:=r / Nat.gcd a r
theorem gcd_pos_r{a r:Nat}(hr:0<r):0<Nat.gcd a r:=Nat.gcd_pos_of_pos_right a hr
theorem fN_mul(a r:Nat):fN a r*Nat.gcd a r=a:=Nat.div_mul_cancel (Nat.gcd_dvd_left a r)
theorem fD_mul(a r:Nat):fD a r*Nat.gcd a r=r:=Nat.div_mul_cancel (Nat.gcd_dvd_right a r)
theorem fD_pos{a r:Nat}(hr:0<r):0<fD a r:=by
 have:=fD_mul a r
 rcases Nat.eq_zero_or_pos (fD a r) with h|h
 ·rw[h]at this;omega
 ·exact h
theorem fN_le(a r:Nat):fN a r<=a:=Nat.div_le_self _ _
theorem fD_le(a r:Nat):fD a r<=r:=Nat.div_le_self _ _
theorem f_coprime{a r:Nat}(hr:0<r):Nat.gcd (fN a r) (fD a r)=1:=by
 unfold fN fD
 rw[Nat.gcd_div (Nat.gcd_dvd_left a r) (Nat.gcd_dvd_right a r)]
 exact Nat.div_self (gcd_pos_r hr)
theorem f_cross(a r:Nat):fN a r*r=a*fD a r:=by
 have h1:=fN_mul a r
 have h2:=fD_mul a r
 calc fN a r*r=fN a r*(fD a r*Nat.gcd a r):=by rw[h2]
  _=(fN a r*Nat.gcd a r)*fD a r:=by rw[Nat.mul_comm (fD a r),<-Nat.mul_assoc]
  _=a*fD a r:=by rw[h1]
theorem fD_dvd(a r:Nat):fD a r∣r:=⟨_,(fD_mul a r).symm⟩
theorem f_uniq{a r t b:Nat}(hr:0<r)(hb:0<b)(hc:Nat.gcd t b=1)(h:t*r=a*b):t=fN a r/\b=fD a r:=by
 have hbr:b∣r:=by
  have:b∣t*r:=⟨a,by rw[h,Nat.mul_comm]⟩
  exact(Nat.Coprime.dvd_of_dvd_mul_left (by rw[Nat.Coprime,Nat.gcd_comm];exact hc) this)
 obtain⟨k,rfl⟩:=hbr
 have hk:0<k:=by
  rcases Nat.eq_zero_or_pos k with e|e
  ·subst e;simp at hr
  ·exact e
 have ha:a=t*k:=by
  have:b*a=b*(t*k):=by rw[Nat.mul_comm b a,<-h,<-Nat.mul_assoc,Nat.mul_comm t b,Nat.mul_assoc]
  exact Nat.eq_of_mul_eq_mul_left hb this
 subst ha
 have hg:Nat.gcd (t*k) (b*k)=k:=by rw[Nat.gcd_mul_right,hc,Nat.one_mul]
 unfold fN fD
 rw[hg]
 exact⟨(Nat.mul_div_cancel _ hk).symm,(Nat.mul_div_cancel _ hk).symm⟩
theorem f_whole{n r:Nat}(hr:0<r):fN (n*r) r=n/\fD (n*r) r=1:=by
 have:=f_uniq (a:=n*r) (r:=r) (t:=n) (b:=1) hr (by omega) (Nat.gcd_one_right n) (by omega)
 exact⟨this.1.symm,this.2.symm⟩
def sG(a b r:Nat):Nat:=Nat.gcd (fD a r) (fD b r)
def sX(a b r:Nat):Nat:=fN a r*(fD b r / sG a b r)
def sY(a b r:Nat):Nat:=fN b r*(fD a r / sG a b r)
def sH(a b r:Nat):Nat:=Nat.gcd (sG a b r) (sX a b r+sY a b r)
theorem sG_pos{a b r:Nat}(hr:0<r):0<sG a b r:=Nat.gcd_pos_of_pos_left _ (fD_pos hr)
theorem sH_pos{a b r:Nat}(hr:0<r):0<sH a b r:=Nat.gcd_pos_of_pos_left _ (sG_pos hr)
theorem sG_l(a b r:Nat):sG a b r∣fD a r:=Nat.gcd_dvd_left _ _
theorem sG_r(a b r:Nat):sG a b r∣fD b r:=Nat.gcd_dvd_right _ _
theorem sH_G(a b r:Nat):sH a b r∣sG a b r:=Nat.gcd_dvd_left _ _
theorem sH_S(a b r:Nat):sH a b r∣sX a b r+sY a b r:=Nat.gcd_dvd_right _ _
theorem sX_le{a b r:Nat}(hr:0<r):sX a b r<=a:=by
 obtain⟨x,hx⟩:=sG_l a b r
 obtain⟨y,hy⟩:=sG_r a b r
 have hG:=sG_pos (a:=a) (b:=b) hr
 have hxy:Nat.gcd x y=1:=by
  have h:=Nat.gcd_mul_left (sG a b r) x y
  rw[<-hx,<-hy]at h
  have:sG a b r*1=sG a b r*Nat.gcd x y:=by rw[Nat.mul_one,<-h];rfl
  exact(Nat.eq_of_mul_eq_mul_left hG this).symm
 have hd:fD b r / sG a b r=y:=by rw[hy];exact Nat.mul_div_cancel_left _ hG
 have hk:y∣Nat.gcd a r:=by
  have h1:fD b r∣fD a r*Nat.gcd a r:=by rw[fD_mul];exact fD_dvd b r
  rw[hy,hx,Nat.mul_assoc]at h1
  have h2:y∣x*Nat.gcd a r:=Nat.dvd_of_mul_dvd_mul_left hG h1
  exact Nat.Coprime.dvd_of_dvd_mul_left (by rw[Nat.Coprime,Nat.gcd_comm];exact hxy) h2
 unfold sX
 rw[hd]
 calc fN a r*y<=fN a r*Nat.gcd a r:=Nat.mul_le_mul_left _ (Nat.le_of_dvd (gcd_pos_r hr) hk)
  _=a:=fN_mul a r
theorem sG_comm(a b r:Nat):sG a b r=sG b a r:=Nat.gcd_comm _ _
theorem sY_le{a b r:Nat}(hr:0<r):sY a b r<=b:=by
 have:=sX_le (a:=b) (b:=a) hr
 unfold sX at this
 unfold sY
 rw[sG_comm]
 exact this
theorem gcd_mul_one{a b c:Nat}(h1:Nat.gcd a b=1)(h2:Nat.gcd a c=1):Nat.gcd a (b*c)=1:=Nat.Coprime.mul_right h1 h2
theorem gcd_one_of_dvd{a b c:Nat}(h:Nat.gcd a b=1)(hc:c∣b):Nat.gcd a c=1:=Nat.Coprime.coprime_dvd_right hc h
theorem gcd_one_of_dvd_left{a b c:Nat}(h:Nat.gcd a b=1)(hc:c∣a):Nat.gcd c b=1:=Nat.Coprime.coprime_dvd_left hc h
theorem sum_is{a b r:Nat}(hr:0<r):(sX a b r+sY a b r) / sH a b r=fN (a+b) r/\fD a r / sG a b r*(fD b r / sH a b r)=fD (a+b) r:=by
 have hG:=sG_pos (a:=a) (b:=b) hr
 have hH:=sH_pos (a:=a) (b:=b) hr
 obtain⟨x,hx⟩:=sG_l a b r
 obtain⟨y,hy⟩:=sG_r a b r
 obtain⟨m,hm⟩:=sH_G a b r
 obtain⟨t,ht⟩:=sH_S a b r
 have ex:fD a r / sG a b r=x:=by rw[hx];exact Nat.mul_div_cancel_left _ hG
 have ey:fD b r / sG a b r=y:=by rw[hy];exact Nat.mul_div_cancel_left _ hG
 have eb:fD b r / sH a b r=m*y:=by
  rw[hy,hm,Nat.mul_assoc];exact Nat.mul_div_cancel_left _ hH
 have et:(sX a b r+sY a b r) / sH a b r=t:=by rw[ht];exact Nat.mul_div_cancel_left _ hH
 rw[et,ex,eb]
 have hxy:Nat.gcd x y=1:=by
  have h:=Nat.gcd_mul_left (sG a b r) x y
  rw[<-hx,<-hy]at h
  have:sG a b r*1=sG a b r*Nat.gcd x y:=by rw[Nat.mul_one,<-h];rfl
  exact(Nat.eq_of_mul_eq_mul_left hG this).symm
 have hX:sX a b r=fN a r*y:=by unfold sX;rw[ey]
 have hY:sY a b r=fN b r*x:=by unfold sY;rw[ex]
 have hS:fN a r*y+fN b r*x=sH a b r*t:=by rw[<-hX,<-hY];exact ht
 have cax:Nat.gcd (fN a r) x=1:=gcd_one_of_dvd (f_coprime hr) ⟨_,by rw[hx,Nat.mul_comm]⟩
 have cby:Nat.gcd (fN b r) y=1:=gcd_one_of_dvd (f_coprime hr) ⟨_,by rw[hy,Nat.mul_comm]⟩
 have ctx:Nat.gcd t x=1:=by
  have h1:Nat.gcd (fN a r*y+fN b r*x) x=1:=by
   rw[Nat.gcd_add_mul_right_left,Nat.gcd_comm]
   exact gcd_mul_one (by rw[Nat.gcd_comm];exact cax) hxy
  rw[hS]at h1
  exact gcd_one_of_dvd_left h1 ⟨_,Nat.mul_comm _ _⟩
 have cty:Nat.gcd t y=1:=by
  have h1:Nat.gcd (fN a r*y+fN b r*x) y=1:=by
   rw[Nat.add_comm,Nat.gcd_add_mul_right_left,Nat.gcd_comm]
   exact gcd_mul_one (by rw[Nat.gcd_comm];exact cby) (by rw[Nat.gcd_comm];exact hxy)
  rw[hS]at h1
  exact gcd_one_of_dvd_left h1 ⟨_,Nat.mul_comm _ _⟩
 have ctm:Nat.gcd t m=1:=by
  have h1:sH a b r*Nat.gcd m t=sH a b r*1:=by
   rw[<-Nat.gcd_mul_left,<-hm,<-ht,Nat.mul_one];rfl
  rw[Nat.gcd_comm]
  exact Nat.eq_of_mul_eq_mul_left hH h1
 have hm0:0<m:=by
  rcases Nat.eq_zero_or_pos m with e|e
  ·subst e;rw[Nat.mul_zero]at hm;omega
  ·exact e
 have hx0:0<x:=by
  have:=fD_pos (a:=a) hr
  rcases Nat.eq_zero_or_pos x with e|e
  ·subst e;rw[Nat.mul_zero]at hx;omega
  ·exact e
 have hy0:0<y:=by
  have:=fD_pos (a:=b) hr
  rcases Nat.eq_zero_or_pos y with e|e
  ·subst e;rw[Nat.mul_zero]at hy;omega
  ·exact e
 refine f_uniq hr (Nat.mul_pos hx0 (Nat.mul_pos hm0 hy0)) (gcd_mul_one ctx (gcd_mul_one ctm cty)) ?_
 have key:(fN a r*y+fN b r*x)*sG a b r*r=(a+b)*(fD a r*fD b r) / 1:=by
  rw[Nat.div_one]
  have c1:=f_cross a r
  have c2:=f_cross b r
  have e1:y*sG a b r=fD b r:=by rw[hy,Nat.mul_comm]
  have e2:x*sG a b r=fD a r:=by rw[hx,Nat.mul_comm]
  calc (fN a r*y+fN b r*x)*sG a b r*r=(fN a r*r)*(y*sG a b r)+(fN b r*r)*(x*sG a b r):=by grind
   _=(a*fD a r)*fD b r+(b*fD b r)*fD a r:=by rw[c1,c2,e1,e2]
   _=(a+b)*(fD a r*fD b r):=by grind
 rw[Nat.div_one,hS]at key
 have e3:fD a r*fD b r=sG a b r*x*(sH a b r*m*y):=by rw[<-hm,<-hx,<-hy]
 rw[e3]at key
 have hGH:0<sG a b r*sH a b r:=Nat.mul_pos hG hH
 have k2:(sG a b r*sH a b r)*(t*r)=(sG a b r*sH a b r)*((a+b)*(x*(m*y))):=by grind
 exact Nat.eq_of_mul_eq_mul_left hGH k2
structure Pk where
 id:Int
 flow:Int
 size:Int
def Pk.cells(x:Pk):List Value:=[.int .i64 x.id,.int .i64 x.flow,.int .i64 x.size]
def Pk.zero:Pk:=⟨0,0,0⟩
def cellsP:List Pk->List Value
 |[]=>[]
 |x :: xs=>x.cells++cellsP xs
theorem Pk.cells_length(x:Pk):x.cells.length=3:=rfl
theorem cellsP_length:∀L:List Pk,(cellsP L).length=3*L.length
 |[]=>rfl
 |x :: xs=>by simp [cellsP,Pk.cells_length,cellsP_length xs];omega
theorem cellsP_append:∀(L L':List Pk),cellsP (L++L')=cellsP L++cellsP L'
 |[],_=>rfl
 |x :: xs,L'=>by simp [cellsP,cellsP_append xs L']
theorem cellsP_at{G:List Value}:∀{L:List Pk} {i:Nat} {x:Pk},L[i]?=some x->((cellsP L++G).drop (i*3)).take 3=x.cells
 |[],_,_,h=>by simp at h
 |y :: L,0,x,h=>by
  simp only[List.getElem?_cons_zero,Option.some.injEq]at h
  subst h
  simp [cellsP,Pk.cells]
 |y :: L,i+1,x,h=>by
  simp only[List.getElem?_cons_succ]at h
  have:=cellsP_at (G:=G) h
  have e:(i+1)*3=3+i*3:=by omega
  rw[e,<-List.drop_drop]
  simpa [cellsP,Pk.cells]using this
theorem overP_at{G:List Value}:∀{L:List Pk} {i:Nat} (x:Pk),i<L.length->over (cellsP L++G) (i*3) x.cells=cellsP (L.set i x)++G
 |[],_,_,h=>by simp at h
 |y :: L,0,x,h=>by simp [over,cellsP,Pk.cells]
 |y :: L,i+1,x,h=>by
  have:=overP_at (G:=G) (L:=L) (i:=i) x (by simpa using h)
  have e:(i+1)*3=i*3+3:=by omega
  rw[e,List.set_cons_succ]
  simp only[cellsP,Pk.cells,List.cons_append,List.nil_append,over]at this ⊢
  rw[this]
theorem cellsP_at'{L:List Pk}{i:Nat}{x:Pk}(h:L[i]?=some x):((cellsP L).drop (i*3)).take 3=x.cells:=by
 have:=cellsP_at (G:=[]) h
 simpa using this
theorem overP_at'{L:List Pk}{i:Nat}(x:Pk)(h:i<L.length):over (cellsP L) (i*3) x.cells=cellsP (L.set i x):=by
 have:=overP_at (G:=[]) x h
 simpa using this
theorem ring_mod{f i n:Nat}(hf:f<n)(hi:i<n):(f+i) % n=if f+i<n then f+i else f+i - n:=by
 split
 ·rename_i h;exact Nat.mod_eq_of_lt h
 ·rw[Nat.mod_eq_sub_mod (by omega),Nat.mod_eq_of_lt (by omega)]
structure Ring(R:List Pk)(f:Nat)(L:List Pk):Prop where
 le:L.length<=R.length
 lt:f<R.length
 at':∀i x,L[i]?=some x->R[(f+i) % R.length]?=some x
theorem Ring.put{R:List Pk}{f:Nat}{L:List Pk}(h:Ring R f L)(hl:L.length<R.length)(x:Pk):Ring (R.set ((f+L.length) % R.length) x) f (L++[x]):=by
 refine⟨by simp;omega,by simpa using h.lt,λi y hy=>?_⟩
 have hk:(f+L.length) % R.length<R.length:=Nat.mod_lt _ (by omega)
 rw[List.length_set]
 by_cases hi:i<L.length
 ·rw[List.getElem?_append_left hi]at hy
  rw[List.getElem?_set_ne ?_]
  ·exact h.at' i y hy
  ·rw[ring_mod h.lt hl,ring_mod h.lt (by omega)]
   have:=h.lt
   split<;>split<;>omega
 ·have hi':i=L.length:=by
   have:=(List.getElem?_eq_some_iff.1 hy).1
   simp at this;omega
  subst hi'
  rw[List.getElem?_append_right (Nat.le_refl _)]at hy
  simp at hy
  subst hy
  rw[List.getElem?_set_self hk]
theorem Ring.take{R:List Pk}{f:Nat}{x:Pk}{L:List Pk}(h:Ring R f (x :: L)):Ring R ((f+1) % R.length) L:=by
 have hl:=h.le
 have hf:=h.lt
 simp at hl
 refine⟨by omega,Nat.mod_lt _ (by omega),λi y hy=>?_⟩
 have hi:=(List.getElem?_eq_some_iff.1 hy).1
 have:=h.at' (i+1) y (by simpa using hy)
 rw[<-this,Nat.mod_add_mod]
 congr 2
 omega
theorem Ring.lay(L:List Pk)(n:Nat)(h:L.length<=n)(hn:0<n):Ring (L++List.replicate (n - L.length) Pk.zero) 0 L:=by
 have hlen:(L++List.replicate (n - L.length) Pk.zero).length=n:=by simp;omega
 refine⟨by omega,by omega,λi x hx=>?_⟩
 have hi:=(List.getElem?_eq_some_iff.1 hx).1
 rw[hlen,Nat.zero_add,Nat.mod_eq_of_lt (by omega),List.getElem?_append_left hi]
 exact hx
def sumP:List Pk->Int
 |[]=>0
 |x :: l=>x.size+sumP l
theorem sumP_append:∀(l l':List Pk),sumP (l++l')=sumP l+sumP l'
 |[],l'=>by simp [sumP]
 |x :: l,l'=>by simp [sumP,sumP_append l l'];omega
end Go.Ab
