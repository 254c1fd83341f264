/- PortLetsSaid: part 7 of 7 of the proof that it returns true for every input and leaves its arguments as they were; no condition. -/
import Derived.Test.YtemimidmnnjanaaGreatJPortLetsSaid5
import Derived.Test.YtemimidmnnjanaaGreatJPortLetsSaid4
import Derived.Test.YtemimidmnnjanaaGreatJPortLetsSaid2
import Derived.Test.YtemimidmnnjanaaGreatRows
import Derived.ChangeOld
import Derived.Carry
import Derived.Below
set_option linter.unusedSimpArgs false
set_option linter.unusedVariables false
namespace Go.Ab
open Go.Proofs
theorem updF_id {α : Type} {F : Int → Option α} {k : Int} {x : α} (h : F k = some x) : updF F k (some x) = F := funext fun k' => by
 unfold updF
 by_cases e : k' = k
 ·rw [if_pos e, e, h]
 ·rw [if_neg e]
theorem QAt.drop1 {σ σ' : St} {b : QB} {Q : QV} (H : QAt σ b Q) {flow : Int} {x : FlowV} {P' : Int → Option (Int × Int)} {np' : Nat} {L' : List Item} (hF : Q.F flow = some x) (hx' : HX σ' b.h b.m b.A L' Q.t)
  (kc : ∀ c, c < σ.next → ¬ b.pm = c → c ∉ b.h :: b.m :: b.A → σ'.get c = σ.get c) (nx : σ.next ≤ σ'.next) (mp' : MapAt σ' b.pm (fun k => (P' k).map (packOf k)) np') : QAt σ' b { Q with P := P', np := np', L := L' } := by
 obtain ⟨gx, hxl, hxc⟩ := H.fl flow x hF
 have inh : ∀ c ∈ b.h :: b.m :: b.A, c ∈ b.core := fun c hc => by simp only [QB.core, List.mem_cons] at hc ⊢; rcases hc with h | h | h <;> simp [h]
 have kx := kc x.blk hxl (fun e => hxc (by simp [QB.core, e])) fun hm => hxc (inh _ hm)
 have := H.change (x' := x) (A' := b.A) (t' := Q.t) hF rfl hx' (fun c hc => .inl hc) (fun c h1 _ h2 h3 => kc c h1 h2 h3) nx (kx.trans gx) mp'
 rw [updF_id hF] at this
 exact this
theorem QAt.dropF {σ σ' : St} {b : QB} {Q : QV} (H : QAt σ b Q) {flow : Int} {x : FlowV} (hF : Q.F flow = some x) (kc : ∀ c, c < σ.next → c ≠ b.fm → σ'.get c = σ.get c) (nx : σ.next ≤ σ'.next) (mf' : MapAt σ' b.fm (fun k => (updF Q.F flow none k).map ptrOf) (Q.nf - 1)) :
    QAt σ' b { Q with F := updF Q.F flow none, nf := Q.nf - 1 } := by
  have ne := H.ne
  have lt := H.lt
  have sub : ∀ k y, updF Q.F flow none k = some y → Q.F k = some y := fun k y h => by
    by_cases e : k = flow
    · subst e; rw [updF_same] at h; cases h
    · rwa [updF_other _ _ e] at h
  exact { gq := (kc _ (lt _ (by simp [QB.core])) ne.q_fm).trans H.gq
          hx := H.hx.keep nx fun c hc => kc c (H.hx.lt c hc) (by
            simp only [List.mem_cons] at hc
            rcases hc with rfl | rfl | hc
            · exact ne.fm_h.symm
            · exact ne.fm_m.symm
            · exact fun e => (ne.A c hc).2.1 e)
          mf := mf'
          mp := H.mp.keep (kc _ (lt _ (by simp [QB.core])) ne.fm_pm.symm)
          fl := fun k y hy => by
            obtain ⟨a1, a2, a3⟩ := H.fl k y (sub k y hy)
            exact ⟨(kc _ a2 fun e => a3 (by simp [QB.core, e])).trans a1, by omega, a3⟩
          inj := fun k k' y y' hy hy' h => H.inj k k' y y' (sub k y hy) (sub k' y' hy') h
          nodup := H.nodup
          lt := fun c hc => by have := lt c hc; omega }
def dropV (Q : QV) (D : List Pk) (L' : List Item) : QV := { Q with P := fun k => if k ∈ D.map Pk.id then none else Q.P k, np := Q.np - D.length, L := L' }
theorem HX.pos {σ : St} {h m : Nat} {A : List Nat} {L : List Item} {t : Int} (H : HX σ h m A L t) : AllPos L := H.toV.pos
theorem HX.dist {σ : St} {h m : Nat} {A : List Nat} {L : List Item} {t : Int} (H : HX σ h m A L t) : Dist L := H.toV.dist
noncomputable def dropB3 : Code := loopOf (nthC 5 dropBody)
structure FR3 (ts : List Value) (f : Int) (qb : Nat) (w : Value) (n i : Nat) : Prop where
 size : ts.length = 68
 t1 : lget ts 1 = .int .i64 f
 t2 : lget ts 2 = .pointer (some ⟨qb, 0, none⟩)
 t6 : lget ts 6 = w
 t42 : lget ts 42 = w
 t43 : lget ts 43 = .int .i64 n
 t44 : lget ts 44 = .int .i64 i
structure Left (L L' : List Item) (D : List Pk) : Prop where
 hp : Hp L'
 mem : ∀ z, z ∈ L' ↔ z ∈ L ∧ z.id ∉ D.map Pk.id
structure D3 (σ : St) (b : QB) (Q : QV) (qb lo : Nat) (w : Value) (Sl : List Pk) (i : Nat) : Prop where
 q : ∃ L', QAt σ b (dropV Q (Sl.take i) L') ∧ Left Q.L L' (Sl.take i)
 gb : σ.get qb = some (.cells [.pointer (some ⟨b.q, 0, none⟩)] false)
 lt : qb < lo ∧ lo ≤ σ.next
 ft : ∀ c, Foot b Q c → c < qb
 w : ItS lo σ w Sl
theorem Left.step {L L' : List Item} {D : List Pk} (h : Left L L' D) (hp : AllPos L') (hd : Dist L') {n : Nat} {it : Item} {x : Pk} (hi : L'[n]? = some it) (hid : it.id = x.id) : Left L (outL L' n) (D ++ [x]) :=
 ⟨out_heap h.hp hp hi, fun z => by
  rw [outL_mem hd hi, h.mem z, List.map_append, List.mem_append, not_or, hid]
  constructor
  ·rintro ⟨⟨a, b⟩, c⟩; exact ⟨a, b, by simpa using c⟩
  ·rintro ⟨a, b, c⟩; exact ⟨⟨a, b⟩, by simpa using c⟩⟩
def ID3 (b : QB) (Q : QV) (qb lo : Nat) (w : Value) (Sl : List Pk) (f : Int) (m : Nat) (fr : Fr) (σ : St) : Prop :=
 ∃ ts, ∃ i : Nat, fr = ⟨ts, []⟩ ∧ FR3 ts f qb w Sl.length i ∧ m + i = Sl.length ∧ D3 σ b Q qb lo w Sl i
def ED3 (b : QB) (Q : QV) (qb lo : Nat) (w : Value) (Sl : List Pk) (f : Int) (x : AX) (fr : Fr) (σ : St) : Prop :=
 x = .exit 3 ∧ ∃ ts, fr = ⟨ts, []⟩ ∧ FR3 ts f qb w Sl.length Sl.length ∧ D3 σ b Q qb lo w Sl Sl.length
set_option maxHeartbeats 1600000 in
set_option maxRecDepth 20000 in
theorem drop_loop3 {b : QB} {Q : QV} {qb lo : Nat} {w : Value} {Sl : List Pk} {f : Int} {xf : FlowV} (hF : Q.F f = some xf) (hS : Sl.length < 256) (hnd : (Sl.map Pk.id).Nodup) (hin : ∀ x ∈ Sl, InQ Q x ∧ Q.P x.id = some (x.flow, x.size)) :
  ∀ m fr σ, ID3 b Q qb lo w Sl f m fr σ → loopX Tryz.prog false dropB3 fr σ (endL (ED3 b Q qb lo w Sl f) fun z => Foot b Q z ∨ qb ≤ z) := by
 refine loop_ind q8 21 (by kernel_rfl) _ _ _ ?_
 rintro m fr σ ⟨ts, i, rfl, F, hmi, H⟩
 have e1 := F.t1
 have e2 := F.t2
 have e6 := F.t6
 have e42 := F.t42
 have e43 := F.t43
 have e44 := F.t44
 have el := F.size
 by_cases hi : i < Sl.length
 ·have c0 : (i : Int) < (Sl.length : Int) := by omega
  have c1 : (0 : Int) ≤ (i : Int) := by omega
  have w1 : IntKind.i64.wrap ((i : Int) + 1) = ((i + 1 : Nat) : Int) := by
   have : (i : Int) + 1 = ((i + 1 : Nat) : Int) := by omega
   rw [this]; exact wrapIN (by omega)
  have hx : Sl[i]? = some Sl[i] := List.getElem?_eq_getElem hi
  generalize Sl[i] = x at hx
  have tk : Sl.take (i + 1) = Sl.take i ++ [x] := by rw [List.take_add_one, hx]; rfl
  have hxm := List.mem_of_getElem? hx
  obtain ⟨⟨n0, it, hit, hid⟩, hPx⟩ := hin x hxm
  have hnot : x.id ∉ (Sl.take i).map Pk.id := fun hm => by
   have h1 : (Sl.take (i + 1)).map Pk.id = (Sl.take i).map Pk.id ++ [x.id] := by rw [tk, List.map_append]; rfl
   have h2 : ((Sl.take (i + 1)).map Pk.id).Nodup := hnd.sublist ((List.take_sublist _ _).map _)
   rw [h1, List.nodup_append] at h2
   exact h2.2.2 _ hm _ (by simp) rfl
  obtain ⟨L', HQ, HL⟩ := H.q
  have hmem : it ∈ L' := (HL.mem it).2 ⟨List.mem_of_getElem? hit, by rw [hid]; exact hnot⟩
  obtain ⟨n, hn⟩ := List.getElem?_of_mem hmem
  rcases H.w with ⟨_, rfl⟩ | ⟨a, rfl, ga, ha1, ha2⟩
  ·simp at hi
  have gb := H.gb
  have lt := H.lt
  have gq := HQ.gq
  obtain ⟨ep, cp, gp, hkp, hlp, hlenp, hbp⟩ := HQ.mp
  have hq : b.q < σ.next := HQ.lt _ (by simp [QB.core])
  have hpm : b.pm < σ.next := HQ.lt _ (by simp [QB.core])
  have hqb : qb < σ.next := by omega
  have hP' : (dropV Q (Sl.take i) L').P x.id = some (x.flow, x.size) := by
   show (if x.id ∈ (Sl.take i).map Pk.id then none else Q.P x.id) = _
   rw [if_neg hnot]; exact hPx
  obtain ⟨jp, ep', hfindp, hevp, hjp, hkeyp⟩ := findV_some und2' (i := 0) (v := packOf x.id (x.flow, x.size)) hkp ((hlp x.id).trans (by show Option.map _ ((dropV Q (Sl.take i) L').P x.id) = _; rw [hP']; rfl))
  have ex := cellsP_at' hx
  have lx : i * 3 + 3 ≤ (cellsP Sl).length := by rw [cellsP_length]; omega
  simp only [Pk.cells] at ex
  have ne := HQ.ne
  have hA := HQ.hx.lt
  have inh : ∀ c ∈ b.h :: b.m :: b.A, c ∈ b.core := fun c hc => by simp only [QB.core, List.mem_cons] at hc ⊢; rcases hc with h | h | h <;> simp [h]
  have fq : ∀ c ∈ b.core, c < qb := fun c hc => H.ft c (.inl hc)
  have qA : qb ∉ b.h :: b.m :: b.A := fun hm => by have := fq _ (inh _ hm); omega
  have nq : b.q ∉ b.h :: b.m :: b.A := fun hm => by
   simp only [List.mem_cons] at hm
   rcases hm with h | h | h
   ·exact ne.q_h h
   ·exact ne.q_m h
   ·exact (ne.A _ h).1 rfl
  have np : b.pm ∉ b.h :: b.m :: b.A := fun hm => by
   simp only [List.mem_cons] at hm
   rcases hm with h | h | h
   ·exact ne.pm_h h
   ·exact ne.pm_m h
   ·exact (ne.A _ h).2.2.1 rfl
  have n1 : ¬ b.pm = qb := fun e => by have := fq b.pm (by simp [QB.core]); omega
  have n2 : ¬ b.pm = b.q := ne.q_pm.symm
  simp only [go_sem, seval, if_pos rfl, opLen, undef, zerosN, dropB3, dropBody, nthC, loopOf, Tryz.f21, Option.getD, Int.toNat_natCast, e1, e2, e6, e42, e43, e44, el, c0, c1, ga, ha2, ex, lx, gb, gq, hq, hqb]
  obtain ⟨σz, hσz⟩ : ∃ σz, σz = ((σ.new (.cells [.int .i64 0, .int .i64 0, .int .i64 0] false)).set σ.next (.cells [.int .i64 x.id, .int .i64 x.flow, .int .i64 x.size] false)) := ⟨_, rfl⟩
  have zn : σz.next = σ.next + 1 := by rw [hσz]; rfl
  have zg : ∀ c, c < σ.next → σz.get c = σ.get c := fun c hc => by rw [hσz, St.get_set, if_neg (by omega), St.get_new, if_neg (by omega)]
  have zx : σz.get σ.next = some (.cells [.int .i64 x.id, .int .i64 x.flow, .int .i64 x.size] false) := by rw [hσz, St.get_set, if_pos rfl]
  rw [← hσz]
  have hx0 : HX σz b.h b.m b.A L' Q.t := HQ.hx.keep (by omega) fun c hc => zg c (hA c hc)
  have hdr := HX.drop hx0 hn
  rw [hid] at hdr
  refine callX.hidE hdr ?_
  intro e σ1 lg1 hlg1 hR
  obtain ⟨rfl, hlg, hx1⟩ := hR
  have nx := hlg1.1
  have k1 : ∀ c, c < σ.next → c ∉ b.h :: b.m :: b.A → σ1.get c = σ.get c := fun c h1 h2 => by
   rw [hlg1.2 c (by omega) fun hm => h2 (hlg c hm), zg c h1]
  have kn : σ1.get σ.next = some (.cells [.int .i64 x.id, .int .i64 x.flow, .int .i64 x.size] false) := by
   rw [hlg1.2 _ (by omega) fun hm => by have := hA _ (hlg _ hm); omega, zx]
  have gq1 := (k1 b.q hq nq).trans gq
  have gb1 := (k1 qb hqb qA).trans gb
  have gp1 := (k1 b.pm hpm np).trans gp
  have hq1 : b.q < σ1.next := by omega
  have hqb1 : qb < σ1.next := by omega
  have hpm1 : b.pm < σ1.next := by omega
  have hn1 : σ.next < σ1.next := by omega
  refine ⟨?_⟩
  simp only [go_sem, seval, if_pos rfl, opLen, undef, zerosN, packOf, Int.toNat_natCast, e1, e2, e6, e42, e43, e44, el, c0, c1, gb1, gq1, gp1, kn, hq1, hqb1, hpm1, hn1, hfindp, hevp, und2', w1, n1, n2]
  obtain ⟨kd1, kd2⟩ := delV_KI hkp hjp hkeyp
  have kd3 := delV_length hjp
  have pmx : ∀ c, qb ≤ c → ¬ b.pm = c := fun c hc e => by have := fq b.pm (by simp [QB.core]); omega
  have inx : ∀ c, qb ≤ c → c ∉ b.h :: b.m :: b.A := fun c hc hm => by have := fq _ (inh _ hm); omega
  have h1 : HX (σ1.set b.pm (.map (delE ep jp) cp)) b.h b.m b.A (outL L' n) Q.t := hx1.keep (Nat.le_refl _) fun c hc => by
   rw [St.get_set, if_neg (show ¬ b.pm = c from fun e => np (e ▸ hc))]
  have h2 := HQ.drop1 (σ' := σ1.set b.pm (.map (delE ep jp) cp)) (P' := fun k => if k ∈ (Sl.take (i + 1)).map Pk.id then none else Q.P k) (np' := Q.np - (Sl.take (i + 1)).length) (flow := f) (x := xf) hF h1 (fun c h1 h2 h3 => by
   rw [St.get_set, if_neg h2]; exact k1 c h1 h3) (by show σ.next ≤ σ1.next; omega) ⟨delE ep jp, cp, by rw [St.get_set, if_pos rfl], kd1, fun k => by
    rw [kd2]
    show _ = Option.map (packOf k) (if k ∈ (Sl.take (i + 1)).map Pk.id then none else Q.P k)
    have hm : k ∈ (Sl.take (i + 1)).map Pk.id ↔ k ∈ (Sl.take i).map Pk.id ∨ k = x.id := by
     rw [tk, List.map_append, List.mem_append]
     simp
    by_cases e : k = x.id
    ·rw [if_pos e, if_pos (hm.2 (.inr e))]; rfl
    ·rw [if_neg e, hlp]
     show Option.map (packOf k) (if k ∈ (Sl.take i).map Pk.id then none else Q.P k) = _
     by_cases e2 : k ∈ (Sl.take i).map Pk.id
     ·rw [if_pos e2, if_pos (hm.2 (.inl e2))]
     ·rw [if_neg e2, if_neg fun h => (hm.1 h).elim e2 e], by
    have h3 : ep.length = Q.np - (Sl.take i).length := hlenp
    simp only [List.length_take] at h3 ⊢
    omega, hbp.del⟩
  have h3 := HL.step (x := x) (HX.pos HQ.hx) (HX.dist HQ.hx) hn hid
  rw [← tk] at h3
  refine ⟨⟨.inr (by omega), fun z hz => ?_⟩, m - 1, by omega, _, i + 1, rfl, ⟨by simp only [List.length_set, el], by simp only [go_sem, seval, if_pos rfl, opLen, el, e1], by simp only [go_sem, seval, if_pos rfl, opLen, el, e2], by simp only [go_sem, seval, if_pos rfl, opLen, el, e6], by simp only [go_sem, seval, if_pos rfl, opLen, el, e42], by simp only [go_sem, seval, if_pos rfl, opLen, el, e43], by simp only [go_sem, seval, if_pos rfl, opLen, el]⟩, by omega, ⟨outL L' n, h2, h3⟩, ?_, ⟨lt.1, by show lo ≤ σ1.next; omega⟩, H.ft, .inr ⟨a, rfl, ?_, ha1, by show a < σ1.next; omega⟩⟩
  ·rcases hz with hz | rfl
   ·exact .inl (.inl (inh _ (hlg z hz)))
   ·exact .inl (.inl (by simp [QB.core]))
  ·rw [St.get_set, if_neg n1]; exact gb1
  ·rw [St.get_set, if_neg (pmx a (by omega)), k1 a ha2 (inx a (by omega))]; exact ga
 ·have c0 : ¬ (i : Int) < (Sl.length : Int) := by omega
  obtain rfl : i = Sl.length := by omega
  simp only [go_sem, seval, if_pos rfl, opLen, undef, zerosN, dropB3, dropBody, nthC, loopOf, Tryz.f21, Option.getD, e1, e2, e6, e42, e43, e44, el, c0]
  exact ⟨rfl, _, rfl, ⟨by simp only [List.length_set, el], by simp only [go_sem, seval, if_pos rfl, opLen, el, e1], by simp only [go_sem, seval, if_pos rfl, opLen, el, e2], by simp only [go_sem, seval, if_pos rfl, opLen, el, e6], by simp only [go_sem, seval, if_pos rfl, opLen, el, e42], by simp only [go_sem, seval, if_pos rfl, opLen, el, e43], by simp only [go_sem, seval, if_pos rfl, opLen, el, e44]⟩, H⟩
end Go.Ab
namespace Go.Ab
open Go.Proofs
structure Dropped (σ : St) (b : QB) (Q : QV) (f : Int) (tn : Int → Int) (σ' : St) (lg : Log) (w : Value) (Sl : List Pk) (L' : List Item) : Prop where
 lg : ∀ z ∈ lg, Foot b Q z ∨ σ.next ≤ z
 w : ItS σ.next σ' w Sl
 q : QAt σ' b { dropV Q Sl L' with F := updF Q.F f none, nf := Q.nf - 1 }
 left : Left Q.L L' Sl
 mem : ∀ x, x ∈ Sl ↔ Q.P x.id = some (x.flow, x.size) ∧ x.flow = f
 nd : (Sl.map Pk.id).Nodup
 ord : Sl.Pairwise fun x y => tn x.id ≤ tn y.id
 len : Sl.length < 256
def DropR (σ : St) (b : QB) (Q : QV) (f : Int) (tn : Int → Int) (e : AE) (σ' : St) (lg : Log) : Prop :=
 ∃ w Sl L', e = .ret (.tuple ⟨[w, .int .i64 0]⟩) ∧ Dropped σ b Q f tn σ' lg w Sl L'
theorem ofF_mem {es : List MapEntry} {Q : QV} {f : Int} (hes : EsOk es Q) (hk : KI es) (hl : ∀ k, lkV es k = (Q.P k).map (packOf k)) (x : Pk) : x ∈ ofF f es ↔ Q.P x.id = some (x.flow, x.size) ∧ x.flow = f := by
 unfold ofF
 simp only [List.mem_filter, List.mem_map, decide_eq_true_eq]
 constructor
 ·rintro ⟨⟨e, he, rfl⟩, h⟩; exact ⟨(hes e he).2.2, h⟩
 ·rintro ⟨h, hf⟩
  refine ⟨?_, hf⟩
  have h1 := hl x.id
  rw [h] at h1
  obtain ⟨j, e, _, h2, h3, h4⟩ := findV_some (T := ⟨fun _ => some { (default : TypeInfo) with desc := .int .i64 }, fun _ => none, fun _ => none⟩) (kt := 0) (kk := .i64) rfl (i := 0) hk h1
  refine ⟨e, List.mem_of_getElem? h3, ?_⟩
  unfold pkE
  rw [h2]
  rfl
theorem ofF_nodup {es : List MapEntry} {Q : QV} {f : Int} (hes : EsOk es Q) (hk : KI es) : ((ofF f es).map Pk.id).Nodup := by
 have h1 : (es.map fun e => (pkE e).id).Nodup := by
  unfold List.Nodup
  rw [List.pairwise_map]
  refine hk.nodup.imp_of_mem fun {a c} ha hc h e => h ?_
  rw [(hes a ha).2.1, (hes c hc).2.1, e]
 unfold ofF
 refine h1.sublist ?_
 rw [show (es.map fun e => (pkE e).id) = (es.map pkE).map Pk.id by rw [List.map_map]; rfl]
 exact (List.filter_sublist).map _
theorem dropBody_is : dropBody = .seq (nthC 0 dropBody) (.seq (nthC 1 dropBody) (.seq (nthC 2 dropBody) (.seq (.seq (nthC 0 (nthC 3 dropBody)) (.block 1 (.loop dropB1))) (dropC 4 dropBody)))) := by rfl
theorem dropS0 : statAll (btAll 21) (nthC 0 dropBody) = true := by kernel_rfl
theorem dropS1 : statAll (btAll 21) (nthC 1 dropBody) = true := by kernel_rfl
theorem dropS2 : statAll (btAll 21) (nthC 2 dropBody) = true := by kernel_rfl
theorem dropS3 : statAll (btAll 21) (nthC 0 (nthC 3 dropBody)) = true := by kernel_rfl
theorem dropS4 : statAll (btAll 21) (dropC 4 dropBody) = true := by kernel_rfl
set_option maxHeartbeats 1600000 in
set_option maxRecDepth 20000 in
theorem drop_rest {σ0 σ : St} {b : QB} {Q : QV} {itb lo ck : Nat} {es : List MapEntry} {f : Int} {seen : List Nat} {v : Value} {D : List Pk} {ts : List Value} {tn : Int → Int} {K : RR → Prop} (H : D1 σ b Q σ0.next itb lo ck es f seen v D) (hl : leftE seen es = []) (F : FR1 ts f σ0.next itb v) {xf : FlowV} (hF : Q.F f = some xf)
  (hes : EsOk es Q) (hk : KI es) (hlk : ∀ k, lkV es k = (Q.P k).map (packOf k)) (hnp : es.length < 256) (hpl : ∀ id p, Q.P id = some p → ∃ (n : Nat) (it : Item), Q.L[n]? = some it ∧ it.id = id) (htn : ∀ it ∈ Q.L, tn it.id = it.turn) (hhp : Hp Q.L)
  (k : ∀ ts' σ' lg w Sl L', lget ts' 4 = w → lget ts' 5 = .int .i64 0 → ts'.length = 68 → Dropped σ0 b Q f tn σ' lg w Sl L' → K ⟨.ret, ⟨ts', []⟩, σ', lg⟩) : wp (cP Tryz.prog) q8 (btAll 21) false (dropC 4 dropBody) ⟨ts, []⟩ σ K := by
 have e1 := F.t1
 have e2 := F.t2
 have e6 := F.t6
 have el := F.size
 have lt := H.lt
 have hqb : σ0.next < σ.next := by omega
 have gb := H.gb
 have hperm : D.Perm (ofF f es) := by
  have := H.perm
  rw [hl] at this
  simpa [ofF] using this
 have hDl : D.length < 256 := by
  have h1 := hperm.length_eq
  have h2 : (ofF f es).length ≤ es.length := by unfold ofF; exact Nat.le_trans (List.length_filter_le _ _) (by simp)
  omega
 have hIn : ∀ x, x ∈ ofF f es → InQ Q x ∧ Q.P x.id = some (x.flow, x.size) := fun x hx => by
  have h1 := ((ofF_mem hes hk hlk x).1 hx).1
  exact ⟨hpl _ _ h1, h1⟩
 have hv : ItV lo σ v D := by
  rcases H.v with h | ⟨a, h1, h2, h3, h4⟩
  ·exact .inl h
  ·exact .inr ⟨a, 5, D.length, [], h1, by simpa using h2, h3, h4⟩
 have hord := ordered_call H.q gb hqb hv hDl htn fun x hx => (hIn x (hperm.mem_iff.1 hx)).1
 simp only [go_sem, seval, if_pos rfl, opLen, undef, zerosN, dropBody, dropC, Tryz.f21, Option.getD, e1, e2, e6, el]
 refine callX.hidE hord ?_
 intro e σ1 lg1 hlg1 hR
 obtain ⟨w, Sl, rfl, hB, hP1, hO, hw⟩ := hR
 have hSl : Sl.length < 256 := by rw [hP1.length_eq]; exact hDl
 have hP2 : Sl.Perm (ofF f es) := hP1.trans hperm
 have hnd : (Sl.map Pk.id).Nodup := (hP2.map Pk.id).nodup_iff.2 (ofF_nodup hes hk)
 have kp : ∀ c, c < σ.next → σ1.get c = σ.get c := fun c hc => hlg1.2 c hc fun hm => by have := hB c hm; omega
 have nx := hlg1.1
 have H3 : D3 σ1 b Q σ0.next σ.next w Sl 0 := by
  refine ⟨⟨Q.L, ?_, hhp, fun z => by simp⟩, (kp _ hqb).trans gb, by omega, H.ft, hw⟩
  have h1 : QAt σ1 b Q := H.q.keep nx fun c hc => kp c (H.q.in_lt hc)
  have h2 : dropV Q (Sl.take 0) Q.L = Q := by simp [dropV]
  rw [h2]; exact h1
 obtain ⟨sa, rfl, hol⟩ : ∃ sa, w = .slice sa Sl.length Sl.length ∧ ∀ σ, opLen (cP Tryz.prog).T σ 40 (.slice sa Sl.length Sl.length) = some (.val (.int .i64 (Sl.length : Nat)) []) := by
  rcases hw with ⟨rfl, rfl⟩ | ⟨a, rfl, _⟩
  ·exact ⟨_, rfl, fun σ => by simp only [opLen, und168]; rfl⟩
  ·exact ⟨_, rfl, fun σ => by simp only [opLen, und168]⟩
 refine ⟨?_⟩
 simp only [go_sem, seval, if_pos rfl, undef, zerosN, e1, e2, e6, el, hol]
 refine loop_then (drop_loop3 (lo := σ.next) (w := .slice sa Sl.length Sl.length) (f := f) hF hSl hnd (fun x hx => hIn x (hP2.mem_iff.1 hx)) Sl.length _ _ ⟨_, 0, rfl, ⟨by simp only [List.length_set, el], by simp only [go_sem, seval, if_pos rfl, opLen, el, e1], by simp only [go_sem, seval, if_pos rfl, opLen, el, e2], by simp only [go_sem, seval, if_pos rfl, opLen, el], by simp only [go_sem, seval, if_pos rfl, opLen, el], by simp only [go_sem, seval, if_pos rfl, opLen, el], by simp only [go_sem, seval, if_pos rfl, opLen, el]⟩, by omega, H3⟩) ?_
 intro x fr' σ2 lg2 hlg2 hB2 h
 obtain ⟨rfl, ts2, rfl, F2, H2⟩ := h
 have f1 := F2.t1
 have f2 := F2.t2
 have f6 := F2.t6
 have fl := F2.size
 obtain ⟨L', HQ, HL⟩ := H2.q
 rw [List.take_length] at HQ HL
 have gq := HQ.gq
 have gb2 := H2.gb
 obtain ⟨ef, cf, gf, hkf, hlf, hlenf, hbf⟩ := HQ.mf
 have hF2 : (dropV Q Sl L').F f = some xf := hF
 obtain ⟨jf, ef', hfindf, hevf, hjf, hkeyf⟩ := findV_some und2' (i := 0) (v := ptrOf xf) hkf ((hlf f).trans (by show Option.map ptrOf ((dropV Q Sl L').F f) = _; rw [hF2]; rfl))
 have hq : b.q < σ2.next := HQ.lt _ (by simp [QB.core])
 have hfm : b.fm < σ2.next := HQ.lt _ (by simp [QB.core])
 have hqb2 : σ0.next < σ2.next := by have := H2.lt; omega
 have nf1 : b.fm < σ0.next := H.ft _ (.inl (by simp [QB.core]))
 simp only [go_sem, seval, if_pos rfl, opLen, undef, zerosN, f1, f2, f6, fl, gb2, gq, gf, hq, hfm, hqb2, hfindf, hevf, und2']
 obtain ⟨kd1, kd2⟩ := delV_KI hkf hjf hkeyf
 have kd3 := delV_length hjf
 have hfin := HQ.dropF (σ' := σ2.set b.fm (.map (delE ef jf) cf)) hF2 (fun c h1 h2 => by rw [St.get_set, if_neg (Ne.symm h2)]) (Nat.le_refl _) ⟨delE ef jf, cf, by rw [St.get_set, if_pos rfl], kd1, fun k => by
  rw [kd2, hlf]
  show (if k = f then none else Option.map ptrOf ((dropV Q Sl L').F k)) = Option.map ptrOf (updF (dropV Q Sl L').F f none k)
  by_cases e : k = f
  ·subst e; rw [if_pos rfl, updF_same]; rfl
  ·rw [if_neg e, updF_other _ _ e], by have : ef.length = (dropV Q Sl L').nf := hlenf; omega, hbf.del⟩
 refine k _ _ _ (.slice sa Sl.length Sl.length) Sl L' (by simp only [go_sem, seval, if_pos rfl, opLen, fl, f6]) (by simp only [go_sem, seval, if_pos rfl, opLen, fl]) (by simp only [List.length_set, fl]) ⟨fun z hz => ?_, ?_, hfin, HL, fun x => (hP2.mem_iff).trans (ofF_mem hes hk hlk x), hnd, hO, hSl⟩
 ·simp only [List.mem_append, List.mem_cons, List.not_mem_nil, or_false] at hz
  rcases hz with hz | hz | hz
  ·have := hB z hz; exact .inr (by omega)
  ·rcases hB2 z hz with h | h
   ·exact .inl h
   ·exact .inr h
  ·exact .inl (.inl (by simp [QB.core, hz]))
 ·rcases H2.w with h | ⟨a, h1, h2, h3, h4⟩
  ·exact .inl h
  ·exact .inr ⟨a, h1, by rw [St.get_set, if_neg (by omega)]; exact h2, by omega, h4⟩
set_option maxHeartbeats 1600000 in
set_option maxRecDepth 20000 in
theorem drop_call {σ : St} {b : QB} {Q : QV} (H : QAt σ b Q) {f : Int} {xf : FlowV} {tn : Int → Int} (hF : Q.F f = some xf) (hnp : Q.np < 256) (hpl : ∀ id p, Q.P id = some p → ∃ (n : Nat) (it : Item), Q.L[n]? = some it ∧ it.id = id) (htn : ∀ it ∈ Q.L, tn it.id = it.turn) (hhp : Hp Q.L) :
  callN Tryz.prog 21 [.pointer (some ⟨b.q, 0, none⟩), .int .i64 f] σ (DropR σ b Q f tn) := by
 have gq := H.gq
 obtain ⟨es, ck, gf, hki, hlk, hlen, hbr⟩ := H.mf
 obtain ⟨ep, cp, gp, hkp, hlp, hlenp, hbp⟩ := H.mp
 have hq : b.q < σ.next := H.lt _ (by simp [QB.core])
 have hfm : b.fm < σ.next := H.lt _ (by simp [QB.core])
 have hpm : b.pm < σ.next := H.lt _ (by simp [QB.core])
 obtain ⟨j, e, hfind, hev, _, _⟩ := findV_some und2' (i := 0) (v := ptrOf xf) hki ((hlk f).trans (by show (Q.F f).map ptrOf = _; rw [hF]; rfl))
 have gq1 : (σ.new (.cells [.pointer (some ⟨b.q, 0, none⟩)] false)).get b.q = some (.cells [.pointer (some ⟨b.h, 0, none⟩), .map (some b.fm), .map (some b.pm)] false) := by rw [St.get_new, if_neg (by omega)]; exact gq
 refine callN.enter cP_ok Tryz.func21 rfl ?_
 show codeS Tryz.prog false dropBody _ _ _
 rw [dropBody_is]
 refine codeS.pre cP_ok mixed dropS0 (p := q8) (fun fr σ Q => wp (cP Tryz.prog) q8 (btAll 21) false (nthC 1 dropBody) fr σ (thenW (fun fr σ Q => wp (cP Tryz.prog) q8 (btAll 21) false (nthC 2 dropBody) fr σ (thenW (fun fr σ Q => wp (cP Tryz.prog) q8 (btAll 21) false (nthC 0 (nthC 3 dropBody)) fr σ (thenW (codeS Tryz.prog false (.block 1 (.loop dropB1))) (thenW (codeS Tryz.prog false (dropC 4 dropBody)) Q))) Q)) Q)) ?_
  (fun fr σ Q h => codeS.pre cP_ok mixed dropS1 (p := q8) _ h fun fr σ Q h => codeS.pre cP_ok mixed dropS2 (p := q8) _ h fun fr σ Q h => codeS.seq (codeS.seq (codeS.of_wp cP_ok mixed dropS3 h)))
 generalize hB1 : codeS Tryz.prog false (.block 1 (.loop dropB1)) = B1
 generalize hB2 : codeS Tryz.prog false (dropC 4 dropBody) = B2
 simp only [go_sem, seval, if_pos rfl, opLen, undef, zerosN, dropBody, nthC, Tryz.f21, Option.getD]
 refine .of (qnone_call gq1) ?_
 simp only [go_sem, seval, if_pos rfl, opLen, undef, zerosN, ptrOf, opRange, gq, gf, gp, hq, hfm, hpm, hfind, hev, und2']
 subst hB1
 refine codeS.block (codeS.loop (drop_loop1 hbp (esOk_of hkp hlp) (by omega) (leftE [] ep).length _ [] (.slice none 0 0) [] _ _ (qb := σ.next) (itb := σ.next + 1) (lo := σ.next + 2) (b := b) (f := f) rfl ⟨rfl, rfl, rfl, rfl, rfl⟩ ⟨?_, ?_, ?_, ?_, ?_, ?_, .inl ⟨rfl, rfl⟩, ?_⟩ ?_))
 ·exact H.keep (by simp; omega) fun c hc => by
   have := H.in_lt hc
   rw [St.get_new, if_neg (by simp; omega), St.get_new, if_neg (by omega)]
 ·rw [St.get_new, if_neg (by simp), St.get_new, if_pos rfl]
 ·rw [St.get_new, if_neg (by simp; omega), St.get_new, if_neg (by omega)]; exact gp
 ·rw [St.get_new, if_pos (by simp)]
 ·simp
 ·exact fun c hc => H.in_lt hc
 ·have : leftE [] ep = ep := by
   have : ∀ l : List MapEntry, leftE [] l = l := fun l => by
    induction l with
    | nil => rfl
    | cons x l ih => show x :: leftE [] l = _; rw [ih]
   exact this ep
  rw [this]
  exact List.Perm.refl _
 intro ts' v' D' σ' lg seen' F' H' hl' hlg' hn'
 simp only [go_sem, seval, if_pos rfl, opLen, AX.inBlock]
 subst hB2
 simp only [St.next_new] at hn'
 refine codeS.of_wp cP_ok mixed dropS4 (p := q8) (drop_rest H' hl' F' hF (esOk_of hkp hlp) hkp hlp (by omega) hpl htn hhp ?_)
 intro ts2 σ2 lg2 w Sl L' h4 h5 hl2 hD
 simp only [go_sem, seval, if_pos rfl, opLen, h4, h5, hl2]
 refine ⟨w, Sl, L', rfl, { hD with lg := fun z hz => ?_ }⟩
 simp only [List.mem_append] at hz
 rcases hz with hz | hz
 ·have := hlg' z hz; exact .inr (by omega)
 ·exact hD.lg z hz
end Go.Ab
namespace Go.Ab
open Go.Proofs
def upN (n d : Nat) : Nat := n / d + (if 0 < n % d then 1 else 0)
set_option maxRecDepth 20000 in
theorem ceil_call {n d : Nat} (hd : 0 < d) (hd2 : d < 4000000000000000000) (hn : n < 4000000000000000000) (hc : Nat.gcd n d = 1) (σ : St) : DCall Tryz.prog 39 [.agg ⟨[.int .i64 n, .int .i64 d]⟩] σ (.ret (.tuple ⟨[.int .i64 (upN n d), .int .i64 0]⟩)) σ [] := by
 have k1 : okI (n : Int) = true := by simp only [okI, Bool.and_eq_true, decide_eq_true_eq]; omega
 have k2 : okI (d : Int) = true := by simp only [okI, Bool.and_eq_true, decide_eq_true_eq]; omega
 have k3 : chk (n : Int) (d : Int) := ⟨by omega, by omega, by rw [Int.gcd_natCast_natCast]; exact hc⟩
 have d0 : ¬ (d : Int) = 0 := by omega
 have hdiv : (n : Int).tdiv (d : Int) = ((n / d : Nat) : Int) := rfl
 have hmod : (n : Int).tmod (d : Int) = ((n % d : Nat) : Int) := rfl
 have hq : n / d ≤ n := Nat.div_le_self _ _
 have hm : n % d ≤ n := Nat.mod_le _ _
 have w1 : IntKind.i64.wrap ((n / d : Nat) : Int) = ((n / d : Nat) : Int) := wrapIN (by omega)
 have w2 : IntKind.i64.wrap ((n % d : Nat) : Int) = ((n % d : Nat) : Int) := wrapIN (by omega)
 have w3 : IntKind.i64.wrap (((n / d : Nat) : Int) + 1) = ((n / d + 1 : Nat) : Int) := by
  have : ((n / d : Nat) : Int) + 1 = ((n / d + 1 : Nat) : Int) := by omega
  rw [this]; exact wrapIN (by omega)
 refine pure_call (enter (p := q8) Tryz.func39 rfl stat39 ?_) rfl
 by_cases h : 0 < n % d
 ·have c0 : (0 : Int) < ((n % d : Nat) : Int) := by omega
  have hu : upN n d = n / d + 1 := by unfold upN; rw [if_pos h]
  rw [hu]
  simp only [go_sem, seval, if_pos rfl, opLen, undef, Tryz.f39, k1, k2, k3, d0, hdiv, hmod, w1, w2, w3, c0]
 ·have c0 : ¬ (0 : Int) < ((n % d : Nat) : Int) := by omega
  have hu : upN n d = n / d := by unfold upN; rw [if_neg h]; rfl
  rw [hu]
  simp only [go_sem, seval, if_pos rfl, opLen, undef, Tryz.f39, k1, k2, k3, d0, hdiv, hmod, w1, w2, w3, c0]
set_option maxRecDepth 20000 in
theorem flow_call {σ : St} {b : QB} {Q : QV} (H : QAt σ b Q) {f : Int} {x : FlowV} (hF : Q.F f = some x) :
  DCall Tryz.prog 38 [.pointer (some ⟨b.q, 0, none⟩), .int .i64 f] σ (.ret (.tuple ⟨[.agg ⟨x.cells f⟩, .bool true]⟩)) σ [] := by
 have gq := H.gq
 obtain ⟨es, ck, gf, hki, hlk, hlen, hbr⟩ := H.mf
 obtain ⟨gx, hxl, hxc⟩ := H.fl f x hF
 have hq : b.q < σ.next := H.lt _ (by simp [QB.core])
 have hfm : b.fm < σ.next := H.lt _ (by simp [QB.core])
 obtain ⟨j, e, hfind, hev, _, _⟩ := findV_some und2' (i := 0) (v := ptrOf x) hki ((hlk f).trans (by show (Q.F f).map ptrOf = _; rw [hF]; rfl))
 simp only [FlowV.cells] at gx ⊢
 refine pure_call (enter (p := q8) Tryz.func38 rfl stat38 ?_) rfl
 simp only [go_sem, seval, if_pos rfl, opLen, undef, zerosN, Tryz.f38]
 refine .of (qnone_call (q := b.q) (by simp only [go_sem, seval, if_pos rfl, opLen, hq, gq]; rfl)) ?_
 simp only [go_sem, seval, if_pos rfl, opLen, undef, zerosN, ptrOf, gq, gf, gx, hq, hfm, hxl, hfind, hev, und2']
set_option maxRecDepth 20000 in
theorem until_call {σ : St} {B : PB} {S : PV} (H : PAt σ B S) {f : Int} {x : FlowV} (hF : S.Q.F f = some x) {n d now : Nat} (hn : x.n = n) (hd : x.d = d) (hnow : S.now = (now : Nat)) (hd0 : 0 < d) (hd2 : d < 4000000000000000000) (hn2 : n < 4000000000000000000) (hc : Nat.gcd n d = 1) :
  DCall Tryz.prog 20 [.pointer (some ⟨B.p, 0, none⟩), .int .i64 f] σ (.ret (.int .i64 (max (upN n d) now : Nat))) σ [] := by
 have gp := H.gp
 have hp := H.lt
 have hfl := flow_call H.q hF
 simp only [FlowV.cells, hn, hd] at hfl
 have hmx : opMax (.int .i64 ((upN n d : Nat) : Int)) (.int .i64 ((now : Nat) : Int)) = some (.val (.int .i64 ((max (upN n d) now : Nat) : Int)) []) := by
  by_cases h : (now : Int) < ((upN n d : Nat) : Int)
  ·have e : max (upN n d) now = upN n d := Nat.max_eq_left (by omega)
   rw [e]; unfold opMax; simp; omega
  ·have e : max (upN n d) now = now := Nat.max_eq_right (by omega)
   rw [e]; unfold opMax; simp; omega
 rw [hnow] at gp
 refine pure_call (enter (p := q8) Tryz.func20 rfl stat20 ?_) rfl
 simp only [go_sem, seval, if_pos rfl, opLen, undef, zerosN, Tryz.f20, gp]
 refine .of hfl ?_
 simp only [go_sem, seval, if_pos rfl, opLen, undef, zerosN, gp]
 refine .of (ceil_call hd0 hd2 hn2 hc _) ?_
 simp only [go_sem, seval, if_pos rfl, opLen, undef, zerosN, gp, hp, hmx]
theorem now_call {σ : St} {B : PB} {S : PV} (H : PAt σ B S) : DCall Tryz.prog 11 [.pointer (some ⟨B.p, 0, none⟩)] σ (.ret (.int .i64 S.now)) σ [] := by
 have gp := H.gp
 refine pure_call (enter (p := q8) Tryz.func11 rfl stat11 ?_) rfl
 simp only [go_sem, seval, if_pos rfl, opLen, undef, Tryz.f11]
 refine .of (pnone_call gp) ?_
 simp only [go_sem, seval, if_pos rfl, opLen, undef, gp]
end Go.Ab
namespace Go.Ab
open Go.Proofs
noncomputable def pdBody : Code := Tryz.f10.body.getD .skip
noncomputable def pdLoop : Code := loopOf (nthC 5 pdBody)
structure FPdr (ts : List Value) (p : Nat) (u : Int) (w : Value) (n i : Nat) : Prop where
 size : ts.length = 47
 t0 : lget ts 0 = .pointer (some ⟨p, 0, none⟩)
 t4 : lget ts 4 = .int .i64 u
 t5 : lget ts 5 = .slice none 0 0
 t27 : lget ts 27 = w
 t28 : lget ts 28 = .int .i64 n
 t29 : lget ts 29 = .int .i64 i
def addL (S : PV) (D : List Pk) : PV := { S with V := { S.V with L := S.V.L ++ D } }
def IPdr (B : PB) (S : PV) (n0 lo : Nat) (u : Int) (w : Value) (Sl : List Pk) (m : Nat) (fr : Fr) (σ : St) : Prop :=
 ∃ ts r', ∃ i : Nat, fr = ⟨ts, []⟩ ∧ FPdr ts B.p u w Sl.length i ∧ m + i = Sl.length ∧ PAt σ { B with r := r' } (addL S (Sl.take i)) ∧ (r' = B.r ∨ lo ≤ r') ∧ lo ≤ σ.next ∧
  ((w = .slice none 0 0 ∧ Sl = []) ∨ ∃ a, w = .slice (some ⟨a, 0, some 5⟩) Sl.length Sl.length ∧ σ.get a = some (.cells (cellsP Sl) false) ∧ n0 ≤ a ∧ a < lo)
def EPdr (B : PB) (S : PV) (lo : Nat) (u : Int) (Sl : List Pk) (x : AX) (fr : Fr) (σ : St) : Prop :=
 x = .exit 0 ∧ ∃ ts r', fr = ⟨ts, []⟩ ∧ ts.length = 47 ∧ lget ts 4 = .int .i64 u ∧ lget ts 5 = .slice none 0 0 ∧ PAt σ { B with r := r' } (addL S Sl) ∧ (r' = B.r ∨ lo ≤ r')
def Fits (x : Pk) : Prop := (0 ≤ x.id ∧ x.id ≤ 4611686018427387904) ∧ (0 ≤ x.flow ∧ x.flow ≤ 2147483647) ∧ (1 ≤ x.size ∧ x.size ≤ 2000)
set_option maxHeartbeats 1600000 in
set_option maxRecDepth 20000 in
theorem pd_loop {B : PB} {S : PV} {n0 lo : Nat} {u : Int} {w : Value} {Sl : List Pk} (hlo : n0 ≤ lo) (hlB : B.l < n0 ∧ B.r < n0) (hfit : ∀ x ∈ Sl, Fits x) (hs : ∀ y ∈ S.V.L, 0 ≤ y.size ∧ y.size ≤ 2000) (hS : Sl.length < 256) (hL : S.V.L.length < 200) (hroom : S.V.room = 1000000) :
  ∀ m fr σ, IPdr B S n0 lo u w Sl m fr σ → loopX Tryz.prog false pdLoop fr σ (endL (EPdr B S lo u Sl) fun z => z = B.l ∨ z = B.r ∨ lo ≤ z) := by
 refine loop_ind q8 10 (by kernel_rfl) _ _ _ ?_
 rintro m fr σ ⟨ts, r', i, rfl, F, hmi, H, hr', hn, hw⟩
 have e0 := F.t0
 have e4 := F.t4
 have e5 := F.t5
 have e27 := F.t27
 have e28 := F.t28
 have e29 := F.t29
 have el := F.size
 by_cases hi : i < Sl.length
 ·have c0 : (i : Int) < (Sl.length : Int) := by omega
  have c1 : (0 : Int) ≤ (i : Int) := by omega
  have w1 : IntKind.i64.wrap ((i : Int) + 1) = ((i + 1 : Nat) : Int) := by
   have : (i : Int) + 1 = ((i + 1 : Nat) : Int) := by omega
   rw [this]; exact wrapIN (by omega)
  have hx : Sl[i]? = some Sl[i] := List.getElem?_eq_getElem hi
  generalize Sl[i] = x at hx
  have tk : Sl.take (i + 1) = Sl.take i ++ [x] := by rw [List.take_add_one, hx]; rfl
  have hxm := List.mem_of_getElem? hx
  obtain ⟨f1, f2, f3⟩ := hfit x hxm
  rcases hw with ⟨_, rfl⟩ | ⟨a, rfl, ga, ha1, ha2⟩
  ·simp at hi
  have gp := H.gp
  have hp := H.lt
  have hll := H.l.lt
  have ha : a < σ.next := by omega
  have ex := cellsP_at' hx
  have lx : i * 3 + 3 ≤ (cellsP Sl).length := by rw [cellsP_length]; omega
  simp only [Pk.cells] at ex
  have hsz : ∀ y ∈ (addL S (Sl.take i)).V.L, 0 ≤ y.size ∧ y.size ≤ 2000 := fun y hy => by
   rcases List.mem_append.1 (show y ∈ S.V.L ++ Sl.take i from hy) with hy | hy
   ·exact hs y hy
   ·have := (hfit y (List.mem_of_mem_take hy)).2.2; omega
  have hlen : (addL S (Sl.take i)).V.L.length = S.V.L.length + i := by
   show (S.V.L ++ Sl.take i).length = _
   rw [List.length_append, List.length_take]; omega
  have hsum := (sumP_bound _ hsz).2
  rw [hlen] at hsum
  simp only [go_sem, seval, if_pos rfl, opLen, undef, zerosN, pdLoop, pdBody, nthC, loopOf, Tryz.f10, Option.getD, Int.toNat_natCast, e0, e4, e5, e27, e28, e29, el, c0, c1, ga, ha, ex, lx, gp, hp]
  obtain ⟨σz, hσz⟩ : ∃ σz, σz = ((σ.new (.cells [.int .i64 0, .int .i64 0, .int .i64 0] false)).set σ.next (.cells [.int .i64 x.id, .int .i64 x.flow, .int .i64 x.size] false)) := ⟨_, rfl⟩
  have zn : σz.next = σ.next + 1 := by rw [hσz]; rfl
  have zg : ∀ c, c < σ.next → σz.get c = σ.get c := fun c hc => by rw [hσz, St.get_set, if_neg (by omega), St.get_new, if_neg (by omega)]
  have hput := lput_call (H.l.keep (σ' := σz) (by omega) (zg _ hll.1) (zg _ hll.2)) (x := x) f1 f2 f3 hsz (by show x.size ≤ S.V.room - _; omega) (by show _ ≤ S.V.room ∧ S.V.room ≤ _; omega) (by rw [hlen]; omega)
  simp only [Pk.val, Pk.cells] at hput
  rw [← hσz]
  refine callX.hid hput ?_
  intro σ1 lg1 hlg1 hA
  obtain ⟨hB, r2, hr2, HL⟩ := hA
  have nx := hlg1.1
  have hk : ∀ c, c < σ.next → c ≠ B.l → c ≠ r' → σ1.get c = σ.get c := fun c h1 h2 h3 => by
   rw [hlg1.2 c (by omega) fun hm => by
    rcases hB c hm with h | h | h
    ·exact h2 h
    ·exact h3 h
    ·omega, zg c h1]
  refine ⟨?_⟩
  simp only [go_sem, seval, if_pos rfl, opLen, undef, zerosN, e0, e4, e5, e27, e28, e29, el, w1]
  have hr2' : r2 = r' ∨ σz.next ≤ r2 := hr2
  have h2 := H.line (r' := r2) (by omega) hk HL (hr2'.imp id fun h => by omega)
  refine ⟨⟨.inr (.inr (by omega)), fun z hz => ?_⟩, m - 1, by omega, _, r2, i + 1, rfl, ⟨by simp only [List.length_set, el], by simp only [go_sem, seval, if_pos rfl, opLen, el, e0], by simp only [go_sem, seval, if_pos rfl, opLen, el, e4], by simp only [go_sem, seval, if_pos rfl, opLen, el, e5], by simp only [go_sem, seval, if_pos rfl, opLen, el, e27], by simp only [go_sem, seval, if_pos rfl, opLen, el, e28], by simp only [go_sem, seval, if_pos rfl, opLen, el]⟩, by omega, ?_, by omega, by omega, .inr ⟨a, rfl, (hk a ha (by omega) (by omega)).trans ga, ha1, ha2⟩⟩
  ·rcases hB z hz with h | h | h
   ·exact .inl h
   ·have h : z = r' := h
    rcases hr' with h' | h'
    ·exact .inr (.inl (h.trans h'))
    ·exact .inr (.inr (by omega))
   ·exact .inr (.inr (by omega))
  ·rw [tk]
   have e : addL S (Sl.take i ++ [x]) = { addL S (Sl.take i) with V := { (addL S (Sl.take i)).V with L := (addL S (Sl.take i)).V.L ++ [x] } } := by
    simp only [addL, List.append_assoc]
   rw [e]
   exact h2
 ·have c0 : ¬ (i : Int) < (Sl.length : Int) := by omega
  obtain rfl : i = Sl.length := by omega
  simp only [go_sem, seval, if_pos rfl, opLen, undef, zerosN, pdLoop, pdBody, nthC, loopOf, Tryz.f10, Option.getD, e0, e4, e5, e27, e28, e29, el, c0]
  rw [List.take_length] at H
  exact ⟨rfl, _, r', rfl, by simp only [List.length_set, el], by simp only [go_sem, seval, if_pos rfl, opLen, el, e4], by simp only [go_sem, seval, if_pos rfl, opLen, el, e5], H, hr'⟩
def pdropV (S : PV) (f : Int) (Sl : List Pk) (L' : List Item) : PV := { S with Q := { dropV S.Q Sl L' with F := updF S.Q.F f none, nf := S.Q.nf - 1 }, V := { S.V with L := S.V.L ++ Sl } }
structure PDropped (σ : St) (B : PB) (S : PV) (f : Int) (tn : Int → Int) (σ' : St) (lg : Log) (Sl : List Pk) (L' : List Item) (r' : Nat) : Prop where
 lg : ∀ z ∈ lg, PFoot B S.Q z ∨ σ.next ≤ z
 r : r' = B.r ∨ σ.next ≤ r'
 at' : PAt σ' { B with r := r' } (pdropV S f Sl L')
 left : Left S.Q.L L' Sl
 mem : ∀ x, x ∈ Sl ↔ S.Q.P x.id = some (x.flow, x.size) ∧ x.flow = f
 nd : (Sl.map Pk.id).Nodup
 ord : Sl.Pairwise fun x y => tn x.id ≤ tn y.id
 len : Sl.length < 256
def PDropR (σ : St) (B : PB) (S : PV) (f u : Int) (tn : Int → Int) (e : AE) (σ' : St) (lg : Log) : Prop :=
 ∃ Sl L' r', e = .ret (.tuple ⟨[.int .i64 u, .slice none 0 0, .int .i64 0]⟩) ∧ PDropped σ B S f tn σ' lg Sl L' r'
theorem pdBody_is : pdBody = .seq (nthC 0 pdBody) (.seq (nthC 1 pdBody) (.seq (nthC 2 pdBody) (.seq (nthC 3 pdBody) (dropC 4 pdBody)))) := by rfl
theorem pdS0 : statAll (btAll 10) (nthC 0 pdBody) = true := by kernel_rfl
theorem pdS1 : statAll (btAll 10) (nthC 1 pdBody) = true := by kernel_rfl
theorem pdS2 : statAll (btAll 10) (nthC 2 pdBody) = true := by kernel_rfl
theorem pdS4 : statAll (btAll 10) (dropC 4 pdBody) = true := by kernel_rfl
set_option maxHeartbeats 1600000 in
set_option maxRecDepth 20000 in
theorem pdrop_call {σ : St} {B : PB} {S : PV} (H : PAt σ B S) {f : Int} {xf : FlowV} {tn : Int → Int} (hF : S.Q.F f = some xf) (hnp : S.Q.np < 256) (hpl : ∀ id p, S.Q.P id = some p → ∃ (n : Nat) (it : Item), S.Q.L[n]? = some it ∧ it.id = id) (htn : ∀ it ∈ S.Q.L, tn it.id = it.turn) (hhp : Hp S.Q.L)
  {n d now : Nat} (hn : xf.n = n) (hd : xf.d = d) (hnow : S.now = (now : Nat)) (hd0 : 0 < d) (hd2 : d < 4000000000000000000) (hn2 : n < 4000000000000000000) (hc : Nat.gcd n d = 1)
  (hfit : ∀ x : Pk, S.Q.P x.id = some (x.flow, x.size) → x.flow = f → Fits x) (hs : ∀ y ∈ S.V.L, 0 ≤ y.size ∧ y.size ≤ 2000) (hL : S.V.L.length < 200) (hroom : S.V.room = 1000000) :
  callN Tryz.prog 10 [.pointer (some ⟨B.p, 0, none⟩), .int .i64 f] σ (PDropR σ B S f (max (upN n d) now : Nat) tn) := by
 have gp := H.gp
 have hp := H.lt
 have hlB := H.l.lt
 refine callN.enter cP_ok Tryz.func10 rfl ?_
 show codeS Tryz.prog false pdBody _ _ _
 rw [pdBody_is]
 refine codeS.pre cP_ok mixed pdS0 (p := q8) (fun fr σ Q => wp (cP Tryz.prog) q8 (btAll 10) false (nthC 1 pdBody) fr σ (thenW (fun fr σ Q => wp (cP Tryz.prog) q8 (btAll 10) false (nthC 2 pdBody) fr σ (thenW (fun fr σ Q => codeS Tryz.prog false (nthC 3 pdBody) fr σ (thenW (codeS Tryz.prog false (dropC 4 pdBody)) Q)) Q)) Q)) ?_
  (fun fr σ Q h => codeS.pre cP_ok mixed pdS1 (p := q8) _ h fun fr σ Q h => codeS.pre cP_ok mixed pdS2 (p := q8) _ h fun fr σ Q h => codeS.seq h)
 generalize hB1 : codeS Tryz.prog false (nthC 3 pdBody) = B1
 generalize hB2 : codeS Tryz.prog false (dropC 4 pdBody) = B2
 simp only [go_sem, seval, if_pos rfl, opLen, undef, zerosN, pdBody, nthC, Tryz.f10, Option.getD]
 refine .of (pnone_call gp) ?_
 simp only [go_sem, seval, if_pos rfl, opLen, undef, zerosN]
 refine .of (until_call H hF hn hd hnow hd0 hd2 hn2 hc) ?_
 simp only [go_sem, seval, if_pos rfl, opLen, undef, zerosN]
 subst hB1
 simp only [pdBody, nthC, Tryz.f10, Option.getD]
 refine codeS.region cP_ok (p := q8) ?_
 simp only [go_sem, seval, if_pos rfl, opLen, undef, zerosN, callNW, gp]
 refine callN.use (drop_call H.q hF hnp hpl htn hhp) ?_
 intro e σ1 lg1 hlg1 hR
 obtain ⟨w, Sl, L', rfl, D⟩ := hR
 simp only [go_sem, seval, if_pos rfl, opLen, undef, zerosN]
 subst hB2
 have nx := hlg1.1
 have k1 : ∀ c, c < σ.next → ¬ Foot B.b S.Q c → σ1.get c = σ.get c := fun c h1 h2 => hlg1.2 c h1 fun hm => by
  rcases D.lg c hm with h | h
  ·exact h2 h
  ·omega
 have sub : ∀ c, Foot B.b { dropV S.Q Sl L' with F := updF S.Q.F f none, nf := S.Q.nf - 1 } c → Foot B.b S.Q c := fun c h => by
  rcases h with h | ⟨k, y, hy, rfl⟩
  ·exact .inl h
  ·have hy : updF S.Q.F f none k = some y := hy
   by_cases e : k = f
   ·subst e; rw [updF_same] at hy; cases hy
   ·rw [updF_other _ _ e] at hy; exact .inr ⟨k, y, hy, rfl⟩
 have H1 := H.queue nx k1 D.q rfl fun c h => .inl (sub c h)
 obtain ⟨sa, rfl, hol⟩ : ∃ sa, w = .slice sa Sl.length Sl.length ∧ ∀ σ, opLen (cP Tryz.prog).T σ 40 (.slice sa Sl.length Sl.length) = some (.val (.int .i64 (Sl.length : Nat)) []) := by
  rcases D.w with ⟨rfl, rfl⟩ | ⟨a, rfl, _⟩
  ·exact ⟨_, rfl, fun σ => by simp only [opLen, und168]; rfl⟩
  ·exact ⟨_, rfl, fun σ => by simp only [opLen, und168]⟩
 have hSl := D.len
 refine codeS.of_wp cP_ok mixed pdS4 (p := q8) ?_
 simp only [go_sem, seval, if_pos rfl, undef, zerosN, pdBody, dropC, Tryz.f10, Option.getD, hol]
 refine loop_then (pd_loop (B := B) (S := { S with Q := { dropV S.Q Sl L' with F := updF S.Q.F f none, nf := S.Q.nf - 1 } }) (n0 := σ.next) (lo := σ1.next) (u := ((max (upN n d) now : Nat) : Int)) (w := .slice sa Sl.length Sl.length) (Sl := Sl) nx hlB (fun x hx => hfit x ((D.mem x).1 hx).1 ((D.mem x).1 hx).2) hs hSl hL hroom Sl.length _ _ ⟨_, B.r, 0, rfl, ⟨rfl, rfl, rfl, rfl, rfl, rfl, rfl⟩, by omega, ?_, .inl rfl, Nat.le_refl _, ?_⟩) ?_
 ·have e : addL { S with Q := { dropV S.Q Sl L' with F := updF S.Q.F f none, nf := S.Q.nf - 1 } } (Sl.take 0) = { S with Q := { dropV S.Q Sl L' with F := updF S.Q.F f none, nf := S.Q.nf - 1 } } := by simp [addL]
  rw [e]
  exact H1
 ·rcases D.w with h | ⟨a, h1, h2, h3, h4⟩
  ·exact .inl h
  ·exact .inr ⟨a, h1, h2, h3, h4⟩
 intro x fr' σ2 lg2 hlg2 hB2 h
 obtain ⟨rfl, ts2, r', rfl, tl, t4, t5, H2, hr2⟩ := h
 simp only [go_sem, seval, if_pos rfl, opLen, undef, t4, t5, tl]
 refine ⟨Sl, L', r', rfl, ⟨fun z hz => ?_, hr2.imp id (fun h => by omega), H2, D.left, D.mem, D.nd, D.ord, D.len⟩⟩
 simp only [List.mem_append] at hz
 rcases hz with hz | hz
 ·rcases D.lg z hz with h | h
  ·exact .inl (.inr (.inr (.inr (.inr h))))
  ·exact .inr h
 ·rcases hB2 z hz with h | h | h
  ·exact .inl (.inr (.inl h))
  ·exact .inl (.inr (.inr (.inl h)))
  ·exact .inr (by omega)
end Go.Ab
namespace Go.Ab
open Go.Proofs
def cumS (sz : Nat → Nat) : Nat → Nat
 | 0 => 0
 | i + 1 => cumS sz i + sz i
def itN (sz : Nat → Nat) (R j : Nat) : Item := ⟨(j : Nat), (fN (cumS sz (j + 1)) R : Nat), (fD (cumS sz (j + 1)) R : Nat), ((j + 1 : Nat) : Int)⟩
theorem cumS_mono {sz : Nat → Nat} {i j : Nat} (h : i ≤ j) : cumS sz i ≤ cumS sz j := by
  induction j with
  | zero => obtain rfl : i = 0 := by omega
            exact Nat.le_refl _
  | succ j ih =>
    by_cases e : i = j + 1
    · rw [e]; exact Nat.le_refl _
    · have := ih (by omega)
      simp only [cumS]; omega
theorem cumS_lt {sz : Nat → Nat} (hs : ∀ j, 1 ≤ sz j) {i j : Nat} (h : i < j) : cumS sz i < cumS sz j := by
 have h1 := cumS_mono (sz := sz) (i := i + 1) (j := j) (by omega)
 have := hs i
 simp only [cumS] at h1
 omega
theorem cumS_le {sz : Nat → Nat} {m : Nat} (hs : ∀ j, sz j ≤ m) (i : Nat) : cumS sz i ≤ m * i := by
 induction i with
 | zero => simp [cumS]
 | succ i ih => have := hs i; simp only [cumS]; rw [Nat.mul_succ]; omega
theorem f_le {a b R : Nat} (hR : 0 < R) : fN a R * fD b R ≤ fN b R * fD a R ↔ a ≤ b := by
 have h1 := f_cross a R
 have h2 := f_cross b R
 have p1 := fD_pos (a := a) hR
 have p2 := fD_pos (a := b) hR
 have e1 : fN a R * fD b R * R = a * (fD a R * fD b R) := by
  rw [Nat.mul_right_comm, h1, Nat.mul_assoc]
 have e2 : fN b R * fD a R * R = b * (fD a R * fD b R) := by
  rw [Nat.mul_right_comm, h2, Nat.mul_assoc, Nat.mul_comm (fD b R)]
 have pp : 0 < fD a R * fD b R := Nat.mul_pos p1 p2
 constructor
 ·intro h
  have := Nat.mul_le_mul_right R h
  rw [e1, e2] at this
  exact Nat.le_of_mul_le_mul_right this pp
 ·intro h
  have := Nat.mul_le_mul_right (fD a R * fD b R) h
  rw [← e1, ← e2] at this
  exact Nat.le_of_mul_le_mul_right this hR
theorem it_pos (sz : Nat → Nat) {R : Nat} (hR : 0 < R) (j : Nat) : (itN sz R j).pos := by
 have := fD_pos (a := cumS sz (j + 1)) hR
 show (0 : Int) < (fD (cumS sz (j + 1)) R : Nat)
 omega
theorem it_le {sz : Nat → Nat} {R : Nat} (hR : 0 < R) (hs : ∀ j, 1 ≤ sz j) {i j : Nat} (h : cmpItem (itN sz R i) (itN sz R j) ≤ 0) : i ≤ j := by
 apply Decidable.byContradiction
 intro hn
 have hlt := cumS_lt hs (i := j + 1) (j := i + 1) (by omega)
 have h1 : ¬ (fN (cumS sz (i + 1)) R * fD (cumS sz (j + 1)) R ≤ fN (cumS sz (j + 1)) R * fD (cumS sz (i + 1)) R) := by rw [f_le hR]; omega
 rcases cmpItem_le.1 h with h2 | ⟨h2, _⟩
 ·apply h1
  have h3 : ((fN (cumS sz (i + 1)) R : Nat) : Int) * ((fD (cumS sz (j + 1)) R : Nat) : Int) < ((fN (cumS sz (j + 1)) R : Nat) : Int) * ((fD (cumS sz (i + 1)) R : Nat) : Int) := h2
  rw [← Int.natCast_mul, ← Int.natCast_mul] at h3
  omega
 ·apply h1
  have h3 : ((fN (cumS sz (i + 1)) R : Nat) : Int) * ((fD (cumS sz (j + 1)) R : Nat) : Int) = ((fN (cumS sz (j + 1)) R : Nat) : Int) * ((fD (cumS sz (i + 1)) R : Nat) : Int) := h2
  rw [← Int.natCast_mul, ← Int.natCast_mul] at h3
  omega
theorem it_inj {sz : Nat → Nat} {R i j : Nat} (h : (itN sz R i).id = (itN sz R j).id) : i = j := by
 have : ((i : Nat) : Int) = (j : Nat) := h
 omega
theorem le_of_sub {α : Type} : ∀ {N L : List α}, N.Nodup → (∀ z ∈ N, z ∈ L) → N.length ≤ L.length
 | [], _, _, _ => Nat.zero_le _
 | x :: N, L, hn, hs => by
  obtain ⟨s, t, rfl⟩ := List.append_of_mem (hs x (by simp))
  obtain ⟨h1, h2⟩ := List.nodup_cons.1 hn
  have := le_of_sub (N := N) (L := s ++ t) h2 fun z hz => by
   have h3 := hs z (List.mem_cons_of_mem _ hz)
   simp only [List.mem_append, List.mem_cons] at h3 ⊢
   rcases h3 with h | h | h
   ·exact .inl h
   ·exact absurd (h ▸ hz) h1
   ·exact .inr h
  simp only [List.length_append, List.length_cons] at this ⊢
  omega
theorem nodup_of_len {α : Type} : ∀ {L N : List α}, N.Nodup → (∀ z ∈ N, z ∈ L) → L.length ≤ N.length → L.Nodup
 | [], _, _, _, _ => List.nodup_nil
 | x :: L, N, hn, hs, hl => by
  by_cases hx : x ∈ L
  ·have := le_of_sub hn fun z hz => by
    rcases List.mem_cons.1 (hs z hz) with h | h
    ·exact h ▸ hx
    ·exact h
   simp only [List.length_cons] at hl
   omega
  ·by_cases hxN : x ∈ N
   ·obtain ⟨s, t, rfl⟩ := List.append_of_mem hxN
    have hn' : (s ++ t).Nodup := hn.sublist (List.Sublist.append_left (List.sublist_cons_self _ _) _)
    have hxn : x ∉ s ++ t := by
     obtain ⟨h4, h5, h6⟩ := List.nodup_append.1 hn
     intro h7
     rcases List.mem_append.1 h7 with h7 | h7
     ·exact h6 x h7 x (by simp) rfl
     ·exact (List.nodup_cons.1 h5).1 h7
    refine List.nodup_cons.2 ⟨hx, nodup_of_len hn' (fun z hz => ?_) (by simp only [List.length_append, List.length_cons] at hl ⊢; omega)⟩
    rcases List.mem_cons.1 (hs z (by simp only [List.mem_append, List.mem_cons] at hz ⊢; rcases hz with h | h <;> simp [h])) with h | h
    ·exact absurd (h ▸ hz) hxn
    ·exact h
   ·have := le_of_sub hn fun z hz => by
     rcases List.mem_cons.1 (hs z hz) with h | h
     ·exact absurd (h ▸ hz) hxN
     ·exact h
    simp only [List.length_cons] at hl
    omega
structure HPk (sz : Nat → Nat) (R : Nat) (L : List Item) (k i : Nat) : Prop where
 hp : Hp L
 len : L.length + k = i
 mem : ∀ z, z ∈ L ↔ ∃ j, k ≤ j ∧ j < i ∧ z = itN sz R j
section
variable {sz : Nat → Nat} {R : Nat} {L : List Item} {k i : Nat}
theorem HPk.pos (h : HPk sz R L k i) (hR : 0 < R) : AllPos L := fun z hz => by
 obtain ⟨j, _, _, rfl⟩ := (h.mem z).1 hz
 exact it_pos sz hR j
theorem HPk.nodup (h : HPk sz R L k i) : L.Nodup := by
 have hl := h.len
 refine nodup_of_len (N := (List.range' k (i - k)).map (itN sz R)) ?_ (fun z hz => ?_) (by simp; omega)
 ·unfold List.Nodup
  rw [List.pairwise_map]
  exact (List.nodup_range' (step := 1)).imp fun {a b} hab e => hab (it_inj (congrArg Item.id e))
 ·obtain ⟨j, hj, rfl⟩ := List.mem_map.1 hz
  rw [List.mem_range'_1] at hj
  exact (h.mem _).2 ⟨j, hj.1, by omega, rfl⟩
theorem HPk.dist (h : HPk sz R L k i) : Dist L := fun a b x y hx hy e => by
 have hn := h.nodup
 obtain ⟨j, _, _, rfl⟩ := (h.mem x).1 (List.mem_of_getElem? hx)
 obtain ⟨j', _, _, rfl⟩ := (h.mem y).1 (List.mem_of_getElem? hy)
 obtain rfl := it_inj e
 obtain ⟨ha, ea⟩ := List.getElem?_eq_some_iff.1 hx
 obtain ⟨hb, eb⟩ := List.getElem?_eq_some_iff.1 hy
 apply Decidable.byContradiction
 intro hne
 have := List.pairwise_iff_getElem.1 hn
 rcases Nat.lt_or_gt_of_ne hne with h1 | h1
 ·exact this a b ha hb h1 (ea.trans eb.symm)
 ·exact this b a hb ha h1 (eb.trans ea.symm)
theorem HPk.nil (sz : Nat → Nat) (R i : Nat) : HPk sz R [] i i := ⟨fun j _ x y hx => by simp at hx, by simp, fun z => ⟨fun h => absurd h (by simp), fun ⟨j, h1, h2, _⟩ => by omega⟩⟩
theorem HPk.put (h : HPk sz R L k i) (hR : 0 < R) : HPk sz R (riseL (L.length + 1) (L ++ [itN sz R i]) L.length) k (i + 1) := by
 refine ⟨put_heap h.hp (h.pos hR) (it_pos sz hR i), by rw [riseL_length]; have := h.len; simp; omega, fun z => ?_⟩
 rw [riseL_mem_iff, List.mem_append, h.mem]
 have hl := h.len
 constructor
 ·rintro (⟨j, h1, h2, rfl⟩ | hz)
  ·exact ⟨j, h1, by omega, rfl⟩
  ·exact ⟨i, by omega, by omega, by simpa using hz⟩
 ·rintro ⟨j, h1, h2, rfl⟩
  by_cases e : j = i
  ·subst e; exact .inr (by simp)
  ·exact .inl ⟨j, h1, by omega, rfl⟩
theorem HPk.root (h : HPk sz R L k i) (hR : 0 < R) (hs : ∀ j, 1 ≤ sz j) (hk : k < i) : L[0]? = some (itN sz R k) := by
 have hl := h.len
 have h0 : 0 < L.length := by omega
 obtain ⟨x, hx⟩ : ∃ x, L[0]? = some x := ⟨_, List.getElem?_eq_getElem h0⟩
 obtain ⟨j, h1, h2, rfl⟩ := (h.mem x).1 (List.mem_of_getElem? hx)
 obtain ⟨m, hm⟩ := List.getElem?_of_mem ((h.mem (itN sz R k)).2 ⟨k, Nat.le_refl _, hk, rfl⟩)
 have := it_le hR hs (h.hp.root (h.pos hR) m _ _ hx hm)
 obtain rfl : j = k := by omega
 exact hx
theorem HPk.take (h : HPk sz R L k i) (hR : 0 < R) (hs : ∀ j, 1 ≤ sz j) (hk : k < i) : HPk sz R (outL L 0) (k + 1) i := by
 have hx := h.root hR hs hk
 refine ⟨out_heap h.hp (h.pos hR) hx, by rw [outL_length hx]; have := h.len; have := (List.getElem?_eq_some_iff.1 hx).1; omega, fun z => ?_⟩
 rw [outL_mem h.dist hx, h.mem]
 constructor
 ·rintro ⟨⟨j, h1, h2, rfl⟩, h3⟩
  refine ⟨j, ?_, h2, rfl⟩
  have : j ≠ k := fun e => h3 (by rw [e])
  omega
 ·rintro ⟨j, h1, h2, rfl⟩
  exact ⟨⟨j, by omega, h2, rfl⟩, fun e => by have := it_inj e; omega⟩
end
structure QL (sz : Nat → Nat) (R blk : Nat) (Q : QV) (k i : Nat) : Prop where
 hp : HPk sz R Q.L k i
 ki : k ≤ i
 P : Q.P = fun id => if (k : Int) ≤ id ∧ id < (i : Int) then some (1, (sz id.toNat : Int)) else none
 F : Q.F = updF (fun _ => none) 1 (some ⟨blk, R, 1000000, (cumS sz i : Int) - (cumS sz k : Int), (fN (cumS sz i) R : Nat), (fD (cumS sz i) R : Nat)⟩)
 np : Q.np = i - k
 nf : Q.nf = 1
def qsF (sz : Nat → Nat) (R k : Nat) : Nat → List OnV
 | 0 => []
 | m + 1 => qOn (itN sz R k) 1 (sz k : Nat) :: qsF sz R (k + 1) m
section
variable {sz : Nat → Nat} {R blk : Nat} {Q : QV} {k i : Nat}
theorem QL.head (h : QL sz R blk Q k i) (hR : 0 < R) (hs : ∀ j, 1 ≤ sz j) (hs2 : ∀ j, sz j ≤ 60) (hi : i ≤ 20) (hk : k < i) :
  Head Q (itN sz R k) 1 (sz k : Nat) ⟨blk, R, 1000000, (cumS sz i : Int) - (cumS sz k : Int), (fN (cumS sz i) R : Nat), (fD (cumS sz i) R : Nat)⟩ := by
 have h1 := cumS_le hs2 i
 have h2 := cumS_mono (sz := sz) h.ki
 refine ⟨h.hp.root hR hs hk, ?_, by rw [h.F]; exact updF_same _ _ _, ?_, ?_⟩
 ·rw [h.P]
  show (if ((k : Nat) : Int) ≤ ((k : Nat) : Int) ∧ ((k : Nat) : Int) < (i : Int) then some ((1 : Int), (sz (((k : Nat) : Int)).toNat : Int)) else none) = _
  rw [if_pos (by omega)]
  rfl
 ·have := hs k; have := hs2 k; omega
 ·show -100000000 ≤ (cumS sz i : Int) - (cumS sz k : Int) ∧ (cumS sz i : Int) - (cumS sz k : Int) ≤ 100000000
  omega
theorem QL.take (h : QL sz R blk Q k i) (hR : 0 < R) (hs : ∀ j, 1 ≤ sz j) (hk : k < i) {y : Item} {flow size : Int} {x : FlowV} (hh : Head Q y flow size x) :
  y = itN sz R k ∧ flow = 1 ∧ size = (sz k : Nat) ∧ QL sz R blk (takeV Q y flow size x) (k + 1) i := by
 have e1 : y = itN sz R k := by have := hh.head; rw [h.hp.root hR hs hk] at this; exact (Option.some.inj this).symm
 subst e1
 have e2 := hh.pack
 rw [h.P] at e2
 have e3 : some ((1 : Int), (sz k : Int)) = some (flow, size) := by
  rw [← e2]
  show _ = (if ((k : Nat) : Int) ≤ ((k : Nat) : Int) ∧ ((k : Nat) : Int) < (i : Int) then some ((1 : Int), (sz (((k : Nat) : Int)).toNat : Int)) else none)
  rw [if_pos (by omega)]
  rfl
 simp only [Option.some.injEq, Prod.mk.injEq] at e3
 obtain ⟨rfl, rfl⟩ := e3
 have e4 := hh.flow
 rw [h.F, updF_same] at e4
 cases e4
 refine ⟨rfl, rfl, rfl, h.hp.take hR hs hk, by omega, ?_, ?_, ?_, h.nf⟩
 ·funext id
  show updF Q.P ((k : Nat) : Int) none id = _
  by_cases e : id = (k : Int)
  ·subst e; rw [updF_same, if_neg (by omega)]
  ·rw [updF_other _ _ e, h.P]
   show (if _ then _ else _) = _
   by_cases c : (k : Int) ≤ id ∧ id < (i : Int)
   ·rw [if_pos c, if_pos (by omega)]
   ·rw [if_neg c, if_neg (by omega)]
 ·show updF Q.F 1 _ = _
  rw [h.F]
  funext id
  by_cases e : id = 1
  ·subst e
   rw [updF_same, updF_same]
   congr 2
   simp only [cumS]
   omega
  ·rw [updF_other _ _ e, updF_other _ _ e, updF_other _ _ e]
 ·show Q.np - 1 = i - (k + 1)
  rw [h.np]; omega
theorem QL.drains (hR : 0 < R) (hs : ∀ j, 1 ≤ sz j) (hs2 : ∀ j, sz j ≤ 60) (hi : i ≤ 20) : ∀ (m k : Nat) (Q : QV), k + m = i → QL sz R blk Q k i → Drains (qsF sz R k m) Q
 | 0, k, Q, hm, h => by
  have := h.hp.len
  exact List.eq_nil_of_length_eq_zero (by omega)
 | m + 1, k, Q, hm, h => by
  have hh := h.head hR hs hs2 hi (by omega)
  exact ⟨_, _, _, _, hh, rfl, QL.drains hR hs hs2 hi m (k + 1) _ (by omega) (h.take hR hs (by omega) hh).2.2.2⟩
theorem QL.took {Q' : QV} {qs qs' : List OnV} (hR : 0 < R) (hs : ∀ j, 1 ≤ sz j) (ht : Took Q qs Q' qs') : QL sz R blk Q k i → qs = qsF sz R k (i - k) → ∃ k', QL sz R blk Q' k' i ∧ qs' = qsF sz R k' (i - k') := by
 induction ht with
 | refl => exact fun h e => ⟨k, h, e⟩
 | more ht hh ih =>
  intro h e
  obtain ⟨k', h1, h2⟩ := ih h e
  have hk : k' < i := by
   apply Decidable.byContradiction
   intro hn
   have e0 : i - k' = 0 := by omega
   rw [e0] at h2
   simp [qsF] at h2
  obtain ⟨m, hm⟩ : ∃ m, i - k' = m + 1 := ⟨i - k' - 1, by omega⟩
  rw [hm] at h2
  simp only [qsF, List.cons.injEq] at h2
  have e1 : i - (k' + 1) = m := by omega
  exact ⟨k' + 1, (h1.take hR hs hk hh).2.2.2, by rw [e1]; exact h2.2⟩
end
def prO (o : OnV) : Int × Bool := (o.pk.id, o.prom)
def prP (y : Pk) : Int × Bool := (y.id, false)
def onL : Option OnV → List OnV
 | some o => [o]
 | none => []
def restOf (on : Option OnV) (qs : List OnV) (L : List Pk) : List (Int × Bool) := (onL on).map prO ++ (qs.map prO ++ L.map prP)
def bytesO : List OnV → Int
 | [] => 0
 | o :: os => o.left + bytesO os
def bytesOf (on : Option OnV) (qs : List OnV) (L : List Pk) : Int := bytesO (onL on) + bytesO qs + sumP L
theorem Serves.flow {now b : Int} {on on' : Option OnV} {qs qs' out : List OnV} {L L' : List Pk} (h : Serves now b on qs L out on' qs' L') : restOf on qs L = out.map prO ++ restOf on' qs' L' := by
 induction h with
 | zero => rfl
 | empty h => rfl
 | part h h1 => rfl
 | full h h1 k ih => show prO _ :: _ = _; rw [show ∀ (a : Int × Bool) l, a :: l = [a] ++ l from fun _ _ => rfl]; simp only [restOf, onL, List.map_nil, List.nil_append, List.map_cons] at ih ⊢; rw [ih]; rfl
 | nextq h k ih => rw [← ih]; rfl
 | nextl h k ih => rw [← ih]; rfl
theorem Serves.bytes {now b : Int} {on on' : Option OnV} {qs qs' out : List OnV} {L L' : List Pk} (h : Serves now b on qs L out on' qs' L') : bytesOf on' qs' L' + b = bytesOf on qs L ∨ (on' = none ∧ qs' = [] ∧ L' = []) := by
  induction h with
  | zero => left; omega
  | empty h => right; exact ⟨rfl, rfl, rfl⟩
  | part h h1 => left; simp only [bytesOf, onL, bytesO]; omega
  | full h h1 k ih => rcases ih with ih | ih
                      · left; simp only [bytesOf, onL, bytesO] at ih ⊢; omega
                      · exact .inr ih
  | nextq h k ih => rcases ih with ih | ih
                    · left; rw [ih]; simp only [bytesOf, onL, bytesO]; omega
                    · exact .inr ih
  | nextl h k ih => rcases ih with ih | ih
                    · left; rw [ih]; simp only [bytesOf, onL, bytesO, sumP, lineOn]; omega
                    · exact .inr ih
end Go.Ab
namespace Go.Ab
open Go.Proofs
noncomputable def plBody : Code := Tryz.f3.body.getD .skip
noncomputable def plB1 : Code := loopOf (nthC 5 plBody)
structure WL (σ : St) (B : PB) (S : PV) (lo : Nat) : Prop where
 at' : PAt σ B S
 foot : ∀ c, PFoot B S.Q c → lo ≤ c
 lo : lo ≤ σ.next
 rate : S.rate = 60
 most : S.most = 2000
 room : S.V.room = 1000000
structure GL (ts : List Value) (sa : Option Addr) (len cap : Nat) (ahead : Int) (p lb : Nat) : Prop where
 size : ts.length = 191
 t1 : lget ts 1 = .slice sa len cap
 t2 : lget ts 2 = .int .i64 ahead
 t7 : lget ts 7 = .pointer (some ⟨p, 0, none⟩)
 t9 : lget ts 9 = .pointer (some ⟨lb, 0, none⟩)
structure LastAt (σ : St) (B : PB) (S : PV) (lo lb : Nat) (n d : Nat) : Prop where
 get : σ.get lb = some (.cells [.int .i64 n, .int .i64 d] false)
 lt : lo ≤ lb ∧ lb < σ.next
 nf : ¬ PFoot B S.Q lb
def promQ (Q : QV) (x : FlowV) (id size : Int) (n d : Int) : QV := { Q with F := updF Q.F 1 (some { x with bytes := x.bytes + size, n := n, d := d }), P := updF Q.P id (some (1, size)), np := Q.np + 1, L := riseL (Q.L.length + 1) (Q.L ++ [⟨id, n, d, Q.t + 1⟩]) Q.L.length, t := Q.t + 1 }
theorem QL.put {sz : Nat → Nat} {R blk i : Nat} {Q : QV} (h : QL sz R blk Q 0 i) (hR : 0 < R) (ht : Q.t = (i : Nat)) :
  QL sz R blk (promQ Q ⟨blk, R, 1000000, (cumS sz i : Int) - (cumS sz 0 : Int), (fN (cumS sz i) R : Nat), (fD (cumS sz i) R : Nat)⟩ (i : Nat) (sz i : Nat) (fN (cumS sz (i + 1)) R : Nat) (fD (cumS sz (i + 1)) R : Nat)) 0 (i + 1) := by
 have e1 : (⟨((i : Nat) : Int), ((fN (cumS sz (i + 1)) R : Nat) : Int), ((fD (cumS sz (i + 1)) R : Nat) : Int), Q.t + 1⟩ : Item) = itN sz R i := by
  rw [ht]; rfl
 refine ⟨?_, Nat.zero_le _, ?_, ?_, ?_, h.nf⟩
 ·show HPk sz R (riseL (Q.L.length + 1) (Q.L ++ [_]) Q.L.length) 0 (i + 1)
  rw [e1]
  exact h.hp.put hR
 ·funext id
  show updF Q.P ((i : Nat) : Int) (some (1, ((sz i : Nat) : Int))) id = _
  by_cases e : id = (i : Int)
  ·subst e; rw [updF_same, if_pos (by omega)]; rfl
  ·rw [updF_other _ _ e, h.P]
   show (if _ then _ else _) = _
   by_cases c : ((0 : Nat) : Int) ≤ id ∧ id < (i : Int)
   ·rw [if_pos c, if_pos (by omega)]
   ·rw [if_neg c, if_neg (by omega)]
 ·show updF Q.F 1 _ = _
  rw [h.F]
  funext id
  by_cases e : id = 1
  ·subst e
   rw [updF_same, updF_same]
   congr 2
  ·rw [updF_other _ _ e, updF_other _ _ e, updF_other _ _ e]
 ·show Q.np + 1 = i + 1 - 0
  rw [h.np]; omega
theorem prom_foot {B : PB} {Q : QV} {x : FlowV} {A' : List Nat} {id size n d : Int} {N c : Nat} (hF : Q.F 1 = some x) (hA' : ∀ c ∈ A', c ∈ B.b.A ∨ N ≤ c) (hc : PFoot { B with b := { B.b with A := A' } } (promQ Q x id size n d) c) : PFoot B Q c ∨ N ≤ c := by
 rcases hc with h | h | h | h | h
 ·exact .inl (.inl h)
 ·exact .inl (.inr (.inl h))
 ·exact .inl (.inr (.inr (.inl h)))
 ·exact .inl (.inr (.inr (.inr (.inl h))))
 ·rcases h with h | ⟨k, z, hz, rfl⟩
  ·simp only [QB.core, List.mem_cons] at h
   rcases h with h | h | h | h | h | h
   ·exact .inl (.inr (.inr (.inr (.inr (.inl (by simp [QB.core, h]))))))
   ·exact .inl (.inr (.inr (.inr (.inr (.inl (by simp [QB.core, h]))))))
   ·exact .inl (.inr (.inr (.inr (.inr (.inl (by simp [QB.core, h]))))))
   ·exact .inl (.inr (.inr (.inr (.inr (.inl (by simp [QB.core, h]))))))
   ·exact .inl (.inr (.inr (.inr (.inr (.inl (by simp [QB.core, h]))))))
   ·rcases hA' c h with h | h
    ·exact .inl (.inr (.inr (.inr (.inr (.inl (by simp [QB.core, h]))))))
    ·exact .inr h
  ·have e : updF Q.F 1 (some { x with bytes := x.bytes + size, n := n, d := d }) k = some z := hz
   by_cases hk : k = 1
   ·subst hk
    rw [updF_same] at e
    cases e
    exact .inl (.inr (.inr (.inr (.inr (.inr ⟨1, _, hF, rfl⟩)))))
   ·rw [updF_other _ _ hk] at e
    exact .inl (.inr (.inr (.inr (.inr (.inr ⟨k, z, e, rfl⟩)))))
def IL1 (sa : Option Addr) (len cap : Nat) (ahead : Int) (g0 : Option AObj) (sz : Nat → Nat) (R lo m : Nat) (fr : Fr) (σ : St) : Prop :=
 ∃ ts B S blk lb, ∃ i : Nat, fr = ⟨ts, []⟩ ∧ GL ts sa len cap ahead B.p lb ∧ lget ts 10 = .int .i64 i ∧ m + i = len ∧ WL σ B S lo ∧ S.on = none ∧ S.now = 0 ∧ S.V.L = [] ∧ QL sz R blk S.Q 0 i ∧ S.Q.t = (i : Nat) ∧ LastAt σ B S lo lb (fN (cumS sz i) R) (fD (cumS sz i) R) ∧ σ.get 0 = g0
def EL1 (sa : Option Addr) (len cap : Nat) (ahead : Int) (g0 : Option AObj) (sz : Nat → Nat) (R lo : Nat) (x : AX) (fr : Fr) (σ : St) : Prop :=
 x = .exit 0 ∧ ∃ ts B S blk lb, fr = ⟨ts, []⟩ ∧ GL ts sa len cap ahead B.p lb ∧ WL σ B S lo ∧ S.on = none ∧ S.now = 0 ∧ S.V.L = [] ∧ QL sz R blk S.Q 0 len ∧ S.Q.t = (len : Nat) ∧ LastAt σ B S lo lb (fN (cumS sz len) R) (fD (cumS sz len) R) ∧ σ.get 0 = g0
set_option maxHeartbeats 1600000 in
set_option maxRecDepth 20000 in
theorem pl_promise {sa : Option Addr} {len cap : Nat} {ahead : Int} {Z sz : Nat → Nat} {R lo : Nat} {vs : List Value} {g0 : Option AObj} (hol : ∀ σ, opLen (cP Tryz.prog).T σ 22 (.slice sa len cap) = some (.val (.int .i64 (len : Int)) []))
  (hR : 1 ≤ R ∧ R ≤ 60) (hlen : len ≤ 20) (hsa : 0 < len → sa = some ⟨0, 0, some 0⟩) (hg : 0 < len → g0 = some (.cells vs true)) (h0 : 0 < len → 0 < lo) (hZ : ∀ i, i < len → lget? vs i = some (.int .u8 (Z i : Nat)) ∧ Z i ≤ 255) (hsz : ∀ i, sz i = Z i % 60 + 1) :
  ∀ m fr σ, IL1 sa len cap ahead g0 sz R lo m fr σ → loopX Tryz.prog false plB1 fr σ (endL (EL1 sa len cap ahead g0 sz R lo) fun c => lo ≤ c) := by
 refine loop_ind q8 3 (by kernel_rfl) _ _ _ ?_
 rintro m fr σ ⟨ts, B, S, blk, lb, i, rfl, F, h10, hmi, W, hon, hnow, hL, hQ, ht, hlast, h00⟩
 have e1 := F.t1
 have e2 := F.t2
 have e7 := F.t7
 have e9 := F.t9
 have el := F.size
 have hs60 : ∀ j, sz j ≤ 60 := fun j => by rw [hsz]; have := Nat.mod_lt (Z j) (show 0 < 60 by decide); omega
 by_cases hi : i < len
 ·obtain rfl := hsa (by omega)
  obtain rfl := hg (by omega)
  obtain ⟨hz, hz1⟩ := hZ i hi
  have c0 : (i : Int) < (len : Int) := by omega
  have c1 : (0 : Int) ≤ (i : Int) := by omega
  have hn : 0 < σ.next := by have := W.lo; have := h0 (by omega); omega
  have nz : ¬ σ.next = 0 := by omega
  have nz6 : ¬ (60 : Int) = 0 := by decide
  have w1 : IntKind.i64.wrap ((Z i : Nat) : Int) = ((Z i : Nat) : Int) := wrapIN (by omega)
  have md : ((Z i : Nat) : Int).tmod 60 = ((Z i % 60 : Nat) : Int) := rfl
  have hml := Nat.mod_lt (Z i) (show 0 < 60 by decide)
  have w2 : IntKind.i64.wrap ((Z i % 60 : Nat) : Int) = ((Z i % 60 : Nat) : Int) := wrapIN (by omega)
  have w2' : IntKind.i64.wrap (((Z i % 60 : Nat) : Int) + 1) = ((sz i : Nat) : Int) := by
   have : ((Z i % 60 : Nat) : Int) + 1 = ((sz i : Nat) : Int) := by rw [hsz]; omega
   rw [this]; exact wrapIN (by have := hs60 i; omega)
  have w3 : IntKind.i64.wrap ((i : Int) + 1) = ((i + 1 : Nat) : Int) := by
   have : (i : Int) + 1 = ((i + 1 : Nat) : Int) := by omega
   rw [this]; exact wrapIN (by omega)
  have hF : S.Q.F 1 = some ⟨blk, R, 1000000, (cumS sz i : Int) - (cumS sz 0 : Int), (fN (cumS sz i) R : Nat), (fD (cumS sz i) R : Nat)⟩ := by rw [hQ.F]; exact updF_same _ _ _
  have hcl := cumS_le hs60 i
  have hszi := hs60 i
  have hszi1 : 1 ≤ sz i := by rw [hsz]; omega
  have hPn : S.Q.P ((i : Nat) : Int) = none := by
   rw [hQ.P]
   show (if ((0 : Nat) : Int) ≤ ((i : Nat) : Int) ∧ ((i : Nat) : Int) < (i : Int) then _ else none) = none
   rw [if_neg (by omega)]
  have hsum : max (0 * R) (cumS sz i) + sz i = cumS sz (i + 1) := by
   rw [Nat.zero_mul, Nat.max_eq_right (Nat.zero_le _)]; rfl
  have hLl : S.Q.L.length = i := by have := hQ.hp.len; omega
  have hpr := pprom_call W.at' (i : Nat) 1 (sz i) 0 (cumS sz i) R hnow (by rw [W.most]; omega) hF hPn (by omega) (by omega) (by omega) (by omega) rfl rfl rfl (by omega) (by omega) (by show -100000000 ≤ (cumS sz i : Int) - (cumS sz 0 : Int) ∧ (cumS sz i : Int) - (cumS sz 0 : Int) ≤ 100000000; have : cumS sz 0 = 0 := rfl; omega) (by show 0 ≤ (1000000 : Int) ∧ (1000000 : Int) ≤ 1000000000; omega) (by show (cumS sz i : Int) - (cumS sz 0 : Int) + ((sz i : Nat) : Int) ≤ 1000000; have : cumS sz 0 = 0 := rfl; omega) (by rw [hQ.np]; omega) (fun y hy => by
   obtain ⟨j, _, hj, rfl⟩ := (hQ.hp.mem y).1 hy
   show ((j : Nat) : Int) ≠ ((i : Nat) : Int)
   omega) (by omega) (by omega)
  rw [hsum] at hpr
  simp only [go_sem, seval, if_pos rfl, undef, zerosN, plB1, plBody, nthC, loopOf, Tryz.f3, Option.getD, Int.toNat_natCast, Nat.mul_one, e1, e2, e7, e9, el, h10, h00, hol, hn, nz, nz6, c0, c1, hz, w1, w2, md, w2']
  refine callX.hid hpr ?_
  intro σ1 lg1 hlg1 hA
  obtain ⟨hB, A', hA', P1⟩ := hA
  have P1 : PAt σ1 { B with b := { B.b with A := A' } } { S with Q := promQ S.Q ⟨blk, R, 1000000, (cumS sz i : Int) - (cumS sz 0 : Int), (fN (cumS sz i) R : Nat), (fD (cumS sz i) R : Nat)⟩ (i : Nat) (sz i : Nat) (fN (cumS sz (i + 1)) R : Nat) (fD (cumS sz (i + 1)) R : Nat) } := P1
  have nx := hlg1.1
  have hlo := W.lo
  have hz : ∀ z ∈ lg1, lo ≤ z := fun z hz => by
   rcases hB z hz with h | h
   ·exact W.foot z h
   ·omega
  have g0' : σ1.get 0 = some (.cells vs true) := (hlg1.2 0 hn fun hm => by have := hz 0 hm; have := h0 (by omega); omega).trans h00
  have hll := hlast.lt
  have gl1 : σ1.get lb = some (.cells [.int .i64 (fN (cumS sz i) R : Nat), .int .i64 (fD (cumS sz i) R : Nat)] false) := (hlg1.2 lb hll.2 fun hm => by
   rcases hB lb hm with h | h
   ·exact hlast.nf h
   ·omega).trans hlast.get
  have hl1 : lb < σ1.next := by omega
  have nl1 : ¬ lb = 0 := by have := h0 (by omega); omega
  have hn1 : 0 < σ1.next := by omega
  have hQ1 := hQ.put (show 0 < R by omega) ht
  have hft : ∀ c, PFoot { B with b := { B.b with A := A' } } (promQ S.Q ⟨blk, R, 1000000, (cumS sz i : Int) - (cumS sz 0 : Int), (fN (cumS sz i) R : Nat), (fD (cumS sz i) R : Nat)⟩ (i : Nat) (sz i : Nat) (fN (cumS sz (i + 1)) R : Nat) (fD (cumS sz (i + 1)) R : Nat)) c → PFoot B S.Q c ∨ σ.next ≤ c := fun c hc => prom_foot hF hA' hc
  have nl2 : ¬ PFoot { B with b := { B.b with A := A' } } (promQ S.Q ⟨blk, R, 1000000, (cumS sz i : Int) - (cumS sz 0 : Int), (fN (cumS sz i) R : Nat), (fD (cumS sz i) R : Nat)⟩ (i : Nat) (sz i : Nat) (fN (cumS sz (i + 1)) R : Nat) (fD (cumS sz (i + 1)) R : Nat)) lb := fun h => by
   rcases hft lb h with h | h
   ·exact hlast.nf h
   ·omega
  refine ⟨?_⟩
  simp only [go_sem, seval, if_pos rfl, undef, zerosN, e1, e2, e7, e9, el, h10, w3, gl1, hl1]
  have kc : ∀ c, c < σ1.next → c ≠ lb → ∀ o o' o'', (((σ1.new o).set σ1.next o').set lb o'').get c = σ1.get c := fun c h1 h2 o o' o'' => by
   rw [St.get_set, if_neg (Ne.symm h2), St.get_set, if_neg (by omega), St.get_new, if_neg (by omega)]
  refine ⟨fun c hc => ?_, m - 1, by omega, _, { B with b := { B.b with A := A' } }, _, blk, lb, i + 1, rfl, ⟨by simp only [List.length_set, el], by simp only [go_sem, seval, if_pos rfl, el, e1], by simp only [go_sem, seval, if_pos rfl, el, e2], by simp only [go_sem, seval, if_pos rfl, el, e7], by simp only [go_sem, seval, if_pos rfl, el, e9]⟩, by simp only [go_sem, seval, if_pos rfl, el], by omega, ⟨P1.keep ?_ ?_, ?_, ?_, W.rate, W.most, W.room⟩, hon, hnow, hL, hQ1, ?_, ⟨?_, ⟨hll.1, ?_⟩, nl2⟩, ?_⟩
  ·rcases hc with (hc | hc) | hc
   ·exact hz c hc
   ·omega
   ·omega
  ·show σ1.next ≤ σ1.next + 1
   omega
  ·exact fun c hc => kc c (P1.in_lt hc) (fun e => nl2 (e ▸ hc)) _ _ _
  ·intro c hc
   rcases hft c hc with h | h
   ·exact W.foot c h
   ·omega
  ·show lo ≤ σ1.next + 1
   omega
  ·show S.Q.t + 1 = ((i + 1 : Nat) : Int)
   rw [ht]; rfl
  ·rw [St.get_set, if_pos rfl]
  ·show lb < σ1.next + 1
   omega
  ·exact (kc 0 hn1 (fun e => nl1 e.symm) _ _ _).trans g0'
 ·have c0 : ¬ (i : Int) < (len : Int) := by omega
  obtain rfl : i = len := by omega
  simp only [go_sem, seval, if_pos rfl, undef, plB1, plBody, nthC, loopOf, Tryz.f3, Option.getD, e1, e2, e7, e9, el, h10, hol, c0]
  exact ⟨rfl, _, B, S, blk, lb, rfl, ⟨by simp only [List.length_set, el], by simp only [go_sem, seval, if_pos rfl, el, e1], by simp only [go_sem, seval, if_pos rfl, el, e2], by simp only [go_sem, seval, if_pos rfl, el, e7], by simp only [go_sem, seval, if_pos rfl, el, e9]⟩, W, hon, hnow, hL, hQ, ht, hlast, h00⟩
end Go.Ab
namespace Go.Ab
open Go.Proofs
def expL (f : Nat → Bool) : Nat → Nat → List (Int × Bool)
 | _, 0 => []
 | s, m + 1 => (((s : Nat) : Int), f s) :: expL f (s + 1) m
theorem expL_length (f : Nat → Bool) : ∀ m s, (expL f s m).length = m
 | 0, _ => rfl
 | m + 1, s => by simp [expL, expL_length f m]
theorem expL_split {f : Nat → Bool} : ∀ (A : List (Int × Bool)) (s m : Nat) (B : List (Int × Bool)), expL f s m = A ++ B → A.length ≤ m ∧ B = expL f (s + A.length) (m - A.length) ∧ A = expL f s A.length
 | [], s, m, B, h => ⟨Nat.zero_le _, h.symm, rfl⟩
 | x :: A, s, 0, B, h => by simp [expL] at h
 | x :: A, s, m + 1, B, h => by
  simp only [expL, List.cons_append, List.cons.injEq] at h
  obtain ⟨h1, h2, h3⟩ := expL_split A (s + 1) m B h.2
  refine ⟨by simp; omega, ?_, ?_⟩
  ·rw [h2]; congr 1 <;> simp <;> omega
  ·rw [List.length_cons]; simp only [expL]; rw [← h.1, ← h3]
theorem expL_get {f : Nat → Bool} : ∀ (m s q : Nat), q < m → (expL f s m)[q]? = some (((s + q : Nat) : Int), f (s + q))
 | 0, _, _, h => by omega
 | m + 1, s, 0, _ => rfl
 | m + 1, s, q + 1, h => by
  show (expL f (s + 1) m)[q]? = _
  rw [expL_get m (s + 1) q (by omega)]
  have e : s + 1 + q = s + (q + 1) := by omega
  rw [e]
theorem qsF_mem {sz : Nat → Nat} {R : Nat} : ∀ (m k : Nat) (x : OnV), x ∈ qsF sz R k m → ∃ j, x = qOn (itN sz R j) 1 (sz j : Nat)
 | 0, _, _, h => by simp [qsF] at h
 | m + 1, k, x, h => by
  simp only [qsF, List.mem_cons] at h
  rcases h with h | h
  ·exact ⟨k, h⟩
  ·exact qsF_mem m (k + 1) x h
theorem qsF_pr {sz : Nat → Nat} {R : Nat} : ∀ (m k : Nat), (qsF sz R k m).map prO = expL (fun _ => true) k m
 | 0, _ => rfl
 | m + 1, k => by simp only [qsF, List.map_cons, expL, qsF_pr m (k + 1)]; rfl
theorem qsF_bytes {sz : Nat → Nat} {R : Nat} : ∀ (m k : Nat), bytesO (qsF sz R k m) + (cumS sz k : Int) = (cumS sz (k + m) : Int)
 | 0, k => by simp [qsF, bytesO]
 | m + 1, k => by
  have := qsF_bytes (sz := sz) (R := R) m (k + 1)
  simp only [qsF, bytesO]
  have e : k + 1 + m = k + (m + 1) := by omega
  rw [e] at this
  have h2 : (cumS sz (k + 1) : Int) = (cumS sz k : Int) + (sz k : Int) := by simp only [cumS]; omega
  show ((sz k : Nat) : Int) + bytesO (qsF sz R (k + 1) m) + _ = _
  omega
theorem Serves.nil {now b : Int} {on on' : Option OnV} {qs qs' out : List OnV} {L L' : List Pk} (h : Serves now b on qs L out on' qs' L') : L = [] → L' = [] := by
 induction h with
 | zero => exact id
 | empty h => exact id
 | part h h1 => exact id
 | full h h1 k ih => exact ih
 | nextq h k ih => exact ih
 | nextl h k ih => exact fun e => by cases e
theorem Serves.less {now b : Int} {on on' : Option OnV} {qs qs' out : List OnV} {L L' : List Pk} (h : Serves now b on qs L out on' qs' L') (hb : 0 ≤ b) (h0 : 0 ≤ bytesOf on qs L) : bytesOf on' qs' L' ≤ bytesOf on qs L := by
 rcases h.bytes with h1 | ⟨rfl, rfl, rfl⟩
 ·omega
 ·exact h0
theorem bytesO_nonneg : ∀ (l : List OnV), (∀ x ∈ l, 1 ≤ x.left) → 0 ≤ bytesO l
 | [], _ => Int.le_refl _
 | x :: l, h => by
  have h1 := h x (by simp)
  have h2 := bytesO_nonneg l fun y hy => h y (by simp [hy])
  simp only [bytesO]; omega
theorem sumP_nonneg : ∀ (l : List Pk), (∀ x ∈ l, 1 ≤ x.size) → 0 ≤ sumP l
 | [], _ => Int.le_refl _
 | x :: l, h => by
  have h1 := h x (by simp)
  have h2 := sumP_nonneg l fun y hy => h y (by simp [hy])
  simp only [sumP]; omega
theorem Sizes.nonneg {on : Option OnV} {qs : List OnV} {L : List Pk} (h : Sizes on qs L) : 0 ≤ bytesOf on qs L := by
 have h1 := bytesO_nonneg qs fun x hx => (h.qs x hx).1
 have h2 := sumP_nonneg L fun x hx => (h.L x hx).1
 have h3 : 0 ≤ bytesO (onL on) := by
  cases on with
  | none => exact Int.le_refl _
  | some o => have := (h.on o rfl).1; simp only [onL, bytesO]; omega
 unfold bytesOf; omega
structure PA (σ : St) (B : PB) (S : PV) (lo lb : Nat) (sz : Nat → Nat) (R blk len k s : Nat) : Prop where
 w : WL σ B S lo
 L : S.V.L = []
 q : QL sz R blk S.Q k len
 size : Sizes S.on (qsF sz R k (len - k)) []
 flow : restOf S.on (qsF sz R k (len - k)) [] = expL (fun _ => true) s (len - s)
 sl : s ≤ len
 bytes : bytesOf S.on (qsF sz R k (len - k)) [] ≤ 1200
 last : LastAt σ B S lo lb (fN (cumS sz len) R) (fD (cumS sz len) R)
theorem Served.wl {σ σ' : St} {B : PB} {S S' : PV} {qs qs' out : List OnV} {v : Value} {o : Option Nat} {lo : Nat} {lg : Log} (W : WL σ B S lo) (h : Served σ B S qs σ' v o S' qs' out) (hl : Logged σ σ' lg) : WL σ' { B with o := o } S' lo :=
 ⟨h.at', fun c hc => by
  rcases hc with hc | hc | hc | hc | hc
  ·exact W.foot c (.inl hc)
  ·exact W.foot c (.inr (.inl hc))
  ·exact W.foot c (.inr (.inr (.inl hc)))
  ·rcases h.o c hc with h' | h'
   ·exact W.foot c (.inr (.inr (.inr (.inl h'))))
   ·have := W.lo; omega
  ·exact W.foot c (.inr (.inr (.inr (.inr (h.ft c hc))))), by have := W.lo; have := hl.1; omega, h.al.rate.trans W.rate, h.al.most.trans W.most, h.al.room.trans W.room⟩
theorem Served.foot {σ σ' : St} {B : PB} {S S' : PV} {qs qs' out : List OnV} {v : Value} {o : Option Nat} (h : Served σ B S qs σ' v o S' qs' out) {c : Nat} (hc : PFoot { B with o := o } S'.Q c) : PFoot B S.Q c ∨ σ.next ≤ c := by
 rcases hc with hc | hc | hc | hc | hc
 ·exact .inl (.inl hc)
 ·exact .inl (.inr (.inl hc))
 ·exact .inl (.inr (.inr (.inl hc)))
 ·rcases h.o c hc with h' | h'
  ·exact .inl (.inr (.inr (.inr (.inl h'))))
  ·exact .inr h'
 ·exact .inl (.inr (.inr (.inr (.inr (h.ft c hc)))))
theorem LastAt.serve {σ σ' : St} {B : PB} {S S' : PV} {qs qs' out : List OnV} {v : Value} {o : Option Nat} {lo lb n d : Nat} {lg : Log} (H : LastAt σ B S lo lb n d) (h : Served σ B S qs σ' v o S' qs' out) (hl : Logged σ σ' lg) (hB : ∀ z ∈ lg, PFoot B S.Q z ∨ σ.next ≤ z) : LastAt σ' { B with o := o } S' lo lb n d :=
  ⟨(hl.2 lb H.lt.2 fun hm => by
    rcases hB lb hm with h | h
    · exact H.nf h
    · have := H.lt; omega).trans H.get, by have := H.lt; have := hl.1; omega, fun hc => by
    rcases h.foot hc with h | h
    · exact H.nf h
    · have := H.lt; omega⟩
theorem PA.tick {σ σ' : St} {B : PB} {S S' : PV} {qs' out : List OnV} {v : Value} {o : Option Nat} {lo lb : Nat} {sz : Nat → Nat} {R blk len k s : Nat} {lg : Log} (H : PA σ B S lo lb sz R blk len k s) (hR : 0 < R) (hs : ∀ j, 1 ≤ sz j) (hlen : len ≤ 20) (h : Served σ B S (qsF sz R k (len - k)) σ' v o S' qs' out) (hl : Logged σ σ' lg) (hB : ∀ z ∈ lg, PFoot B S.Q z ∨ σ.next ≤ z) :
  ∃ k', PA σ' { B with o := o } S' lo lb sz R blk len k' (s + out.length) := by
 obtain ⟨k', hq, rfl⟩ := QL.took hR hs h.tk H.q rfl
 have hsv := h.sv
 rw [H.L] at hsv
 have hL' := hsv.nil rfl
 rw [hL'] at hsv
 have h1 := hsv.flow
 rw [H.flow] at h1
 obtain ⟨a1, a2, a3⟩ := expL_split _ _ _ _ h1
 rw [List.length_map] at a1 a2
 have hsl := H.sl
 have hsz := h.sz
 rw [hL'] at hsz
 refine ⟨k', h.wl H.w hl, hL', hq, hsz, ?_, by omega, ?_, H.last.serve h hl hB⟩
 ·rw [a2]; congr 1; omega
 ·have := hsv.less (by rw [H.w.rate]; omega) H.size.nonneg
  have := H.bytes
  omega
noncomputable def plB2 : Code := loopOf (nthC 7 plBody)
def IL2 (sa : Option Addr) (len cap a : Nat) (sz : Nat → Nat) (R lo m : Nat) (fr : Fr) (σ : St) : Prop :=
 ∃ (ts : List Value) (B : PB) (S : PV) (blk lb k s i : Nat), fr = ⟨ts, []⟩ ∧ GL ts sa len cap (a : Nat) B.p lb ∧ lget ts 13 = .int .i64 (s : Nat) ∧ lget ts 14 = .int .i64 i ∧ m + i = a ∧ S.now = (i : Nat) ∧ PA σ B S lo lb sz R blk len k s
def EL2 (sa : Option Addr) (len cap a : Nat) (sz : Nat → Nat) (R lo : Nat) (x : AX) (fr : Fr) (σ : St) : Prop :=
 x = .exit 2 ∧ ∃ (ts : List Value) (B : PB) (S : PV) (blk lb k s : Nat), fr = ⟨ts, []⟩ ∧ GL ts sa len cap (a : Nat) B.p lb ∧ lget ts 13 = .int .i64 (s : Nat) ∧ S.now = (a : Nat) ∧ PA σ B S lo lb sz R blk len k s
theorem und35s : (cP Tryz.prog).T.und 35 = some (.slice 45) := (cx_und 35).trans Tryz.underlying35
theorem SoS.len {lo : Nat} {σ : St} {v : Value} {L : List OnV} (h : SoS lo σ v L) : ∃ sa, v = .slice sa L.length L.length ∧ ∀ σ, opLen (cP Tryz.prog).T σ 35 (.slice sa L.length L.length) = some (.val (.int .i64 (L.length : Nat)) []) := by
 rcases h with ⟨rfl, rfl⟩ | ⟨a, rfl, _⟩
 ·exact ⟨_, rfl, fun σ => by simp only [opLen, und35s]; rfl⟩
 ·exact ⟨_, rfl, fun σ => by simp only [opLen, und35s]⟩
set_option maxHeartbeats 1600000 in
set_option maxRecDepth 20000 in
theorem pl_ahead {sa : Option Addr} {len cap a : Nat} {sz : Nat → Nat} {R lo : Nat} (hR : 1 ≤ R ∧ R ≤ 60) (hlen : len ≤ 20) (ha : a ≤ 5) (hs : ∀ j, 1 ≤ sz j) (hs2 : ∀ j, sz j ≤ 60) :
  ∀ m fr σ, IL2 sa len cap a sz R lo m fr σ → loopX Tryz.prog false plB2 fr σ (endL (EL2 sa len cap a sz R lo) fun c => lo ≤ c) := by
 refine loop_ind q8 3 (by kernel_rfl) _ _ _ ?_
 rintro m fr σ ⟨ts, B, S, blk, lb, k, s, i, rfl, F, h13, h14, hmi, hnow, H⟩
 have e1 := F.t1
 have e2 := F.t2
 have e7 := F.t7
 have e9 := F.t9
 have el := F.size
 by_cases hi : i < a
 ·have c0 : (i : Int) < (a : Int) := by omega
  have w3 : IntKind.i64.wrap ((i : Int) + 1) = ((i + 1 : Nat) : Int) := by
   have : (i : Int) + 1 = ((i + 1 : Nat) : Int) := by omega
   rw [this]; exact wrapIN (by omega)
  have hD := QL.drains (show 0 < R by omega) hs hs2 hlen (len - k) k S.Q (by have := H.q.ki; omega) H.q
  have hsv := serve_call H.w.at' hD (by rw [H.L]; exact H.size) (by omega) (by rw [H.w.rate]; omega)
  simp only [go_sem, seval, if_pos rfl, undef, plB2, plBody, nthC, loopOf, Tryz.f3, Option.getD, e1, e2, e7, e9, el, h13, h14, c0]
  refine callX.hidE hsv ?_
  intro e σ1 lg1 hlg1 hA
  obtain ⟨v, o, S', qs', out, rfl, hB, hV⟩ := hA
  obtain ⟨k', H1⟩ := H.tick (by omega) hs hlen hV hlg1 hB
  obtain ⟨va, rfl, hvl⟩ := hV.so.len
  have hlo := H.w.lo
  have hz : ∀ z ∈ lg1, lo ≤ z := fun z hz => by
   rcases hB z hz with h | h
   ·exact H.w.foot z h
   ·omega
  have hsl := H1.sl
  have w4 : IntKind.i64.wrap ((s : Int) + (out.length : Int)) = ((s + out.length : Nat) : Int) := by
   have : (s : Int) + (out.length : Int) = ((s + out.length : Nat) : Int) := by omega
   rw [this]; exact wrapIN (by omega)
  have hnow' : S'.now = ((i + 1 : Nat) : Int) := by rw [hV.al.now]; show S.now + 1 = _; omega
  refine ⟨?_⟩
  simp only [go_sem, seval, if_pos rfl, undef, e1, e2, e7, e9, el, h13, h14, hvl, w3, w4]
  exact ⟨hz, m - 1, by omega, _, { B with o := o }, S', blk, lb, k', s + out.length, i + 1, rfl, ⟨by simp only [List.length_set, el], by simp only [go_sem, seval, if_pos rfl, el, e1], by simp only [go_sem, seval, if_pos rfl, el, e2], by simp only [go_sem, seval, if_pos rfl, el, e7], by simp only [go_sem, seval, if_pos rfl, el, e9]⟩, by simp only [go_sem, seval, if_pos rfl, el], by simp only [go_sem, seval, if_pos rfl, el], by omega, hnow', H1⟩
 ·have c0 : ¬ (i : Int) < (a : Int) := by omega
  obtain rfl : i = a := by omega
  simp only [go_sem, seval, if_pos rfl, undef, plB2, plBody, nthC, loopOf, Tryz.f3, Option.getD, e1, e2, e7, e9, el, h13, h14, c0]
  exact ⟨rfl, _, B, S, blk, lb, k, s, rfl, ⟨by simp only [List.length_set, el], by simp only [go_sem, seval, if_pos rfl, el, e1], by simp only [go_sem, seval, if_pos rfl, el, e2], by simp only [go_sem, seval, if_pos rfl, el, e7], by simp only [go_sem, seval, if_pos rfl, el, e9]⟩, by simp only [go_sem, seval, if_pos rfl, el, h13], hnow, H⟩
end Go.Ab
namespace Go.Ab
open Go.Proofs
def pkF (sz : Nat → Nat) (k : Nat) : Nat → List Pk
 | 0 => []
 | m + 1 => ⟨(k : Nat), 1, (sz k : Nat)⟩ :: pkF sz (k + 1) m
theorem pkF_mem {sz : Nat → Nat} : ∀ (m k : Nat) (x : Pk), x ∈ pkF sz k m ↔ ∃ j, k ≤ j ∧ j < k + m ∧ x = ⟨(j : Nat), 1, (sz j : Nat)⟩
 | 0, k, x => ⟨fun h => by simp [pkF] at h, fun ⟨j, h1, h2, _⟩ => by omega⟩
 | m + 1, k, x => by
  simp only [pkF, List.mem_cons, pkF_mem m (k + 1) x]
  constructor
  ·rintro (rfl | ⟨j, h1, h2, rfl⟩)
   ·exact ⟨k, Nat.le_refl _, by omega, rfl⟩
   ·exact ⟨j, by omega, by omega, rfl⟩
  ·rintro ⟨j, h1, h2, rfl⟩
   by_cases e : j = k
   ·subst e; exact .inl rfl
   ·exact .inr ⟨j, by omega, by omega, rfl⟩
theorem pkF_sorted {sz : Nat → Nat} : ∀ (m k : Nat), (pkF sz k m).Pairwise fun x y => x.id < y.id
 | 0, _ => List.Pairwise.nil
 | m + 1, k => List.pairwise_cons.2 ⟨fun y hy => by
   obtain ⟨j, h1, h2, rfl⟩ := (pkF_mem m (k + 1) y).1 hy
   show ((k : Nat) : Int) < ((j : Nat) : Int)
   omega, pkF_sorted m (k + 1)⟩
theorem pkF_pr {sz : Nat → Nat} : ∀ (m k : Nat), (pkF sz k m).map prP = expL (fun _ => false) k m
 | 0, _ => rfl
 | m + 1, k => by simp only [pkF, List.map_cons, expL, pkF_pr m (k + 1)]; rfl
theorem pkF_sum {sz : Nat → Nat} : ∀ (m k : Nat), sumP (pkF sz k m) + (cumS sz k : Int) = (cumS sz (k + m) : Int)
 | 0, k => by simp [pkF, sumP]
 | m + 1, k => by
  have := pkF_sum (sz := sz) m (k + 1)
  have e : k + 1 + m = k + (m + 1) := by omega
  rw [e] at this
  have h2 : (cumS sz (k + 1) : Int) = (cumS sz k : Int) + (sz k : Int) := by simp only [cumS]; omega
  show ((sz k : Nat) : Int) + sumP (pkF sz (k + 1) m) + _ = _
  omega
theorem sorted_ext : ∀ {l l' : List Pk}, (l.Pairwise fun x y => x.id < y.id) → (l'.Pairwise fun x y => x.id < y.id) → (∀ x, x ∈ l ↔ x ∈ l') → l = l'
 | [], [], _, _, _ => rfl
 | [], y :: l', _, _, h => absurd ((h y).2 (by simp)) (by simp)
 | x :: l, [], _, _, h => absurd ((h x).1 (by simp)) (by simp)
 | x :: l, y :: l', h1, h2, h => by
  obtain ⟨a1, a2⟩ := List.pairwise_cons.1 h1
  obtain ⟨b1, b2⟩ := List.pairwise_cons.1 h2
  have hxy : x = y := by
   rcases List.mem_cons.1 ((h x).1 (by simp)) with e | e
   ·exact e
   ·rcases List.mem_cons.1 ((h y).2 (by simp)) with e' | e'
    ·exact e'.symm
    ·have := b1 x e; have := a1 y e'; omega
  subst hxy
  rw [sorted_ext a2 b2 fun z => ?_]
  constructor
  ·intro hz
   rcases List.mem_cons.1 ((h z).1 (List.mem_cons_of_mem _ hz)) with e | e
   ·subst e; have := a1 z hz; omega
   ·exact e
  ·intro hz
   rcases List.mem_cons.1 ((h z).2 (List.mem_cons_of_mem _ hz)) with e | e
   ·subst e; have := b1 z hz; omega
   ·exact e
def tnL (id : Int) : Int := id + 1
theorem dropped_is {sz : Nat → Nat} {R blk k len : Nat} {Q : QV} {Sl : List Pk} (hQ : QL sz R blk Q k len) (hm : ∀ x, x ∈ Sl ↔ Q.P x.id = some (x.flow, x.size) ∧ x.flow = 1) (hn : (Sl.map Pk.id).Nodup) (ho : Sl.Pairwise fun x y => tnL x.id ≤ tnL y.id) : Sl = pkF sz k (len - k) := by
 refine sorted_ext ?_ (pkF_sorted _ _) fun x => ?_
 ·unfold List.Nodup at hn
  rw [List.pairwise_map] at hn
  exact (ho.and hn).imp fun {a b} h => by have := h.1; have := h.2; simp only [tnL] at *; omega
 ·rw [hm, pkF_mem, hQ.P]
  have hki := hQ.ki
  show ((if (k : Int) ≤ x.id ∧ x.id < (len : Int) then some ((1 : Int), (sz x.id.toNat : Int)) else none) = some (x.flow, x.size) ∧ x.flow = 1) ↔ _
  constructor
  ·rintro ⟨h1, h2⟩
   by_cases c : (k : Int) ≤ x.id ∧ x.id < (len : Int)
   ·rw [if_pos c] at h1
    simp only [Option.some.injEq, Prod.mk.injEq] at h1
    refine ⟨x.id.toNat, by omega, by omega, ?_⟩
    obtain ⟨a, b, c'⟩ := x
    simp only at h1 h2 c ⊢
    have e : ((a.toNat : Nat) : Int) = a := by omega
    rw [e, h1.2, h2]
   ·rw [if_neg c] at h1; cases h1
  ·rintro ⟨j, h1, h2, rfl⟩
   refine ⟨?_, rfl⟩
   show (if (k : Int) ≤ ((j : Nat) : Int) ∧ ((j : Nat) : Int) < (len : Int) then some ((1 : Int), (sz ((j : Nat) : Int).toNat : Int)) else none) = _
   rw [if_pos (by omega)]
   rfl
theorem left_nil {sz : Nat → Nat} {R blk k len : Nat} {Q : QV} {L' : List Item} (hQ : QL sz R blk Q k len) (h : Left Q.L L' (pkF sz k (len - k))) : L' = [] := by
 refine List.eq_nil_iff_forall_not_mem.2 fun z hz => ?_
 obtain ⟨h1, h2⟩ := (h.mem z).1 hz
 obtain ⟨j, h3, h4, rfl⟩ := (hQ.hp.mem z).1 h1
 exact h2 (List.mem_map.2 ⟨⟨(j : Nat), 1, (sz j : Nat)⟩, (pkF_mem _ _ _).2 ⟨j, h3, by omega, rfl⟩, rfl⟩)
theorem expL_congr {f g : Nat → Bool} : ∀ (m s : Nat), (∀ j, s ≤ j → f j = g j) → expL f s m = expL g s m
 | 0, _, _ => rfl
 | m + 1, s, h => by
  simp only [expL]
  rw [h s (Nat.le_refl _), expL_congr m (s + 1) fun j hj => h j (by omega)]
def firstF (onb : Bool) (s0 j : Nat) : Bool := onb && decide (j = s0)
theorem flow_drop {sz : Nat → Nat} {R k s len : Nat} {on : Option OnV} (hk : k ≤ len) (hs : s ≤ len) (h : restOf on (qsF sz R k (len - k)) [] = expL (fun _ => true) s (len - s)) : restOf on [] (pkF sz k (len - k)) = expL (firstF on.isSome s) s (len - s) := by
 have hl := congrArg List.length h
 rw [expL_length] at hl
 cases on with
 | none =>
  have hq : (qsF sz R k (len - k)).length = len - k := by
   have := congrArg List.length (qsF_pr (sz := sz) (R := R) (len - k) k)
   rw [List.length_map, expL_length] at this
   exact this
  simp only [restOf, onL, List.map_nil, List.nil_append, List.append_nil, List.length_map, hq] at hl
  obtain rfl : k = s := by omega
  show (pkF sz k (len - k)).map prP = _
  rw [pkF_pr]
  exact expL_congr _ _ fun j _ => rfl
 | some o =>
  have hq : (qsF sz R k (len - k)).length = len - k := by
   have := congrArg List.length (qsF_pr (sz := sz) (R := R) (len - k) k)
   rw [List.length_map, expL_length] at this
   exact this
  simp only [restOf, onL, List.map_cons, List.map_nil, List.cons_append, List.nil_append, List.append_nil, List.length_cons, List.length_map, hq] at hl
  obtain rfl : k = s + 1 := by omega
  have e : len - s = (len - (s + 1)) + 1 := by omega
  rw [e] at h ⊢
  simp only [restOf, onL, List.map_cons, List.map_nil, List.cons_append, List.nil_append, List.append_nil, expL, List.cons.injEq] at h ⊢
  refine ⟨?_, ?_⟩
  ·rw [h.1]; simp [firstF]
  ·rw [pkF_pr]
   exact expL_congr _ _ fun j hj => by simp [firstF]; omega
structure PZ (σ : St) (B : PB) (S : PV) (lo len s i : Nat) (f : Nat → Bool) : Prop where
 w : WL σ B S lo
 q : S.Q.L = []
 size : Sizes S.on [] S.V.L
 flow : restOf S.on [] S.V.L = expL f s (len - s)
 sl : s ≤ len
 bytes : bytesOf S.on [] S.V.L = 0 ∨ bytesOf S.on [] S.V.L + 60 * (i : Int) ≤ 1200
theorem PZ.tick {σ σ' : St} {B : PB} {S S' : PV} {qs' out : List OnV} {v : Value} {o : Option Nat} {lo len s i : Nat} {f : Nat → Bool} {lg : Log} (H : PZ σ B S lo len s i f) (h : Served σ B S [] σ' v o S' qs' out) (hl : Logged σ σ' lg) :
  PZ σ' { B with o := o } S' lo len (s + out.length) (i + 1) f ∧ out.map prO = expL f s out.length := by
 obtain ⟨hQ, rfl⟩ := h.tk.nil rfl
 have h1 := h.sv.flow
 rw [H.flow] at h1
 obtain ⟨a1, a2, a3⟩ := expL_split _ _ _ _ h1
 rw [List.length_map] at a1 a2 a3
 have hsl := H.sl
 refine ⟨⟨h.wl H.w hl, by rw [hQ]; exact H.q, h.sz, ?_, by omega, ?_⟩, a3⟩
 ·rw [a2]; congr 1; omega
 ·have hb := h.sv.bytes
  rw [H.w.rate] at hb
  have h0 := h.sz.nonneg
  rcases hb with hb | ⟨e1, _, e3⟩
  ·rcases H.bytes with h2 | h2
   ·omega
   ·right; push_cast; omega
  ·left
   rw [e1, e3]; rfl
theorem PZ.more {σ : St} {B : PB} {S : PV} {lo len s i : Nat} {f : Nat → Bool} (H : PZ σ B S lo len s i f) (h : s < len) : i < 20 := by
 have hp : 0 < bytesOf S.on [] S.V.L := by
  have hf := congrArg List.length H.flow
  rw [expL_length] at hf
  have hz := H.size
  cases hon : S.on with
  | some o =>
   have h1 := (hz.on o hon).1
   have h2 := sumP_nonneg S.V.L fun x hx => (hz.L x hx).1
   simp only [bytesOf, onL, bytesO]
   omega
  | none =>
   rw [hon] at hf
   simp only [restOf, onL, List.map_nil, List.nil_append, List.length_map] at hf
   cases hL : S.V.L with
   | nil => rw [hL] at hf; simp at hf; omega
   | cons x l =>
    have h1 := (hz.L x (by rw [hL]; simp)).1
    have h2 := sumP_nonneg l fun y hy => (hz.L y (by rw [hL]; simp [hy])).1
    simp only [bytesOf, onL, bytesO, sumP]
    omega
 rcases H.bytes with h1 | h1
 ·omega
 ·omega
end Go.Ab
namespace Go.Ab
open Go.Proofs
theorem cellsO_id : ∀ {L : List OnV} {q : Nat} {o : OnV}, L[q]? = some o → lget? (cellsO L) (q * 7) = some (.int .i64 o.pk.id)
 | [], _, _, h => by simp at h
 | x :: L, 0, o, h => by simp only [List.getElem?_cons_zero, Option.some.injEq] at h; subst h; rfl
 | x :: L, q + 1, o, h => by
  have := cellsO_id (L := L) (q := q) (by simpa using h)
  rw [lget?_eq] at this ⊢
  have e : (q + 1) * 7 = 7 + q * 7 := by omega
  rw [e]
  show (x.sent ++ cellsO L)[7 + q * 7]? = _
  rw [List.getElem?_append_right (by simp [OnV.sent])]
  simpa [OnV.sent] using this
theorem cellsO_prom : ∀ {L : List OnV} {q : Nat} {o : OnV}, L[q]? = some o → lget? (cellsO L) (q * 7 + 3) = some (.bool o.prom)
 | [], _, _, h => by simp at h
 | x :: L, 0, o, h => by simp only [List.getElem?_cons_zero, Option.some.injEq] at h; subst h; rfl
 | x :: L, q + 1, o, h => by
  have := cellsO_prom (L := L) (q := q) (by simpa using h)
  rw [lget?_eq] at this ⊢
  have e : (q + 1) * 7 + 3 = 7 + (q * 7 + 3) := by omega
  rw [e]
  show (x.sent ++ cellsO L)[7 + (q * 7 + 3)]? = _
  rw [List.getElem?_append_right (by simp [OnV.sent])]
  simpa [OnV.sent] using this
noncomputable def plTail : Code := dropC 10 plBody
noncomputable def plB4 : Code := loopOf (nthC 4 plTail)
noncomputable def plB6 : Code := loopOf (dropC 3 (blockOf (nthC 1 plB4)))
structure GK (ts : List Value) (sa : Option Addr) (len cap p i : Nat) (v : Value) : Prop where
 size : ts.length = 191
 t1 : lget ts 1 = .slice sa len cap
 t7 : lget ts 7 = .pointer (some ⟨p, 0, none⟩)
 t25 : lget ts 25 = .int .i64 i
 t26 : lget ts 26 = v
def IL6 (sa : Option Addr) (len cap p i s n : Nat) (v : Value) (f : Nat → Bool) (σ0 : St) (m : Nat) (fr : Fr) (σ : St) : Prop :=
 ∃ (ts : List Value) (q : Nat), fr = ⟨ts, []⟩ ∧ GK ts sa len cap p i v ∧ lget ts 13 = .int .i64 ((s + q : Nat) : Int) ∧ lget ts 24 = .bool (f (s + q)) ∧ lget ts 28 = .int .i64 (q : Nat) ∧ m + q = n ∧ σ = σ0
def EL6 (sa : Option Addr) (len cap p i s n : Nat) (v : Value) (f : Nat → Bool) (σ0 : St) (x : AX) (fr : Fr) (σ : St) : Prop :=
 x = .exit 6 ∧ ∃ (ts : List Value), fr = ⟨ts, []⟩ ∧ GK ts sa len cap p i v ∧ lget ts 13 = .int .i64 ((s + n : Nat) : Int) ∧ lget ts 24 = .bool (f (s + n)) ∧ σ = σ0
set_option maxHeartbeats 1600000 in
set_option maxRecDepth 20000 in
theorem pl_inner {sa : Option Addr} {len cap p i s lo : Nat} {v : Value} {f : Nat → Bool} {out : List OnV} {σ0 : St} (hv : SoS lo σ0 v out) (hout : out.map prO = expL f s out.length) (hf : ∀ j, f (s + j + 1) = false) (hs : s ≤ 20) (ho : out.length ≤ 20) :
  ∀ m fr σ, IL6 sa len cap p i s out.length v f σ0 m fr σ → loopX Tryz.prog false plB6 fr σ (endL (EL6 sa len cap p i s out.length v f σ0) fun _ => False) := by
 refine loop_ind q8 3 (by kernel_rfl) _ _ _ ?_
 rintro m fr σ ⟨ts, q, rfl, F, h13, h24, h28, hmq, rfl⟩
 have e1 := F.t1
 have e7 := F.t7
 have e25 := F.t25
 have e26 := F.t26
 have el := F.size
 obtain ⟨va, hva, hvl⟩ := hv.len
 by_cases hq : q < out.length
 ·have c0 : (q : Int) < (out.length : Int) := by omega
  have c1 : (0 : Int) ≤ (q : Int) := by omega
  have ho1 : out[q]? = some out[q] := List.getElem?_eq_getElem hq
  generalize out[q] = o at ho1
  have hpr : prO o = (((s + q : Nat) : Int), f (s + q)) := by
   have h1 := expL_get (f := f) out.length s q hq
   rw [← hout, List.getElem?_map, ho1] at h1
   exact Option.some.inj h1
  have hid : o.pk.id = ((s + q : Nat) : Int) := congrArg Prod.fst hpr
  have hprm : o.prom = f (s + q) := congrArg Prod.snd hpr
  have g1 := cellsO_id ho1
  have g2 := cellsO_prom ho1
  rw [hid] at g1
  rw [hprm] at g2
  have hlen : q * 7 + 3 < (cellsO out).length := by rw [cellsO_length]; omega
  rcases hv with ⟨_, rfl⟩ | ⟨a, rfl, ga, ha1, ha2, _⟩
  ·simp at hq
  have w1 : IntKind.i64.wrap ((q : Int) + 1) = ((q + 1 : Nat) : Int) := by
   have : (q : Int) + 1 = ((q + 1 : Nat) : Int) := by omega
   rw [this]; exact wrapIN (by omega)
  have w2 : IntKind.i64.wrap (((s + q : Nat) : Int) + 1) = ((s + (q + 1) : Nat) : Int) := by
   have : ((s + q : Nat) : Int) + 1 = ((s + (q + 1) : Nat) : Int) := by omega
   rw [this]; exact wrapIN (by omega)
  have b1 : (((s + q : Nat) : Int) != ((s + q : Nat) : Int)) = false := by simp
  have b2 : (f (s + q) != f (s + q)) = false := by simp
  have b3 : (((s + q : Nat) : Int) == ((s + q : Nat) : Int)) = true := by simp
  have b4 : (f (s + q) == f (s + q)) = true := by simp
  have hf' := hf q
  rw [Nat.add_assoc] at hf'
  simp only [go_sem, seval, if_pos rfl, opLen, undef, plB6, plB4, plTail, plBody, nthC, dropC, blockOf, loopOf, Tryz.f3, Option.getD, Int.toNat_natCast, e1, e7, e25, e26, el, h13, h24, h28, c0, c1, ga, ha2, g1, g2, hlen, w1, w2, b1, b2, b3, b4]
  exact ⟨m - 1, by omega, _, q + 1, rfl, ⟨by simp only [List.length_set, el], by simp only [go_sem, seval, if_pos rfl, opLen, el, e1], by simp only [go_sem, seval, if_pos rfl, opLen, el, e7], by simp only [go_sem, seval, if_pos rfl, opLen, el, e25], by simp only [go_sem, seval, if_pos rfl, opLen, el, e26]⟩, by simp only [go_sem, seval, if_pos rfl, opLen, el], by rw [hf']; simp only [go_sem, seval, if_pos rfl, opLen, el], by simp only [go_sem, seval, if_pos rfl, opLen, el], by omega, rfl⟩
 ·have c0 : ¬ (q : Int) < (out.length : Int) := by omega
  obtain rfl : q = out.length := by omega
  rw [hva] at e26
  simp only [go_sem, seval, if_pos rfl, undef, plB6, plB4, plTail, plBody, nthC, dropC, blockOf, loopOf, Tryz.f3, Option.getD, e1, e7, e25, e26, el, h13, h24, h28, hvl, c0]
  exact ⟨rfl, _, rfl, ⟨by simp only [List.length_set, el], by simp only [go_sem, seval, if_pos rfl, el, e1], by simp only [go_sem, seval, if_pos rfl, el, e7], by simp only [go_sem, seval, if_pos rfl, el, e25], by rw [hva]; simp only [go_sem, seval, if_pos rfl, el, e26]⟩, by simp only [go_sem, seval, if_pos rfl, el, h13], by simp only [go_sem, seval, if_pos rfl, el, h24], rfl⟩
structure GM (ts : List Value) (sa : Option Addr) (len cap p : Nat) : Prop where
 size : ts.length = 191
 t1 : lget ts 1 = .slice sa len cap
 t7 : lget ts 7 = .pointer (some ⟨p, 0, none⟩)
def IL4 (sa : Option Addr) (len cap lo : Nat) (f : Nat → Bool) (a m : Nat) (fr : Fr) (σ : St) : Prop :=
 ∃ (ts : List Value) (B : PB) (S : PV) (s i : Nat), fr = ⟨ts, []⟩ ∧ GM ts sa len cap B.p ∧ lget ts 13 = .int .i64 (s : Nat) ∧ lget ts 24 = .bool (f s) ∧ lget ts 25 = .int .i64 (i : Nat) ∧ m + i = 20 ∧ S.now = ((a + i : Nat) : Int) ∧ PZ σ B S lo len s i f
def EL4 (sa : Option Addr) (len cap : Nat) (x : AX) (fr : Fr) (_ : St) : Prop :=
 x = .exit 4 ∧ ∃ (ts : List Value) (p : Nat), fr = ⟨ts, []⟩ ∧ GM ts sa len cap p ∧ lget ts 13 = .int .i64 (len : Nat)
set_option maxHeartbeats 1600000 in
set_option maxRecDepth 20000 in
theorem pl_outer {sa : Option Addr} {len cap lo a s0 : Nat} {onb : Bool} (hol : ∀ σ, opLen (cP Tryz.prog).T σ 22 (.slice sa len cap) = some (.val (.int .i64 (len : Int)) [])) (hlen : len ≤ 20) (ha : a ≤ 5) :
  ∀ m fr σ, (IL4 sa len cap lo (firstF onb s0) a m fr σ ∧ ∃ s, lget fr.ts 13 = .int .i64 (s : Nat) ∧ s0 ≤ s) → loopX Tryz.prog false plB4 fr σ (endL (EL4 sa len cap) fun c => lo ≤ c) := by
 refine loop_ind q8 3 (by kernel_rfl) _ _ _ ?_
 rintro m fr σ ⟨⟨ts, B, S, s, i, rfl, F, h13, h24, h25, hmi, hnow, H⟩, s', hs13, hs0s⟩
 have e1 := F.t1
 have e7 := F.t7
 have el := F.size
 obtain rfl : s = s' := by
  rw [h13] at hs13
  simp only [Value.int.injEq, true_and] at hs13
  omega
 by_cases hsl : s < len
 ·have hi := H.more hsl
  have c0 : (i : Int) < 40 := by omega
  have c1 : (s : Int) < (len : Int) := by omega
  have w3 : IntKind.i64.wrap ((i : Int) + 1) = ((i + 1 : Nat) : Int) := by
   have : (i : Int) + 1 = ((i + 1 : Nat) : Int) := by omega
   rw [this]; exact wrapIN (by omega)
  have hsv := serve_call H.w.at' (qs := []) H.q H.size (by omega) (by rw [H.w.rate]; omega)
  simp only [go_sem, seval, if_pos rfl, undef, plB4, plTail, plBody, nthC, dropC, loopOf, Tryz.f3, Option.getD, e1, e7, el, h13, h24, h25, hol, c0, c1]
  refine callX.hidE hsv ?_
  intro e σ1 lg1 hlg1 hA
  obtain ⟨v, o, S', qs', out, rfl, hB, hV⟩ := hA
  obtain ⟨H1, hout⟩ := H.tick hV hlg1
  have hlo := H.w.lo
  have hz : ∀ z ∈ lg1, lo ≤ z := fun z hz => by
   rcases hB z hz with h | h
   ·exact H.w.foot z h
   ·omega
  have hsl1 := H1.sl
  have hnow' : S'.now = ((a + (i + 1) : Nat) : Int) := by rw [hV.al.now]; show S.now + 1 = _; omega
  refine ⟨?_⟩
  simp only [go_sem, seval, if_pos rfl, undef, e1, e7, el, h13, h24, h25]
  refine loop_then (pl_inner (sa := sa) (cap := cap) (len := len) (p := B.p) (i := i) (s := s) (f := firstF onb s0) hV.so hout (fun j => by simp [firstF]; omega) (by omega) (by omega) out.length _ _ ⟨_, 0, rfl, ⟨by simp only [List.length_set, el], by simp only [go_sem, seval, if_pos rfl, el, e1], by simp only [go_sem, seval, if_pos rfl, el, e7], by simp only [go_sem, seval, if_pos rfl, el, h25], by simp only [go_sem, seval, if_pos rfl, el]⟩, by simp only [go_sem, seval, if_pos rfl, el, h13, Nat.add_zero], by simp only [go_sem, seval, if_pos rfl, el, h24, Nat.add_zero], by simp only [go_sem, seval, if_pos rfl, el], by omega, rfl⟩) ?_
  intro x fr' σ2 lg2 hlg2 hB2 h
  obtain ⟨rfl, ts2, rfl, F2, g13, g24, rfl⟩ := h
  have f1 := F2.t1
  have f7 := F2.t7
  have f25 := F2.t25
  have fl := F2.size
  simp only [go_sem, seval, if_pos rfl, undef, f1, f7, f25, fl, w3]
  refine ⟨?_, m - 1, by omega, ⟨_, { B with o := o }, S', s + out.length, i + 1, rfl, ⟨by simp only [List.length_set, fl], by simp only [go_sem, seval, if_pos rfl, fl, f1], by simp only [go_sem, seval, if_pos rfl, fl, f7]⟩, by simp only [go_sem, seval, if_pos rfl, fl, g13], by simp only [go_sem, seval, if_pos rfl, fl, g24], by simp only [go_sem, seval, if_pos rfl, fl], by omega, hnow', H1⟩, s + out.length, by simp only [go_sem, seval, if_pos rfl, fl, g13], by omega⟩
  intro c hc
  rcases hc with hc | hc
  ·exact hz c hc
  ·exact (hB2 c hc).elim
 ·have := H.sl
  obtain rfl : s = len := by omega
  have c1 : ¬ (s : Int) < (s : Int) := by omega
  have c0 : (i : Int) < 40 := by omega
  simp only [go_sem, seval, if_pos rfl, undef, plB4, plTail, plBody, nthC, dropC, loopOf, Tryz.f3, Option.getD, e1, e7, el, h13, h24, h25, hol, c0, c1]
  exact ⟨rfl, _, B.p, rfl, ⟨by simp only [List.length_set, el], by simp only [go_sem, seval, if_pos rfl, el, e1], by simp only [go_sem, seval, if_pos rfl, el, e7]⟩, by simp only [go_sem, seval, if_pos rfl, el, h13]⟩
end Go.Ab
namespace Go.Ab
open Go.Proofs
theorem max_op (x y : Nat) : opMax (.int .i64 ((x : Nat) : Int)) (.int .i64 ((y : Nat) : Int)) = some (.val (.int .i64 ((max x y : Nat) : Int)) []) := by
 by_cases h : (y : Int) < ((x : Nat) : Int)
 ·have e : max x y = x := Nat.max_eq_left (by omega)
  rw [e]; unfold opMax; simp; omega
 ·have e : max x y = y := Nat.max_eq_right (by omega)
  rw [e]; unfold opMax; simp; omega
set_option maxHeartbeats 3200000 in
set_option maxRecDepth 20000 in
theorem pl_tail {σ : St} {ts : List Value} {sa : Option Addr} {len cap a s lo lb n d : Nat} {B : PB} {S : PV} {onb : Bool} {K : RR → Prop} (hol : ∀ σ, opLen (cP Tryz.prog).T σ 22 (.slice sa len cap) = some (.val (.int .i64 (len : Int)) [])) (hlen : len ≤ 20) (ha : a ≤ 5)
  (el : ts.length = 191) (e1 : lget ts 1 = .slice sa len cap) (e7 : lget ts 7 = .pointer (some ⟨B.p, 0, none⟩)) (e9 : lget ts 9 = .pointer (some ⟨lb, 0, none⟩)) (e13 : lget ts 13 = .int .i64 (s : Nat)) (e19 : lget ts 19 = .bool onb) (e20 : lget ts 20 = .int .i64 ((max (upN n d) a : Nat) : Int)) (e21 : lget ts 21 = .slice none 0 0) (e22 : lget ts 22 = .int .i64 0)
  (gl : σ.get lb = some (.cells [.int .i64 n, .int .i64 d] false)) (hd : 0 < d) (hn : n < 4000000000000000000) (H : PZ σ B S lo len s 0 (firstF onb s)) (hnow : S.now = (a : Nat))
  (k : ∀ ts' σ' lg, ts'.length = 191 → lget ts' 6 = .bool true → (∀ c ∈ lg, lo ≤ c) → K ⟨.ret, ⟨ts', []⟩, σ', lg⟩) : wp (cP Tryz.prog) q8 (btAll 3) false plTail ⟨ts, []⟩ σ K := by
 have d0 : ¬ (d : Int) = 0 := by omega
 have hdiv : (n : Int).tdiv (d : Int) = ((n / d : Nat) : Int) := rfl
 have hmod : (n : Int).tmod (d : Int) = ((n % d : Nat) : Int) := rfl
 have hq : n / d ≤ n := Nat.div_le_self _ _
 have hm : n % d ≤ n := Nat.mod_le _ _
 have w1 : IntKind.i64.wrap ((n / d : Nat) : Int) = ((n / d : Nat) : Int) := wrapIN (by omega)
 have w2 : IntKind.i64.wrap ((n % d : Nat) : Int) = ((n % d : Nat) : Int) := wrapIN (by omega)
 have w3 : IntKind.i64.wrap (((n / d : Nat) : Int) + 1) = ((n / d + 1 : Nat) : Int) := by
  have : ((n / d : Nat) : Int) + 1 = ((n / d + 1 : Nat) : Int) := by omega
  rw [this]; exact wrapIN (by omega)
 have hnw := now_call H.w.at'
 rw [hnow] at hnw
 have b1 : (((max (upN n d) a : Nat) : Int) != ((max (upN n d) a : Nat) : Int)) = false := by simp
 have b2 : (((max (upN n d) a : Nat) : Int) == ((max (upN n d) a : Nat) : Int)) = true := by simp
 have b3 : (((len : Nat) : Int) == ((len : Nat) : Int)) = true := by simp
 have hmx := max_op (upN n d) a
 have hff : firstF onb s s = onb := by simp [firstF]
 have fin : ∀ ts1 : List Value, ts1.length = 191 → lget ts1 1 = .slice sa len cap → lget ts1 7 = .pointer (some ⟨B.p, 0, none⟩) → lget ts1 13 = .int .i64 (s : Nat) → lget ts1 24 = .bool (firstF onb s s) → lget ts1 25 = .int .i64 ((0 : Nat) : Int) →
   ∀ K' : RR → Prop, (∀ ts' σ' lg, ts'.length = 191 → lget ts' 13 = .int .i64 (len : Nat) → lget ts' 1 = .slice sa len cap → (∀ c ∈ lg, lo ≤ c) → K' ⟨.exit 4, ⟨ts', []⟩, σ', lg⟩) → loopX Tryz.prog false plB4 ⟨ts1, []⟩ σ K' := fun ts1 g0 g1 g7 g13 g24 g25 K' hK => by
  refine loop_then (pl_outer (sa := sa) (cap := cap) (len := len) (lo := lo) (a := a) (s0 := s) (onb := onb) hol hlen ha 20 ⟨ts1, []⟩ σ ⟨⟨ts1, B, S, s, 0, rfl, ⟨g0, g1, g7⟩, g13, g24, g25, rfl, by rw [hnow]; rfl, H⟩, s, g13, Nat.le_refl _⟩) ?_
  intro x fr' σ' lg hlg hB h
  obtain ⟨rfl, ts', p, rfl, F', h13⟩ := h
  exact hK ts' σ' lg F'.size h13 F'.t1 hB
 have done : ∀ ts', ts'.length = 191 → lget ts' 13 = .int .i64 (len : Nat) → lget ts' 1 = .slice sa len cap → True := fun _ _ _ _ => trivial
 by_cases h : 0 < n % d
 ·have c0 : (0 : Int) < ((n % d : Nat) : Int) := by omega
  have hu : n / d + 1 = upN n d := by unfold upN; rw [if_pos h]
  rw [hu] at w3
  simp only [go_sem, seval, if_pos rfl, undef, zerosN, plTail, plBody, dropC, Tryz.f3, Option.getD, e1, e7, e9, e13, e19, e20, e21, e22, el, gl, d0, hdiv, hmod, w1, w2, w3, c0, opLen]
  refine .of hnw ?_
  simp only [go_sem, seval, if_pos rfl, undef, zerosN, e1, e7, e9, e13, e19, e20, e21, e22, el, w3, hmx, b1, b2]
  refine fin _ (by simp only [List.length_set, el]) (by simp only [go_sem, seval, if_pos rfl, el, e1]) (by simp only [go_sem, seval, if_pos rfl, el, e7]) (by simp only [go_sem, seval, if_pos rfl, el, e13]) (by rw [hff]; simp only [go_sem, seval, if_pos rfl, el]) (by simp only [go_sem, seval, if_pos rfl, el]) _ ?_
  intro ts' σ' lg g0 g13 g1 hB
  simp only [go_sem, seval, if_pos rfl, undef, g0, g13, g1, hol, b3]
  refine .of (known33_call _) ?_
  simp only [go_sem, seval, if_pos rfl, undef, g0, g13, g1]
  refine k _ _ _ (by simp only [List.length_set, g0]) (by simp only [go_sem, seval, if_pos rfl, g0]) ?_
  exact hB
 ·have c0 : ¬ (0 : Int) < ((n % d : Nat) : Int) := by omega
  have hu : n / d = upN n d := by unfold upN; rw [if_neg h]; rfl
  rw [hu] at w1 hdiv
  simp only [go_sem, seval, if_pos rfl, undef, zerosN, plTail, plBody, dropC, Tryz.f3, Option.getD, e1, e7, e9, e13, e19, e20, e21, e22, el, gl, d0, hdiv, hmod, w1, w2, w3, c0, opLen]
  refine .of hnw ?_
  simp only [go_sem, seval, if_pos rfl, undef, zerosN, e1, e7, e9, e13, e19, e20, e21, e22, el, w3, hmx, b1, b2]
  refine fin _ (by simp only [List.length_set, el]) (by simp only [go_sem, seval, if_pos rfl, el, e1]) (by simp only [go_sem, seval, if_pos rfl, el, e7]) (by simp only [go_sem, seval, if_pos rfl, el, e13]) (by rw [hff]; simp only [go_sem, seval, if_pos rfl, el]) (by simp only [go_sem, seval, if_pos rfl, el]) _ ?_
  intro ts' σ' lg g0 g13 g1 hB
  simp only [go_sem, seval, if_pos rfl, undef, g0, g13, g1, hol, b3]
  refine .of (known33_call _) ?_
  simp only [go_sem, seval, if_pos rfl, undef, g0, g13, g1]
  refine k _ _ _ (by simp only [List.length_set, g0]) (by simp only [go_sem, seval, if_pos rfl, g0]) ?_
  exact hB
end Go.Ab
namespace Go.Ab
open Go.Proofs
def True3 (σ : St) (e : AE) (_ : St) (lg : Log) : Prop := e = .ret (.bool true) ∧ ∀ c ∈ lg, σ.next ≤ c
set_option maxHeartbeats 1600000 in
set_option maxRecDepth 20000 in
theorem pl_bad {rate ahead : Int} {sa : Option Addr} {len cap : Nat} {σ : St} (hol : ∀ σ, opLen (cP Tryz.prog).T σ 22 (.slice sa len cap) = some (.val (.int .i64 (len : Int)) [])) (h : ¬ ((1 ≤ rate ∧ rate ≤ 60) ∧ len ≤ 20 ∧ 0 ≤ ahead ∧ ahead ≤ 5)) :
  callX Tryz.prog 3 [.int .i64 rate, .slice sa len cap, .int .i64 ahead] σ (True3 σ) := by
 refine enter (p := q8) Tryz.func3 rfl stat3 ?_
 by_cases c1 : rate < 1
 ·simp only [go_sem, seval, if_pos rfl, undef, Tryz.f3]
  refine callX.hidE (pnew_call (by omega) (by omega) (by omega) (by omega)) ?_
  intro e σ1 lg1 hlg1 hA
  obtain ⟨B, rfl, hB, _⟩ := hA
  refine ⟨?_⟩
  simp only [go_sem, seval, if_pos rfl, undef, hol, c1]
  refine .of (known33_call _) ?_
  simp only [go_sem, seval, if_pos rfl, undef]
  exact ⟨rfl, hB⟩
 by_cases c2 : 60 < rate
 ·simp only [go_sem, seval, if_pos rfl, undef, Tryz.f3]
  refine callX.hidE (pnew_call (by omega) (by omega) (by omega) (by omega)) ?_
  intro e σ1 lg1 hlg1 hA
  obtain ⟨B, rfl, hB, _⟩ := hA
  refine ⟨?_⟩
  simp only [go_sem, seval, if_pos rfl, undef, hol, c1, c2]
  refine .of (known33_call _) ?_
  simp only [go_sem, seval, if_pos rfl, undef]
  exact ⟨rfl, hB⟩
 by_cases c3 : (20 : Int) < (len : Int)
 ·simp only [go_sem, seval, if_pos rfl, undef, Tryz.f3]
  refine callX.hidE (pnew_call (by omega) (by omega) (by omega) (by omega)) ?_
  intro e σ1 lg1 hlg1 hA
  obtain ⟨B, rfl, hB, _⟩ := hA
  refine ⟨?_⟩
  simp only [go_sem, seval, if_pos rfl, undef, hol, c1, c2, c3]
  refine .of (known33_call _) ?_
  simp only [go_sem, seval, if_pos rfl, undef]
  exact ⟨rfl, hB⟩
 by_cases c4 : ahead < 0
 ·simp only [go_sem, seval, if_pos rfl, undef, Tryz.f3]
  refine callX.hidE (pnew_call (by omega) (by omega) (by omega) (by omega)) ?_
  intro e σ1 lg1 hlg1 hA
  obtain ⟨B, rfl, hB, _⟩ := hA
  refine ⟨?_⟩
  simp only [go_sem, seval, if_pos rfl, undef, hol, c1, c2, c3, c4]
  refine .of (known33_call _) ?_
  simp only [go_sem, seval, if_pos rfl, undef]
  exact ⟨rfl, hB⟩
 have c5 : 5 < ahead := by omega
 simp only [go_sem, seval, if_pos rfl, undef, Tryz.f3]
 refine callX.hidE (pnew_call (by omega) (by omega) (by omega) (by omega)) ?_
 intro e σ1 lg1 hlg1 hA
 obtain ⟨B, rfl, hB, _⟩ := hA
 refine ⟨?_⟩
 simp only [go_sem, seval, if_pos rfl, undef, hol, c1, c2, c3, c4, c5]
 refine .of (known33_call _) ?_
 simp only [go_sem, seval, if_pos rfl, undef]
 exact ⟨rfl, hB⟩
end Go.Ab
namespace Go.Ab
open Go.Proofs
theorem QL.zero (sz : Nat → Nat) {R : Nat} (hR : 0 < R) (blk : Nat) : QL sz R blk { Q0 with F := updF Q0.F 1 (some ⟨blk, R, 1000000, 0, 0, 1⟩), nf := Q0.nf + 1 } 0 0 := by
 have e1 : fN 0 R = 0 := by simp [fN]
 have e2 : fD 0 R = 1 := by simp [fD, Nat.div_self hR]
 refine ⟨HPk.nil sz R 0, Nat.le_refl _, ?_, ?_, rfl, rfl⟩
 ·funext id
  show none = if ((0 : Nat) : Int) ≤ id ∧ id < ((0 : Nat) : Int) then _ else none
  rw [if_neg (by omega)]
 ·show updF Q0.F 1 _ = updF (fun _ => none) 1 (some ⟨blk, R, 1000000, (cumS sz 0 : Int) - (cumS sz 0 : Int), (fN (cumS sz 0) R : Nat), (fD (cumS sz 0) R : Nat)⟩)
  have e3 : cumS sz 0 = 0 := rfl
  rw [e3, e1, e2]
  rfl
theorem qsF_sizes {sz : Nat → Nat} {R k m : Nat} (hs : ∀ j, 1 ≤ sz j) (hs2 : ∀ j, sz j ≤ 60) : ∀ x ∈ qsF sz R k m, 1 ≤ x.left ∧ x.left ≤ 2000 := fun x hx => by
 obtain ⟨j, rfl⟩ := qsF_mem _ _ _ hx
 have := hs j
 have := hs2 j
 show (1 : Int) ≤ (sz j : Nat) ∧ ((sz j : Nat) : Int) ≤ 2000
 omega
theorem PA.start {σ : St} {B : PB} {S : PV} {lo lb R blk len : Nat} {sz : Nat → Nat} (W : WL σ B S lo) (hon : S.on = none) (hL : S.V.L = []) (hQ : QL sz R blk S.Q 0 len) (hlast : LastAt σ B S lo lb (fN (cumS sz len) R) (fD (cumS sz len) R)) (hs : ∀ j, 1 ≤ sz j) (hs2 : ∀ j, sz j ≤ 60) (hlen : len ≤ 20) :
  PA σ B S lo lb sz R blk len 0 0 := by
 refine ⟨W, hL, hQ, ?_, ?_, Nat.zero_le _, ?_, hlast⟩
 ·rw [hon]
  exact ⟨fun x hx => (by cases hx), qsF_sizes hs hs2, fun y hy => (by simp at hy)⟩
 ·rw [hon]
  show [] ++ ((qsF sz R 0 (len - 0)).map prO ++ []) = _
  rw [qsF_pr]
  simp
 ·rw [hon]
  have h1 := qsF_bytes (sz := sz) (R := R) (len - 0) 0
  have h2 := cumS_le hs2 len
  have e : 0 + (len - 0) = len := by omega
  rw [e] at h1
  have e0 : cumS sz 0 = 0 := rfl
  simp only [bytesOf, onL, bytesO, sumP]
  omega
theorem PA.drop {σ σ1 : St} {B : PB} {S : PV} {lo lb R blk len k s r' : Nat} {sz : Nat → Nat} {lg : Log} {Sl : List Pk} {L' : List Item} (H : PA σ B S lo lb sz R blk len k s) (hs : ∀ j, 1 ≤ sz j) (hs2 : ∀ j, sz j ≤ 60) (hl : Logged σ σ1 lg) (D : PDropped σ B S 1 tnL σ1 lg Sl L' r') :
  PZ σ1 { B with r := r' } (pdropV S 1 Sl L') lo len s 0 (firstF S.on.isSome s) ∧ σ1.get lb = σ.get lb ∧ (∀ c ∈ lg, lo ≤ c) := by
 have hSl := dropped_is H.q D.mem D.nd D.ord
 subst hSl
 have hL' := left_nil H.q D.left
 subst hL'
 have hki := H.q.ki
 have hlo := H.w.lo
 have nx := hl.1
 have hz : ∀ z ∈ lg, lo ≤ z := fun z hz => by
  rcases D.lg z hz with h | h
  ·exact H.w.foot z h
  ·omega
 have hVL : (pdropV S 1 (pkF sz k (len - k)) []).V.L = pkF sz k (len - k) := by
  show S.V.L ++ _ = _
  rw [H.L]; rfl
 refine ⟨⟨⟨D.at', fun c hc => ?_, by omega, H.w.rate, H.w.most, H.w.room⟩, rfl, ?_, ?_, H.sl, .inr ?_⟩, ?_, hz⟩
 ·rcases hc with hc | hc | hc | hc | hc
  ·exact H.w.foot c (.inl hc)
  ·exact H.w.foot c (.inr (.inl hc))
  ·have hc : c = r' := hc
   rcases D.r with h | h
   ·exact H.w.foot c (.inr (.inr (.inl (hc.trans h))))
   ·omega
  ·exact H.w.foot c (.inr (.inr (.inr (.inl hc))))
  ·rcases hc with h | ⟨k', y, hy, rfl⟩
   ·exact H.w.foot c (.inr (.inr (.inr (.inr (.inl h)))))
   ·have hy : updF S.Q.F 1 none k' = some y := hy
    by_cases e : k' = 1
    ·subst e; rw [updF_same] at hy; cases hy
    ·rw [updF_other _ _ e] at hy
     exact H.w.foot _ (.inr (.inr (.inr (.inr (.inr ⟨k', y, hy, rfl⟩)))))
 ·rw [hVL]
  exact ⟨H.size.on, fun x hx => by simp at hx, fun y hy => by
   obtain ⟨j, _, _, rfl⟩ := (pkF_mem _ _ _).1 hy
   have := hs j
   have := hs2 j
   show (1 : Int) ≤ (sz j : Nat) ∧ ((sz j : Nat) : Int) ≤ 2000
   omega⟩
 ·rw [hVL]
  exact flow_drop hki H.sl H.flow
 ·rw [hVL]
  have h1 := qsF_bytes (sz := sz) (R := R) (len - k) k
  have h2 := pkF_sum (sz := sz) (len - k) k
  have h3 := H.bytes
  simp only [bytesOf, bytesO, sumP] at h3 ⊢
  show bytesO (onL S.on) + 0 + sumP (pkF sz k (len - k)) + 60 * ((0 : Nat) : Int) ≤ 1200
  omega
 ·exact hl.2 lb H.last.lt.2 fun hm => by
   rcases D.lg lb hm with h | h
   ·exact H.last.nf h
   ·have := H.last.lt; omega
theorem pl_fits {sz : Nat → Nat} {R blk k len : Nat} {Q : QV} (hQ : QL sz R blk Q k len) (hs : ∀ j, 1 ≤ sz j) (hs2 : ∀ j, sz j ≤ 60) (hlen : len ≤ 20) : ∀ x : Pk, Q.P x.id = some (x.flow, x.size) → x.flow = 1 → Fits x := fun x hx hf => by
 rw [hQ.P] at hx
 have hx : (if (k : Int) ≤ x.id ∧ x.id < (len : Int) then some ((1 : Int), (sz x.id.toNat : Int)) else none) = some (x.flow, x.size) := hx
 by_cases c : (k : Int) ≤ x.id ∧ x.id < (len : Int)
 ·rw [if_pos c] at hx
  simp only [Option.some.injEq, Prod.mk.injEq] at hx
  have := hs x.id.toNat
  have := hs2 x.id.toNat
  exact ⟨by omega, by omega, by omega⟩
 ·rw [if_neg c] at hx; cases hx
theorem pl_there {sz : Nat → Nat} {R blk k len : Nat} {Q : QV} (hQ : QL sz R blk Q k len) : ∀ id p, Q.P id = some p → ∃ (n : Nat) (it : Item), Q.L[n]? = some it ∧ it.id = id := fun id p hp => by
 rw [hQ.P] at hp
 have hp : (if (k : Int) ≤ id ∧ id < (len : Int) then some ((1 : Int), (sz id.toNat : Int)) else none) = some p := hp
 by_cases c : (k : Int) ≤ id ∧ id < (len : Int)
 ·obtain ⟨n, hn⟩ := List.getElem?_of_mem ((hQ.hp.mem (itN sz R id.toNat)).2 ⟨id.toNat, by omega, by omega, rfl⟩)
  exact ⟨n, _, hn, by show ((id.toNat : Nat) : Int) = id; omega⟩
 ·rw [if_neg c] at hp; cases hp
theorem pl_turn {sz : Nat → Nat} {R blk k len : Nat} {Q : QV} (hQ : QL sz R blk Q k len) : ∀ it ∈ Q.L, tnL it.id = it.turn := fun it hit => by
 obtain ⟨j, _, _, rfl⟩ := (hQ.hp.mem it).1 hit
 show ((j : Nat) : Int) + 1 = ((j + 1 : Nat) : Int)
 omega
end Go.Ab
namespace Go.Ab
open Go.Proofs
theorem plBody_is : plBody = .seq (nthC 0 plBody) (.seq (nthC 1 plBody) (.seq (nthC 2 plBody) (.seq (nthC 3 plBody) (.seq (nthC 4 plBody) (.seq (nthC 5 plBody) (.seq (nthC 6 plBody) (.seq (nthC 7 plBody) (.seq (nthC 8 plBody) (.seq (nthC 9 plBody) plTail))))))))) := by rfl
theorem plS0 : statAll (btAll 3) (nthC 0 plBody) = true := by kernel_rfl
theorem plS1 : statAll (btAll 3) (nthC 1 plBody) = true := by kernel_rfl
theorem plS2 : statAll (btAll 3) (nthC 2 plBody) = true := by kernel_rfl
theorem plS3 : statAll (btAll 3) (nthC 3 plBody) = true := by kernel_rfl
theorem plS4 : statAll (btAll 3) (nthC 4 plBody) = true := by kernel_rfl
theorem plS5 : statAll (btAll 3) (nthC 5 plBody) = true := by kernel_rfl
theorem plS6 : statAll (btAll 3) (nthC 6 plBody) = true := by kernel_rfl
theorem plS7 : statAll (btAll 3) (nthC 7 plBody) = true := by kernel_rfl
theorem plS8 : statAll (btAll 3) (nthC 8 plBody) = true := by kernel_rfl
theorem plST : statAll (btAll 3) plTail = true := by kernel_rfl
set_option maxHeartbeats 6400000 in
set_option maxRecDepth 20000 in
theorem pl_good {R : Nat} {sa : Option Addr} {len cap a : Nat} {Z : Nat → Nat} {vs : List Value} {σ : St} (hol : ∀ σ, opLen (cP Tryz.prog).T σ 22 (.slice sa len cap) = some (.val (.int .i64 (len : Int)) []))
    (hR : 1 ≤ R ∧ R ≤ 60) (hlen : len ≤ 20) (ha : a ≤ 5) (hsa : 0 < len → sa = some ⟨0, 0, some 0⟩) (hg : 0 < len → σ.get 0 = some (.cells vs true)) (h0 : 0 < len → 0 < σ.next) (hZ : ∀ i, i < len → lget? vs i = some (.int .u8 (Z i : Nat)) ∧ Z i ≤ 255) :
    callN Tryz.prog 3 [.int .i64 (R : Nat), .slice sa len cap, .int .i64 (a : Nat)] σ (True3 σ) := by
  obtain ⟨sz, hsz⟩ : ∃ sz : Nat → Nat, ∀ i, sz i = Z i % 60 + 1 := ⟨_, fun _ => rfl⟩
  have hs : ∀ j, 1 ≤ sz j := fun j => by rw [hsz]; omega
  have hs2 : ∀ j, sz j ≤ 60 := fun j => by rw [hsz]; have := Nat.mod_lt (Z j) (show 0 < 60 by decide); omega
  have c1 : ¬ ((R : Nat) : Int) < 1 := by omega
  have c2 : ¬ (60 : Int) < ((R : Nat) : Int) := by omega
  have c3 : ¬ (20 : Int) < (len : Int) := by omega
  have c4 : ¬ (a : Int) < 0 := by omega
  have c5 : ¬ (5 : Int) < (a : Int) := by omega
  refine callN.enter cP_ok Tryz.func3 rfl ?_
  show codeS Tryz.prog false plBody _ _ _
  rw [plBody_is]
  refine codeS.pre cP_ok mixed plS0 (p := q8) (fun fr σ Q => wp (cP Tryz.prog) q8 (btAll 3) false (nthC 1 plBody) fr σ (thenW (fun fr σ Q => wp (cP Tryz.prog) q8 (btAll 3) false (nthC 2 plBody) fr σ (thenW (fun fr σ Q => wp (cP Tryz.prog) q8 (btAll 3) false (nthC 3 plBody) fr σ (thenW (fun fr σ Q => wp (cP Tryz.prog) q8 (btAll 3) false (nthC 4 plBody) fr σ (thenW (fun fr σ Q => wp (cP Tryz.prog) q8 (btAll 3) false (nthC 5 plBody) fr σ (thenW (fun fr σ Q => wp (cP Tryz.prog) q8 (btAll 3) false (nthC 6 plBody) fr σ (thenW (fun fr σ Q => wp (cP Tryz.prog) q8 (btAll 3) false (nthC 7 plBody) fr σ (thenW (fun fr σ Q => wp (cP Tryz.prog) q8 (btAll 3) false (nthC 8 plBody) fr σ (thenW (fun fr σ Q => codeS Tryz.prog false (nthC 9 plBody) fr σ (thenW (codeS Tryz.prog false plTail) Q)) Q)) Q)) Q)) Q)) Q)) Q)) Q)) Q)) ?_ (fun fr σ Q h => codeS.pre cP_ok mixed plS1 (p := q8) _ h (fun fr σ Q h => codeS.pre cP_ok mixed plS2 (p := q8) _ h (fun fr σ Q h => codeS.pre cP_ok mixed plS3 (p := q8) _ h (fun fr σ Q h => codeS.pre cP_ok mixed plS4 (p := q8) _ h (fun fr σ Q h => codeS.pre cP_ok mixed plS5 (p := q8) _ h (fun fr σ Q h => codeS.pre cP_ok mixed plS6 (p := q8) _ h (fun fr σ Q h => codeS.pre cP_ok mixed plS7 (p := q8) _ h (fun fr σ Q h => codeS.pre cP_ok mixed plS8 (p := q8) _ h (fun fr σ Q h => codeS.seq h)))))))))
  generalize hB1 : codeS Tryz.prog false (nthC 9 plBody) = B1
  generalize hB2 : codeS Tryz.prog false plTail = B2
  simp only [go_sem, seval, if_pos rfl, undef, plBody, nthC, Tryz.f3, Option.getD]
  refine callX.hidE (pnew_call (by omega) (by omega) (by omega) (by omega)) ?_
  intro e σ1 lg1 hlg1 hA
  obtain ⟨B, rfl, hB1', P1, hf1⟩ := hA
  have nx1 := hlg1.1
  refine ⟨?_⟩
  simp only [go_sem, seval, if_pos rfl, undef, hol, c1, c2, c3, c4, c5]
  refine callX.hid (padd_call P1 1 (R : Nat) 1000000 (by omega) (by show 0 ≤ (0 : Int) ∧ (0 : Int) ≤ 2147483647; omega) rfl (by show 0 < 32; omega)) ?_
  intro σ2 lg2 hlg2 hA
  obtain ⟨hB2', blk, hblk, P2⟩ := hA
  have nx2 := hlg2.1
  have hz2 : ∀ z ∈ lg2, σ.next ≤ z := fun z hz => by
    rcases hB2' z hz with h | h
    · exact hf1 z h
    · omega
  have W2 : WL σ2 B { P0 60 2000 0 1000000 with Q := { Q0 with F := updF Q0.F 1 (some ⟨blk, R, 1000000, 0, 0, 1⟩), nf := Q0.nf + 1 } } σ.next := ⟨P2, fun c hc => by
    rcases hc with h | h | h | h | h
    · exact hf1 c (.inl h)
    · exact hf1 c (.inr (.inl h))
    · exact hf1 c (.inr (.inr (.inl h)))
    · exact hf1 c (.inr (.inr (.inr (.inl h))))
    · rcases h with h | ⟨k, z, hz, rfl⟩
      · exact hf1 c (.inr (.inr (.inr (.inr (.inl h)))))
      · by_cases hk : k = 1
        · subst hk
          have e : updF Q0.F 1 (some ⟨blk, R, 1000000, 0, 0, 1⟩) 1 = some z := hz
          rw [updF_same] at e
          cases e
          show σ.next ≤ blk
          omega
        · have e : updF Q0.F 1 (some ⟨blk, R, 1000000, 0, 0, 1⟩) k = some z := hz
          rw [updF_other _ _ hk] at e
          exact absurd e (by simp [Q0]), by omega, rfl, rfl, rfl⟩
  have g2 : ∀ c, c < σ.next → σ2.get c = σ.get c := fun c hc => (hlg2.2 c (by omega) fun hm => by have := hz2 c hm; omega).trans (hlg1.2 c hc fun hm => by have := hB1' c hm; omega)
  refine ⟨?_⟩
  simp only [go_sem, seval, if_pos rfl, undef, zerosN, hol]
  obtain ⟨σz, hσz⟩ : ∃ σz, σz = ((σ2.new (.cells [.int .i64 0, .int .i64 0] false)).set σ2.next (.cells [.int .i64 0, .int .i64 1] false)) := ⟨_, rfl⟩
  have zn : σz.next = σ2.next + 1 := by rw [hσz]; rfl
  have zg : ∀ c, c < σ2.next → σz.get c = σ2.get c := fun c hc => by rw [hσz, St.get_set, if_neg (by omega), St.get_new, if_neg (by omega)]
  have zx : σz.get σ2.next = some (.cells [.int .i64 0, .int .i64 1] false) := by rw [hσz, St.get_set, if_pos rfl]
  rw [← hσz]
  have Wz : WL σz B { P0 60 2000 0 1000000 with Q := { Q0 with F := updF Q0.F 1 (some ⟨blk, R, 1000000, 0, 0, 1⟩), nf := Q0.nf + 1 } } σ.next := ⟨W2.at'.keep (by omega) fun c hc => zg c (W2.at'.in_lt hc), W2.foot, by have := W2.lo; omega, rfl, rfl, rfl⟩
  have hlast : LastAt σz B { P0 60 2000 0 1000000 with Q := { Q0 with F := updF Q0.F 1 (some ⟨blk, R, 1000000, 0, 0, 1⟩), nf := Q0.nf + 1 } } σ.next σ2.next (fN (cumS sz 0) R) (fD (cumS sz 0) R) := by
    refine ⟨?_, by omega, fun hc => by have := W2.at'.in_lt hc; omega⟩
    have e1 : fN (cumS sz 0) R = 0 := by show fN 0 R = 0; simp [fN]
    have e2 : fD (cumS sz 0) R = 1 := by show fD 0 R = 1; simp [fD, Nat.div_self (show 0 < R by omega)]
    rw [e1, e2]
    exact zx
  refine loop_then (pl_promise (sa := sa) (len := len) (cap := cap) (ahead := (a : Nat)) (Z := Z) (sz := sz) (R := R) (lo := σ.next) (vs := vs) (g0 := σz.get 0) hol hR hlen hsa (fun h => (zg 0 (by have := h0 h; omega)).trans ((g2 0 (h0 h)).trans (hg h))) h0 hZ hsz len _ _ ⟨_, B, _, blk, σ2.next, 0, rfl, ⟨rfl, rfl, rfl, rfl, rfl⟩, rfl, by omega, Wz, rfl, rfl, rfl, QL.zero sz (by omega) blk, rfl, hlast, rfl⟩) ?_
  intro x fr' σ3 lg3 hlg3 hB3 h
  obtain ⟨rfl, ts3, B3, S3, blk3, lb, rfl, F3, W3, hon3, hnow3, hL3, hQ3, ht3, hlast3, _⟩ := h
  have A3 := PA.start W3 hon3 hL3 hQ3 hlast3 hs hs2 hlen
  have e1 := F3.t1
  have e2 := F3.t2
  have e7 := F3.t7
  have e9 := F3.t9
  have el := F3.size
  simp only [go_sem, seval, if_pos rfl, undef, e1, e2, e7, e9, el]
  refine loop_then (pl_ahead (sa := sa) (len := len) (cap := cap) (a := a) (sz := sz) (R := R) (lo := σ.next) hR hlen ha hs hs2 a _ _ ⟨_, B3, S3, blk3, lb, 0, 0, 0, rfl, ⟨by simp only [List.length_set, el], by simp only [go_sem, seval, if_pos rfl, el, e1], by simp only [go_sem, seval, if_pos rfl, el, e2], by simp only [go_sem, seval, if_pos rfl, el, e7], by simp only [go_sem, seval, if_pos rfl, el, e9]⟩, by simp only [go_sem, seval, if_pos rfl, el], by simp only [go_sem, seval, if_pos rfl, el], by omega, hnow3, A3⟩) ?_
  intro x fr' σ4 lg4 hlg4 hB4 h
  obtain ⟨rfl, ts4, B4, S4, blk4, lb4, k, s, rfl, F4, g13, hnow4, A4⟩ := h
  have g1 := F4.t1
  have g7 := F4.t7
  have g9 := F4.t9
  have gl := F4.size
  have hlt4 := A4.last.lt
  have gp4 := A4.w.at'.gp
  have hp4 := A4.w.at'.lt
  have A5 : ∀ o o', PA ((σ4.new o).set σ4.next o') B4 S4 σ.next lb4 sz R blk4 len k s := fun o o' => by
    have kc : ∀ c, c < σ4.next → ((σ4.new o).set σ4.next o').get c = σ4.get c := fun c hc => by rw [St.get_set, if_neg (by omega), St.get_new, if_neg (by omega)]
    exact { A4 with
      w := ⟨A4.w.at'.keep (by show σ4.next ≤ σ4.next + 1; omega) fun c hc => kc c (A4.w.at'.in_lt hc), A4.w.foot, by have := A4.w.lo; show σ.next ≤ σ4.next + 1; omega, A4.w.rate, A4.w.most, A4.w.room⟩
      last := ⟨(kc lb4 hlt4.2).trans A4.last.get, by show σ.next ≤ lb4 ∧ lb4 < σ4.next + 1; omega, A4.last.nf⟩ }
  obtain ⟨pk, left, hun⟩ : ∃ (pk : Pk) (left : Int), DCall Tryz.prog 9 [.pointer (some ⟨B4.p, 0, none⟩)] σ4 (.ret (.tuple ⟨[.agg ⟨[.int .i64 pk.id, .int .i64 pk.flow, .int .i64 pk.size]⟩, .int .i64 left, .bool S4.on.isSome]⟩)) σ4 [] := by
    cases hon : S4.on with
    | none => exact ⟨Pk.zero, 0, under_none A4.w.at' hon⟩
    | some x => exact ⟨x.pk, x.left, under_some A4.w.at' hon⟩
  simp only [go_sem, seval, if_pos rfl, undef, g1, g7, g9, gl, g13]
  refine .of hun ?_
  simp only [go_sem, seval, if_pos rfl, undef, zerosN, g1, g7, g9, gl, g13]
  have A6 := A5 (.cells [.int .i64 0, .int .i64 0, .int .i64 0] false) (.cells [.int .i64 pk.id, .int .i64 pk.flow, .int .i64 pk.size] false)
  generalize hσ5 : ((σ4.new (.cells [.int .i64 0, .int .i64 0, .int .i64 0] false)).set σ4.next (.cells [.int .i64 pk.id, .int .i64 pk.flow, .int .i64 pk.size] false)) = σ5 at *
  have n5 : σ5.next = σ4.next + 1 := by rw [← hσ5]; rfl
  subst hB1
  simp only [plBody, nthC, Tryz.f3, Option.getD]
  refine codeS.region cP_ok (p := q8) ?_
  simp only [go_sem, seval, if_pos rfl, undef, zerosN, callNW, g1, g7, g9, gl, g13]
  have hc1 := cumS_le hs2 len
  have hF6 : S4.Q.F 1 = some ⟨blk4, R, 1000000, (cumS sz len : Int) - (cumS sz k : Int), (fN (cumS sz len) R : Nat), (fD (cumS sz len) R : Nat)⟩ := by rw [A6.q.F]; exact updF_same _ _ _
  have hfd := fD_pos (a := cumS sz len) (show 0 < R by omega)
  have hfl := fD_le (cumS sz len) R
  have hfn := fN_le (cumS sz len) R
  refine callN.use (pdrop_call A6.w.at' (f := 1) (tn := tnL) hF6 (by rw [A6.q.np]; omega) (pl_there A6.q) (pl_turn A6.q) A6.q.hp.hp rfl rfl hnow4 hfd (by omega) (by omega) (f_coprime (by omega)) (pl_fits A6.q hs hs2 hlen) (by rw [A6.L]; intro y hy; simp at hy) (by rw [A6.L]; decide) A6.w.room) ?_
  intro e σ6 lg6 hlg6 hR6
  obtain ⟨Sl, L', r', rfl, D⟩ := hR6
  obtain ⟨Z6, gl6, hz6⟩ := A6.drop hs hs2 hlg6 D
  simp only [go_sem, seval, if_pos rfl, undef, zerosN, g1, g7, g9, gl, g13]
  subst hB2
  refine codeS.of_wp cP_ok mixed plST (p := q8) (pl_tail (sa := sa) (len := len) (cap := cap) (a := a) (s := s) (lo := σ.next) (lb := lb4) (B := { B4 with r := r' }) (S := pdropV S4 1 Sl L') (onb := S4.on.isSome) hol hlen ha ?_ ?_ ?_ ?_ ?_ ?_ ?_ ?_ ?_ (gl6.trans A6.last.get) hfd (by omega) Z6 hnow4 ?_)
  · simp only [List.length_set, gl]
  · simp only [go_sem, seval, if_pos rfl, gl, g1]
  · simp only [go_sem, seval, if_pos rfl, gl, g7]
  · simp only [go_sem, seval, if_pos rfl, gl, g9]
  · simp only [go_sem, seval, if_pos rfl, gl, g13]
  · simp only [go_sem, seval, if_pos rfl, gl]
  · simp only [go_sem, seval, if_pos rfl, gl]
  · simp only [go_sem, seval, if_pos rfl, gl]
  · simp only [go_sem, seval, if_pos rfl, gl]
  intro ts' σ' lg h1 h2 h3
  simp only [go_sem, seval, if_pos rfl, undef, h1, h2]
  refine ⟨rfl, fun c hc => ?_⟩
  have hlo4 := A4.w.lo
  simp only [List.mem_append, List.mem_cons] at hc
  rcases hc with hc | hc | hc | hc | hc | hc | hc | hc
  · exact hB1' c hc
  · exact hz2 c hc
  · omega
  · exact hB3 c hc
  · exact hB4 c hc
  · omega
  · exact hz6 c hc
  · exact h3 c hc
theorem pl_call {rate ahead : Int} {sa : Option Addr} {len cap : Nat} {Z : Nat → Nat} {vs : List Value} {σ : St} (hol : ∀ σ, opLen (cP Tryz.prog).T σ 22 (.slice sa len cap) = some (.val (.int .i64 (len : Int)) []))
  (hin : 0 < len → sa = some ⟨0, 0, some 0⟩ ∧ σ.get 0 = some (.cells vs true) ∧ 0 < σ.next) (hZ : ∀ i, i < len → lget? vs i = some (.int .u8 (Z i : Nat)) ∧ Z i ≤ 255) :
  callN Tryz.prog 3 [.int .i64 rate, .slice sa len cap, .int .i64 ahead] σ (True3 σ) := by
 by_cases h : (1 ≤ rate ∧ rate ≤ 60) ∧ len ≤ 20 ∧ 0 ≤ ahead ∧ ahead ≤ 5
 ·obtain ⟨R, rfl⟩ : ∃ R : Nat, rate = (R : Nat) := ⟨rate.toNat, by omega⟩
  obtain ⟨a, rfl⟩ : ∃ a : Nat, ahead = (a : Nat) := ⟨ahead.toNat, by omega⟩
  exact pl_good hol (by omega) h.2.1 (by omega) (fun h => (hin h).1) (fun h => (hin h).2.1) (fun h => (hin h).2.2) hZ
 ·exact callN.of (pl_bad hol h)
end Go.Ab
namespace Go.Ab
open Go.RowKit
variable {P : Program}
theorem callsN_true {f : FuncId} {args : List Value} {σ : St} (h : callN P f args σ fun e _ lg => e = .ret (.bool true) ∧ ∀ c ∈ lg, σ.next ≤ c) {ρ : Ren} {w : World} {args' : Array Value} (hw : WR ρ σ w.heap) (ha : VRL ρ args args'.toList) (hro : ReadOnly ρ σ w) :
  Calls P f args' w fun e w' => e = .returned (.bool true) ∧ Below w.heap.size w w' := by
 refine ((h ρ w args' hw ha).mono fun e w' ⟨ae, σ', lg, ⟨hae, hlg⟩, hl, ρ', he, hA⟩ => ?_).calls fun k d hd => (by simp [fence] at hd)
 refine ⟨?_, below_of_aft hw hA hro fun c hc => hl.2 c hc fun hm => by have := hlg c hm; omega⟩
 subst hae
 cases e with
 | returned v' =>
  have he' : VR ρ' (.bool true) v' := he
  cases he'
  rfl
 | panicked c => exact False.elim he
 | outgrown => exact False.elim he
end Go.Ab
namespace Go.Proofs.YtemimidmnnjanaaGreat.portLets
open Go.ChangeShapes Go.WideShapes Go.ChangeAt Go.RowKit Go.Ab
theorem own : ownKnob Tryz.prog.godebug = none := by kernel_rfl
theorem laidOut : laidOutB Tryz.prog = true := by kernel_rfl
theorem flat_byte : flatK Tryz.prog 5 5 = some [.int .u8] := by kernel_rfl
theorem byte_of_wf {n : Int} (h : (Lit.int .u8 n).wf = true) : 0 ≤ n ∧ n ≤ 255 := by
 have h1 : IntKind.u8.min = 0 := rfl
 have h2 : IntKind.u8.max = 255 := rfl
 simp only [Lit.wf, Bool.and_eq_true, decide_eq_true_eq, h1, h2] at h
 omega
theorem byte_cells {c : List Value} (h : oks [.int .u8] c) : ∃ z : Nat, c = [.int .u8 (z : Nat)] ∧ z ≤ 255 := by
 have hl := oks_length h
 obtain ⟨a, rfl⟩ : ∃ a, c = [a] := by
  match c, hl with
  | [a], _ => exact ⟨a, rfl⟩
 obtain ⟨⟨k, rfl, hk⟩, _⟩ := h
 have := byte_of_wf hk
 refine ⟨k.toNat, ?_, by omega⟩
 have e : ((k.toNat : Nat) : Int) = k := by omega
 rw [e]
theorem walk (a0 a2 : Int) (a : Option Addr) (len cap : Nat) (es : List (List Value)) (w : World) (h : IsRow [.int .u8] w a len cap es) :
  Calls Tryz.prog 3 #[.int .i64 a0, .slice a len cap, .int .i64 a2] w fun e w' => e = .returned (.bool true) ∧ Below w.heap.size w w' := by
 obtain ⟨Z, hes⟩ : ∃ Z : Nat → Nat, ∀ i, i < es.length → lget? es.flatten i = some (.int .u8 (Z i : Nat)) ∧ Z i ≤ 255 := by
  have hok : ∀ c ∈ es, oks [.int .u8] c := by
   rcases h with ⟨_, _, _, rfl⟩ | ⟨x, _, _, _, _, h, _⟩
   ·intro c hc; simp at hc
   ·exact h
  have key : ∀ i, ∃ x : Nat, i < es.length → lget? es.flatten i = some (.int .u8 (x : Nat)) ∧ x ≤ 255 := fun i => by
   by_cases hi : i < es.length
   ·obtain ⟨z, hc, h1⟩ := byte_cells (hok es[i] (List.getElem_mem hi))
    obtain ⟨h3, h4⟩ := flatten_take (k := 1) (fun c hc => oks_length (hok c hc)) (List.getElem?_eq_getElem hi)
    rw [hc] at h3
    have e0 := congrArg (fun l : List Value => l[0]?) h3
    simp only [List.getElem?_take, List.getElem?_drop, Nat.add_zero, Nat.zero_lt_succ, if_true, List.getElem?_cons_zero, Nat.mul_one] at e0
    exact ⟨z, fun _ => ⟨by rw [lget?_eq]; exact e0, h1⟩⟩
   ·exact ⟨0, fun h => absurd h hi⟩
  exact ⟨fun i => Classical.choose (key i), fun i hi => Classical.choose_spec (key i) hi⟩
 obtain ⟨ρ, σ, v, hw, hro, hv, hs⟩ := row_in h (by simp)
 rcases hs with ⟨rfl, rfl, hv2⟩ | ⟨hl, rfl, rfl⟩
 ·have key : ∀ sa : Option Addr, v = .slice sa 0 0 → (∀ σ, opLen (cP Tryz.prog).T σ 22 (.slice sa 0 0) = some (.val (.int .i64 ((0 : Nat) : Int)) [])) → Calls Tryz.prog 3 #[.int .i64 a0, .slice a 0 cap, .int .i64 a2] w fun e w' => e = .returned (.bool true) ∧ Below w.heap.size w w' := fun sa e hol => by
   subst e
   exact callsN_true (pl_call (rate := a0) (ahead := a2) (sa := sa) (len := 0) (cap := 0) (vs := []) (Z := Z) (σ := St.nil) hol (fun h => absurd h (by omega)) (fun i hi => absurd hi (by omega))) hw (.cons (.int _ _) (.cons hv (.cons (.int _ _) .nil))) hro
  rcases hv2 with hv2 | hv2
  ·exact key none hv2 fun σ => by simp only [opLen, cx_und, Tryz.underlying22]; rfl
  ·exact key _ hv2 fun σ => by simp only [opLen, cx_und, Tryz.underlying22]
 ·exact callsN_true (pl_call (rate := a0) (ahead := a2) (sa := some ⟨0, 0, some 0⟩) (len := len) (cap := cap) (vs := es.flatten) (Z := Z) (σ := St.nil.new (.cells es.flatten true)) (fun σ => by simp only [opLen, cx_und, Tryz.underlying22])
   (fun _ => ⟨rfl, by rw [St.get_new]; rfl, Nat.zero_lt_one⟩) (fun i hi => hes i (by omega))) hw (.cons (.int _ _) (.cons hv (.cons (.int _ _) .nil))) hro
set_option maxRecDepth 100000 in
theorem lifted (os : Os) (started : os.Started) (H : Type) (enc : TypeId × Value → H) :
  ReturnsInHanded {} Tryz.checked os 3 .any (Rows.portLetsSpec.pre6 enc Tryz.prog Tryz.f3 Rows.portLetsRow.domain false) (Rows.portLetsSpec.post enc Tryz.prog Tryz.f3 false true false false) := by
 refine returnsInHanded_of_change (C := Tryz.checked) own started (by kernel_rfl) Tryz.func3
  (ChangeSpec.witness6 (enc := enc) (C := Tryz.checked) false ⟨#[], #[.int .i64 0, .slice none 0 0, .int .i64 0], []⟩ 8 (by kernel_rfl) (by kernel_rfl) (by kernel_rfl) (by kernel_rfl)) ?_
 intro W base args ds gs before hval0 hW hcnd _
 have hval : ∀ (j : Nat) t v, Tryz.f3.params[j]? = some t → args[j]? = some v → Value.okWide Tryz.prog W .any base t v := hval0
 have hW' := hW
 obtain ⟨p, q, hA0, hV, rfl, hfz, hnd⟩ := hW
 have hA : DataW.TrodAll enc Tryz.prog W 0 (fun _ => true) true Tryz.f3.params.toList args.toList ds p := hA0
 rw [Tryz.params3] at hA hval
 obtain ⟨v0, vs0, d0, ds0, p0, q0, hargs, rfl, rfl, h0, r0⟩ := trodAll_cons hA
 obtain ⟨v1, vs1, d1, ds1, p1, q1, rfl, rfl, rfl, h1, r1⟩ := trodAll_cons r0
 obtain ⟨v2, vs2, d2, ds2, p2, q2, rfl, rfl, rfl, h2, r2⟩ := trodAll_cons r1
 obtain ⟨rfl, rfl, rfl⟩ := trodAll_nil r2
 obtain rfl : args = #[v0, v1, v2] := by cases args; simp_all
 obtain ⟨rfl, rfl⟩ := trodVars_none hV
 obtain ⟨a0, rfl, rfl, rfl, w0⟩ := open_int Tryz.underlying2 (hval 0 2 v0 rfl rfl) h0
 obtain ⟨a2, rfl, rfl, rfl, w2⟩ := open_int Tryz.underlying3 (hval 2 3 v2 rfl rfl) h2
 obtain ⟨a1, len1, cap1, rfl⟩ := okWide_slice Tryz.underlying22 (hval 1 22 v1 rfl rfl)
 have k1 := h1
 have lt1 : ∀ x ∈ p1, x.block < W.heap.size := by obtain ⟨m, hm⟩ := k1; exact DataW.trod_lt m _ _ _ hm
 obtain ⟨es, w1⟩ : ∃ es, IsRow [.int .u8] W a1 len1 cap1 es := by
  obtain ⟨fuel, hf⟩ := h1
  rcases open_flats Tryz.underlying22 flat_byte (by kernel_rfl) hf with hcs | ⟨x, l, c, es, hcs, _, hl, hm, hz, hok, hcell⟩
  ·simp [Value.cells] at hcs
   obtain ⟨rfl, rfl, rfl⟩ := hcs
   exact ⟨[], .inl ⟨rfl, rfl, rfl, rfl⟩⟩
  ·simp [Value.cells] at hcs
   obtain ⟨rfl, rfl, rfl⟩ := hcs
   exact ⟨es, .inr ⟨_, rfl, hl, hm, hz, hok, hcell⟩⟩
 clear hA0 hval0
 refine (walk a0 a2 a1 len1 cap1 es W w1).mono fun e W' ⟨he, bel⟩ => ?_
 subst he
 exact ⟨_, rfl, _, _, _, [], _, [], hW', trodAll_mk1 (shut_bool Tryz.underlying4 _), (trodAll_cons_mk (shut_int Tryz.underlying2 w0) (trodAll_cons_mk (Below.trod laidOut (by kernel_rfl) (of_decide_eq_true (by kernel_rfl)) k1 bel lt1) (trodAll_cons_mk (shut_int Tryz.underlying3 w2) trodAll_mk0))), rfl, bel.frame _, fun h => by cases h⟩
theorem over : Rows.portLetsRow.holds Tryz.pinned (OpenSpec.ofChange Rows.portLetsSpec) :=
 OpenClaim.holds_of_wide 3 Tryz.f3 rfl rfl rfl rfl rfl rfl rfl ⟨rfl, rfl, rfl, rfl, rfl⟩ rfl rfl rfl rfl rfl (by kernel_rfl) Tryz.func3 (by kernel_rfl)
  (of_decide_eq_true (by kernel_rfl)) (by unfold Func.isWrapper; first | (rw [if_pos (by decide +kernel)]; kernel_rfl) | (rw [if_neg (by decide +kernel)]; exact ⟨rfl, rfl⟩))
  (fun os started H enc _ => lifted os started H enc)
theorem proved : Rows.PortLetsSaid := over
#print axioms proved
end Go.Proofs.YtemimidmnnjanaaGreat.portLets
