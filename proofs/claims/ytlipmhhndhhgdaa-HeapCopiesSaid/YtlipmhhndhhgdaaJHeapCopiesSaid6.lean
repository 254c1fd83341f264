/- HeapCopiesSaid: part 7 of 7 of the proof that it returns true for every input and leaves its arguments as they were; no condition. -/
import Derived.Test.YtlipmhhndhhgdaaJHeapCopiesSaid5
import Derived.Test.YtlipmhhndhhgdaaJHeapCopiesSaid2
import Derived.Test.YtlipmhhndhhgdaaJHeapCopiesSaid1
import Derived.Test.YtlipmhhndhhgdaaRows
import Derived.ChangeOld
import Derived.Carry
import Derived.Below
import Derived.SizedLaws
set_option linter.unusedSimpArgs false
set_option linter.unusedVariables false
namespace Go.Ab
open Go.Proofs
structure Bth (σ0 σ : St) (own0 own : List Nat) (h m g k : Nat) (L R : List Item) (t : Int) (s : Value) : Prop where
 H : HO σ own h m L t
 I : I4 L t k
 M : Mir L R
 X : ItX own σ s R
 gg : σ.get g = some (.cells [s, .int .i64 t] false)
 gno : g ∉ own
 g0 : g < σ0.next
 nx : σ0.next ≤ σ.next
 ow : ∀ c ∈ own, c ∈ own0 ∨ σ0.next ≤ c
 kp : ∀ c, c < σ0.next → c ∉ own0 → c ≠ g → σ.get c = σ0.get c
def ActsAt (σ : St) (sa : Option Addr) (len : Nat) (vs : List Value) (za : Nat) : Prop :=
 (0 < len → sa = some ⟨za, 0, some 0⟩ ∧ σ.get za = some (.cells vs true) ∧ za < σ.next) ∧
 ∀ i, i < len → ∃ kind id n d, okI n = true ∧ okI d = true ∧ (vs.drop (i * 4)).take 4 = [.int .i64 kind, .int .i64 id, .int .i64 n, .int .i64 d] ∧ i * 4 + 4 ≤ vs.length
structure Fca (ts : List Value) (A B : Value) (P : Nat → Nat) (i : Nat) : Prop where
 size : ts.length = 129
 t0 : lget ts 0 = A
 t1 : lget ts 1 = B
 t5 : lget ts 5 = .pointer (some ⟨P 5, 0, none⟩)
 t6 : lget ts 6 = .pointer (some ⟨P 6, 0, none⟩)
 t7 : lget ts 7 = .pointer (some ⟨P 7, 0, none⟩)
 t8 : lget ts 8 = .pointer (some ⟨P 8, 0, none⟩)
 t9 : lget ts 9 = .int .i64 i
noncomputable def caB : Code := loopOf (nthC 4 (Try.f10.body.getD .skip))
def Ica (A B : Value) (P : Nat → Nat) (ds : List Deferred) (σ0 : St) (own0 : List Nat) (h m g k0 len : Nat) (n : Nat) (fr : Fr) (σ : St) : Prop :=
 ∃ ts, ∃ i : Nat, ∃ own L R t s, fr = ⟨ts, ds⟩ ∧ Fca ts A B P i ∧ n + i = len ∧ Bth σ0 σ own0 own h m g (k0 + i) L R t s
def Eca (A B : Value) (P : Nat → Nat) (ds : List Deferred) (σ0 : St) (own0 : List Nat) (h m g k0 len : Nat) (x : AX) (fr : Fr) (σ : St) : Prop :=
 x = .exit 0 ∧ ∃ ts, ∃ own L R t s, fr = ⟨ts, ds⟩ ∧ Fca ts A B P len ∧ Bth σ0 σ own0 own h m g (k0 + len) L R t s
set_option maxHeartbeats 3200000 in
set_option maxRecDepth 20000 in
theorem ca_loop {A B : Value} {P : Nat → Nat} {ds : List Deferred} {σ0 : St} {own0 : List Nat} {h m g k0 len cap za : Nat} {sa : Option Addr} {vs : List Value} (hh : h = P 7) (hg : g = P 8) (hS : A = .slice sa len cap) (hlen : k0 + len ≤ 60) (hol : ∀ σ, opLen (cP Try.prog).T σ 36 (.slice sa len cap) = some (.val (.int .i64 (len : Int)) []))
  (hK : ActsAt σ0 sa len vs za) (hz : 0 < len → za ∉ own0 ∧ za ≠ g) :
  ∀ n fr σ, Ica A B P ds σ0 own0 h m g k0 len n fr σ → loopX Try.prog false caB fr σ (endL (Eca A B P ds σ0 own0 h m g k0 len) fun z => z ∈ own0 ∨ z = g ∨ σ0.next ≤ z) := by
 refine loop_ind q0 10 (by kernel_rfl) _ _ _ ?_
 rintro n fr σ ⟨ts, i, own, L, R, t, s, rfl, F, hn, W⟩
 have e0 := F.t0
 have e1 := F.t1
 have e5 := F.t5
 have e6 := F.t6
 have e7 := F.t7
 have e8 := F.t8
 have e9 := F.t9
 have el := F.size
 rw [hS] at e0
 rw [← hh] at e7
 rw [← hg] at e8
 by_cases hi : i < len
 ·obtain ⟨kind, id', kn, kd, hkn, hkd, he, hl⟩ := hK.2 i hi
  obtain ⟨rfl, k0', hz0⟩ := hK.1 (by omega)
  obtain ⟨hz1, hz2⟩ := hz (by omega)
  have kk := (W.kp za hz0 hz1 hz2).trans k0'
  have c0 : (i : Int) < (len : Int) := by omega
  have c1 : (0 : Int) ≤ (i : Int) := by omega
  have w1 : IntKind.i64.wrap ((i : Int) + 1) = ((i + 1 : Nat) : Int) := by
   have : (i : Int) + 1 = ((i + 1 : Nat) : Int) := by omega
   rw [this]; exact wrapIN (by omega)
  have gg := W.gg
  have g0 := W.g0
  have nx := W.nx
  have glt : g < σ.next := by omega
  have z0 : za < σ.next := by omega
  obtain ⟨sa', sl, sc, rfl⟩ := W.X.s.shape
  have hdo := xdoes_call W.H W.I W.M W.X (by omega) kind id' kn kd hkn hkd
  simp only [RV] at hdo
  simp only [go_sem, seval, if_pos rfl, callW, q0, undef, caB, dropC, nthC, loopOf, Try.f10, Option.getD, lget_put, lgetq_put, List.length_set, Int.toNat_natCast, hol, e0, e1, e5, e6, e7, e8, e9, el, gg, glt, kk, z0, he, hl, c0, c1, body18]
  refine callX.hidE hdo ?_
  intro e σ1 lg1 hlg1 hA
  obtain ⟨w, own', L', R', t', rfl, hB, hO, H1, I1, M1, X1⟩ := hA
  have hn1 := hlg1.1
  have hk1 : ∀ c, c < σ.next → c ∉ own → σ1.get c = σ.get c := fun c h1 h2 => hlg1.2 c h1 fun hm => (hB c hm).elim h2 fun h => by omega
  have g1 := (hk1 g glt W.gno).trans gg
  have X1' := Both.ne X1 g1
  have gno' : g ∉ own' := fun hm => (hO g hm).elim W.gno fun h => by omega
  have r0 : g < σ1.next := by omega
  obtain ⟨wa, wl, wc, rfl⟩ := X1.s.shape
  have W3 : Bth σ0 (σ1.set g (.cells [.slice wa wl wc, .int .i64 t'] false)) own0 own' h m g (k0 + (i + 1)) L' R' t' (.slice wa wl wc) := by
   refine ⟨H1.keep (Nat.le_refl _) fun c hc => by
    have ne : ¬ g = c := fun e => gno' (by rw [e]; exact hc)
    rw [St.get_set, if_neg ne], I1, M1, X1'.keep (Nat.le_refl _) (fun c hc h1 => ?_) fun c hc => .inl (by simp [hc]), by rw [St.get_set, if_pos rfl], gno', g0, by rw [St.next_set]; omega, fun c hc => ?_, fun c h1 h2 h3 => ?_⟩
   ·have ne : ¬ g = c := fun e => hc (by simp [e])
    rw [St.get_set, if_neg ne]
   ·rcases hO c hc with h | h
    ·exact W.ow c h
    ·right; omega
   ·rw [St.get_set, if_neg (Ne.symm h3)]
    exact (hk1 c (by omega) fun hm => (W.ow c hm).elim h2 fun h => by omega).trans (W.kp c h1 h2 h3)
  have zb : ¬ σ.next = za := by omega
  have zc : ¬ σ.next ≤ za := by omega
  refine ⟨?_⟩
  simp only [go_sem, seval, if_pos rfl, callW, q0, undef, RV, lget_put, lgetq_put, List.length_set, e0, e1, e5, e6, e7, e8, e9, el, g1, r0, w1, zb, zc, body18]
  rw [← hS] at e0
  rw [hh] at e7
  rw [hg] at e8
  refine ⟨fun z hz => ?_, n - 1, by omega, _, i + 1, own', L', R', t', _, rfl, ⟨by simp only [List.length_set, el], by simp only [go_sem, seval, if_pos rfl, lget_put, List.length_set, el, e0], by simp only [go_sem, seval, if_pos rfl, lget_put, List.length_set, el, e1], by simp only [go_sem, seval, if_pos rfl, lget_put, List.length_set, el, e5], by simp only [go_sem, seval, if_pos rfl, lget_put, List.length_set, el, e6], by simp only [go_sem, seval, if_pos rfl, lget_put, List.length_set, el, e7], by simp only [go_sem, seval, if_pos rfl, lget_put, List.length_set, el, e8], by simp only [go_sem, seval, if_pos rfl, lget_put, List.length_set, el]⟩, by omega, W3⟩
  rcases hz with hz | hz
  ·rcases hB z hz with h | h
   ·rcases W.ow z h with h | h
    ·exact .inl h
    ·exact .inr (.inr h)
   ·right; right; omega
  ·exact .inr (.inl hz)
 ·have c0 : ¬ (i : Int) < (len : Int) := by omega
  obtain rfl : i = len := by omega
  rw [← hS] at e0
  have hol' : ∀ σ, opLen (cP Try.prog).T σ 36 A = some (.val (.int .i64 (i : Int)) []) := fun σ => by rw [hS]; exact hol σ
  simp only [go_sem, seval, if_pos rfl, callW, q0, undef, caB, dropC, nthC, loopOf, Try.f10, Option.getD, lget_put, lgetq_put, List.length_set, hol', e0, e1, e5, e6, e7, e8, e9, el, c0]
  rw [hh] at e7
  rw [hg] at e8
  exact ⟨rfl, _, own, L, R, t, s, rfl, ⟨by simp only [List.length_set, el], by simp only [go_sem, seval, if_pos rfl, lget_put, List.length_set, el, e0], by simp only [go_sem, seval, if_pos rfl, lget_put, List.length_set, el, e1], by simp only [go_sem, seval, if_pos rfl, lget_put, List.length_set, el, e5], by simp only [go_sem, seval, if_pos rfl, lget_put, List.length_set, el, e6], by simp only [go_sem, seval, if_pos rfl, lget_put, List.length_set, el, e7], by simp only [go_sem, seval, if_pos rfl, lget_put, List.length_set, el, e8], by simp only [go_sem, seval, if_pos rfl, lget_put, List.length_set, el, e9]⟩, W⟩
structure Fcb (ts : List Value) (A B : Value) (P : Nat → Nat) (i : Nat) : Prop where
 size : ts.length = 129
 t0 : lget ts 0 = A
 t1 : lget ts 1 = B
 t5 : lget ts 5 = .pointer (some ⟨P 5, 0, none⟩)
 t6 : lget ts 6 = .pointer (some ⟨P 6, 0, none⟩)
 t7 : lget ts 7 = .pointer (some ⟨P 7, 0, none⟩)
 t8 : lget ts 8 = .pointer (some ⟨P 8, 0, none⟩)
 t10 : lget ts 10 = .pointer (some ⟨P 10, 0, none⟩)
 t12 : lget ts 12 = .pointer (some ⟨P 12, 0, none⟩)
 t14 : lget ts 14 = .pointer (some ⟨P 14, 0, none⟩)
 t15 : lget ts 15 = .int .i64 i
noncomputable def cbB : Code := loopOf (nthC 11 (Try.f10.body.getD .skip))
def Icb (A B : Value) (P : Nat → Nat) (ds : List Deferred) (σ0 : St) (own0 : List Nat) (h m g k0 len : Nat) (n : Nat) (fr : Fr) (σ : St) : Prop :=
 ∃ ts, ∃ i : Nat, ∃ own L R t s, fr = ⟨ts, ds⟩ ∧ Fcb ts A B P i ∧ n + i = len ∧ Bth σ0 σ own0 own h m g (k0 + i) L R t s
def Ecb (A B : Value) (P : Nat → Nat) (ds : List Deferred) (σ0 : St) (own0 : List Nat) (h m g k0 len : Nat) (x : AX) (fr : Fr) (σ : St) : Prop :=
 x = .exit 4 ∧ ∃ ts, ∃ own L R t s, fr = ⟨ts, ds⟩ ∧ Fcb ts A B P len ∧ Bth σ0 σ own0 own h m g (k0 + len) L R t s
set_option maxHeartbeats 3200000 in
set_option maxRecDepth 20000 in
theorem cb_loop {A B : Value} {P : Nat → Nat} {ds : List Deferred} {σ0 : St} {own0 : List Nat} {h m g k0 len cap za : Nat} {sa : Option Addr} {vs : List Value} (hh : h = P 10) (hg : g = P 14) (hS : B = .slice sa len cap) (hlen : k0 + len ≤ 60) (hol : ∀ σ, opLen (cP Try.prog).T σ 36 (.slice sa len cap) = some (.val (.int .i64 (len : Int)) []))
  (hK : ActsAt σ0 sa len vs za) (hz : 0 < len → za ∉ own0 ∧ za ≠ g) :
  ∀ n fr σ, Icb A B P ds σ0 own0 h m g k0 len n fr σ → loopX Try.prog false cbB fr σ (endL (Ecb A B P ds σ0 own0 h m g k0 len) fun z => z ∈ own0 ∨ z = g ∨ σ0.next ≤ z) := by
 refine loop_ind q0 10 (by kernel_rfl) _ _ _ ?_
 rintro n fr σ ⟨ts, i, own, L, R, t, s, rfl, F, hn, W⟩
 have e0 := F.t0
 have e1 := F.t1
 have e5 := F.t5
 have e6 := F.t6
 have e7 := F.t7
 have e8 := F.t8
 have e10 := F.t10
 have e12 := F.t12
 have e14 := F.t14
 have e15 := F.t15
 have el := F.size
 rw [hS] at e1
 rw [← hh] at e10
 rw [← hg] at e14
 by_cases hi : i < len
 ·obtain ⟨kind, id', kn, kd, hkn, hkd, he, hl⟩ := hK.2 i hi
  obtain ⟨rfl, k0', hz0⟩ := hK.1 (by omega)
  obtain ⟨hz1, hz2⟩ := hz (by omega)
  have kk := (W.kp za hz0 hz1 hz2).trans k0'
  have c0 : (i : Int) < (len : Int) := by omega
  have c1 : (0 : Int) ≤ (i : Int) := by omega
  have w1 : IntKind.i64.wrap ((i : Int) + 1) = ((i + 1 : Nat) : Int) := by
   have : (i : Int) + 1 = ((i + 1 : Nat) : Int) := by omega
   rw [this]; exact wrapIN (by omega)
  have gg := W.gg
  have g0 := W.g0
  have nx := W.nx
  have glt : g < σ.next := by omega
  have z0 : za < σ.next := by omega
  obtain ⟨sa', sl, sc, rfl⟩ := W.X.s.shape
  have hdo := xdoes_call W.H W.I W.M W.X (by omega) kind id' kn kd hkn hkd
  simp only [RV] at hdo
  simp only [go_sem, seval, if_pos rfl, callW, q0, undef, cbB, dropC, nthC, loopOf, Try.f10, Option.getD, lget_put, lgetq_put, List.length_set, Int.toNat_natCast, hol, e0, e1, e5, e6, e7, e8, e10, e12, e14, e15, el, gg, glt, kk, z0, he, hl, c0, c1, body18]
  refine callX.hidE hdo ?_
  intro e σ1 lg1 hlg1 hA
  obtain ⟨w, own', L', R', t', rfl, hB, hO, H1, I1, M1, X1⟩ := hA
  have hn1 := hlg1.1
  have hk1 : ∀ c, c < σ.next → c ∉ own → σ1.get c = σ.get c := fun c h1 h2 => hlg1.2 c h1 fun hm => (hB c hm).elim h2 fun h => by omega
  have g1 := (hk1 g glt W.gno).trans gg
  have X1' := Both.ne X1 g1
  have gno' : g ∉ own' := fun hm => (hO g hm).elim W.gno fun h => by omega
  have r0 : g < σ1.next := by omega
  obtain ⟨wa, wl, wc, rfl⟩ := X1.s.shape
  have W3 : Bth σ0 (σ1.set g (.cells [.slice wa wl wc, .int .i64 t'] false)) own0 own' h m g (k0 + (i + 1)) L' R' t' (.slice wa wl wc) := by
   refine ⟨H1.keep (Nat.le_refl _) fun c hc => by
    have ne : ¬ g = c := fun e => gno' (by rw [e]; exact hc)
    rw [St.get_set, if_neg ne], I1, M1, X1'.keep (Nat.le_refl _) (fun c hc h1 => ?_) fun c hc => .inl (by simp [hc]), by rw [St.get_set, if_pos rfl], gno', g0, by rw [St.next_set]; omega, fun c hc => ?_, fun c h1 h2 h3 => ?_⟩
   ·have ne : ¬ g = c := fun e => hc (by simp [e])
    rw [St.get_set, if_neg ne]
   ·rcases hO c hc with h | h
    ·exact W.ow c h
    ·right; omega
   ·rw [St.get_set, if_neg (Ne.symm h3)]
    exact (hk1 c (by omega) fun hm => (W.ow c hm).elim h2 fun h => by omega).trans (W.kp c h1 h2 h3)
  have zb : ¬ σ.next = za := by omega
  have zc : ¬ σ.next ≤ za := by omega
  refine ⟨?_⟩
  simp only [go_sem, seval, if_pos rfl, callW, q0, undef, RV, lget_put, lgetq_put, List.length_set, e0, e1, e5, e6, e7, e8, e10, e12, e14, e15, el, g1, r0, w1, zb, zc, body18]
  rw [← hS] at e1
  rw [hh] at e10
  rw [hg] at e14
  refine ⟨fun z hz => ?_, n - 1, by omega, _, i + 1, own', L', R', t', _, rfl, ⟨by simp only [List.length_set, el], by simp only [go_sem, seval, if_pos rfl, lget_put, List.length_set, el, e0], by simp only [go_sem, seval, if_pos rfl, lget_put, List.length_set, el, e1], by simp only [go_sem, seval, if_pos rfl, lget_put, List.length_set, el, e5], by simp only [go_sem, seval, if_pos rfl, lget_put, List.length_set, el, e6], by simp only [go_sem, seval, if_pos rfl, lget_put, List.length_set, el, e7], by simp only [go_sem, seval, if_pos rfl, lget_put, List.length_set, el, e8], by simp only [go_sem, seval, if_pos rfl, lget_put, List.length_set, el, e10], by simp only [go_sem, seval, if_pos rfl, lget_put, List.length_set, el, e12], by simp only [go_sem, seval, if_pos rfl, lget_put, List.length_set, el, e14], by simp only [go_sem, seval, if_pos rfl, lget_put, List.length_set, el]⟩, by omega, W3⟩
  rcases hz with hz | hz
  ·rcases hB z hz with h | h
   ·rcases W.ow z h with h | h
    ·exact .inl h
    ·exact .inr (.inr h)
   ·right; right; omega
  ·exact .inr (.inl hz)
 ·have c0 : ¬ (i : Int) < (len : Int) := by omega
  obtain rfl : i = len := by omega
  rw [← hS] at e1
  have hol' : ∀ σ, opLen (cP Try.prog).T σ 36 B = some (.val (.int .i64 (i : Int)) []) := fun σ => by rw [hS]; exact hol σ
  simp only [go_sem, seval, if_pos rfl, callW, q0, undef, cbB, dropC, nthC, loopOf, Try.f10, Option.getD, lget_put, lgetq_put, List.length_set, hol', e0, e1, e5, e6, e7, e8, e10, e12, e14, e15, el, c0]
  rw [hh] at e10
  rw [hg] at e14
  exact ⟨rfl, _, own, L, R, t, s, rfl, ⟨by simp only [List.length_set, el], by simp only [go_sem, seval, if_pos rfl, lget_put, List.length_set, el, e0], by simp only [go_sem, seval, if_pos rfl, lget_put, List.length_set, el, e1], by simp only [go_sem, seval, if_pos rfl, lget_put, List.length_set, el, e5], by simp only [go_sem, seval, if_pos rfl, lget_put, List.length_set, el, e6], by simp only [go_sem, seval, if_pos rfl, lget_put, List.length_set, el, e7], by simp only [go_sem, seval, if_pos rfl, lget_put, List.length_set, el, e8], by simp only [go_sem, seval, if_pos rfl, lget_put, List.length_set, el, e10], by simp only [go_sem, seval, if_pos rfl, lget_put, List.length_set, el, e12], by simp only [go_sem, seval, if_pos rfl, lget_put, List.length_set, el, e14], by simp only [go_sem, seval, if_pos rfl, lget_put, List.length_set, el, e15]⟩, W⟩
end Go.Ab
namespace Go.Ab
open Go.Proofs
noncomputable def cpA : Code := match findR (Try.f10.body.getD .skip) with | some x => x.2.1 | none => .skip
noncomputable def cpD : Code := match findR (Try.f10.body.getD .skip) with | some x => x.2.2 | none => .skip
structure JCp (σ0 : St) (ts : List Value) (nb : Nat) (done : List Item) (σ : St) : Prop where
 nx : σ0.next + 2 ≤ σ.next
 old : ∀ z, z < σ0.next → z ≠ nb → σ.get z = σ0.get z
 gn : σ.get nb = some (.cells [.int .i64 done.length] false)
 gd : σ.get σ0.next = some (.deferred false)
 gy : σ.get (σ0.next + 1) = some (loopOb .ready none ts #[56] cpA cpD σ0.next)
structure JCe (σ0 : St) (ts : List Value) (nb : Nat) (done : List Item) (σ : St) : Prop where
 nx : σ0.next + 2 ≤ σ.next
 old : ∀ z, z < σ0.next → z ≠ nb → σ.get z = σ0.get z
 gn : σ.get nb = some (.cells [.int .i64 done.length] false)
 gd : σ.get σ0.next = some (.deferred false)
 gy : σ.get (σ0.next + 1) = some (loopOb .done (some (.exit 2)) ts #[56] cpA cpD σ0.next)
set_option maxHeartbeats 1600000 in
set_option maxRecDepth 20000 in
theorem cp_yields {σ0 : St} {ts : List Value} {nb gb mb many : Nat} {t : Int} {s : Value} {R : List Item} (hts : ts.length = 129) (t8 : lget ts 8 = .pointer (some ⟨gb, 0, none⟩)) (t12 : lget ts 12 = .pointer (some ⟨nb, 0, none⟩)) (t5 : lget ts 5 = .pointer (some ⟨mb, 0, none⟩)) (hmb : mb < nb) (gmm : σ0.get mb = some (.cells [.int .i64 many] false)) (hnb : nb < σ0.next) (hgb : gb < nb)
  (gg : σ0.get gb = some (.cells [s, .int .i64 t] false)) (hs : (s = .slice none 0 0 ∧ R = []) ∨ ∃ a, s = .slice (some ⟨a, 0, some 6⟩) R.length R.length ∧ σ0.get a = some (.cells (cellsL R) false) ∧ a < nb) (hL : R.length < 1000000) :
  YieldsS (σ0.next + 1) (fun z => nb ≤ z) R many (JCp σ0 ts nb) (JCe σ0 ts nb) := by
 refine ⟨fun done x rest σ hsp hst H => ?_, fun done x rest σ hsp hst H => ?_, fun done σ σ' H hn hg => ?_⟩
 ·have hlt : done.length < R.length := by
   have := congrArg List.length hsp
   simp at this; omega
  have hx : R[done.length]? = some x := by rw [hsp]; simp
  obtain ⟨a, rfl, ga, hab⟩ := hs.resolve_left fun h => by rw [h.2] at hlt; simp at hlt
  have ne1 : gb ≠ nb := by omega
  have ne2 : a ≠ nb := by omega
  have hgb' : gb < σ0.next := by omega
  have hab' : a < σ0.next := by omega
  have hdl : (done ++ [x]).length = done.length + 1 := by rw [List.length_append]; rfl
  have nx := H.nx
  have gy := H.gy
  have gn := H.gn
  have old := H.old
  have gd := H.gd
  have ggs := (old gb hgb' ne1).trans gg
  have gms := (old mb (by omega) (by omega)).trans gmm
  have k4 : mb < σ.next := by omega
  have m7 : ¬ σ0.next + 1 = mb := by omega
  have m8 : ¬ nb = mb := by omega
  have gas := (old a hab' ne2).trans ga
  generalize done.length = i at hlt hx hdl gn hst
  have ky : σ0.next + 1 < σ.next := by omega
  have k1 : nb < σ.next := by omega
  have k2 : gb < σ.next := by omega
  have k3 : a < σ.next := by omega
  have m1 : ¬ σ0.next + 1 = nb := by omega
  have m2 : ¬ σ0.next + 1 = gb := by omega
  have m3 : ¬ σ0.next + 1 = a := by omega
  have m4 : ¬ σ.next = σ0.next + 1 := by omega
  have m5 : ¬ σ0.next + 1 = σ.next := by omega
  have m6 : ¬ nb = σ0.next + 1 := by omega
  have c0 : ¬ (R.length : Int) ≤ (i : Int) := by omega
  have c1 : (0 : Int) ≤ (i : Int) := by omega
  have c2 : (i : Int) < (R.length : Int) := by omega
  have ex := cells_at (G := []) hx
  have lx : i * 4 + 4 ≤ (cellsL R).length := by rw [cellsL_length]; omega
  simp only [List.append_nil, Item.cells] at ex
  have w1 : IntKind.i64.wrap ((i : Int) + 1) = ((i + 1 : Nat) : Int) := by
   have : (i : Int) + 1 = ((i + 1 : Nat) : Int) := by omega
   rw [this]; exact wrapIN (by omega)
  have hol : ∀ σ, opLen (cP Try.prog).T σ 37 (.slice (some ⟨a, 0, some 6⟩) R.length R.length) = some (.val (.int .i64 R.length) []) := fun _ => by simp only [opLen, und37w]
  have bst : (((i + 1 : Nat) : Int) == (many : Int)) = false := by rw [beq_eq_false_iff_ne]; omega
  refine roundX.enter (p := q0) (bt := btAll 10) cP_ok mixed gy rfl (by kernel_rfl) (by kernel_rfl) ?_
  simp only [go_sem, seval, if_pos rfl, callW, q0, Item.cells, cpA, findR, Try.f10, Option.getD, roundTs, lget_put, lgetq_put, List.length_set, hts]
  refine midRW.mk ?_ ?_
  ·simp only [go_sem, seval, if_pos rfl, ky, m4]
   exact gy
  simp only [go_sem, seval, if_pos rfl, callW, q0, undef, cpD, findR, Try.f10, Option.getD, lget_put, lgetq_put, List.length_set, hts, hol, t5, t8, t12, gms, k4, m7, m8, gn, ggs, gas, ky, k1, k2, k3, m1, m2, m3, m4, m5, m6, c0, c1, c2, ex, lx, w1, bst, flat31, eqCells, beq_self_eq_true, Int.toNat_natCast]
  refine ⟨by omega, by simp only [go_sem, seval, if_pos rfl] <;> omega, fun z hz hne => ?_, ?_, ?_, ?_⟩
  ·have z1 : ¬ σ0.next + 1 = z := by omega
   have z2 : ¬ nb = z := fun h => hne h.symm
   have z3 : z < σ.next := by omega
   simp only [go_sem, seval, if_pos rfl, z1, z2, z3]
   exact old z hz hne
  ·rw [hdl]; simp only [go_sem, seval, if_pos rfl, m1, k1]
  ·have z1 : ¬ σ0.next + 1 = σ0.next := by omega
   have z2 : ¬ nb = σ0.next := by omega
   have z3 : σ0.next < σ.next := by omega
   simp only [go_sem, seval, if_pos rfl, z1, z2, z3]
   exact gd
  ·rw [St.get_set, if_pos rfl]
   rfl
 ·have hlt : done.length < R.length := by
   have := congrArg List.length hsp
   simp at this; omega
  have hx : R[done.length]? = some x := by rw [hsp]; simp
  obtain ⟨a, rfl, ga, hab⟩ := hs.resolve_left fun h => by rw [h.2] at hlt; simp at hlt
  have ne1 : gb ≠ nb := by omega
  have ne2 : a ≠ nb := by omega
  have hgb' : gb < σ0.next := by omega
  have hab' : a < σ0.next := by omega
  have hdl : (done ++ [x]).length = done.length + 1 := by rw [List.length_append]; rfl
  have nx := H.nx
  have gy := H.gy
  have gn := H.gn
  have old := H.old
  have gd := H.gd
  have ggs := (old gb hgb' ne1).trans gg
  have gms := (old mb (by omega) (by omega)).trans gmm
  have k4 : mb < σ.next := by omega
  have m7 : ¬ σ0.next + 1 = mb := by omega
  have m8 : ¬ nb = mb := by omega
  have gas := (old a hab' ne2).trans ga
  generalize done.length = i at hlt hx hdl gn hst
  have ky : σ0.next + 1 < σ.next := by omega
  have k1 : nb < σ.next := by omega
  have k2 : gb < σ.next := by omega
  have k3 : a < σ.next := by omega
  have m1 : ¬ σ0.next + 1 = nb := by omega
  have m2 : ¬ σ0.next + 1 = gb := by omega
  have m3 : ¬ σ0.next + 1 = a := by omega
  have m4 : ¬ σ.next = σ0.next + 1 := by omega
  have m5 : ¬ σ0.next + 1 = σ.next := by omega
  have m6 : ¬ nb = σ0.next + 1 := by omega
  have c0 : ¬ (R.length : Int) ≤ (i : Int) := by omega
  have c1 : (0 : Int) ≤ (i : Int) := by omega
  have c2 : (i : Int) < (R.length : Int) := by omega
  have ex := cells_at (G := []) hx
  have lx : i * 4 + 4 ≤ (cellsL R).length := by rw [cellsL_length]; omega
  simp only [List.append_nil, Item.cells] at ex
  have w1 : IntKind.i64.wrap ((i : Int) + 1) = ((i + 1 : Nat) : Int) := by
   have : (i : Int) + 1 = ((i + 1 : Nat) : Int) := by omega
   rw [this]; exact wrapIN (by omega)
  have hol : ∀ σ, opLen (cP Try.prog).T σ 37 (.slice (some ⟨a, 0, some 6⟩) R.length R.length) = some (.val (.int .i64 R.length) []) := fun _ => by simp only [opLen, und37w]
  have bst : (((i + 1 : Nat) : Int) == (many : Int)) = true := by rw [hst]; exact beq_self_eq_true _
  refine roundX.enter (p := q0) (bt := btAll 10) cP_ok mixed gy rfl (by kernel_rfl) (by kernel_rfl) ?_
  simp only [go_sem, seval, if_pos rfl, callW, q0, Item.cells, cpA, findR, Try.f10, Option.getD, roundTs, lget_put, lgetq_put, List.length_set, hts]
  refine midRW.mk ?_ ?_
  ·simp only [go_sem, seval, if_pos rfl, ky, m4]
   exact gy
  simp only [go_sem, seval, if_pos rfl, callW, q0, undef, cpD, findR, Try.f10, Option.getD, lget_put, lgetq_put, List.length_set, hts, hol, t5, t8, t12, gms, k4, m7, m8, gn, ggs, gas, ky, k1, k2, k3, m1, m2, m3, m4, m5, m6, c0, c1, c2, ex, lx, w1, bst, flat31, eqCells, beq_self_eq_true, Int.toNat_natCast]
  refine ⟨by omega, by simp only [go_sem, seval, if_pos rfl] <;> omega, fun z hz hne => ?_, ?_, ?_, ?_⟩
  ·have z1 : ¬ σ0.next + 1 = z := by omega
   have z2 : ¬ nb = z := fun h => hne h.symm
   have z3 : z < σ.next := by omega
   simp only [go_sem, seval, if_pos rfl, z1, z2, z3]
   exact old z hz hne
  ·rw [hdl]; simp only [go_sem, seval, if_pos rfl, m1, k1]
  ·have z1 : ¬ σ0.next + 1 = σ0.next := by omega
   have z2 : ¬ nb = σ0.next := by omega
   have z3 : σ0.next < σ.next := by omega
   simp only [go_sem, seval, if_pos rfl, z1, z2, z3]
   exact gd
  ·rw [St.get_set, if_pos rfl]
   rfl
 ·have nx := H.nx
  exact ⟨by omega, fun z hz h1 => (hg z (by omega)).trans (H.old z hz h1), (hg _ (by omega)).trans H.gn, (hg _ (by omega)).trans H.gd, (hg _ (by omega)).trans H.gy⟩
end Go.Ab
namespace Go.Ab
open Go.Proofs
set_option maxHeartbeats 1600000 in
set_option maxRecDepth 20000 in
theorem hsame_call {σ : St} {own own2 : List Nat} {h m h2 m2 : Nat} {L L2 R R2 : List Item} {t t2 : Int} (H : HO σ own h m L t) (T : Turns L t) (M : Mir L R) (hL : L.length < 256) (H2 : HO σ own2 h2 m2 L2 t2) (T2 : Turns L2 t2) (M2 : Mir L2 R2) (hL2 : L2.length < 256) :
  DCall Try.prog 41 [.pointer (some ⟨h, 0, none⟩), .pointer (some ⟨h2, 0, none⟩)] σ (.ret (.bool (eqL R R2))) σ [] := by
 refine pure_call ?_ rfl
 obtain ⟨v, gh, _, _⟩ := H.view
 obtain ⟨v2, gh2, _, _⟩ := H2.view
 refine enter (p := q0) Try.func41 rfl stat41 ?_
 simp only [go_sem, seval, if_pos rfl, callW, q0, undef, Try.f41, body44, body75, body76]
 refine .of (none_call gh) ?_
 simp only [go_sem, seval, if_pos rfl, callW, q0, undef, Try.f41, body44, body75, body76]
 refine .of (none_call gh2) ?_
 simp only [go_sem, seval, if_pos rfl, callW, q0, undef, Try.f41, body44, body75, body76]
 refine callX.hidE (sorted_call H T hL) ?_
 intro e σ1 lg1 hlg1 hA
 obtain ⟨w, S, rfl, hB, hM, hl, hw⟩ := hA
 obtain rfl := M.eq hM
 have n1 := hlg1.1
 have k1 : ∀ c, c < σ.next → σ1.get c = σ.get c := fun c hc => hlg1.2 c hc fun hm => by have := hB c hm; omega
 have hs2 := sorted_call (H2.grow n1 k1) T2 hL2
 refine ⟨?_⟩
 simp only [go_sem, seval, if_pos rfl, callW, q0, undef, Try.f41, body44, body75, body76]
 refine callX.hidE hs2 ?_
 intro e σ2 lg2 hlg2 hA
 obtain ⟨w2, S2, rfl, hB2, hM2, hl2, hw2⟩ := hA
 obtain rfl := M2.eq hM2
 have n2 := hlg2.1
 have hw' : ItS 0 σ2 w R := (hw.keep n2 fun a _ ha => hlg2.2 a ha fun hm => by have := hB2 a hm; omega).low (Nat.zero_le _)
 have heq := eq76_call hw' (hw2.low (Nat.zero_le _)) (by omega)
 refine ⟨?_⟩
 simp only [go_sem, seval, if_pos rfl, callW, q0, undef, Try.f41, body44, body75, body76]
 refine .of heq ?_
 simp only [go_sem, seval, if_pos rfl, callW, q0, undef, Try.f41]
 intro c hc
 rcases hc with hc | hc
 ·exact hB c hc
 ·have := hB2 c hc; omega
end Go.Ab
namespace Go.Ab
open Go.Proofs
noncomputable def hcBody : Code := Try.f10.body.getD .skip
noncomputable def hcTail : Code := dropC 10 hcBody
theorem ActsAt.keep {σ σ' : St} {sa : Option Addr} {len za : Nat} {vs : List Value} (h : ActsAt σ sa len vs za) (hn : σ.next ≤ σ'.next) (hk : 0 < len → σ'.get za = σ.get za) : ActsAt σ' sa len vs za :=
 ⟨fun hl => ⟨(h.1 hl).1, (hk hl).trans (h.1 hl).2.1, by have := (h.1 hl).2.2; omega⟩, h.2⟩
set_option maxHeartbeats 6400000 in
set_option maxRecDepth 20000 in
theorem hc_tail {σ : St} {ts : List Value} {ds : List Deferred} {own own2 : List Nat} {h m h2 m2 g mb rb nb la lb cb zb many N q : Nat} {L R : List Item} {t : Int} {s : Value} {sb : Option Addr} {vb : List Value} {K : RR → Prop}
  (el : ts.length = 129) {A : Value} (e0 : lget ts 0 = A) (e1 : lget ts 1 = .slice sb lb cb) (e5 : lget ts 5 = .pointer (some ⟨mb, 0, none⟩)) (e6 : lget ts 6 = .pointer (some ⟨rb, 0, none⟩)) (e7 : lget ts 7 = .pointer (some ⟨h, 0, none⟩)) (e8 : lget ts 8 = .pointer (some ⟨g, 0, none⟩)) (e10 : lget ts 10 = .pointer (some ⟨h2, 0, none⟩)) (e12 : lget ts 12 = .pointer (some ⟨nb, 0, none⟩))
  (H : HO σ own h m L t) (I : I4 L t la) (M : Mir L R) (X : ItX own σ s R) (gg : σ.get g = some (.cells [s, .int .i64 t] false)) (gm : σ.get mb = some (.cells [.int .i64 many] false)) (gr : σ.get rb = some (.cells [.bool false] false)) (gn : σ.get nb = some (.cells [.int .i64 N] false)) (hN : N = min many R.length) (hmy : many ≤ 40)
  (H2 : HO σ own2 h2 m2 L t) (hq : q ≤ σ.next) (o1 : ∀ c ∈ own, c < q) (o2 : ∀ c ∈ own2, q ≤ c) (gq : g < q) (mq : mb < q) (rq : rb < q) (nq : nb < σ.next ∧ nb ∉ own2) (xq : ∀ a n c, s = .slice (some ⟨a, 0, some 6⟩) n c → a < q)
  (hol : ∀ σ, opLen (cP Try.prog).T σ 36 (.slice sb lb cb) = some (.val (.int .i64 (lb : Int)) [])) (KB : ActsAt σ sb lb vb zb) (zq : 0 < lb → zb < q) (hlen : la + lb ≤ 60)
  (k : ∀ ts' σ' lg, ts'.length = 129 → lget ts' 6 = .pointer (some ⟨rb, 0, none⟩) → σ'.get rb = some (.cells [.bool true] false) → σ.next ≤ σ'.next → (∀ c, c < σ.next → c ∉ own2 → c ≠ rb → σ'.get c = σ.get c) → (∀ c ∈ lg, q ≤ c ∨ c = rb) → K ⟨.ret, ⟨ts', ds⟩, σ', lg⟩) :
  wp (cP Try.prog) q0 (btAll 10) false hcTail ⟨ts, ds⟩ σ K := by
 have hRl : R.length ≤ L.length := M.len H.dist
 have hLk := I.len
 have gg' := gg
 have nlt : ∀ c, c < q → c < σ.next := fun c hc => by omega
 obtain ⟨sa', sl, sc, rfl⟩ := X.s.shape
 have n2 : ∀ c, c < q → c ∉ own2 := fun c hc hm => by have := o2 c hm; omega
 have q1 := nlt g gq
 have q2 := nlt mb mq
 have q3 := nlt rb rq
 have X0 : ItX own2 ((σ.new (.cells [.slice none 0 0, .int .i64 0] false)).set σ.next (.cells [.slice sa' sl sc, .int .i64 t] false)) (.slice sa' sl sc) R := by
  rcases X with h | ⟨a, h1, h2, h3, h4⟩
  ·exact .inl h
  ·exact .inr ⟨a, h1, by simp only [go_sem, seval, if_pos rfl, h3]; exact h2, by simp only [go_sem, seval, if_pos rfl] <;> omega, n2 a (xq a _ _ h1)⟩
 have H0 : HO ((σ.new (.cells [.slice none 0 0, .int .i64 0] false)).set σ.next (.cells [.slice sa' sl sc, .int .i64 t] false)) own2 h2 m2 L t := H2.grow (by simp only [go_sem, seval, if_pos rfl]) fun c hc => by simp only [go_sem, seval, if_pos rfl, hc]
 obtain ⟨P, p5, p6, p7, p8, p10, p12, p14⟩ : ∃ P : Nat → Nat, P 5 = mb ∧ P 6 = rb ∧ P 7 = h ∧ P 8 = g ∧ P 10 = h2 ∧ P 12 = nb ∧ P 14 = σ.next :=
  ⟨fun i => if i = 5 then mb else if i = 6 then rb else if i = 7 then h else if i = 8 then g else if i = 10 then h2 else if i = 12 then nb else σ.next, rfl, rfl, rfl, rfl, rfl, rfl, rfl⟩
 have hol2 := hol
 simp only [go_sem, seval, if_pos rfl, callW, q0, undef, hcTail, hcBody, dropC, Try.f10, Option.getD, lget_put, lgetq_put, List.length_set, el, e0, e1, e5, e6, e7, e8, e10, e12, gg, q1]
 refine loop_then (cb_loop (A := A) (B := .slice sb lb cb) (P := P) (ds := ds) (σ0 := (σ.new (.cells [.slice none 0 0, .int .i64 0] false)).set σ.next (.cells [.slice sa' sl sc, .int .i64 t] false)) (own0 := own2) (h := h2) (m := m2) (g := σ.next) (k0 := la) (len := lb) (cap := cb) (za := zb) (sa := sb) (vs := vb) p10.symm p14.symm rfl hlen hol (KB.keep (by simp only [go_sem, seval, if_pos rfl]) fun hl => by
  have := nlt zb (zq hl)
  simp only [go_sem, seval, if_pos rfl, this]) (fun hl => ⟨n2 zb (zq hl), by have := nlt zb (zq hl); omega⟩) lb _ _ ⟨_, 0, own2, L, R, t, .slice sa' sl sc, rfl, ⟨by simp only [List.length_set, el], by simp only [go_sem, seval, if_pos rfl, lget_put, List.length_set, el, e0], by simp only [go_sem, seval, if_pos rfl, lget_put, List.length_set, el, e1], by simp only [go_sem, seval, if_pos rfl, lget_put, List.length_set, el, e5, p5], by simp only [go_sem, seval, if_pos rfl, lget_put, List.length_set, el, e6, p6], by simp only [go_sem, seval, if_pos rfl, lget_put, List.length_set, el, e7, p7], by simp only [go_sem, seval, if_pos rfl, lget_put, List.length_set, el, e8, p8], by simp only [go_sem, seval, if_pos rfl, lget_put, List.length_set, el, e10, p10], by simp only [go_sem, seval, if_pos rfl, lget_put, List.length_set, el, e12, p12], by simp only [go_sem, seval, if_pos rfl, lget_put, List.length_set, el, p14], by simp only [go_sem, seval, if_pos rfl, lget_put, List.length_set, el] <;> rfl⟩, by omega, ⟨H0, I, M, X0, by simp only [go_sem, seval, if_pos rfl], fun hm => by have := H2.lt _ hm; omega, by simp only [go_sem, seval, if_pos rfl], Nat.le_refl _, fun c hc => .inl hc, fun c _ _ _ => rfl⟩⟩) ?_
 intro ax fr' σ6 lg6 hlg6 hB6 hE
 obtain ⟨rfl, ts6, own6, L2, R2, t2, s2, rfl, F, W⟩ := hE
 have f5 := F.t5
 have f6 := F.t6
 have f7 := F.t7
 have f8 := F.t8
 have f10 := F.t10
 have f12 := F.t12
 have f14 := F.t14
 have fl := F.size
 rw [p5] at f5
 rw [p6] at f6
 rw [p7] at f7
 rw [p8] at f8
 rw [p10] at f10
 rw [p12] at f12
 rw [p14] at f14
 have nx := W.nx
 simp only [go_sem, seval, if_pos rfl] at nx
 have kp : ∀ c, c < σ.next → c ∉ own2 → σ6.get c = σ.get c := fun c h1 h2 => (W.kp c (by simp only [go_sem, seval, if_pos rfl] <;> omega) h2 (by omega)).trans (by simp only [go_sem, seval, if_pos rfl, h1])
 have gg6 := (kp g q1 (n2 g gq)).trans gg
 have gm6 := (kp mb q2 (n2 mb mq)).trans gm
 have gr6 := (kp rb q3 (n2 rb rq)).trans gr
 have gn6 := (kp nb nq.1 nq.2).trans gn
 have go6 := W.gg
 have H6 : HO σ6 own h m L t := H.keep (by omega) fun c hc => kp c (nlt c (o1 c hc)) (n2 c (o1 c hc))
 have X6 : ItS 0 σ6 (.slice sa' sl sc) R := by
  rcases X with h | ⟨a, h1, h2, h3, h4⟩
  ·exact .inl h
  ·exact .inr ⟨a, h1, (kp a h3 (n2 a (xq a _ _ h1))).trans h2, Nat.zero_le _, by omega⟩
 have hs1 := same_call (t2 := t) H6 I M (by omega) X6
 have hs2 := same_call (t2 := t2) W.H W.I W.M (by have := W.I.len; omega) W.X.s
 have hs3 := hsame_call H6 I.tu M (by omega) W.H W.I.tu W.M (by have := W.I.len; omega)
 have hs4 := eq42_call X6 W.X.s (by omega)
 have hs5 := hsame_call H6 I.tu M (by omega) H6 I.tu M (by omega)
 rw [eqL_refl] at hs5
 obtain ⟨wa, wl, wc, rfl⟩ := W.X.s.shape
 simp only [RV] at hs1 hs2
 have r1 : g < σ6.next := by omega
 have r2 : mb < σ6.next := by omega
 have r3 : rb < σ6.next := by omega
 have r4 : nb < σ6.next := by omega
 have r5 : σ.next < σ6.next := by omega
 have hoR : ∀ σ, opLen (cP Try.prog).T σ 37 (.slice sa' sl sc) = some (.val (.int .i64 R.length) []) := fun _ => len_it X6.v
 have hmin : opMin (.int .i64 (many : Nat)) (.int .i64 (R.length : Nat)) = some (.val (.int .i64 (N : Nat)) []) := by
  simp only [opMin, hN]
  by_cases hc : (R.length : Int) < (many : Int)
  ·rw [if_pos hc, Nat.min_eq_right (by omega)]
  ·rw [if_neg hc, Nat.min_eq_left (by omega)]
 simp only [go_sem, seval, if_pos rfl, callW, q0, undef, lget_put, lgetq_put, List.length_set, fl, f5, f6, f7, f8, f10, f12, f14, gg6, gm6, gr6, gn6, go6, r1, r2, r3, r4, r5, hoR, hmin, beq_self_eq_true, body12, body29, body41, body42]
 refine .of hs1 ?_
 simp only [go_sem, seval, if_pos rfl, callW, q0, undef, RV, lget_put, lgetq_put, List.length_set, fl, f5, f6, f7, f8, f10, f12, f14, gg6, gm6, gr6, gn6, go6, r1, r2, r3, r4, r5, hoR, hmin, beq_self_eq_true, body12, body29, body41, body42]
 refine .of hs2 ?_
 simp only [go_sem, seval, if_pos rfl, callW, q0, undef, RV, lget_put, lgetq_put, List.length_set, fl, f5, f6, f7, f8, f10, f12, f14, gg6, gm6, gr6, gn6, go6, r1, r2, r3, r4, r5, hoR, hmin, beq_self_eq_true, body12, body29, body41, body42]
 refine .of hs3 ?_
 simp only [go_sem, seval, if_pos rfl, callW, q0, undef, RV, lget_put, lgetq_put, List.length_set, fl, f5, f6, f7, f8, f10, f12, f14, gg6, gm6, gr6, gn6, go6, r1, r2, r3, r4, r5, hoR, hmin, beq_self_eq_true, body12, body29, body41, body42]
 refine .of hs4 ?_
 simp only [go_sem, seval, if_pos rfl, callW, q0, undef, RV, lget_put, lgetq_put, List.length_set, fl, f5, f6, f7, f8, f10, f12, f14, gg6, gm6, gr6, gn6, go6, r1, r2, r3, r4, r5, hoR, hmin, beq_self_eq_true, body12, body29, body41, body42]
 refine .of hs5 ?_
 simp only [go_sem, seval, if_pos rfl, callW, q0, undef, RV, lget_put, lgetq_put, List.length_set, fl, f5, f6, f7, f8, f10, f12, f14, gg6, gm6, gr6, gn6, go6, r1, r2, r3, r4, r5, hoR, hmin, beq_self_eq_true, body12, body29, body41, body42]
 refine .of (known12_call _) ?_
 simp only [go_sem, seval, if_pos rfl, callW, q0, undef, RV, lget_put, lgetq_put, List.length_set, fl, f5, f6, f7, f8, f10, f12, f14, gg6, gm6, gr6, gn6, go6, r1, r2, r3, r4, r5, hoR, hmin, beq_self_eq_true, body12, body29, body41, body42]
 refine k _ _ _ (by simp only [List.length_set, fl]) (by simp only [go_sem, seval, if_pos rfl, lget_put, List.length_set, fl, f6]) (by rw [St.get_set, if_pos rfl]) (by rw [St.next_set]; omega) (fun c h1 h2 h3 => by rw [St.get_set, if_neg (Ne.symm h3)]; exact kp c h1 h2) fun c hc => ?_
 simp only [List.mem_append, List.mem_cons, List.not_mem_nil, or_false] at hc
 rcases hc with hc | hc | hc
 ·left; omega
 ·rcases hB6 c hc with h | h | h
  ·exact .inl (o2 c h)
  ·left; omega
  ·simp only [go_sem, seval, if_pos rfl] at h
   left; omega
 ·exact .inr hc
attribute [irreducible] hcTail
theorem hcBody_is : hcBody = (nthC 0 hcBody).seq ((nthC 1 hcBody).seq ((nthC 2 hcBody).seq ((nthC 3 hcBody).seq ((nthC 4 hcBody).seq ((nthC 5 hcBody).seq ((nthC 6 hcBody).seq ((nthC 7 hcBody).seq ((nthC 8 hcBody).seq ((nthC 9 hcBody).seq hcTail))))))))) := by
 unfold hcTail
 rfl
end Go.Ab
namespace Go.Ab
open Go.Proofs
structure FCr (A B : Value) (mb rb h g h2 b : Nat) (σ3 : St) (ts : List Value) (σ' : St) : Prop where
 size : ts.length = 129
 t0 : lget ts 0 = A
 t1 : lget ts 1 = B
 t5 : lget ts 5 = .pointer (some ⟨mb, 0, none⟩)
 t6 : lget ts 6 = .pointer (some ⟨rb, 0, none⟩)
 t7 : lget ts 7 = .pointer (some ⟨h, 0, none⟩)
 t8 : lget ts 8 = .pointer (some ⟨g, 0, none⟩)
 t10 : lget ts 10 = .pointer (some ⟨h2, 0, none⟩)
 t12 : lget ts 12 = .pointer (some ⟨σ3.next, 0, none⟩)
 t55 : lget ts 55 = .func (.func 110) ⟨[]⟩ ⟨[.pointer (some ⟨b, 0, none⟩)]⟩
 nx : σ'.next = σ3.next + 1
 old : ∀ c, c < σ3.next → σ'.get c = σ3.get c
 gn : σ'.get σ3.next = some (.cells [.int .i64 0] false)
def hcS (σ : St) (many : Nat) : St := ((((((σ.new (.cells [.int .i64 many] false)).new (.cells [.bool false] false)).new (.map [] 0)).new (.cells [.map (some (σ.next + 2)), .slice none 0 0, .int .i64 0] false)).new (.cells [.slice none 0 0, .int .i64 0] false)).set (σ.next + 4) (.cells [.slice none 0 0, .int .i64 0] false))
theorem hcS_next {σ : St} {many : Nat} : (hcS σ many).next = σ.next + 5 := rfl
theorem hcS_old {σ : St} {many c : Nat} (h : c < σ.next) : (hcS σ many).get c = σ.get c := by
 have h4 : ¬ σ.next + 4 = c := by omega
 simp only [hcS, go_sem, seval, if_pos rfl, h, h4]
theorem hcS_0 {σ : St} {many : Nat} : (hcS σ many).get σ.next = some (.cells [.int .i64 many] false) := by simp only [hcS, go_sem, seval, if_pos rfl]
theorem hcS_1 {σ : St} {many : Nat} : (hcS σ many).get (σ.next + 1) = some (.cells [.bool false] false) := by simp only [hcS, go_sem, seval, if_pos rfl]
theorem hcS_4 {σ : St} {many : Nat} : (hcS σ many).get (σ.next + 4) = some (.cells [.slice none 0 0, .int .i64 0] false) := by simp only [hcS, go_sem, seval, if_pos rfl]
theorem hcS_H {σ : St} {many : Nat} : HO (hcS σ many) [σ.next + 3, σ.next + 2] (σ.next + 3) (σ.next + 2) [] 0 :=
 .inl ⟨rfl, .inl ⟨rfl, ⟨by simp only [hcS, go_sem, seval, if_pos rfl], ⟨0, by simp only [hcS, go_sem, seval, if_pos rfl]⟩, by omega, by rw [hcS_next]; omega⟩⟩⟩
theorem hcS_W {σ : St} {many : Nat} : Bth (hcS σ many) (hcS σ many) [σ.next + 3, σ.next + 2] [σ.next + 3, σ.next + 2] (σ.next + 3) (σ.next + 2) (σ.next + 4) (0 + 0) [] [] 0 (.slice none 0 0) :=
 ⟨hcS_H, I4.nil, Mir.nil, .inl ⟨rfl, rfl⟩, hcS_4, by simp, by rw [hcS_next]; omega, Nat.le_refl _, fun c hc => .inl hc, fun c _ _ _ => rfl⟩
set_option maxHeartbeats 6400000 in
set_option maxRecDepth 20000 in
theorem hc_good {sa sb : Option Addr} {la ca lb cb za zb many : Nat} {va vb : List Value} {σ : St} (hlen : la + lb ≤ 60) (hm1 : 1 ≤ many) (hm2 : many ≤ 40)
  (hoA : ∀ σ, opLen (cP Try.prog).T σ 36 (.slice sa la ca) = some (.val (.int .i64 (la : Int)) [])) (hoB : ∀ σ, opLen (cP Try.prog).T σ 36 (.slice sb lb cb) = some (.val (.int .i64 (lb : Int)) []))
  (KA : ActsAt σ sa la va za) (KB : ActsAt σ sb lb vb zb) :
  callX Try.prog 10 [.slice sa la ca, .slice sb lb cb, .int .i64 (many : Nat)] σ (True8 σ) := by
 have c1 : ¬ (60 : Int) < ((la + lb : Nat) : Int) := by omega
 have c2 : ¬ (many : Int) < 1 := by omega
 have c3 : ¬ (40 : Int) < (many : Int) := by omega
 have wl : IntKind.i64.wrap ((la : Int) + (lb : Int)) = ((la + lb : Nat) : Int) := by
  have : (la : Int) + (lb : Int) = ((la + lb : Nat) : Int) := by omega
  rw [this]; exact wrapIN (by omega)
 refine callX.enterD (p := q0) (c := hcBody) cP_ok mixed Try.func10 rfl stat10 ?_
 rw [hcBody_is]
 simp only [go_sem, seval, if_pos rfl, callW, q0, undef, hcBody, nthC, Try.f10, Option.getD, hoA, hoB, wl, c1, c2, c3, body12, body13, body18, body29, body39, body40, body41, body42]
 refine .of (new_call _) ?_
 simp only [go_sem, seval, if_pos rfl, callW, q0, undef, hcBody, nthC, Try.f10, Option.getD, hoA, hoB, wl, c1, c2, c3, body12, body13, body18, body29, body39, body40, body41, body42]
 obtain ⟨P, p5, p6, p7, p8⟩ : ∃ P : Nat → Nat, P 5 = σ.next ∧ P 6 = σ.next + 1 ∧ P 7 = σ.next + 3 ∧ P 8 = σ.next + 4 :=
  ⟨fun i => if i = 5 then σ.next else if i = 6 then σ.next + 1 else if i = 7 then σ.next + 3 else σ.next + 4, rfl, rfl, rfl, rfl⟩
 refine loop_then (ca_loop (A := .slice sa la ca) (B := .slice sb lb cb) (P := P) (ds := []) (σ0 := hcS σ many) (own0 := [σ.next + 3, σ.next + 2]) (h := σ.next + 3) (m := σ.next + 2) (g := σ.next + 4) (k0 := 0) (len := la) (cap := ca) (za := za) (sa := sa) (vs := va) p7.symm p8.symm rfl (by omega) hoA (KA.keep (by rw [hcS_next]; omega) fun hl => hcS_old (KA.1 hl).2.2) (fun hl => by
  have := (KA.1 hl).2.2
  simp
  omega) la _ _ ⟨_, 0, _, [], [], 0, .slice none 0 0, rfl, ⟨rfl, rfl, rfl, by rw [p5]; rfl, by rw [p6]; rfl, by rw [p7]; rfl, by rw [p8]; rfl, rfl⟩, by omega, hcS_W⟩) ?_
 intro ax fr' σ1 lg1 hlg1 hB1 hE
 obtain ⟨rfl, ts1, own, L, R, t, s, rfl, F, W⟩ := hE
 have e0 := F.t0
 have e1 := F.t1
 have e5 := F.t5
 have e6 := F.t6
 have e7 := F.t7
 have e8 := F.t8
 have el := F.size
 rw [p5] at e5
 rw [p6] at e6
 rw [p7] at e7
 rw [p8] at e8
 have nx := W.nx
 rw [hcS_next] at nx
 have hRl : R.length ≤ L.length := W.M.len W.H.dist
 have hLk := W.I.len
 have kp1 : ∀ c, c < σ.next + 2 → σ1.get c = (hcS σ many).get c := fun c hc => W.kp c (by rw [hcS_next]; omega) (by simp; omega) (by omega)
 have hcp := copy_call W.H (by omega)
 simp only [go_sem, seval, if_pos rfl, callW, q0, undef, lget_put, lgetq_put, List.length_set, el, e0, e1, e5, e6, e7, e8, body39, body40]
 refine callX.hidE hcp ?_
 intro e σ2 lg2 hlg2 hA
 obtain ⟨h2, m2, own2, rfl, hB2, H2, ho2⟩ := hA
 have n2 := hlg2.1
 have k2 : ∀ c, c < σ1.next → σ2.get c = σ1.get c := fun c hc => hlg2.2 c hc fun hm => by have := hB2 c hm; omega
 have hal := hall_call (W.H.grow n2 k2) W.I.tu (by omega)
 refine ⟨?_⟩
 simp only [go_sem, seval, if_pos rfl, callW, q0, undef, lget_put, lgetq_put, List.length_set, el, e0, e1, e5, e6, e7, e8, body39, body40]
 refine callX.hidE hal ?_
 intro e σ3 lg3 hlg3 hA
 obtain ⟨b, w, S, rfl, hB3, hM, hSl, gb, hb1, hb2, hw⟩ := hA
 obtain rfl := W.M.eq hM
 have n3 := hlg3.1
 have k3 : ∀ c, c < σ2.next → σ3.get c = σ2.get c := fun c hc => hlg3.2 c hc fun hm => by have := hB3 c hm; omega
 refine ⟨?_⟩
 simp only [go_sem, seval, if_pos rfl, callW, q0, undef, lget_put, lgetq_put, List.length_set, el, e0, e1, e5, e6, e7, e8, body39, body40]
 refine rangeX_abs (FCr (.slice sa la ca) (.slice sb lb cb) σ.next (σ.next + 1) (σ.next + 3) (σ.next + 4) h2 b σ3) ⟨by simp only [List.length_set, el], by simp only [go_sem, seval, if_pos rfl, lget_put, List.length_set, el, e0], by simp only [go_sem, seval, if_pos rfl, lget_put, List.length_set, el, e1], by simp only [go_sem, seval, if_pos rfl, lget_put, List.length_set, el, e5], by simp only [go_sem, seval, if_pos rfl, lget_put, List.length_set, el, e6], by simp only [go_sem, seval, if_pos rfl, lget_put, List.length_set, el, e7], by simp only [go_sem, seval, if_pos rfl, lget_put, List.length_set, el, e8], by simp only [go_sem, seval, if_pos rfl, lget_put, List.length_set, el], by simp only [go_sem, seval, if_pos rfl, lget_put, List.length_set, el], by simp only [go_sem, seval, if_pos rfl, lget_put, List.length_set, el], by simp only [go_sem, seval, if_pos rfl], fun c hc => by simp only [go_sem, seval, if_pos rfl, hc], by simp only [go_sem, seval, if_pos rfl]⟩ ?_
 intro ts σ4 Z
 have nx4 := Z.nx
 have WI : I4 L t la := by have := W.I; rwa [Nat.zero_add] at this
 have k4 : ∀ c, c < σ1.next → σ4.get c = σ1.get c := fun c hc => (Z.old c (by omega)).trans ((k3 c (by omega)).trans (k2 c hc))
 have xq : ∀ a n c, s = .slice (some ⟨a, 0, some 6⟩) n c → a < σ1.next := fun a n c hs => by
  rcases W.X with ⟨h, _⟩ | ⟨a', h, _, h3, _⟩
  ·rw [h] at hs; cases hs
  ·rw [h] at hs; cases hs; exact h3
 have hs4 : (s = .slice none 0 0 ∧ R = []) ∨ ∃ a, s = .slice (some ⟨a, 0, some 6⟩) R.length R.length ∧ σ4.get a = some (.cells (cellsL R) false) ∧ a < σ3.next := by
  rcases W.X with h | ⟨a, q1, q2, q3, q4⟩
  ·exact .inl h
  ·exact .inr ⟨a, q1, (k4 a q3).trans q2, by omega⟩
 have hY := cp_yields (σ0 := σ4) (ts := ts) (nb := σ3.next) (gb := σ.next + 4) (mb := σ.next) (many := many) (t := t) (s := s) (R := R) Z.size Z.t8 Z.t12 Z.t5 (by omega) ((k4 _ (by omega)).trans ((kp1 _ (by omega)).trans hcS_0)) (by omega) (by omega) ((k4 _ (by omega)).trans W.gg) hs4 (by omega)
 refine rangeX.of cP_ok (f := 110) (xs := []) (ys := [.pointer (some ⟨b, 0, none⟩)]) (by simp only [go_sem, seval, if_pos rfl, Z.t55]) body110 ?_
 refine callX.hid (R := fun σ' lg => (∀ z ∈ lg, σ3.next ≤ z) ∧ ((JCp σ4 ts σ3.next R σ' ∧ R.length < many) ∨ (JCe σ4 ts σ3.next (R.take many) σ' ∧ many ≤ R.length))) (seqS_call (c := b) (v := w) (n0 := σ3.next) (lo := 0) (stop := many) hY (fun z hz => hz) (fun done σ' H => ⟨?_, ?_⟩) (by omega) ?_ ⟨?_, ?_, ?_, ?_, ?_⟩ (by omega)) ?_
 ·exact (hw.low (Nat.zero_le _)).v.keep (by have := H.nx; omega) fun a _ ha => (H.old a (by omega) (by omega)).trans (Z.old a ha)
 ·have := H.nx; omega
 ·have z1 : b < σ4.next := by omega
  simp only [go_sem, seval, if_pos rfl, z1]
  exact (Z.old b hb2).trans gb
 ·simp only [go_sem, seval, if_pos rfl]
 ·intro z hz hne
  simp only [go_sem, seval, if_pos rfl, hz]
 ·have z1 : σ3.next < σ4.next := by omega
  simp only [go_sem, seval, if_pos rfl, z1]
  exact Z.gn
 ·simp only [go_sem, seval, if_pos rfl]
 ·simp only [go_sem, seval, if_pos rfl]
  rfl
 intro σ5 lg5 hlg5 hA
 obtain ⟨hB5, hJ⟩ := hA
 rcases hJ with ⟨J, hlt⟩ | ⟨J, hle⟩
 ·have gy := J.gy
  have nx5 := J.nx
  have hNl : R.length = R.length := rfl
  have hNN : R.length = min many R.length := by rw [Nat.min_eq_right (by omega)]
  refine ⟨?_⟩
  refine ⟨.ready, none, .norm, gy, rfl, rfl, ?_⟩
  simp only [go_sem, seval, if_pos rfl, callW, q0, undef, lget_put, lgetq_put, List.length_set]
  generalize hσ6 : St.set σ5 (σ4.next + 1) _ = σ6
  have n6 : σ6.next = σ5.next := by rw [← hσ6]; rfl
  have o6 : ∀ c, c < σ4.next → c ≠ σ3.next → σ6.get c = σ4.get c := fun c h1 h2 => by rw [← hσ6, St.get_set, if_neg (by omega)]; exact J.old c h1 h2
  have gn6 : σ6.get σ3.next = some (.cells [.int .i64 (R.length : Nat)] false) := by rw [← hσ6, St.get_set, if_neg (by omega)]; have := J.gn; rwa [hNl] at this
  have gd6 : σ6.get σ4.next = some (.deferred false) := by rw [← hσ6, St.get_set, if_neg (by omega)]; exact J.gd
  clear hσ6
  have k6 : ∀ c, c < σ1.next → σ6.get c = σ1.get c := fun c hc => (o6 c (by omega) (by omega)).trans (k4 c hc)
  have k62 : ∀ c, c < σ2.next → σ6.get c = σ2.get c := fun c hc => (o6 c (by omega) (by omega)).trans ((Z.old c (by omega)).trans (k3 c hc))
  refine hc_tail (q := σ1.next) (N := R.length) (la := la) (many := many) (vb := vb) (zb := zb) Z.size Z.t0 Z.t1 Z.t5 Z.t6 Z.t7 Z.t8 Z.t10 Z.t12 (W.H.grow (by omega) k6) WI W.M (W.X.keep (by omega) (fun c _ hc => k6 c hc) fun c hc => .inl hc) ((k6 _ (by omega)).trans W.gg) ((k6 _ (by omega)).trans ((kp1 _ (by omega)).trans hcS_0)) ((k6 _ (by omega)).trans ((kp1 _ (by omega)).trans hcS_1)) gn6 hNN hm2
   (H2.grow (by omega) k62) (by omega) W.H.lt ho2 (by omega) (by omega) (by omega) ⟨by omega, fun hm => by have := H2.lt _ hm; omega⟩ xq hoB (KB.keep (by omega) fun hl => by
    have := (KB.1 hl).2.2
    exact (k6 zb (by omega)).trans ((kp1 zb (by omega)).trans (hcS_old this))) (fun hl => by have := (KB.1 hl).2.2; omega) hlen ?_
  intro ts' σ' lg h1 h2' h3 h4 h5 h6
  have gd' : σ'.get σ4.next = some (.deferred false) := (h5 _ (by omega) (fun hm => by have := H2.lt _ hm; omega) (by omega)).trans gd6
  have d1 : σ4.next < σ'.next := by omega
  have d2 : ¬ σ4.next = σ.next + 1 := by omega
  have d3 : σ.next + 1 < σ'.next := by omega
  simp only [go_sem, seval, if_pos rfl, callW, q0, undef, lget_put, lgetq_put, List.length_set]
  refine .collected (by simp only [go_sem, seval, if_pos rfl, gd', d1]) ?_
  refine .ret cP_ok (by simp only [go_sem, seval, if_pos rfl, lget_put, List.length_set, h1, h2', h3, d2, d3] <;> rfl) ?_
  simp only [go_sem, seval, if_pos rfl]
  refine ⟨rfl, fun c hc => ?_⟩
  simp only [List.mem_append, List.mem_cons, List.not_mem_nil, or_false] at hc
  rcases hc with hc | (hc | hc | hc | hc | (hc | hc) | hc) | hc
  ·omega
  ·rcases hB1 c hc with h | h | h
   ·simp at h; omega
   ·omega
   ·rw [hcS_next] at h; omega
  ·have := hB2 c hc; omega
  ·have := hB3 c hc; omega
  ·omega
  ·have := hB5 c hc; omega
  ·omega
  ·rcases h6 c hc with h | h <;> omega
  ·omega
 ·have gy := J.gy
  have nx5 := J.nx
  have hNl : (R.take many).length = many := by simp; omega
  have hNN : many = min many R.length := by rw [Nat.min_eq_left hle]
  refine ⟨?_⟩
  refine ⟨.done, some (.exit 2), .exit 2, gy, rfl, rfl, ?_⟩
  simp only [go_sem, seval, if_pos rfl, callW, q0, undef, lget_put, lgetq_put, List.length_set]
  generalize hσ6 : St.set σ5 (σ4.next + 1) _ = σ6
  have n6 : σ6.next = σ5.next := by rw [← hσ6]; rfl
  have o6 : ∀ c, c < σ4.next → c ≠ σ3.next → σ6.get c = σ4.get c := fun c h1 h2 => by rw [← hσ6, St.get_set, if_neg (by omega)]; exact J.old c h1 h2
  have gn6 : σ6.get σ3.next = some (.cells [.int .i64 (many : Nat)] false) := by rw [← hσ6, St.get_set, if_neg (by omega)]; have := J.gn; rwa [hNl] at this
  have gd6 : σ6.get σ4.next = some (.deferred false) := by rw [← hσ6, St.get_set, if_neg (by omega)]; exact J.gd
  clear hσ6
  have k6 : ∀ c, c < σ1.next → σ6.get c = σ1.get c := fun c hc => (o6 c (by omega) (by omega)).trans (k4 c hc)
  have k62 : ∀ c, c < σ2.next → σ6.get c = σ2.get c := fun c hc => (o6 c (by omega) (by omega)).trans ((Z.old c (by omega)).trans (k3 c hc))
  refine hc_tail (q := σ1.next) (N := many) (la := la) (many := many) (vb := vb) (zb := zb) Z.size Z.t0 Z.t1 Z.t5 Z.t6 Z.t7 Z.t8 Z.t10 Z.t12 (W.H.grow (by omega) k6) WI W.M (W.X.keep (by omega) (fun c _ hc => k6 c hc) fun c hc => .inl hc) ((k6 _ (by omega)).trans W.gg) ((k6 _ (by omega)).trans ((kp1 _ (by omega)).trans hcS_0)) ((k6 _ (by omega)).trans ((kp1 _ (by omega)).trans hcS_1)) gn6 hNN hm2
   (H2.grow (by omega) k62) (by omega) W.H.lt ho2 (by omega) (by omega) (by omega) ⟨by omega, fun hm => by have := H2.lt _ hm; omega⟩ xq hoB (KB.keep (by omega) fun hl => by
    have := (KB.1 hl).2.2
    exact (k6 zb (by omega)).trans ((kp1 zb (by omega)).trans (hcS_old this))) (fun hl => by have := (KB.1 hl).2.2; omega) hlen ?_
  intro ts' σ' lg h1 h2' h3 h4 h5 h6
  have gd' : σ'.get σ4.next = some (.deferred false) := (h5 _ (by omega) (fun hm => by have := H2.lt _ hm; omega) (by omega)).trans gd6
  have d1 : σ4.next < σ'.next := by omega
  have d2 : ¬ σ4.next = σ.next + 1 := by omega
  have d3 : σ.next + 1 < σ'.next := by omega
  simp only [go_sem, seval, if_pos rfl, callW, q0, undef, lget_put, lgetq_put, List.length_set]
  refine .collected (by simp only [go_sem, seval, if_pos rfl, gd', d1]) ?_
  refine .ret cP_ok (by simp only [go_sem, seval, if_pos rfl, lget_put, List.length_set, h1, h2', h3, d2, d3] <;> rfl) ?_
  simp only [go_sem, seval, if_pos rfl]
  refine ⟨rfl, fun c hc => ?_⟩
  simp only [List.mem_append, List.mem_cons, List.not_mem_nil, or_false] at hc
  rcases hc with hc | (hc | hc | hc | hc | (hc | hc) | hc) | hc
  ·omega
  ·rcases hB1 c hc with h | h | h
   ·simp at h; omega
   ·omega
   ·rw [hcS_next] at h; omega
  ·have := hB2 c hc; omega
  ·have := hB3 c hc; omega
  ·omega
  ·have := hB5 c hc; omega
  ·omega
  ·rcases h6 c hc with h | h <;> omega
  ·omega
set_option maxRecDepth 20000 in
theorem hc_big {sa sb : Option Addr} {la ca lb cb : Nat} {many : Int} {σ : St} (hl : la + lb < 9223372036854775808) (hg : 60 < la + lb ∨ many < 1 ∨ 40 < many)
  (hoA : ∀ σ, opLen (cP Try.prog).T σ 36 (.slice sa la ca) = some (.val (.int .i64 (la : Int)) [])) (hoB : ∀ σ, opLen (cP Try.prog).T σ 36 (.slice sb lb cb) = some (.val (.int .i64 (lb : Int)) [])) :
  callX Try.prog 10 [.slice sa la ca, .slice sb lb cb, .int .i64 many] σ (True8 σ) := by
 have wl : IntKind.i64.wrap ((la : Int) + (lb : Int)) = ((la + lb : Nat) : Int) := by
  have : (la : Int) + (lb : Int) = ((la + lb : Nat) : Int) := by omega
  rw [this]; exact wrapIN (by omega)
 by_cases h1 : 60 < la + lb
 ·have c1 : (60 : Int) < ((la + lb : Nat) : Int) := by omega
  refine callX.enterD (p := q0) cP_ok mixed Try.func10 rfl stat10 ?_
  simp only [go_sem, seval, if_pos rfl, callW, q0, undef, Try.f10, hoA, hoB, wl, c1, body12]
  refine .of (known12_call _) ?_
  simp only [go_sem, seval, if_pos rfl, callW, q0, undef, Try.f10]
  refine .ret cP_ok (by simp only [go_sem, seval, if_pos rfl] <;> rfl) ?_
  simp only [go_sem, seval, if_pos rfl]
  refine ⟨rfl, fun c hc => ?_⟩
  simp only [List.mem_append, List.mem_cons, List.not_mem_nil, or_false] at hc
  omega
 ·have c1 : ¬ (60 : Int) < ((la + lb : Nat) : Int) := by omega
  by_cases h2 : many < 1
  ·refine callX.enterD (p := q0) cP_ok mixed Try.func10 rfl stat10 ?_
   simp only [go_sem, seval, if_pos rfl, callW, q0, undef, Try.f10, hoA, hoB, wl, c1, h2, body12]
   refine .of (known12_call _) ?_
   simp only [go_sem, seval, if_pos rfl, callW, q0, undef, Try.f10]
   refine .ret cP_ok (by simp only [go_sem, seval, if_pos rfl] <;> rfl) ?_
   simp only [go_sem, seval, if_pos rfl]
   refine ⟨rfl, fun c hc => ?_⟩
   simp only [List.mem_append, List.mem_cons, List.not_mem_nil, or_false] at hc
   omega
  ·have h3 : 40 < many := by omega
   refine callX.enterD (p := q0) cP_ok mixed Try.func10 rfl stat10 ?_
   simp only [go_sem, seval, if_pos rfl, callW, q0, undef, Try.f10, hoA, hoB, wl, c1, h2, h3, body12]
   refine .of (known12_call _) ?_
   simp only [go_sem, seval, if_pos rfl, callW, q0, undef, Try.f10]
   refine .ret cP_ok (by simp only [go_sem, seval, if_pos rfl] <;> rfl) ?_
   simp only [go_sem, seval, if_pos rfl]
   refine ⟨rfl, fun c hc => ?_⟩
   simp only [List.mem_append, List.mem_cons, List.not_mem_nil, or_false] at hc
   omega
theorem hc_call {sa sb : Option Addr} {la ca lb cb za zb : Nat} {many : Int} {va vb : List Value} {σ : St} (hl : la + lb < 9223372036854775808)
  (hoA : ∀ σ, opLen (cP Try.prog).T σ 36 (.slice sa la ca) = some (.val (.int .i64 (la : Int)) [])) (hoB : ∀ σ, opLen (cP Try.prog).T σ 36 (.slice sb lb cb) = some (.val (.int .i64 (lb : Int)) []))
  (KA : ActsAt σ sa la va za) (KB : ActsAt σ sb lb vb zb) :
  callX Try.prog 10 [.slice sa la ca, .slice sb lb cb, .int .i64 many] σ (True8 σ) := by
 by_cases h : la + lb ≤ 60 ∧ 1 ≤ many ∧ many ≤ 40
 ·obtain ⟨n, rfl⟩ : ∃ n : Nat, many = n := ⟨many.toNat, by omega⟩
  exact hc_good h.1 (by omega) (by omega) hoA hoB KA KB
 ·exact hc_big hl (by omega) hoA hoB
end Go.Ab
namespace Go.Proofs.Ytlipmhhndhhgdaa.heapCopies
open Go.ChangeShapes Go.WideShapes Go.ChangeAt Go.RowKit Go.Ab
theorem own : ownKnob Try.prog.godebug = none := by kernel_rfl
theorem laidOut : laidOutB Try.prog = true := by kernel_rfl
theorem flat_act : flatK Try.prog 5 43 = some [.int .i64, .int .i64, .int .i64, .int .i64] := by kernel_rfl
theorem act_cells {c : List Value} (h : oks [.int .i64, .int .i64, .int .i64, .int .i64] c) : ∃ kind id n d, c = [.int .i64 kind, .int .i64 id, .int .i64 n, .int .i64 d] ∧ okI n = true ∧ okI d = true := by
 have hl := oks_length h
 obtain ⟨a, b, c', d', rfl⟩ : ∃ a b c' d', c = [a, b, c', d'] := by
  match c, hl with
  | [a, b, c', d'], _ => exact ⟨a, b, c', d', rfl⟩
 obtain ⟨⟨k, rfl, _⟩, ⟨i, rfl, _⟩, ⟨n, rfl, hn⟩, ⟨d, rfl, hd⟩, _⟩ := h
 exact ⟨k, i, n, d, rfl, okI_of_wf hn, okI_of_wf hd⟩
abbrev K4 : List FK := [.int .i64, .int .i64, .int .i64, .int .i64]
theorem row_acts {w : World} {a : Option Addr} {len cap : Nat} {es : List (List Value)} (h : IsRow K4 w a len cap es) (i : Nat) (c : List Value) (hi : es[i]? = some c) : ∃ kind id n d, okI n = true ∧ okI d = true ∧ (es.flatten.drop (i * 4)).take 4 = [.int .i64 kind, .int .i64 id, .int .i64 n, .int .i64 d] ∧ i * 4 + 4 ≤ es.flatten.length := by
 have hok : ∀ c ∈ es, oks K4 c := by
  rcases h with ⟨_, _, _, rfl⟩ | ⟨x, _, _, _, _, h, _⟩
  ·intro c hc; simp at hc
  ·exact h
 obtain ⟨kind, id, n, d, rfl, h1, h2⟩ := act_cells (hok c (List.mem_of_getElem? hi))
 obtain ⟨h3, h4⟩ := flatten_take (k := 4) (fun c hc => oks_length (hok c hc)) hi
 exact ⟨kind, id, n, d, h1, h2, h3, h4⟩
theorem row_walk {w : World} {a : Option Addr} {len cap : Nat} {es : List (List Value)} {σ : St} {v : Value} (h : IsRow K4 w a len cap es) (hr : RowAt σ v len cap es) :
  ∃ (sa : Option Addr) (ca za : Nat) (va : List Value), v = .slice sa len ca ∧ (∀ σ, opLen (cP Try.prog).T σ 36 (.slice sa len ca) = some (.val (.int .i64 (len : Int)) [])) ∧ ActsAt σ sa len va za := by
 rcases hr with ⟨rfl, hv⟩ | ⟨hl, z, rfl, hz, hg⟩
 ·rcases hv with rfl | rfl
  ·exact ⟨none, 0, 0, [], rfl, fun σ => by simp only [opLen, cx_und, Try.underlying36]; rfl, ⟨fun h => absurd h (by omega), fun i hi => absurd hi (by omega)⟩⟩
  ·exact ⟨_, 0, 0, [], rfl, fun σ => by simp only [opLen, cx_und, Try.underlying36], ⟨fun h => absurd h (by omega), fun i hi => absurd hi (by omega)⟩⟩
 ·exact ⟨_, cap, z, es.flatten, rfl, fun σ => by simp only [opLen, cx_und, Try.underlying36], ⟨fun _ => ⟨rfl, hg, hz⟩, fun i hi => row_acts h i es[i] (List.getElem?_eq_getElem (by omega))⟩⟩
theorem walk (many : Int) (a b : Option Addr) (la ca lb cb : Nat) (es fs : List (List Value)) (w : World) (h : IsRow K4 w a la ca es) (h' : IsRow K4 w b lb cb fs) (hm : la + lb < 9223372036854775808) :
  Calls Try.prog 10 #[.slice a la ca, .slice b lb cb, .int .i64 many] w fun e w' => e = .returned (.bool true) ∧ Below w.heap.size w w' := by
 obtain ⟨ρ, σ, v, v', hw, hro, hv, hv', r1, r2⟩ := row_in2 h (by simp) h' (by simp)
 obtain ⟨sa, c1, za, va, rfl, ho1, A1⟩ := row_walk h r1
 obtain ⟨sb, c2, zb, vb, rfl, ho2, A2⟩ := row_walk h' r2
 obtain ⟨e', σ', lg, d, rfl, f⟩ := hc_call (many := many) hm ho1 ho2 A1 A2
 exact calls_true d hw (.cons hv (.cons hv' (.cons (.int _ _) .nil))) hro fun b hb hbl => by have := f b hbl; omega
theorem bytes43 : Try.checked.prog.bytesOf 43 = 32 := by kernel_rfl
set_option maxRecDepth 100000 in
theorem lifted (os : Os) (started : os.Started) (H : Type) (enc : TypeId × Value → H) :
  ReturnsInHanded {} Try.checked os 10 .any (Rows.heapCopiesSpec.pre6 enc Try.prog Try.f10 Rows.heapCopiesRow.domain false) (Rows.heapCopiesSpec.post enc Try.prog Try.f10 false true false false) := by
 refine returnsInHanded_of_change_sized (C := Try.checked) own started (by kernel_rfl) Try.func10
  (ChangeSpec.witness6 (enc := enc) (C := Try.checked) false ⟨#[], #[.slice none 0 0, .slice none 0 0, .int .i64 0], []⟩ 8 (by kernel_rfl) (by kernel_rfl) (by kernel_rfl) (by kernel_rfl)) ?_
 intro W base args ds gs before hval0 hW hcnd hsz _
 have hval : ∀ (j : Nat) t v, Try.f10.params[j]? = some t → args[j]? = some v → Value.okWide Try.prog W .any base t v := hval0
 have hW' := hW
 obtain ⟨p, q, hA0, hV, rfl, hfz, hnd⟩ := hW
 have hA : DataW.TrodAll enc Try.prog W 0 (fun _ => true) true Try.f10.params.toList args.toList ds p := hA0
 rw [Try.params10] at hA hval
 obtain ⟨v0, vs0, d0, ds0, p0, q0, hargs, rfl, rfl, h0, r0⟩ := trodAll_cons hA
 obtain ⟨v1, vs1, d1, ds1, p1, q1, rfl, rfl, rfl, h1, r1⟩ := trodAll_cons r0
 obtain ⟨v2, vs2, d2, ds2, p2, q2, rfl, rfl, rfl, h2, r2⟩ := trodAll_cons r1
 obtain ⟨rfl, rfl, rfl⟩ := trodAll_nil r2
 obtain rfl : args = #[v0, v1, v2] := by cases args; simp_all
 obtain ⟨rfl, rfl⟩ := trodVars_none hV
 obtain ⟨a2, rfl, rfl, rfl, w2⟩ := open_int Try.underlying3 (hval 2 3 v2 rfl rfl) h2
 obtain ⟨a0, len0, cap0, rfl⟩ := okWide_slice Try.underlying36 (hval 0 36 v0 rfl rfl)
 obtain ⟨a1, len1, cap1, rfl⟩ := okWide_slice Try.underlying36 (hval 1 36 v1 rfl rfl)
 have k0 := h0
 have k1 := h1
 have lt0 : ∀ x ∈ p0, x.block < W.heap.size := by obtain ⟨m, hm⟩ := k0; exact DataW.trod_lt m _ _ _ hm
 have lt1 : ∀ x ∈ p1, x.block < W.heap.size := by obtain ⟨m, hm⟩ := k1; exact DataW.trod_lt m _ _ _ hm
 have row : ∀ (j : Nat) (a : Option Addr) (len cap : Nat) (d : DataW H) (p : List MemPlace), ([36, 36, 3] : List TypeId)[j]? = some 36 → ([d0, d1, DataW.lit (.int .i64 a2)] : List (DataW H))[j]? = some d →
   DataW.Trod enc Try.prog W 0 (fun _ => true) true 36 (.slice a len cap) d p → ∃ es, IsRow K4 W a len cap es ∧ len * 32 ≤ 140737488351232 := by
  intro j a len cap d p ht hd ⟨fuel, hf⟩
  have hlen : len * 32 ≤ 140737488351232 := by
   rcases DataW.trod_slice Try.underlying36 hf with h0 | ⟨a', len', cap', elems, rest, n, _, hcs, hx, _, _, _, hl, _⟩
   ·have := h0.1
    simp [Value.cells] at this
    obtain ⟨_, rfl, _⟩ := this
    omega
   ·simp [Value.cells] at hcs
    obtain ⟨rfl, rfl, rfl⟩ := hcs
    have hx1 := congrArg Prod.fst hx
    simp only at hx1
    have := sized_slice hsz (j := j) (t := 36) (e := 43) (by rw [Try.params10]; exact ht) (by rw [← hx1]; exact hd) Try.underlying36
    rw [bytes43] at this
    simp only [List.length_map, reachBytes] at this
    omega
  rcases open_flats Try.underlying36 flat_act (by kernel_rfl) hf with hcs | ⟨x, l, c, es, hcs, _, hl, hm, hz, hok, hcell⟩
  ·simp [Value.cells] at hcs
   obtain ⟨rfl, rfl, rfl⟩ := hcs
   exact ⟨[], .inl ⟨rfl, rfl, rfl, rfl⟩, by omega⟩
  ·simp [Value.cells] at hcs
   obtain ⟨rfl, rfl, rfl⟩ := hcs
   exact ⟨es, .inr ⟨_, rfl, hl, hm, hz, hok, hcell⟩, hlen⟩
 obtain ⟨es, w0, m0⟩ := row 0 a0 len0 cap0 d0 p0 rfl rfl k0
 obtain ⟨fs, w1, m1⟩ := row 1 a1 len1 cap1 d1 p1 rfl rfl k1
 clear hA0 hval0
 refine (walk a2 a0 a1 len0 cap0 len1 cap1 es fs W w0 w1 (by omega)).mono fun e W' ⟨he, bel⟩ => ?_
 subst he
 exact ⟨_, rfl, _, _, _, [], _, [], hW', trodAll_mk1 (shut_bool Try.underlying4 _), (trodAll_cons_mk (Below.trod laidOut (by kernel_rfl) (of_decide_eq_true (by kernel_rfl)) k0 bel lt0) (trodAll_cons_mk (Below.trod laidOut (by kernel_rfl) (of_decide_eq_true (by kernel_rfl)) k1 bel lt1) (trodAll_cons_mk (shut_int Try.underlying3 w2) trodAll_mk0))), rfl, bel.frame _, fun h => by cases h⟩
theorem over : Rows.heapCopiesRow.holds Try.pinned (OpenSpec.ofChange Rows.heapCopiesSpec) :=
 OpenClaim.holds_of_wide 10 Try.f10 rfl rfl rfl rfl rfl rfl rfl ⟨rfl, rfl, rfl, rfl, rfl⟩ rfl rfl rfl rfl rfl (by kernel_rfl) Try.func10 (by kernel_rfl)
  (of_decide_eq_true (by kernel_rfl)) (by unfold Func.isWrapper; first | (rw [if_pos (by decide +kernel)]; kernel_rfl) | (rw [if_neg (by decide +kernel)]; exact ⟨rfl, rfl⟩))
  (fun os started H enc _ => lifted os started H enc)
theorem proved : Rows.HeapCopiesSaid := over
#print axioms proved
end Go.Proofs.Ytlipmhhndhhgdaa.heapCopies
