/- PortLetsSaid: part 6 of 7 of the proof that it returns true for every input and leaves its arguments as they were; no condition. -/
import Derived.Test.YtemimidmnnjanaaGreatJPortLetsSaid4
import Derived.Test.YtemimidmnnjanaaGreatJPortLetsSaid3
import Derived.Test.YtemimidmnnjanaaGreatJPortLetsSaid2
set_option linter.unusedSimpArgs false
set_option linter.unusedVariables false
namespace Go.Ab
open Go.Proofs
structure FZ (ts : List Value) (dv cv : Value) (a b limit : Nat) : Prop where
 size : ts.length = 148
 t0 : lget ts 0 = dv
 t1 : lget ts 1 = .int .i64 a
 t2 : lget ts 2 = .int .i64 b
 t3 : lget ts 3 = .int .i64 limit
 t4 : lget ts 4 = cv
 t10 : ∃ w, lget ts 10 = .bool w
 t11 : ∃ w, lget ts 11 = .bool w
noncomputable def pdqL : Code := loopOf (nthC 2 (Tryz.f104.body.getD .skip))
noncomputable def pdqX : Code := blockOf pdqL
noncomputable def pdqT1 : Code := dropC 4 pdqX
noncomputable def pdqT2 : Code := dropC 6 pdqX
noncomputable def pdqT3 : Code := dropC 7 pdqX
noncomputable def pdqT4 : Code := dropC 8 pdqX
theorem pdqL_is : pdqL = Code.block 1 ((nthC 0 pdqX).seq ((nthC 1 pdqX).seq ((nthC 2 pdqX).seq ((nthC 3 pdqX).seq pdqT1)))) := by rfl
theorem pdqT1_is : pdqT1 = (nthC 4 pdqX).seq ((nthC 5 pdqX).seq pdqT2) := by rfl
theorem pdqT2_is : pdqT2 = (nthC 6 pdqX).seq pdqT3 := by rfl
theorem pdqT3_is : pdqT3 = (nthC 7 pdqX).seq pdqT4 := by rfl
def PdqR (σ0 : St) (k : Nat) (G : List Value) (p : Pk → Prop) (lt : Pk → Pk → Bool) (a b : Nat) (d : Array Pk) (e : AE) (σ' : St) (lg : Log) : Prop :=
 e = .ret (.tuple ⟨[]⟩) ∧ ∃ D, SortR σ0 k G p D σ' lg ∧ Sort.PermIn a b d D ∧ Sort.SortedIn lt a b D
def PdqOk (σ0 : St) (k s n cap : Nat) (g : FuncId) (ys : List Value) (lt : Pk → Pk → Bool) (p : Pk → Prop) (G : List Value) (N : Nat) : Prop :=
 ∀ (a b limit : Nat) (d : Array Pk) (σ : St), b - a < N → b - a < 256 → limit < 1000 → SAt σ0 k d G p σ → d.size = n → a ≤ b → b ≤ n → Sort.Below lt a b d →
  callX Tryz.prog 104 [sliceS k s n cap, .int .i64 a, .int .i64 b, .int .i64 limit, .func (.func g) ⟨[]⟩ ⟨ys⟩] σ (PdqR σ0 k G p lt a b d)
section
variable {σ0 : St} {k s n cap : Nat} {g : FuncId} {ys : List Value} {lt : Pk → Pk → Bool} {p : Pk → Prop} {G : List Value}
def PdqN (σ0 : St) (k s n cap : Nat) (g : FuncId) (ys : List Value) (lt : Pk → Pk → Bool) (p : Pk → Prop) (G : List Value) (a b limit : Nat) (d : Array Pk) (ts' : List Value) (σ' : St) (lg : Log) : Prop :=
 ∃ d', ∃ a' b' : Nat, FZ ts' (sliceS k s n cap) (.func (.func g) ⟨[]⟩ ⟨ys⟩) a' b' limit ∧ SAt σ0 k d' G p σ' ∧ d'.size = n ∧ a' ≤ b' ∧ b' ≤ n ∧ b' - a' < b - a ∧ Sort.Below lt a' b' d' ∧
  (∀ R, Sort.PermIn a' b' d' R → Sort.SortedIn lt a' b' R → Sort.PermIn a b d R ∧ Sort.SortedIn lt a b R) ∧ ∀ z ∈ lg, z = k ∨ σ0.next ≤ z
def PdqD (σ0 : St) (k : Nat) (G : List Value) (p : Pk → Prop) (lt : Pk → Pk → Bool) (a b : Nat) (d : Array Pk) (σ' : St) (lg : Log) : Prop :=
 ∃ D, SAt σ0 k D G p σ' ∧ Sort.PermIn a b d D ∧ Sort.SortedIn lt a b D ∧ ∀ z ∈ lg, z = k ∨ σ0.next ≤ z
theorem PdqN.of {a b limit : Nat} {d d1 : Array Pk} {ts' : List Value} {σ' : St} {lg lg' : Log} (hp : Sort.PermIn a b d d1) (hl : ∀ z ∈ lg', z ∈ lg ∨ z = k ∨ σ0.next ≤ z) (h : PdqN σ0 k s n cap g ys lt p G a b limit d1 ts' σ' lg) : PdqN σ0 k s n cap g ys lt p G a b limit d ts' σ' lg' := by
 obtain ⟨d', a', b', h1, h2, h3, h4, h5, h6, h7, h8, h9⟩ := h
 exact ⟨d', a', b', h1, h2, h3, h4, h5, h6, h7, fun R hR hs => ⟨Sort.permIn_trans _ _ _ _ _ hp (h8 R hR hs).1, (h8 R hR hs).2⟩, fun z hz => (hl z hz).elim (h9 z) id⟩
theorem PdqD.of {a b : Nat} {d d1 : Array Pk} {σ' : St} {lg lg' : Log} (hp : Sort.PermIn a b d d1) (hl : ∀ z ∈ lg', z ∈ lg ∨ z = k ∨ σ0.next ≤ z) (h : PdqD σ0 k G p lt a b d1 σ' lg) : PdqD σ0 k G p lt a b d σ' lg' := by
 obtain ⟨D, h1, h2, h3, h9⟩ := h
 exact ⟨D, h1, Sort.permIn_trans _ _ _ _ _ hp h2, h3, fun z hz => (hl z hz).elim (h9 z) id⟩
set_option maxHeartbeats 6400000 in
set_option maxRecDepth 20000 in
theorem pdq_T4 (hc : CmpOk σ0 k g ys lt p) (hw : Sort.SWO lt) {N a b limit pivot : Nat} {ts : List Value} {σ : St} {d : Array Pk} (hN : b - a ≤ N) (F : FZ ts (sliceS k s n cap) (.func (.func g) ⟨[]⟩ ⟨ys⟩) a b limit) (e12 : lget ts 12 = .int .i64 ((b - a : Nat) : Int)) (e13 : lget ts 13 = .int .i64 pivot) (H : SAt σ0 k d G p σ) (hdn : d.size = n) (hn : n < 500000) (hap : a ≤ pivot) (hpb : pivot < b) (hbn : b ≤ n) (h256 : b - a < 256) (hlim : limit < 1000) (hB : Sort.Below lt a b d) (ih : PdqOk σ0 k s n cap g ys lt p G N) (K : RR → Prop)
  (hK : ∀ ts' σ' lg, PdqN σ0 k s n cap g ys lt p G a b limit d ts' σ' lg → K ⟨.norm, ⟨ts', []⟩, σ', lg⟩) :
  wp (cP Tryz.prog) q0 (btAll 104) false pdqT4 ⟨ts, []⟩ σ K := by
 have e0 := F.t0
 have e1 := F.t1
 have e2 := F.t2
 have e3 := F.t3
 have e4 := F.t4
 obtain ⟨wB, e10⟩ := F.t10
 obtain ⟨wP, e11⟩ := F.t11
 have el := F.size
 have hsm := H.small
 simp only [sliceS] at e0
 subst hdn
 obtain ⟨⟨mid, ap, d4⟩, hx⟩ : ∃ x, Sort.partition lt d a b pivot = x := ⟨_, rfl⟩
 have hpc := part_call (s := s) (cap := cap) hc H hap hpb hbn
 rw [hx] at hpc
 simp only [sliceS] at hpc
 obtain ⟨g1, g2, hs4, hBa, hBr, hleft, hright⟩ := Sort.round_part hw (Sort.partition_holds lt) hap hpb hbn hB hx
 have nz : ¬ (8 : Int) = 0 := by decide
 obtain ⟨q, hq⟩ : ∃ q, q = (b - a) / 8 := ⟨_, rfl⟩
 have t1 : IntKind.i64.wrap (((b - a : Nat) : Int).tdiv 8) = (q : Int) := by
  rw [Int.tdiv_eq_ediv_of_nonneg (by omega), hq]
  have : ((b - a : Nat) : Int) / 8 = (((b - a) / 8 : Nat) : Int) := by omega
  rw [this]; exact wrapIN (by omega)
 have w1 : IntKind.i64.wrap ((mid : Int) - (a : Int)) = ((mid - a : Nat) : Int) := by
  have : (mid : Int) - (a : Int) = ((mid - a : Nat) : Int) := by omega
  rw [this]; exact wrapIN (by omega)
 have w2 : IntKind.i64.wrap ((b : Int) - (mid : Int)) = ((b - mid : Nat) : Int) := by
  have : (b : Int) - (mid : Int) = ((b - mid : Nat) : Int) := by omega
  rw [this]; exact wrapIN (by omega)
 have w3 : IntKind.i64.wrap ((mid : Int) + 1) = ((mid + 1 : Nat) : Int) := by
  have : (mid : Int) + 1 = ((mid + 1 : Nat) : Int) := by omega
  rw [this]; exact wrapIN (by omega)
 by_cases hlr : mid - a < b - mid
 ·have c0 : ((mid - a : Nat) : Int) < ((b - mid : Nat) : Int) := by omega
  obtain ⟨w, hwd⟩ : ∃ w, decide ((q : Int) ≤ ((mid - a : Nat) : Int)) = w := ⟨_, rfl⟩
  simp only [go_sem, seval, if_pos rfl, opLen, undef, pdqX, pdqL, loopOf, nthC, dropC, blockOf, Tryz.f104, Option.getD, Int.toNat_natCast, pdqT4, e0, e1, e2, e3, e4, e10, e11, el, e12, e13]
  refine callX.hidE hpc ?_
  intro e σ1 lg1 hlg1 hA
  obtain ⟨rfl, hB1, H1⟩ := hA
  have hrec := ih a mid limit d4 σ1 (by omega) (by omega) hlim H1 hs4 (by omega) (by omega) hBa
  simp only [sliceS] at hrec
  refine ⟨?_⟩
  simp only [go_sem, seval, if_pos rfl, opLen, undef, pdqX, pdqL, loopOf, nthC, dropC, blockOf, Tryz.f104, Option.getD, Int.toNat_natCast, e0, e1, e2, e3, e4, e10, e11, el, e12, e13, w1, w2, w3, t1, nz, c0, hwd]
  refine callX.hidE hrec ?_
  intro e σ2 lg2 hlg2 hA
  obtain ⟨rfl, D, ⟨hB2, H2⟩, hP, hS⟩ := hA
  have hsz : D.size = d.size := hP.1.trans hs4
  refine ⟨?_⟩
  simp only [go_sem, seval, if_pos rfl, opLen, undef, pdqX, pdqL, loopOf, nthC, dropC, blockOf, Tryz.f104, Option.getD, Int.toNat_natCast, e0, e1, e2, e3, e4, e10, e11, el, e12, e13, w1, w2, w3, t1, nz, c0, hwd]
  refine hK _ _ _ ⟨D, mid + 1, b, ⟨by simp only [List.length_set, el], by simp only [go_sem, seval, if_pos rfl, opLen, el, e0] <;> rfl, by simp only [go_sem, seval, if_pos rfl, opLen, el, w3], by simp only [go_sem, seval, if_pos rfl, opLen, el, e2], by simp only [go_sem, seval, if_pos rfl, opLen, el, e3], by simp only [go_sem, seval, if_pos rfl, opLen, el, e4], ⟨w, by simp only [go_sem, seval, if_pos rfl, opLen, el]⟩, ⟨ap, by simp only [go_sem, seval, if_pos rfl, opLen, el]⟩⟩, H2, hsz, by omega, by omega, by omega, (hleft D hP hS).1, (hleft D hP hS).2, ?_⟩
  intro z hz
  simp only [List.mem_append, List.mem_cons, List.not_mem_nil, or_false, false_or] at hz
  exact hz.elim (hB1 z) (hB2 z)
 ·have c0 : ¬ ((mid - a : Nat) : Int) < ((b - mid : Nat) : Int) := by omega
  obtain ⟨w, hwd⟩ : ∃ w, decide ((q : Int) ≤ ((b - mid : Nat) : Int)) = w := ⟨_, rfl⟩
  simp only [go_sem, seval, if_pos rfl, opLen, undef, pdqX, pdqL, loopOf, nthC, dropC, blockOf, Tryz.f104, Option.getD, Int.toNat_natCast, pdqT4, e0, e1, e2, e3, e4, e10, e11, el, e12, e13]
  refine callX.hidE hpc ?_
  intro e σ1 lg1 hlg1 hA
  obtain ⟨rfl, hB1, H1⟩ := hA
  have hrec := ih (mid + 1) b limit d4 σ1 (by omega) (by omega) hlim H1 hs4 (by omega) (by omega) hBr
  simp only [sliceS] at hrec
  refine ⟨?_⟩
  simp only [go_sem, seval, if_pos rfl, opLen, undef, pdqX, pdqL, loopOf, nthC, dropC, blockOf, Tryz.f104, Option.getD, Int.toNat_natCast, e0, e1, e2, e3, e4, e10, e11, el, e12, e13, w1, w2, w3, t1, nz, c0, hwd]
  refine callX.hidE hrec ?_
  intro e σ2 lg2 hlg2 hA
  obtain ⟨rfl, D, ⟨hB2, H2⟩, hP, hS⟩ := hA
  have hsz : D.size = d.size := hP.1.trans hs4
  refine ⟨?_⟩
  simp only [go_sem, seval, if_pos rfl, opLen, undef, pdqX, pdqL, loopOf, nthC, dropC, blockOf, Tryz.f104, Option.getD, Int.toNat_natCast, e0, e1, e2, e3, e4, e10, e11, el, e12, e13, w1, w2, w3, t1, nz, c0, hwd]
  refine hK _ _ _ ⟨D, a, mid, ⟨by simp only [List.length_set, el], by simp only [go_sem, seval, if_pos rfl, opLen, el, e0] <;> rfl, by simp only [go_sem, seval, if_pos rfl, opLen, el, e1], by simp only [go_sem, seval, if_pos rfl, opLen, el, w3], by simp only [go_sem, seval, if_pos rfl, opLen, el, e3], by simp only [go_sem, seval, if_pos rfl, opLen, el, e4], ⟨w, by simp only [go_sem, seval, if_pos rfl, opLen, el]⟩, ⟨ap, by simp only [go_sem, seval, if_pos rfl, opLen, el]⟩⟩, H2, hsz, by omega, by omega, by omega, (hright D hP hS).1, (hright D hP hS).2, ?_⟩
  intro z hz
  simp only [List.mem_append, List.mem_cons, List.not_mem_nil, or_false, false_or] at hz
  exact hz.elim (hB1 z) (hB2 z)
attribute [irreducible] pdqT4
set_option maxHeartbeats 6400000 in
set_option maxRecDepth 20000 in
theorem pdq_T3 (hc : CmpOk σ0 k g ys lt p) (hw : Sort.SWO lt) {N a b limit pivot : Nat} {ts : List Value} {σ : St} {d : Array Pk} (hN : b - a ≤ N) (F : FZ ts (sliceS k s n cap) (.func (.func g) ⟨[]⟩ ⟨ys⟩) a b limit) (e12 : lget ts 12 = .int .i64 ((b - a : Nat) : Int)) (e13 : lget ts 13 = .int .i64 pivot) (H : SAt σ0 k d G p σ) (hdn : d.size = n) (hn : n < 500000) (hap : a ≤ pivot) (hpb : pivot < b) (hbn : b ≤ n) (h256 : b - a < 256) (hlim : limit < 1000) (hB : Sort.Below lt a b d) (ih : PdqOk σ0 k s n cap g ys lt p G N) (K : RR → Prop)
  (hK : ∀ ts' σ' lg, PdqN σ0 k s n cap g ys lt p G a b limit d ts' σ' lg → K ⟨.norm, ⟨ts', []⟩, σ', lg⟩ ∧ K ⟨.exit 1, ⟨ts', []⟩, σ', lg⟩) :
  wp (cP Tryz.prog) q0 (btAll 104) false pdqT3 ⟨ts, []⟩ σ K := by
 have e0 := F.t0
 have e1 := F.t1
 have e2 := F.t2
 have e3 := F.t3
 have e4 := F.t4
 obtain ⟨wB, e10⟩ := F.t10
 obtain ⟨wP, e11⟩ := F.t11
 have el := F.size
 have hsm := H.small
 simp only [sliceS] at e0
 rw [pdqT3_is]
 by_cases ha : 0 < a
 ·have c0 : (0 : Int) < (a : Int) := by omega
  subst hdn
  obtain ⟨r, hd, hr⟩ := hc.call σ H.base d[a - 1]! d[pivot]! (H.all _ (by omega)) (H.all _ (by omega))
  have hb := hc.body
  have g1 := H.get
  have x1 := arr_at (d := d) (G := G) (i := a - 1) (by omega)
  have x2 := arr_at (d := d) (G := G) (i := pivot) (by omega)
  have l1 : (a - 1) * 3 + 3 ≤ (cellsP d.toList ++ G).length := by rw [arr_len]; omega
  have l2 : pivot * 3 + 3 ≤ (cellsP d.toList ++ G).length := by rw [arr_len]; omega
  have c1 : (0 : Int) ≤ ((a - 1 : Nat) : Int) := by omega
  have c2 : ((a - 1 : Nat) : Int) < (d.size : Int) := by omega
  have c3 : (0 : Int) ≤ (pivot : Int) := by omega
  have c4 : (pivot : Int) < (d.size : Int) := by omega
  have w1 : IntKind.i64.wrap ((a : Int) - 1) = ((a - 1 : Nat) : Int) := by
   have : (a : Int) - 1 = ((a - 1 : Nat) : Int) := by omega
   rw [this]; exact wrapIN (by omega)
  have nk : ¬ σ.next ≤ k := by have := H.lt; have := H.base.nx; omega
  simp only [Pk.cells] at x1 x2
  by_cases hr0 : r < 0
  ·simp only [go_sem, seval, if_pos rfl, opLen, undef, pdqX, pdqL, loopOf, nthC, dropC, blockOf, Tryz.f104, Option.getD, Int.toNat_natCast, e0, e1, e2, e3, e4, e10, e11, el, e12, e13, g1, hb, x1, x2, l1, l2, c0, c1, c2, c3, c4, w1, nk]
   refine .of hd ?_
   simp only [go_sem, seval, if_pos rfl, opLen, undef, pdqX, pdqL, loopOf, nthC, dropC, blockOf, Tryz.f104, Option.getD, Int.toNat_natCast, e0, e1, e2, e3, e4, e10, e11, el, e12, e13, g1, hb, x1, x2, l1, l2, c0, c1, c2, c3, c4, w1, nk, hr0]
   exact pdq_T4 hc hw (pivot := pivot) hN ⟨by simp only [List.length_set, el], by simp only [go_sem, seval, if_pos rfl, opLen, el, e0] <;> rfl, by simp only [go_sem, seval, if_pos rfl, opLen, el, e1], by simp only [go_sem, seval, if_pos rfl, opLen, el, e2], by simp only [go_sem, seval, if_pos rfl, opLen, el, e3], by simp only [go_sem, seval, if_pos rfl, opLen, el, e4], ⟨wB, by simp only [go_sem, seval, if_pos rfl, opLen, el, e10]⟩, ⟨wP, by simp only [go_sem, seval, if_pos rfl, opLen, el, e11]⟩⟩ (by simp only [go_sem, seval, if_pos rfl, opLen, el, e12]) (by simp only [go_sem, seval, if_pos rfl, opLen, el, e13]) H rfl hn hap hpb hbn h256 hlim hB ih _ fun ts' σ' lg h => by simpa only [preW_mk, List.nil_append] using (hK ts' σ' lg h).1
  ·have hlt : lt d[a - 1]! d[pivot]! = false := by rw [← hr]; simp [hr0]
   obtain ⟨⟨mid, d4⟩, hx⟩ : ∃ x, Sort.partitionEqual lt d a b pivot = x := ⟨_, rfl⟩
   have hpc := parteq_call (s := s) (cap := cap) hc H hap hpb hbn
   rw [hx] at hpc
   simp only [sliceS] at hpc
   obtain ⟨q1, q2, hs4, hB4, hfin⟩ := Sort.round_eq hw (Sort.partitionEqual_holds lt) ha hap hpb hbn hB hlt hx
   simp only [go_sem, seval, if_pos rfl, opLen, undef, pdqX, pdqL, loopOf, nthC, dropC, blockOf, Tryz.f104, Option.getD, Int.toNat_natCast, e0, e1, e2, e3, e4, e10, e11, el, e12, e13, g1, hb, x1, x2, l1, l2, c0, c1, c2, c3, c4, w1, nk]
   refine .of hd ?_
   simp only [go_sem, seval, if_pos rfl, opLen, undef, pdqX, pdqL, loopOf, nthC, dropC, blockOf, Tryz.f104, Option.getD, Int.toNat_natCast, e0, e1, e2, e3, e4, e10, e11, el, e12, e13, g1, hb, x1, x2, l1, l2, c0, c1, c2, c3, c4, w1, nk, hr0]
   refine callX.hidE hpc ?_
   intro e σ1 lg1 hlg1 hA
   obtain ⟨rfl, hB1, H1⟩ := hA
   refine ⟨?_⟩
   simp only [go_sem, seval, if_pos rfl, opLen, undef, pdqX, pdqL, loopOf, nthC, dropC, blockOf, Tryz.f104, Option.getD, Int.toNat_natCast, e0, e1, e2, e3, e4, e10, e11, el, e12, e13, g1, hb, x1, x2, l1, l2, c0, c1, c2, c3, c4, w1, nk]
   refine (hK _ _ _ ⟨d4, mid, b, ⟨by simp only [List.length_set, el], by simp only [go_sem, seval, if_pos rfl, opLen, el, e0] <;> rfl, by simp only [go_sem, seval, if_pos rfl, opLen, el, e1], by simp only [go_sem, seval, if_pos rfl, opLen, el, e2], by simp only [go_sem, seval, if_pos rfl, opLen, el, e3], by simp only [go_sem, seval, if_pos rfl, opLen, el, e4], ⟨wB, by simp only [go_sem, seval, if_pos rfl, opLen, el, e10]⟩, ⟨wP, by simp only [go_sem, seval, if_pos rfl, opLen, el, e11]⟩⟩, H1, hs4, by omega, by omega, by omega, hB4, hfin, ?_⟩).2
   intro z hz
   exact hB1 z (by simpa using hz)
 ·have c0 : ¬ (0 : Int) < (a : Int) := by omega
  simp only [go_sem, seval, if_pos rfl, opLen, undef, pdqX, pdqL, loopOf, nthC, dropC, blockOf, Tryz.f104, Option.getD, Int.toNat_natCast, e0, e1, e2, e3, e4, e10, e11, el, e12, e13, c0]
  exact pdq_T4 hc hw (pivot := pivot) hN ⟨by simp only [List.length_set, el], by simp only [go_sem, seval, if_pos rfl, opLen, el, e0] <;> rfl, by simp only [go_sem, seval, if_pos rfl, opLen, el, e1], by simp only [go_sem, seval, if_pos rfl, opLen, el, e2], by simp only [go_sem, seval, if_pos rfl, opLen, el, e3], by simp only [go_sem, seval, if_pos rfl, opLen, el, e4], ⟨wB, by simp only [go_sem, seval, if_pos rfl, opLen, el, e10]⟩, ⟨wP, by simp only [go_sem, seval, if_pos rfl, opLen, el, e11]⟩⟩ (by simp only [go_sem, seval, if_pos rfl, opLen, el, e12]) (by simp only [go_sem, seval, if_pos rfl, opLen, el, e13]) H hdn hn hap hpb hbn h256 hlim hB ih _ fun ts' σ' lg h => by simpa only [preW_mk, List.nil_append] using (hK ts' σ' lg h).1
attribute [irreducible] pdqT3
set_option maxHeartbeats 6400000 in
set_option maxRecDepth 20000 in
theorem pdq_T2 (hc : CmpOk σ0 k g ys lt p) (hw : Sort.SWO lt) {h : Int} {N a b limit pivot : Nat} {ts : List Value} {σ : St} {d : Array Pk} (hN : b - a ≤ N) (F : FZ ts (sliceS k s n cap) (.func (.func g) ⟨[]⟩ ⟨ys⟩) a b limit) (e12 : lget ts 12 = .int .i64 ((b - a : Nat) : Int)) (e13 : lget ts 13 = .int .i64 pivot) (e14 : lget ts 14 = .int .i64 h) (H : SAt σ0 k d G p σ) (hdn : d.size = n) (hn : n < 500000) (hap : a ≤ pivot) (hpb : pivot < b) (hbn : b ≤ n) (h256 : b - a < 256) (hlim : limit < 1000) (hB : Sort.Below lt a b d) (ih : PdqOk σ0 k s n cap g ys lt p G N) (K : RR → Prop)
  (hK : ∀ ts' σ' lg, PdqN σ0 k s n cap g ys lt p G a b limit d ts' σ' lg → K ⟨.norm, ⟨ts', []⟩, σ', lg⟩ ∧ K ⟨.exit 1, ⟨ts', []⟩, σ', lg⟩)
  (hD : ∀ ts' σ' lg, PdqD σ0 k G p lt a b d σ' lg → K ⟨.ret, ⟨ts', []⟩, σ', lg⟩) :
  wp (cP Tryz.prog) q0 (btAll 104) false pdqT2 ⟨ts, []⟩ σ K := by
 have e0 := F.t0
 have e1 := F.t1
 have e2 := F.t2
 have e3 := F.t3
 have e4 := F.t4
 obtain ⟨wB, e10⟩ := F.t10
 obtain ⟨wP, e11⟩ := F.t11
 have el := F.size
 have hsm := H.small
 simp only [sliceS] at e0
 rw [pdqT2_is]
 have go : ∀ b1 b2 b3 : Bool, wB = b1 → wP = b2 → (h == 1) = b3 → (b1 && b2 && b3) = false → wp (cP Tryz.prog) q0 (btAll 104) false ((nthC 6 pdqX).seq pdqT3) ⟨ts, []⟩ σ K := by
  rintro b1 b2 b3 rfl rfl h3 hh
  cases wB with
  | false =>
   simp only [go_sem, seval, if_pos rfl, opLen, undef, pdqX, pdqL, loopOf, nthC, dropC, blockOf, Tryz.f104, Option.getD, Int.toNat_natCast, e0, e1, e2, e3, e4, e10, e11, el, e12, e13, e14]
   exact pdq_T3 hc hw (pivot := pivot) hN ⟨by simp only [List.length_set, el], by simp only [go_sem, seval, if_pos rfl, opLen, el, e0] <;> rfl, by simp only [go_sem, seval, if_pos rfl, opLen, el, e1], by simp only [go_sem, seval, if_pos rfl, opLen, el, e2], by simp only [go_sem, seval, if_pos rfl, opLen, el, e3], by simp only [go_sem, seval, if_pos rfl, opLen, el, e4], ⟨false, by simp only [go_sem, seval, if_pos rfl, opLen, el, e10]⟩, ⟨wP, by simp only [go_sem, seval, if_pos rfl, opLen, el, e11]⟩⟩ (by simp only [go_sem, seval, if_pos rfl, opLen, el, e12]) (by simp only [go_sem, seval, if_pos rfl, opLen, el, e13]) H hdn hn hap hpb hbn h256 hlim hB ih _ fun ts' σ' lg h => by simpa only [preW_mk, List.nil_append] using hK ts' σ' lg h
  | true => cases wP with
   | false =>
    simp only [go_sem, seval, if_pos rfl, opLen, undef, pdqX, pdqL, loopOf, nthC, dropC, blockOf, Tryz.f104, Option.getD, Int.toNat_natCast, e0, e1, e2, e3, e4, e10, e11, el, e12, e13, e14]
    exact pdq_T3 hc hw (pivot := pivot) hN ⟨by simp only [List.length_set, el], by simp only [go_sem, seval, if_pos rfl, opLen, el, e0] <;> rfl, by simp only [go_sem, seval, if_pos rfl, opLen, el, e1], by simp only [go_sem, seval, if_pos rfl, opLen, el, e2], by simp only [go_sem, seval, if_pos rfl, opLen, el, e3], by simp only [go_sem, seval, if_pos rfl, opLen, el, e4], ⟨true, by simp only [go_sem, seval, if_pos rfl, opLen, el, e10]⟩, ⟨false, by simp only [go_sem, seval, if_pos rfl, opLen, el, e11]⟩⟩ (by simp only [go_sem, seval, if_pos rfl, opLen, el, e12]) (by simp only [go_sem, seval, if_pos rfl, opLen, el, e13]) H hdn hn hap hpb hbn h256 hlim hB ih _ fun ts' σ' lg h => by simpa only [preW_mk, List.nil_append] using hK ts' σ' lg h
   | true =>
    obtain rfl : b3 = false := by simpa using hh
    simp only [go_sem, seval, if_pos rfl, opLen, undef, pdqX, pdqL, loopOf, nthC, dropC, blockOf, Tryz.f104, Option.getD, Int.toNat_natCast, e0, e1, e2, e3, e4, e10, e11, el, e12, e13, e14, h3]
    exact pdq_T3 hc hw (pivot := pivot) hN ⟨by simp only [List.length_set, el], by simp only [go_sem, seval, if_pos rfl, opLen, el, e0] <;> rfl, by simp only [go_sem, seval, if_pos rfl, opLen, el, e1], by simp only [go_sem, seval, if_pos rfl, opLen, el, e2], by simp only [go_sem, seval, if_pos rfl, opLen, el, e3], by simp only [go_sem, seval, if_pos rfl, opLen, el, e4], ⟨true, by simp only [go_sem, seval, if_pos rfl, opLen, el, e10]⟩, ⟨true, by simp only [go_sem, seval, if_pos rfl, opLen, el, e11]⟩⟩ (by simp only [go_sem, seval, if_pos rfl, opLen, el, e12]) (by simp only [go_sem, seval, if_pos rfl, opLen, el, e13]) H hdn hn hap hpb hbn h256 hlim hB ih _ fun ts' σ' lg h => by simpa only [preW_mk, List.nil_append] using hK ts' σ' lg h
 by_cases hall : (wB && wP && (h == 1)) = false
 ·exact go wB wP (h == 1) rfl rfl rfl hall
 ·clear go
  obtain ⟨rfl, rfl, h3'⟩ : wB = true ∧ wP = true ∧ h = 1 := by simpa using hall
  have h3 : (h == 1) = true := by rw [h3']; rfl
  subst hdn
  have hpc := pis_call (s := s) (cap := cap) hc H (show a < b by omega) hbn
  have hps := Sort.partialInsertionSort_holds (lt := lt) hw d a b (by omega) hbn hB
  obtain ⟨D, hDe⟩ : ∃ D, (Sort.partialInsertionSort lt d a b).1 = D := ⟨_, rfl⟩
  obtain ⟨R, hRe⟩ : ∃ R, (Sort.partialInsertionSort lt d a b).2 = R := ⟨_, rfl⟩
  rw [hDe, hRe] at hpc hps
  simp only [sliceS] at hpc
  obtain ⟨hP, hS⟩ := hps
  cases R with
  | true =>
   simp only [go_sem, seval, if_pos rfl, opLen, undef, pdqX, pdqL, loopOf, nthC, dropC, blockOf, Tryz.f104, Option.getD, Int.toNat_natCast, e0, e1, e2, e3, e4, e10, e11, el, e12, e13, e14, h3]
   refine callX.hidE hpc ?_
   intro e σ1 lg1 hlg1 hA
   obtain ⟨rfl, hB1, H1⟩ := hA
   refine ⟨?_⟩
   simp only [go_sem, seval, if_pos rfl, opLen, undef, pdqX, pdqL, loopOf, nthC, dropC, blockOf, Tryz.f104, Option.getD, Int.toNat_natCast, e0, e1, e2, e3, e4, e10, e11, el, e12, e13, e14, h3]
   refine hD _ _ _ ⟨D, H1, hP, hS rfl, ?_⟩
   intro z hz
   exact hB1 z (by simpa using hz)
  | false =>
   simp only [go_sem, seval, if_pos rfl, opLen, undef, pdqX, pdqL, loopOf, nthC, dropC, blockOf, Tryz.f104, Option.getD, Int.toNat_natCast, e0, e1, e2, e3, e4, e10, e11, el, e12, e13, e14, h3]
   refine callX.hidE hpc ?_
   intro e σ1 lg1 hlg1 hA
   obtain ⟨rfl, hB1, H1⟩ := hA
   have hBD := hB.perm hbn hP
   have hsz : D.size = d.size := hP.1
   refine ⟨?_⟩
   simp only [go_sem, seval, if_pos rfl, opLen, undef, pdqX, pdqL, loopOf, nthC, dropC, blockOf, Tryz.f104, Option.getD, Int.toNat_natCast, e0, e1, e2, e3, e4, e10, e11, el, e12, e13, e14, h3]
   refine pdq_T3 hc hw (pivot := pivot) hN ⟨by simp only [List.length_set, el], by simp only [go_sem, seval, if_pos rfl, opLen, el, e0] <;> rfl, by simp only [go_sem, seval, if_pos rfl, opLen, el, e1], by simp only [go_sem, seval, if_pos rfl, opLen, el, e2], by simp only [go_sem, seval, if_pos rfl, opLen, el, e3], by simp only [go_sem, seval, if_pos rfl, opLen, el, e4], ⟨true, by simp only [go_sem, seval, if_pos rfl, opLen, el, e10]⟩, ⟨true, by simp only [go_sem, seval, if_pos rfl, opLen, el, e11]⟩⟩ (by simp only [go_sem, seval, if_pos rfl, opLen, el, e12]) (by simp only [go_sem, seval, if_pos rfl, opLen, el, e13]) H1 hsz hn hap hpb hbn h256 hlim hBD ih _ ?_
   intro ts' σ' lg h
   have := hK ts' σ' (lg1 ++ lg) (h.of hP fun z hz => (List.mem_append.1 hz).elim (fun h => .inr (hB1 z h)) .inl)
   simpa only [preW_mk, List.append_assoc, List.nil_append] using this
attribute [irreducible] pdqT2
set_option maxHeartbeats 6400000 in
set_option maxRecDepth 20000 in
theorem pdq_T1 (hc : CmpOk σ0 k g ys lt p) (hw : Sort.SWO lt) {N a b limit : Nat} {ts : List Value} {σ : St} {d : Array Pk} (hN : b - a ≤ N) (F : FZ ts (sliceS k s n cap) (.func (.func g) ⟨[]⟩ ⟨ys⟩) a b limit) (e12 : lget ts 12 = .int .i64 ((b - a : Nat) : Int))  (H : SAt σ0 k d G p σ) (hdn : d.size = n) (hn : n < 500000) (h8 : a + 8 ≤ b) (hbn : b ≤ n) (h256 : b - a < 256) (hlim : limit < 1000) (hB : Sort.Below lt a b d) (ih : PdqOk σ0 k s n cap g ys lt p G N) (K : RR → Prop)
  (hK : ∀ ts' σ' lg, PdqN σ0 k s n cap g ys lt p G a b limit d ts' σ' lg → K ⟨.norm, ⟨ts', []⟩, σ', lg⟩ ∧ K ⟨.exit 1, ⟨ts', []⟩, σ', lg⟩)
  (hD : ∀ ts' σ' lg, PdqD σ0 k G p lt a b d σ' lg → K ⟨.ret, ⟨ts', []⟩, σ', lg⟩) :
  wp (cP Tryz.prog) q0 (btAll 104) false pdqT1 ⟨ts, []⟩ σ K := by
 have e0 := F.t0
 have e1 := F.t1
 have e2 := F.t2
 have e3 := F.t3
 have e4 := F.t4
 obtain ⟨wB, e10⟩ := F.t10
 obtain ⟨wP, e11⟩ := F.t11
 have el := F.size
 have hsm := H.small
 simp only [sliceS] at e0
 subst hdn
 have hpc := piv_call (s := s) (cap := cap) hc H h8 hbn
 simp only [sliceS] at hpc
 rw [pdqT1_is]
 have w1 : IntKind.i64.wrap ((b : Int) - 1) = ((b - 1 : Nat) : Int) := by
  have : (b : Int) - 1 = ((b - 1 : Nat) : Int) := by omega
  rw [this]; exact wrapIN (by omega)
 simp only [go_sem, seval, if_pos rfl, opLen, undef, pdqX, pdqL, loopOf, nthC, dropC, blockOf, Tryz.f104, Option.getD, Int.toNat_natCast, e0, e1, e2, e3, e4, e10, e11, el, e12]
 refine callX.hidE hpc ?_
 intro e σ1 lg1 hlg1 hA
 obtain ⟨x, h, hxr, hh, rfl, hB1, H1⟩ := hA
 have hB1' : ∀ z ∈ lg1, z = k ∨ σ0.next ≤ z := fun z hz => .inr (hB1 z hz)
 have w2 : IntKind.i64.wrap ((x : Int) - (a : Int)) = ((x - a : Nat) : Int) := by
  have : (x : Int) - (a : Int) = ((x - a : Nat) : Int) := by omega
  rw [this]; exact wrapIN (by omega)
 have w3 : IntKind.i64.wrap (((b - 1 : Nat) : Int) - ((x - a : Nat) : Int)) = ((b - 1 - (x - a) : Nat) : Int) := by
  have : ((b - 1 : Nat) : Int) - ((x - a : Nat) : Int) = ((b - 1 - (x - a) : Nat) : Int) := by omega
  rw [this]; exact wrapIN (by omega)
 by_cases h2 : h = 2
 ·subst h2
  have b1 : ((2 : Int) == 2) = true := by decide
  have hrc := rev_call (s := s) (cap := cap) (cv := .func (.func g) ⟨[]⟩ ⟨ys⟩) H1 (show a < b by omega) hbn
  simp only [sliceS] at hrc
  have hP := Sort.reverseRange_holds d a b (by omega) hbn
  have hBD := hB.perm hbn hP
  have hsz : (Sort.reverseRange d a b).size = d.size := hP.1
  refine ⟨?_⟩
  simp only [go_sem, seval, if_pos rfl, opLen, undef, pdqX, pdqL, loopOf, nthC, dropC, blockOf, Tryz.f104, Option.getD, Int.toNat_natCast, e0, e1, e2, e3, e4, e10, e11, el, e12, b1]
  refine callX.hidE hrc ?_
  intro e σ2 lg2 hlg2 hA
  obtain ⟨rfl, hB2, H2⟩ := hA
  refine ⟨?_⟩
  simp only [go_sem, seval, if_pos rfl, opLen, undef, pdqX, pdqL, loopOf, nthC, dropC, blockOf, Tryz.f104, Option.getD, Int.toNat_natCast, e0, e1, e2, e3, e4, e10, e11, el, e12, b1, w1, w2, w3]
  refine pdq_T2 hc hw (pivot := b - 1 - (x - a)) (h := 1) hN ⟨by simp only [List.length_set, el], by simp only [go_sem, seval, if_pos rfl, opLen, el, e0] <;> rfl, by simp only [go_sem, seval, if_pos rfl, opLen, el, e1], by simp only [go_sem, seval, if_pos rfl, opLen, el, e2], by simp only [go_sem, seval, if_pos rfl, opLen, el, e3], by simp only [go_sem, seval, if_pos rfl, opLen, el, e4], ⟨wB, by simp only [go_sem, seval, if_pos rfl, opLen, el, e10]⟩, ⟨wP, by simp only [go_sem, seval, if_pos rfl, opLen, el, e11]⟩⟩ (by simp only [go_sem, seval, if_pos rfl, opLen, el, e12]) (by simp only [go_sem, seval, if_pos rfl, opLen, el, w3]) (by simp only [go_sem, seval, if_pos rfl, opLen, el]) H2 hsz hn (by omega) (by omega) hbn h256 hlim hBD ih _ ?_ ?_
  ·intro ts' σ' lg h
   have := hK ts' σ' (lg1 ++ (lg2 ++ lg)) (h.of hP fun z hz => (List.mem_append.1 hz).elim (fun h => .inr (hB1' z h)) fun hz => (List.mem_append.1 hz).elim (fun h => .inr (hB2 z h)) .inl)
   simpa only [preW_mk, List.append_assoc, List.nil_append] using this
  ·intro ts' σ' lg h
   have := hD ts' σ' (lg1 ++ (lg2 ++ lg)) (h.of hP fun z hz => (List.mem_append.1 hz).elim (fun h => .inr (hB1' z h)) fun hz => (List.mem_append.1 hz).elim (fun h => .inr (hB2 z h)) .inl)
   simpa only [preW_mk, List.append_assoc, List.nil_append] using this
 ·have b1 : (h == 2) = false := by rw [beq_eq_false_iff_ne]; exact h2
  refine ⟨?_⟩
  simp only [go_sem, seval, if_pos rfl, opLen, undef, pdqX, pdqL, loopOf, nthC, dropC, blockOf, Tryz.f104, Option.getD, Int.toNat_natCast, e0, e1, e2, e3, e4, e10, e11, el, e12, b1]
  refine pdq_T2 hc hw (pivot := x) (h := h) hN ⟨by simp only [List.length_set, el], by simp only [go_sem, seval, if_pos rfl, opLen, el, e0] <;> rfl, by simp only [go_sem, seval, if_pos rfl, opLen, el, e1], by simp only [go_sem, seval, if_pos rfl, opLen, el, e2], by simp only [go_sem, seval, if_pos rfl, opLen, el, e3], by simp only [go_sem, seval, if_pos rfl, opLen, el, e4], ⟨wB, by simp only [go_sem, seval, if_pos rfl, opLen, el, e10]⟩, ⟨wP, by simp only [go_sem, seval, if_pos rfl, opLen, el, e11]⟩⟩ (by simp only [go_sem, seval, if_pos rfl, opLen, el, e12]) (by simp only [go_sem, seval, if_pos rfl, opLen, el]) (by simp only [go_sem, seval, if_pos rfl, opLen, el]) H1 rfl hn hxr.1 hxr.2 hbn h256 hlim hB ih _ ?_ ?_
  ·intro ts' σ' lg h
   have := hK ts' σ' (lg1 ++ lg) (h.of (Sort.permIn_refl _ _ _) fun z hz => (List.mem_append.1 hz).elim (fun h => .inr (hB1' z h)) .inl)
   simpa only [preW_mk, List.append_assoc, List.nil_append] using this
  ·intro ts' σ' lg h
   have := hD ts' σ' (lg1 ++ lg) (h.of (Sort.permIn_refl _ _ _) fun z hz => (List.mem_append.1 hz).elim (fun h => .inr (hB1' z h)) .inl)
   simpa only [preW_mk, List.append_assoc, List.nil_append] using this
attribute [irreducible] pdqT1
def IPd (σ0 : St) (k s n cap : Nat) (g : FuncId) (ys : List Value) (lt : Pk → Pk → Bool) (p : Pk → Prop) (G : List Value) (N : Nat) (Fin : Array Pk → Prop) (m : Nat) (fr : Fr) (σ : St) : Prop :=
 ∃ ts d, ∃ a b limit : Nat, fr = ⟨ts, []⟩ ∧ FZ ts (sliceS k s n cap) (.func (.func g) ⟨[]⟩ ⟨ys⟩) a b limit ∧ m = b - a ∧ b - a ≤ N ∧ b - a < 256 ∧ limit < 1000 ∧ SAt σ0 k d G p σ ∧ d.size = n ∧ a ≤ b ∧ b ≤ n ∧ Sort.Below lt a b d ∧ ∀ R, Sort.PermIn a b d R → Sort.SortedIn lt a b R → Fin R
def EPd (σ0 : St) (k : Nat) (p : Pk → Prop) (G : List Value) (Fin : Array Pk → Prop) (x : AX) (fr : Fr) (σ : St) : Prop :=
 x = .ret ∧ fr.ds = [] ∧ ∃ D, SAt σ0 k D G p σ ∧ Fin D
set_option maxHeartbeats 6400000 in
set_option maxRecDepth 20000 in
theorem pdq_loop (hc : CmpOk σ0 k g ys lt p) (hw : Sort.SWO lt) {N : Nat} (hn : n < 500000) (ih : PdqOk σ0 k s n cap g ys lt p G N) {Fin : Array Pk → Prop} :
  ∀ m fr σ, IPd σ0 k s n cap g ys lt p G N Fin m fr σ → loopX Tryz.prog false pdqL fr σ (endL (EPd σ0 k p G Fin) fun z => z = k ∨ σ0.next ≤ z) := by
 refine loop_ind q0 104 (by kernel_rfl) _ _ _ ?_
 rintro m fr σ ⟨ts, d, a, b, limit, rfl, F, hm, hN, h256, hlim, H, hdn, hab, hbn, hB, hF⟩
 have e0 := F.t0
 have e1 := F.t1
 have e2 := F.t2
 have e3 := F.t3
 have e4 := F.t4
 obtain ⟨wB, e10⟩ := F.t10
 obtain ⟨wP, e11⟩ := F.t11
 have el := F.size
 have hsm := H.small
 simp only [sliceS] at e0
 have w1 : IntKind.i64.wrap ((b : Int) - (a : Int)) = ((b - a : Nat) : Int) := by
  have : (b : Int) - (a : Int) = ((b - a : Nat) : Int) := by omega
  rw [this]; exact wrapIN (by omega)
 rw [pdqL_is]
 subst hdn
 by_cases h12 : b - a ≤ 12
 ·have c0 : ((b - a : Nat) : Int) ≤ 12 := by omega
  have hic := ins_call (s := s) (cap := cap) hc H hab hbn
  have his := Sort.insertionSort_holds (lt := lt) hw d a b hab hbn
  simp only [sliceS] at hic
  simp only [go_sem, seval, if_pos rfl, opLen, undef, pdqX, pdqL, loopOf, nthC, dropC, blockOf, Tryz.f104, Option.getD, Int.toNat_natCast, e0, e1, e2, e3, e4, e10, e11, el, w1, c0]
  refine callX.hidE hic ?_
  intro e σ1 lg1 hlg1 hA
  obtain ⟨rfl, hB1, H1⟩ := hA
  refine ⟨?_⟩
  simp only [go_sem, seval, if_pos rfl, opLen, undef, pdqX, pdqL, loopOf, nthC, dropC, blockOf, Tryz.f104, Option.getD, Int.toNat_natCast, e0, e1, e2, e3, e4, e10, e11, el]
  exact ⟨by simpa using hB1, rfl, rfl, _, H1, hF _ his.1 his.2⟩
 ·have c0 : ¬ ((b - a : Nat) : Int) ≤ 12 := by omega
  by_cases hl0 : limit = 0
  ·have b0 : ((limit : Int) == 0) = true := by rw [hl0]; rfl
   have hic := heap_call (s := s) (cap := cap) hc H hab hbn hn
   have his := Sort.heapSort_holds (lt := lt) hw d a b hab hbn
   simp only [sliceS] at hic
   simp only [go_sem, seval, if_pos rfl, opLen, undef, pdqX, pdqL, loopOf, nthC, dropC, blockOf, Tryz.f104, Option.getD, Int.toNat_natCast, e0, e1, e2, e3, e4, e10, e11, el, w1, c0, b0]
   refine callX.hidE hic ?_
   intro e σ1 lg1 hlg1 hA
   obtain ⟨rfl, hB1, H1⟩ := hA
   refine ⟨?_⟩
   simp only [go_sem, seval, if_pos rfl, opLen, undef, pdqX, pdqL, loopOf, nthC, dropC, blockOf, Tryz.f104, Option.getD, Int.toNat_natCast, e0, e1, e2, e3, e4, e10, e11, el]
   exact ⟨by simpa using hB1, rfl, rfl, _, H1, hF _ his.1 his.2⟩
  ·have b0 : ((limit : Int) == 0) = false := by rw [beq_eq_false_iff_ne]; omega
   cases wB with
   | true =>
    simp only [go_sem, seval, if_pos rfl, opLen, undef, pdqX, pdqL, loopOf, nthC, dropC, blockOf, Tryz.f104, Option.getD, Int.toNat_natCast, e0, e1, e2, e3, e4, e10, e11, el, w1, c0, b0]
    refine pdq_T1 hc hw hN ⟨by simp only [List.length_set, el], by simp only [go_sem, seval, if_pos rfl, opLen, el, e0] <;> rfl, by simp only [go_sem, seval, if_pos rfl, opLen, el, e1], by simp only [go_sem, seval, if_pos rfl, opLen, el, e2], by simp only [go_sem, seval, if_pos rfl, opLen, el, e3], by simp only [go_sem, seval, if_pos rfl, opLen, el, e4], ⟨true, by simp only [go_sem, seval, if_pos rfl, opLen, el, e10]⟩, ⟨wP, by simp only [go_sem, seval, if_pos rfl, opLen, el, e11]⟩⟩ (by simp only [go_sem, seval, if_pos rfl, opLen, el]) H rfl hn (by omega) hbn h256 hlim hB ih _ ?_ ?_
    ·rintro ts' σ' lg ⟨d', a', b', q1, q2, q3, q4, q5, q6, q7, q8, q9⟩
     simp only [go_sem, seval, if_pos rfl, opLen]
     exact ⟨by simpa using q9, b' - a', by omega, ts', d', a', b', limit, rfl, q1, rfl, by omega, by omega, hlim, q2, q3, q4, q5, q7, fun R hR hs => hF R (q8 R hR hs).1 (q8 R hR hs).2⟩
    ·rintro ts' σ' lg ⟨D, q1, q2, q3, q4⟩
     simp only [go_sem, seval, if_pos rfl, opLen]
     exact ⟨by simpa using q4, rfl, rfl, D, q1, hF D q2 q3⟩
   | false =>
    have hbc := brk_call (s := s) (cap := cap) (vc := .func (.func g) ⟨[]⟩ ⟨ys⟩) H hab hbn h256
    simp only [sliceS] at hbc
    have wl : IntKind.i64.wrap ((limit : Int) - 1) = ((limit - 1 : Nat) : Int) := by
     have : (limit : Int) - 1 = ((limit - 1 : Nat) : Int) := by omega
     rw [this]; exact wrapIN (by omega)
    simp only [go_sem, seval, if_pos rfl, opLen, undef, pdqX, pdqL, loopOf, nthC, dropC, blockOf, Tryz.f104, Option.getD, Int.toNat_natCast, e0, e1, e2, e3, e4, e10, e11, el, w1, c0, b0]
    refine callX.hidE hbc ?_
    intro e σ1 lg1 hlg1 hA
    obtain ⟨rfl, D, ⟨hB1, H1⟩, hP⟩ := hA
    have hBD := hB.perm hbn hP
    have hsz : D.size = d.size := hP.1
    refine ⟨?_⟩
    simp only [go_sem, seval, if_pos rfl, opLen, undef, pdqX, pdqL, loopOf, nthC, dropC, blockOf, Tryz.f104, Option.getD, Int.toNat_natCast, e0, e1, e2, e3, e4, e10, e11, el, w1, c0, b0, wl]
    refine pdq_T1 hc hw hN ⟨by simp only [List.length_set, el], by simp only [go_sem, seval, if_pos rfl, opLen, el, e0] <;> rfl, by simp only [go_sem, seval, if_pos rfl, opLen, el, e1], by simp only [go_sem, seval, if_pos rfl, opLen, el, e2], by simp only [go_sem, seval, if_pos rfl, opLen, el, wl], by simp only [go_sem, seval, if_pos rfl, opLen, el, e4], ⟨false, by simp only [go_sem, seval, if_pos rfl, opLen, el, e10]⟩, ⟨wP, by simp only [go_sem, seval, if_pos rfl, opLen, el, e11]⟩⟩ (by simp only [go_sem, seval, if_pos rfl, opLen, el]) H1 hsz hn (by omega) hbn h256 (show limit - 1 < 1000 by omega) hBD ih _ ?_ ?_
    ·rintro ts' σ' lg ⟨d', a', b', q1, q2, q3, q4, q5, q6, q7, q8, q9⟩
     have hlg : ∀ z ∈ lg1 ++ lg, z = k ∨ σ0.next ≤ z := fun z hz => (List.mem_append.1 hz).elim (hB1 z) (q9 z)
     simp only [go_sem, seval, if_pos rfl, opLen]
     exact ⟨by simpa using hlg, b' - a', by omega, ts', d', a', b', limit - 1, rfl, q1, rfl, by omega, by omega, by omega, q2, q3, q4, q5, q7, fun R hR hs => hF R (Sort.permIn_trans _ _ _ _ _ hP (q8 R hR hs).1) (q8 R hR hs).2⟩
    ·rintro ts' σ' lg ⟨D', q1, q2, q3, q4⟩
     have hlg : ∀ z ∈ lg1 ++ lg, z = k ∨ σ0.next ≤ z := fun z hz => (List.mem_append.1 hz).elim (hB1 z) (q4 z)
     simp only [go_sem, seval, if_pos rfl, opLen]
     exact ⟨by simpa using hlg, rfl, rfl, D', q1, hF D' (Sort.permIn_trans _ _ _ _ _ hP q2) q3⟩
theorem pdq_step (hc : CmpOk σ0 k g ys lt p) (hw : Sort.SWO lt) {N : Nat} (hn : n < 500000) (ih : PdqOk σ0 k s n cap g ys lt p G N) : PdqOk σ0 k s n cap g ys lt p G (N + 1) := by
 intro a b limit d σ hlt h256 hlim H hdn hab hbn hB
 refine enter (p := q0) Tryz.func104 rfl stat104 ?_
 simp only [go_sem, seval, if_pos rfl, opLen, undef, sliceS, Tryz.f104]
 refine loop_then (pdq_loop (s := s) (n := n) (cap := cap) (G := G) hc hw hn ih (Fin := fun R => Sort.PermIn a b d R ∧ Sort.SortedIn lt a b R) (b - a) _ _ ⟨_, d, a, b, limit, rfl, ⟨rfl, rfl, rfl, rfl, rfl, rfl, ⟨_, rfl⟩, ⟨_, rfl⟩⟩, rfl, by omega, h256, hlim, H, hdn, hab, hbn, hB, fun R h1 h2 => ⟨h1, h2⟩⟩) ?_
 intro x fr' σ' lg hlg hBl h
 obtain ⟨rfl, hds, D, H', hP, hS⟩ := h
 obtain ⟨ts', ds'⟩ := fr'
 simp only at hds
 subst hds
 simp only [go_sem, seval, if_pos rfl, opLen]
 exact ⟨rfl, D, ⟨hBl, H'⟩, hP, hS⟩
theorem pdq_ok (hc : CmpOk σ0 k g ys lt p) (hw : Sort.SWO lt) (hn : n < 500000) : ∀ N, PdqOk σ0 k s n cap g ys lt p G N
 | 0 => fun _ _ _ _ _ h => absurd h (Nat.not_lt_zero _)
 | N + 1 => pdq_step hc hw hn (pdq_ok hc hw hn N)
end
end Go.Ab
namespace Go.Ab
open Go.Proofs
attribute [go_sem] callW q8 p8 p7 p6 p5 p4 p3 p2 p1 lget_put lgetq_put List.length_set Tryz.underlying2 info2 Tryz.t2 Tryz.underlying3 info3 Tryz.t3 Tryz.underlying4 info4 Tryz.t4 Tryz.underlying5 info5 Tryz.t5 Tryz.underlying29 info29 Tryz.t29 Tryz.underlying30 info30 Tryz.t30 Tryz.underlying24 info24 Tryz.t24 Tryz.underlying51 info51 Tryz.t51 Tryz.underlying33 info33 Tryz.t33 Tryz.underlying34 info34 Tryz.t34 Tryz.underlying31 info31 Tryz.t31 Tryz.underlying86 info86 Tryz.t86 Tryz.underlying22 info22 Tryz.t22 Tryz.underlying23 info23 Tryz.t23 Tryz.underlying25 info25 Tryz.t25 Tryz.underlying35 info35 Tryz.t35 Tryz.underlying36 info36 Tryz.t36 Tryz.underlying38 info38 Tryz.t38 Tryz.underlying44 info44 Tryz.t44 Tryz.underlying45 info45 Tryz.t45 Tryz.underlying80 info80 Tryz.t80 Tryz.underlying47 info47 Tryz.t47 Tryz.underlying48 info48 Tryz.t48 Tryz.underlying53 info53 Tryz.t53 Tryz.underlying54 info54 Tryz.t54 Tryz.underlying55 info55 Tryz.t55 Tryz.underlying59 info59 Tryz.t59 Tryz.underlying60 info60 Tryz.t60 Tryz.underlying61 info61 Tryz.t61 Tryz.underlying62 info62 Tryz.t62 Tryz.underlying40 info40 Tryz.t40 Tryz.underlying66 info66 Tryz.t66 Tryz.underlying67 info67 Tryz.t67 Tryz.underlying68 info68 Tryz.t68 Tryz.underlying69 info69 Tryz.t69 Tryz.underlying102 info102 Tryz.t102 Tryz.underlying103 info103 Tryz.t103 Tryz.underlying98 info98 Tryz.t98 Tryz.underlying137 info137 Tryz.t137 Tryz.underlying127 info127 Tryz.t127
end Go.Ab
namespace Go.Ab
open Go.Proofs
def Pk.val (x : Pk) : Value := .agg ⟨x.cells⟩
structure LV where
 lp : Int
 lb : Int
 room : Int
 L : List Pk
structure LAt (σ : St) (l r : Nat) (V : LV) : Prop where
 core : ∃ (R : List Pk) (f : Nat), σ.get l = some (.cells [.int .i64 V.lp, .int .i64 V.lb, .int .i64 V.room, .slice (some ⟨r, 0, some 0⟩) R.length R.length, .int .i64 f, .int .i64 V.L.length, .bool true] false) ∧ σ.get r = some (.cells (cellsP R) false) ∧ Ring R f V.L ∧ R.length < 1000000
 ne : l ≠ r
 lt : l < σ.next ∧ r < σ.next
theorem LAt.keep {σ σ' : St} {l r : Nat} {V : LV} (h : LAt σ l r V) (hn : σ.next ≤ σ'.next) (hl : σ'.get l = σ.get l) (hr : σ'.get r = σ.get r) : LAt σ' l r V := by
 obtain ⟨R, f, a, b, c⟩ := h.core
 have := h.lt
 exact ⟨⟨R, f, hl.trans a, hr.trans b, c⟩, h.ne, by omega⟩
theorem within98_call (n a b : Int) (σ : St) : DCall Tryz.prog 23 [.int .i64 n, .int .i64 a, .int .i64 b] σ (.ret (.bool (decide (a ≤ n) && decide (n ≤ b)))) σ [] := by
 refine pure_call (enter (p := q8) Tryz.func23 rfl stat23 ?_) rfl
 by_cases h : a ≤ n
 ·simp only [go_sem, seval, if_pos rfl, opLen, Tryz.f23, h]
 ·simp only [go_sem, seval, if_pos rfl, opLen, undef, Tryz.f23, h]
theorem lnone_call {σ : St} {l : Nat} {c0 c1 c2 c3 c4 c5 : Value} (h : σ.get l = some (.cells [c0, c1, c2, c3, c4, c5, .bool true] false)) : DCall Tryz.prog 44 [.pointer (some ⟨l, 0, none⟩)] σ (.ret (.bool false)) σ [] := by
 refine pure_call (enter (p := q8) Tryz.func44 rfl stat44 ?_) rfl
 simp only [go_sem, seval, if_pos rfl, opLen, Tryz.f44, h]
theorem at_call {σ : St} {l r n f k : Nat} {c0 c1 c2 c5 c6 : Value} (h : σ.get l = some (.cells [c0, c1, c2, .slice (some ⟨r, 0, some 0⟩) n n, .int .i64 f, c5, c6] false)) (hl : l < σ.next) (hn : 0 < n ∧ n < 1000000) (hf : f < n) (hk : k < 1000000) :
  DCall Tryz.prog 49 [.pointer (some ⟨l, 0, none⟩), .int .i64 k] σ (.ret (.int .i64 ((f + k) % n : Nat))) σ [] := by
 have w1 : IntKind.i64.wrap ((f : Int) + (k : Int)) = ((f + k : Nat) : Int) := by
  have : (f : Int) + (k : Int) = ((f + k : Nat) : Int) := by omega
  rw [this]; exact wrapIN (by omega)
 have e1 : ¬ (n : Int) = 0 := by omega
 have e2 : ((f + k : Nat) : Int).tmod (n : Int) = (((f + k) % n : Nat) : Int) := rfl
 have e3 : (f + k) % n < n := Nat.mod_lt _ hn.1
 have w2 : IntKind.i64.wrap (((f + k) % n : Nat) : Int) = (((f + k) % n : Nat) : Int) := wrapIN (by omega)
 refine pure_call (enter (p := q8) Tryz.func49 rfl stat49 ?_) rfl
 simp only [go_sem, seval, if_pos rfl, opLen, Tryz.f49, h, hl, w1, e1, e2, w2]
end Go.Ab
namespace Go.Ab
open Go.Proofs
def PkS (lo : Nat) (σ : St) (v : Value) (L : List Pk) : Prop := (v = .slice none 0 0 ∧ L = []) ∨ ∃ a, v = .slice (some ⟨a, 0, some 5⟩) L.length L.length ∧ σ.get a = some (.cells (cellsP L) false) ∧ lo ≤ a ∧ a < σ.next
theorem PkS.keep {lo : Nat} {σ σ' : St} {v : Value} {L : List Pk} (h : PkS lo σ v L) (hn : σ.next ≤ σ'.next) (hg : ∀ a, lo ≤ a → a < σ.next → σ'.get a = σ.get a) : PkS lo σ' v L := by
 rcases h with h | ⟨a, h1, h2, h3, h4⟩
 ·exact .inl h
 ·exact .inr ⟨a, h1, (hg a h3 h4).trans h2, h3, by omega⟩
theorem und168 : (cP Tryz.prog).T.und 40 = some (.slice 34) := (cx_und 40).trans Tryz.underlying40
theorem inf54 : (cP Tryz.prog).T.info 34 = some Tryz.t34 := (cx_info 34).trans info34
theorem pk_first {σ : St} {b : Nat} {x : Pk} (hg : σ.get b = some (.cells x.cells false)) :
  opAppend (cP Tryz.prog).T σ 40 40 (.slice none 0 0) (.slice (some ⟨b, 0, some 0⟩) 1 1) = some (.new (.cells x.cells false) (.slice (some ⟨σ.next, 0, some 5⟩) 1 1) [b]) := by
 simp only [Pk.cells] at hg ⊢
 simp only [opAppend, und168, inf54, srcLen, Tryz.t34, srcCells, hg]
 simp [isSeqD, oneCells, plain, plainL, vcells]
theorem pk_more {σ : St} {a b : Nat} {L : List Pk} {x : Pk} (ha : σ.get a = some (.cells (cellsP L) false)) (hg : σ.get b = some (.cells x.cells false)) (sm : L.length ≤ 1000000) :
  opAppend (cP Tryz.prog).T σ 40 40 (.slice (some ⟨a, 0, some 5⟩) L.length L.length) (.slice (some ⟨b, 0, some 0⟩) 1 1) =
   some (.eff (.slice (some ⟨σ.next, 0, some 5⟩) (L.length + 1) (L.length + 1)) ((σ.new (.cells (cellsP (L ++ [x])) false)).put a none) [a]) := by
 have l3 : ¬ 4294967296 ≤ L.length := by omega
 have tk : (cellsP L).take (L.length * 3) = cellsP L := List.take_of_length_le (by rw [cellsP_length]; omega)
 have ap : cellsP (L ++ [x]) = cellsP L ++ x.cells := by rw [cellsP_append]; simp [cellsP]
 rw [ap]
 simp only [Pk.cells] at hg ⊢
 simp only [opAppend, und168, inf54, srcLen, Tryz.t34, srcCells, hg, ha]
 simp [isSeqD, oneCells, plain, plainL, vcells, l3, tk, cellsP_length]
 omega
noncomputable def allB : Code := loopOf (Tryz.f48.body.getD .skip)
structure FA (ts : List Value) (l c i : Nat) : Prop where
 size : ts.length = 31
 t0 : lget ts 0 = .pointer (some ⟨l, 0, none⟩)
 t3 : lget ts 3 = .pointer (some ⟨c, 0, none⟩)
 t4 : lget ts 4 = .int .i64 i
def IA (l r c : Nat) (V : LV) (m : Nat) (fr : Fr) (σ : St) : Prop :=
 ∃ ts v, ∃ i : Nat, fr = ⟨ts, []⟩ ∧ FA ts l c i ∧ m + i = V.L.length ∧ LAt σ l r V ∧ c < σ.next ∧ σ.get c = some (.cells [v] false) ∧ PkS (c + 1) σ v (V.L.take i)
def EA (c : Nat) (V : LV) (x : AX) (fr : Fr) (σ : St) : Prop :=
 x = .exit 0 ∧ ∃ ts v, fr = ⟨ts, []⟩ ∧ ts.length = 31 ∧ lget ts 3 = .pointer (some ⟨c, 0, none⟩) ∧ c < σ.next ∧ σ.get c = some (.cells [v] false) ∧ PkS (c + 1) σ v V.L
set_option maxHeartbeats 1600000 in
set_option maxRecDepth 20000 in
theorem all_loop {l r c : Nat} {V : LV} (hlc : l < c) (hrc : r < c) : ∀ m fr σ, IA l r c V m fr σ → loopX Tryz.prog false allB fr σ (endL (EA c V) fun x => c ≤ x) := by
 refine loop_ind q8 48 (by kernel_rfl) _ _ _ ?_
 rintro m fr σ ⟨ts, v, i, rfl, F, hmi, H, hc, gc, hv⟩
 have e0 := F.t0
 have e3 := F.t3
 have e4 := F.t4
 have el := F.size
 obtain ⟨R, f, gl, gr, hR, hRs⟩ := H.core
 have hl := H.lt.1
 have hr := H.lt.2
 have n1 : ¬ c = l := by omega
 have n2 : ¬ c = r := by omega
 have n3 : ¬ l = c := by omega
 have n4 : ¬ r = c := by omega
 by_cases hi : i < V.L.length
 ·have c0 : (i : Int) < (V.L.length : Int) := by omega
  have hx : V.L[i]? = some V.L[i] := List.getElem?_eq_getElem hi
  generalize V.L[i] = x at hx
  have hidx := hR.at' i x hx
  have hlt : (f + i) % R.length < R.length := Nat.mod_lt _ (by have := hR.lt; omega)
  have hle := hR.le
  have w1 : IntKind.i64.wrap ((i : Int) + 1) = ((i + 1 : Nat) : Int) := by
   have : (i : Int) + 1 = ((i + 1 : Nat) : Int) := by omega
   rw [this]; exact wrapIN (by omega)
  have tk : V.L.take (i + 1) = V.L.take i ++ [x] := by rw [List.take_add_one, hx]; rfl
  have hk : (f + i) % R.length = (f + i) % R.length := rfl
  obtain ⟨idx, hidx'⟩ : ∃ idx, idx = (f + i) % R.length := ⟨_, rfl⟩
  rw [← hidx'] at hidx hlt
  have c1 : (0 : Int) ≤ (idx : Int) := by omega
  have c2 : (idx : Int) < (R.length : Int) := by omega
  have ex := cellsP_at' hidx
  have lx : idx * 3 + 3 ≤ (cellsP R).length := by rw [cellsP_length]; omega
  simp only [Pk.cells] at ex
  rcases hv with ⟨rfl, hnil⟩ | ⟨a, rfl, ga, ha1, ha2⟩
  ·have hap := pk_first (σ := σ.new (.cells [.int .i64 x.id, .int .i64 x.flow, .int .i64 x.size] false)) (b := σ.next) (x := x) (by rw [St.get_new, if_pos rfl]; rfl)
   simp only [go_sem, seval, if_pos rfl, opLen, Pk.cells] at hap
   simp only [go_sem, seval, if_pos rfl, opLen, undef, allB, loopOf, Tryz.f48, Option.getD, e0, e3, e4, el]
   refine .of (lnone_call gl) ?_
   simp only [go_sem, seval, if_pos rfl, opLen, e0, e3, e4, el, gl, gc, hl, hc, c0, n1, n2, n3, n4]
   refine .of (at_call gl hl (by omega) hR.lt (by omega)) ?_
   simp only [go_sem, seval, if_pos rfl, opLen, zerosN, ← hidx', Int.toNat_natCast, e0, e3, e4, el, gl, gr, gc, hl, hr, hc, c0, c1, c2, ex, lx, hap, w1, n1, n2, n3, n4]
   have tk1 : V.L.take (i + 1) = [x] := by rw [tk, hnil]; rfl
   refine ⟨m - 1, by omega, _, .slice (some ⟨σ.next + 1, 0, some 5⟩) 1 1, i + 1, rfl, ⟨by simp only [List.length_set, el], by simp only [go_sem, seval, if_pos rfl, opLen, el, e0], by simp only [go_sem, seval, if_pos rfl, opLen, el, e3], by simp only [go_sem, seval, if_pos rfl, opLen, el]⟩, by omega, H.keep (by simp only [go_sem, seval, if_pos rfl, opLen, St.next_put] <;> omega) (by simp only [go_sem, seval, if_pos rfl, opLen, hl, n1]) (by simp only [go_sem, seval, if_pos rfl, opLen, hr, n2]), by simp only [go_sem, seval, if_pos rfl, opLen, St.next_put] <;> omega, by simp only [go_sem, seval, if_pos rfl, opLen], .inr ⟨σ.next + 1, ?_, ?_, by omega, by simp only [go_sem, seval, if_pos rfl, opLen, St.next_put] <;> omega⟩⟩
   ·rw [tk1]; rfl
   ·rw [tk1]; simp only [go_sem, seval, if_pos rfl, opLen, hc, cellsP, Pk.cells]
  ·have hap := pk_more (σ := σ.new (.cells [.int .i64 x.id, .int .i64 x.flow, .int .i64 x.size] false)) (b := σ.next) (x := x) (a := a) (L := V.L.take i) (by rw [St.get_new, if_neg (by omega)]; exact ga) (by rw [St.get_new, if_pos rfl]; rfl) (by rw [List.length_take]; omega)
   have m1 : ¬ a = l := by omega
   have m2 : ¬ a = r := by omega
   have m3 : ¬ a = c := by omega
   have m4 : ¬ c = a := by omega
   simp only [go_sem, seval, if_pos rfl, opLen] at hap
   simp only [go_sem, seval, if_pos rfl, opLen, undef, allB, loopOf, Tryz.f48, Option.getD, e0, e3, e4, el]
   refine .of (lnone_call gl) ?_
   simp only [go_sem, seval, if_pos rfl, opLen, e0, e3, e4, el, gl, gc, hl, hc, c0, n1, n2, n3, n4]
   refine .of (at_call gl hl (by omega) hR.lt (by omega)) ?_
   simp only [go_sem, seval, if_pos rfl, opLen, zerosN, ← hidx', Int.toNat_natCast, e0, e3, e4, el, gl, gr, gc, ga, ha2, hl, hr, hc, c0, c1, c2, ex, lx, hap, w1, n1, n2, n3, n4, m1, m2, m3, m4]
   refine ⟨?_, m - 1, by omega, _, .slice (some ⟨σ.next + 1, 0, some 5⟩) ((V.L.take i).length + 1) ((V.L.take i).length + 1), i + 1, rfl, ⟨by simp only [List.length_set, el], by simp only [go_sem, seval, if_pos rfl, opLen, el, e0], by simp only [go_sem, seval, if_pos rfl, opLen, el, e3], by simp only [go_sem, seval, if_pos rfl, opLen, el]⟩, by omega, H.keep (by simp only [go_sem, seval, if_pos rfl, opLen, St.next_put] <;> omega) (by simp only [go_sem, seval, if_pos rfl, opLen, hl, n1, m1]) (by simp only [go_sem, seval, if_pos rfl, opLen, hr, n2, m2]), by simp only [go_sem, seval, if_pos rfl, opLen, St.next_put] <;> omega, by simp only [go_sem, seval, if_pos rfl, opLen], .inr ⟨σ.next + 1, ?_, ?_, by omega, by simp only [go_sem, seval, if_pos rfl, opLen, St.next_put] <;> omega⟩⟩
   ·omega
   ·rw [tk, List.length_append]; rfl
   ·rw [tk]; simp only [go_sem, seval, if_pos rfl, opLen, hc, ha2]
 ·have c0 : ¬ (i : Int) < (V.L.length : Int) := by omega
  obtain rfl : i = V.L.length := by omega
  simp only [go_sem, seval, if_pos rfl, opLen, undef, allB, loopOf, Tryz.f48, Option.getD, e0, e3, e4, el]
  refine .of (lnone_call gl) ?_
  simp only [go_sem, seval, if_pos rfl, opLen, e0, e3, e4, el, gl, gc, hl, hc, c0]
  rw [List.take_length] at hv
  exact ⟨rfl, _, v, rfl, by simp only [List.length_set, el], by simp only [go_sem, seval, if_pos rfl, opLen, el, e3], hc, gc, hv⟩
end Go.Ab
namespace Go.Ab
open Go.Proofs
theorem all_call {σ : St} {l r : Nat} {V : LV} (H : LAt σ l r V) : callX Tryz.prog 48 [.pointer (some ⟨l, 0, none⟩)] σ fun e σ' lg => e = .ret (.func (.func 75) ⟨[]⟩ ⟨[.pointer (some ⟨σ.next, 0, none⟩)]⟩) ∧
  ((∀ z ∈ lg, σ.next ≤ z) ∧ σ.next < σ'.next ∧ ∃ v, σ'.get σ.next = some (.cells [v] false) ∧ PkS (σ.next + 1) σ' v V.L) := by
 have hl := H.lt.1
 have hr := H.lt.2
 refine enter (p := q8) Tryz.func48 rfl stat48 ?_
 simp only [go_sem, seval, if_pos rfl, opLen, Tryz.f48]
 refine loop_then (all_loop (l := l) (r := r) (c := σ.next) (V := V) hl hr V.L.length _ _ ⟨_, .slice none 0 0, 0, rfl, ⟨rfl, rfl, rfl, rfl⟩, rfl, H.keep (by simp only [go_sem, seval, if_pos rfl, opLen]) (by simp only [go_sem, seval, if_pos rfl, opLen, hl]) (by simp only [go_sem, seval, if_pos rfl, opLen, hr]), by simp only [go_sem, seval, if_pos rfl, opLen], by simp only [go_sem, seval, if_pos rfl, opLen], .inl ⟨rfl, rfl⟩⟩) ?_
 intro x fr' σ' lg hlg hB h
 obtain ⟨rfl, ts, v, rfl, el, e3, hc, gc, hv⟩ := h
 simp only [go_sem, seval, if_pos rfl, opLen, Tryz.f48, e3, el]
 exact ⟨fun z hz => hB z hz, hc, v, gc, hv⟩
structure Yields (y : Nat) (B : Nat → Prop) (L : List Pk) (J : List Pk → St → Prop) : Prop where
 round : ∀ done x rest σ, L = done ++ x :: rest → J done σ → roundX Tryz.prog y [x.val] σ fun e σ' lg => e = .ret (.bool true) ∧ ((∀ z ∈ lg, B z) ∧ J (done ++ [x]) σ')
 keep : ∀ done σ σ', J done σ → σ.next ≤ σ'.next → (∀ z, z < σ.next → σ'.get z = σ.get z) → J done σ'
structure FY (ts : List Value) (y : Nat) (v : Value) (n i : Nat) : Prop where
 size : ts.length = 16
 t0 : lget ts 0 = .func (.yield y) #[] #[]
 t5 : lget ts 5 = v
 t6 : lget ts 6 = .int .i64 n
 t7 : lget ts 7 = .int .i64 i
def IY (y : Nat) (v : Value) (L : List Pk) (J : List Pk → St → Prop) (m : Nat) (fr : Fr) (σ : St) : Prop :=
 ∃ ts, ∃ i : Nat, fr = ⟨ts, []⟩ ∧ FY ts y v L.length i ∧ m + i = L.length ∧ J (L.take i) σ
def EY (L : List Pk) (J : List Pk → St → Prop) (x : AX) (fr : Fr) (σ : St) : Prop := x = .exit 0 ∧ fr.ds = [] ∧ J L σ
set_option maxRecDepth 20000 in
theorem seq_loop {y n0 lo : Nat} {v : Value} {L : List Pk} {B : Nat → Prop} {J : List Pk → St → Prop} (hY : Yields y B L J) (hB : ∀ z, n0 ≤ z → B z) (hv : ∀ done σ, J done σ → PkS lo σ v L ∧ n0 ≤ σ.next) (hL : L.length < 1000000) :
  ∀ m fr σ, IY y v L J m fr σ → loopX Tryz.prog false (loopOf (Tryz.f75.body.getD .skip)) fr σ (endL (EY L J) B) := by
 refine loop_ind q8 75 (by kernel_rfl) _ _ _ ?_
 rintro m fr σ ⟨ts, i, rfl, F, hmi, hJ⟩
 have e0 := F.t0
 have e5 := F.t5
 have e6 := F.t6
 have e7 := F.t7
 have el := F.size
 by_cases hi : i < L.length
 ·have c0 : (i : Int) < (L.length : Int) := by omega
  have hx : L[i]? = some L[i] := List.getElem?_eq_getElem hi
  have hsp : L = L.take i ++ L[i] :: L.drop (i + 1) := by simp
  have tk : L.take (i + 1) = L.take i ++ [L[i]] := by rw [List.take_add_one, hx]; rfl
  generalize L[i] = x at hx hsp tk
  obtain ⟨hS, hn0⟩ := hv _ _ hJ
  rcases hS with ⟨_, rfl⟩ | ⟨a, rfl, ga, ha1, ha2⟩
  ·simp at hi
  have c1 : (0 : Int) ≤ (i : Int) := by omega
  have ex := cellsP_at' hx
  have lx : i * 3 + 3 ≤ (cellsP L).length := by rw [cellsP_length]; omega
  simp only [Pk.cells] at ex
  have na : ¬ σ.next = a := by omega
  have w1 : IntKind.i64.wrap ((i : Int) + 1) = ((i + 1 : Nat) : Int) := by
   have : (i : Int) + 1 = ((i + 1 : Nat) : Int) := by omega
   rw [this]; exact wrapIN (by omega)
  simp only [go_sem, seval, if_pos rfl, opLen, undef, loopOf, Tryz.f75, Option.getD, Int.toNat_natCast, e0, e5, e6, e7, el, ga, ha2, na, c0, c1, ex, lx]
  refine roundX.hid (hY.round _ x _ _ hsp (hY.keep _ σ _ hJ ?_ ?_)) ?_
  ·simp only [go_sem, seval, if_pos rfl, opLen, St.next_put] <;> omega
  ·intro z hz
   simp only [go_sem, seval, if_pos rfl, opLen, hz]
  intro σ1 lg1 hlg1 h1
  obtain ⟨hB1, hJ1⟩ := h1
  rw [← tk] at hJ1
  have hBn := hB σ.next hn0
  refine ⟨?_⟩
  simp only [go_sem, seval, if_pos rfl, opLen, undef, e0, e5, e6, e7, el, w1]
  exact ⟨⟨hBn, hB1⟩, m - 1, by omega, _, i + 1, rfl, ⟨by simp only [List.length_set, el], by simp only [go_sem, seval, if_pos rfl, opLen, el, e0], by simp only [go_sem, seval, if_pos rfl, opLen, el, e5], by simp only [go_sem, seval, if_pos rfl, opLen, el, e6], by simp only [go_sem, seval, if_pos rfl, opLen, el]⟩, by omega, hJ1⟩
 ·have c0 : ¬ (i : Int) < (L.length : Int) := by omega
  obtain rfl : i = L.length := by omega
  rw [List.take_length] at hJ
  simp only [go_sem, seval, if_pos rfl, opLen, undef, loopOf, Tryz.f75, Option.getD, e0, e5, e6, e7, el, c0]
  exact ⟨rfl, rfl, hJ⟩
theorem seq_call {y n0 lo c : Nat} {v : Value} {L : List Pk} {B : Nat → Prop} {J : List Pk → St → Prop} (hY : Yields y B L J) (hB : ∀ z, n0 ≤ z → B z) (hv : ∀ done σ, J done σ → PkS lo σ v L ∧ n0 ≤ σ.next) (hL : L.length < 1000000) {σ : St} (gc : σ.get c = some (.cells [v] false)) (h0 : J [] σ) :
  callX Tryz.prog 75 [.func (.yield y) #[] #[], .pointer (some ⟨c, 0, none⟩)] σ fun e σ' lg => e = .ret (.tuple ⟨[]⟩) ∧ ((∀ z ∈ lg, B z) ∧ J L σ') := by
 have hv0 := (hv _ _ h0).1
 have hlen : v = .slice none 0 0 ∧ L.length = 0 ∨ ∃ a, v = .slice (some ⟨a, 0, some 5⟩) L.length L.length := by
  rcases hv0 with ⟨h1, h2⟩ | ⟨a, h1, _⟩
  ·exact .inl ⟨h1, by rw [h2]; rfl⟩
  ·exact .inr ⟨a, h1⟩
 refine enter (p := q8) Tryz.func75 rfl stat75 ?_
 have key : ∀ n : Nat, n = L.length → opLen (cP Tryz.prog).T σ 40 v = some (.val (.int .i64 n) []) := by
  rintro n rfl
  rcases hlen with ⟨rfl, h⟩ | ⟨a, rfl⟩
  ·rw [h]; simp only [opLen, und168]; rfl
  ·simp only [opLen, und168]
 have hlen' := key _ rfl
 simp only [go_sem, seval, if_pos rfl, undef, Tryz.f75, gc]
 refine enscope q8 75 (by kernel_rfl) ?_
 simp only [go_sem, seval, if_pos rfl, undef, Tryz.f75, gc, hlen']
 refine loop_then (seq_loop hY hB hv hL L.length _ _ ⟨_, 0, rfl, ⟨rfl, rfl, rfl, rfl, rfl⟩, rfl, h0⟩) ?_
 intro x fr' σ' lg hlg hB' h
 obtain ⟨rfl, hds, hJ⟩ := h
 obtain ⟨ts', ds'⟩ := fr'
 simp only at hds
 subst hds
 simp only [go_sem, seval, if_pos rfl, opLen, Tryz.f75]
 exact ⟨hB', hJ⟩
end Go.Ab
namespace Go.Ab
open Go.Proofs
def findR : Code → Option (Array Tmp × Code × Code)
 | .rangeFunc _ ps a b => some (ps, a, b)
 | .block _ c => findR c
 | .scope c => findR c
 | .loop c => findR c
 | .seq a b => match findR a with | some x => some x | none => findR b
 | .cond _ a b => match findR a with | some x => some x | none => findR b
 | _ => none
noncomputable def sumA : Code := match findR (Tryz.f72.body.getD .skip) with | some x => x.2.1 | none => .skip
noncomputable def sumD : Code := match findR (Tryz.f72.body.getD .skip) with | some x => x.2.2 | none => .skip
theorem size131_call (x : Pk) (σ : St) : DCall Tryz.prog 73 [.agg ⟨[.int .i64 x.id, .int .i64 x.flow, .int .i64 x.size]⟩] σ (.ret (.int .i64 x.size)) σ [] := by
 refine pure_call (enter (p := q8) Tryz.func73 rfl stat73 ?_) rfl
 simp only [go_sem, seval, if_pos rfl, opLen, Tryz.f73]
structure JS (σ0 : St) (ts : List Value) (done : List Pk) (σ : St) : Prop where
 nx : σ0.next + 4 ≤ σ.next
 old : ∀ z, z < σ0.next → σ.get z = σ0.get z
 g3 : σ.get σ0.next = some (.cells [.func (.func 73) ⟨[]⟩ ⟨[]⟩] false)
 g5 : σ.get (σ0.next + 1) = some (.cells [.int .i64 (sumP done)] false)
 gd : σ.get (σ0.next + 2) = some (.deferred false)
 gy : σ.get (σ0.next + 3) = some (loopOb .ready none ts #[8] sumA sumD (σ0.next + 2))
theorem sumP_bound : ∀ (l : List Pk), (∀ x ∈ l, 0 ≤ x.size ∧ x.size ≤ 2000) → 0 ≤ sumP l ∧ sumP l ≤ 2000 * l.length
 | [], _ => by simp [sumP]
 | x :: l, h => by
  have h1 := sumP_bound l fun y hy => h y (by simp [hy])
  have h2 := h x (by simp)
  simp only [sumP, List.length_cons]
  omega
set_option maxRecDepth 20000 in
theorem sum_yields {σ0 : St} {ts : List Value} {L : List Pk} (hts : ts.length = 15) (t3 : lget ts 3 = .pointer (some ⟨σ0.next, 0, none⟩)) (t5 : lget ts 5 = .pointer (some ⟨σ0.next + 1, 0, none⟩)) (hs : ∀ x ∈ L, 0 ≤ x.size ∧ x.size ≤ 2000) (hL : L.length < 1000000) :
  Yields (σ0.next + 3) (fun z => σ0.next ≤ z) L (JS σ0 ts) := by
 refine ⟨fun done x rest σ hsp H => ?_, fun done σ σ' H hn hg => ?_⟩
 ·have hx := hs x (by rw [hsp]; simp)
  have hdn : ∀ y ∈ done, 0 ≤ y.size ∧ y.size ≤ 2000 := fun y hy => hs y (by rw [hsp]; simp [hy])
  have hb := sumP_bound done hdn
  have hlen : done.length < 1000000 := by
   have := congrArg List.length hsp
   simp at this; omega
  have w1 : IntKind.i64.wrap (sumP done + x.size) = sumP done + x.size := wrapI (by omega) (by omega)
  have nx := H.nx
  have g3 := H.g3
  have g5 := H.g5
  have gy := H.gy
  have k3 : σ0.next < σ.next := by omega
  have k5 : σ0.next + 1 < σ.next := by omega
  have ky : σ0.next + 3 < σ.next := by omega
  have m1 : ¬ σ0.next + 3 = σ0.next := by omega
  have m2 : ¬ σ0.next + 3 = σ0.next + 1 := by omega
  have m3 : ¬ σ.next = σ0.next + 3 := by omega
  have m4 : ¬ σ0.next + 3 = σ.next := by omega
  refine roundX.enter (p := q8) (bt := btAll 72) cP_ok mixed gy rfl (by kernel_rfl) (by kernel_rfl) ?_
  simp only [go_sem, seval, if_pos rfl, opLen, Pk.val, Pk.cells, sumA, findR, Tryz.f72, Option.getD, roundTs, hts]
  refine midRW.mk ?_ ?_
  ·simp only [go_sem, seval, if_pos rfl, opLen, ky, m3]
   exact gy
  simp only [go_sem, seval, if_pos rfl, opLen, sumD, findR, Tryz.f72, Option.getD, hts, t3, t5, g3, g5, k3, k5, ky, m1, m2, m3, m4, w1]
  refine .of (size131_call x _) ?_
  simp only [go_sem, seval, if_pos rfl, opLen, Option.getD, hts, t3, t5, g3, g5, k3, k5, ky, m1, m2, m3, m4, w1]
  have hsum : sumP (done ++ [x]) = sumP done + x.size := by rw [sumP_append]; simp [sumP]
  refine ⟨by simp only [go_sem, seval, if_pos rfl, opLen, St.next_put] <;> omega, fun z hz => ?_, ?_, ?_, ?_, ?_⟩
  ·have z1 : ¬ σ0.next + 3 = z := by omega
   have z2 : ¬ σ0.next + 1 = z := by omega
   have z3 : ¬ σ.next = z := by omega
   rw [St.get_set, if_neg z1, St.get_set, if_neg z2, St.get_set, if_neg z1, St.get_set, if_neg z3, St.get_new, if_neg z3]
   exact H.old z hz
  ·have z3 : ¬ σ.next = σ0.next := by omega
   rw [St.get_set, if_neg m1, St.get_set, if_neg (by omega), St.get_set, if_neg m1, St.get_set, if_neg z3, St.get_new, if_neg z3]
   exact g3
  ·rw [St.get_set, if_neg m2, St.get_set, if_pos rfl, hsum]
  ·have z3 : ¬ σ.next = σ0.next + 2 := by omega
   rw [St.get_set, if_neg (by omega), St.get_set, if_neg (by omega), St.get_set, if_neg (by omega), St.get_set, if_neg z3, St.get_new, if_neg z3]
   exact H.gd
  ·rw [St.get_set, if_pos rfl]
   rfl
 ·have nx := H.nx
  exact ⟨by omega, fun z hz => (hg z (by omega)).trans (H.old z hz), (hg _ (by omega)).trans H.g3, (hg _ (by omega)).trans H.g5, (hg _ (by omega)).trans H.gd, (hg _ (by omega)).trans H.gy⟩
def sumT (σ : St) (c : Nat) : List Value := [.func (.func 75) ⟨[]⟩ ⟨[.pointer (some ⟨c, 0, none⟩)]⟩, .func (.func 73) ⟨[]⟩ ⟨[]⟩, undef, .pointer (some ⟨σ.next, 0, none⟩), .int .i64 0, .pointer (some ⟨σ.next + 1, 0, none⟩), undef, .func (.func 75) ⟨[]⟩ ⟨[.pointer (some ⟨c, 0, none⟩)]⟩, undef, undef, undef, undef, undef, undef, undef]
theorem sum_call {σ : St} {c lo : Nat} {v : Value} {L : List Pk} (gc : σ.get c = some (.cells [v] false)) (hc : c < σ.next) (hv : PkS lo σ v L) (hs : ∀ x ∈ L, 0 ≤ x.size ∧ x.size ≤ 2000) (hL : L.length < 1000000) :
  DCall Tryz.prog 72 [.func (.func 75) ⟨[]⟩ ⟨[.pointer (some ⟨c, 0, none⟩)]⟩, .func (.func 73) ⟨[]⟩ ⟨[]⟩] σ (.ret (.int .i64 (sumP L))) σ [] := by
 refine pure_call (callX.enterD (p := q8) cP_ok mixed Tryz.func72 rfl stat72 ?_) rfl
 simp only [go_sem, seval, if_pos rfl, opLen, Tryz.f72]
 refine rangeX.of cP_ok (f := 75) (xs := []) (ys := [.pointer (some ⟨c, 0, none⟩)]) (by simp only [go_sem, seval, if_pos rfl, opLen]) body75 ?_
 have hY := sum_yields (σ0 := σ) (ts := sumT σ c) (L := L) rfl rfl rfl hs hL
 refine callX.hid (R := fun σ' lg => (∀ z ∈ lg, σ.next ≤ z) ∧ JS σ (sumT σ c) L σ') (seq_call (c := c) (v := v) (n0 := σ.next) (lo := lo) hY (fun z hz => hz) (fun done σ' H => ⟨?_, ?_⟩) hL ?_ ⟨?_, ?_, ?_, ?_, ?_, ?_⟩) ?_
 ·rcases hv with h | ⟨a, h1, h2, h3, h4⟩
  ·exact .inl h
  ·exact .inr ⟨a, h1, (H.old a h4).trans h2, h3, by have := H.nx; omega⟩
 ·have := H.nx; omega
 ·simp only [go_sem, seval, if_pos rfl, opLen, hc, gc]
 ·simp only [go_sem, seval, if_pos rfl, opLen, St.next_put] <;> omega
 ·intro z hz
  simp only [go_sem, seval, if_pos rfl, opLen, hz]
 ·simp only [go_sem, seval, if_pos rfl, opLen]
 ·simp only [go_sem, seval, if_pos rfl, opLen]; rfl
 ·simp only [go_sem, seval, if_pos rfl, opLen]
 ·simp only [go_sem, seval, if_pos rfl, opLen]; rfl
 intro σ1 lg1 hlg1 h1
 obtain ⟨hB, H⟩ := h1
 have nx := H.nx
 have g5 := H.g5
 have gd := H.gd
 have k5 : σ.next + 1 < σ1.next := by omega
 have m5 : ¬ σ.next + 3 = σ.next + 1 := by omega
 refine ⟨?_⟩
 refine ⟨.ready, none, .norm, H.gy, rfl, rfl, ?_⟩
 simp only [go_sem, seval, if_pos rfl, opLen, k5, g5, m5]
 have kd : ¬ σ.next + 3 = σ.next + 2 := by omega
 refine .collected (by simp only [go_sem, seval, if_pos rfl, opLen, kd, gd]) ?_
 refine .ret cP_ok (by simp only [go_sem, seval, if_pos rfl, opLen] <;> rfl) ?_
 simp only [go_sem, seval, if_pos rfl, opLen]
 intro z hz
 rcases hz with (hz | hz) | hz <;> first | exact hB z hz | omega
theorem bytes_call {σ : St} {l r : Nat} {V : LV} (H : LAt σ l r V) (hs : ∀ x ∈ V.L, 0 ≤ x.size ∧ x.size ≤ 2000) : DCall Tryz.prog 45 [.pointer (some ⟨l, 0, none⟩)] σ (.ret (.int .i64 (sumP V.L))) σ [] := by
 refine pure_call (enter (p := q8) Tryz.func45 rfl stat45 ?_) rfl
 simp only [go_sem, seval, if_pos rfl, opLen, Tryz.f45, body48, body72]
 refine callX.hid (all_call H) ?_
 intro σ1 lg1 hlg1 h1
 obtain ⟨hB, hn, v, gv, hv⟩ := h1
 have hL : V.L.length < 1000000 := by
  obtain ⟨R, f, _, _, hR, hRs⟩ := H.core
  have := hR.le; omega
 refine ⟨?_⟩
 simp only [go_sem, seval, if_pos rfl, opLen, Tryz.f45, body48, body72]
 refine .of (sum_call gv hn hv hs hL) ?_
 simp only [go_sem, seval, if_pos rfl, opLen, Tryz.f45, body48, body72]
 exact hB
end Go.Ab
namespace Go.Ab
open Go.Proofs
attribute [go_sem] Tryz.underlying137 info137 Tryz.t137 Tryz.underlying102 info102 Tryz.t102 Tryz.underlying103 info103 Tryz.t103
def ItS (lo : Nat) (σ : St) (v : Value) (L : List Pk) : Prop := (v = .slice none 0 0 ∧ L = []) ∨ ∃ a, v = .slice (some ⟨a, 0, some 5⟩) L.length L.length ∧ σ.get a = some (.cells (cellsP L) false) ∧ lo ≤ a ∧ a < σ.next
def ItV (lo : Nat) (σ : St) (v : Value) (L : List Pk) : Prop := (v = .slice none 0 0 ∧ L = []) ∨ ∃ a s cap G, v = .slice (some ⟨a, 0, some s⟩) L.length cap ∧ σ.get a = some (.cells (cellsP L ++ G) false) ∧ lo ≤ a ∧ a < σ.next
theorem ItS.keep {lo : Nat} {σ σ' : St} {v : Value} {L : List Pk} (h : ItS lo σ v L) (hn : σ.next ≤ σ'.next) (hg : ∀ a, lo ≤ a → a < σ.next → σ'.get a = σ.get a) : ItS lo σ' v L := by
 rcases h with h | ⟨a, h1, h2, h3, h4⟩
 ·exact .inl h
 ·exact .inr ⟨a, h1, (hg a h3 h4).trans h2, h3, by omega⟩
theorem und37w : (cP Tryz.prog).T.und 40 = some (.slice 34) := (cx_und 40).trans Tryz.underlying40
theorem inf31w : (cP Tryz.prog).T.info 34 = some Tryz.t34 := (cx_info 34).trans info34
theorem cellsP_app : ∀ A B : List Pk, cellsP (A ++ B) = cellsP A ++ cellsP B
 | [], B => rfl
 | x :: A, B => by simp [cellsP, cellsP_app A B]
theorem it_first {σ : St} {b : Nat} {x : Pk} (hg : σ.get b = some (.cells x.cells false)) :
  opAppend (cP Tryz.prog).T σ 40 40 (.slice none 0 0) (.slice (some ⟨b, 0, some 0⟩) 1 1) = some (.new (.cells x.cells false) (.slice (some ⟨σ.next, 0, some 5⟩) 1 1) [b]) := by
 simp only [Pk.cells] at hg ⊢
 simp only [opAppend, und37w, inf31w, srcLen, Tryz.t34, srcCells, hg]
 simp [isSeqD, oneCells, plain, plainL, vcells]
theorem it_more {σ : St} {a b : Nat} {L : List Pk} {x : Pk} (ha : σ.get a = some (.cells (cellsP L) false)) (hg : σ.get b = some (.cells x.cells false)) (sm : L.length ≤ 1000000) :
  opAppend (cP Tryz.prog).T σ 40 40 (.slice (some ⟨a, 0, some 5⟩) L.length L.length) (.slice (some ⟨b, 0, some 0⟩) 1 1) =
   some (.eff (.slice (some ⟨σ.next, 0, some 5⟩) (L.length + 1) (L.length + 1)) ((σ.new (.cells (cellsP (L ++ [x])) false)).put a none) [a]) := by
 have l3 : ¬ 4294967296 ≤ L.length := by omega
 have tk : (cellsP L).take (L.length * 3) = cellsP L := List.take_of_length_le (by rw [cellsP_length]; omega)
 have ap : cellsP (L ++ [x]) = cellsP L ++ x.cells := by rw [cellsP_app]; simp [cellsP]
 rw [ap]
 simp only [Pk.cells] at hg ⊢
 simp only [opAppend, und37w, inf31w, srcLen, Tryz.t34, srcCells, hg, ha]
 simp [isSeqD, oneCells, plain, plainL, vcells, l3, tk, cellsP_length]
 omega
structure YieldsI (y : Nat) (B : Nat → Prop) (L : List Pk) (J : List Pk → St → Prop) : Prop where
 round : ∀ done x rest σ, L = done ++ x :: rest → J done σ → roundX Tryz.prog y [(.agg ⟨x.cells⟩)] σ fun e σ' lg => e = .ret (.bool true) ∧ ((∀ z ∈ lg, B z) ∧ J (done ++ [x]) σ')
 keep : ∀ done σ σ', J done σ → σ.next ≤ σ'.next → (∀ z, z < σ.next → σ'.get z = σ.get z) → J done σ'
structure FYI (ts : List Value) (y : Nat) (v : Value) (n i : Nat) : Prop where
 size : ts.length = 16
 t0 : lget ts 0 = .func (.yield y) #[] #[]
 t5 : lget ts 5 = v
 t6 : lget ts 6 = .int .i64 n
 t7 : lget ts 7 = .int .i64 i
def IYI (y : Nat) (v : Value) (L : List Pk) (J : List Pk → St → Prop) (m : Nat) (fr : Fr) (σ : St) : Prop :=
 ∃ ts, ∃ i : Nat, fr = ⟨ts, []⟩ ∧ FYI ts y v L.length i ∧ m + i = L.length ∧ J (L.take i) σ
def EYI (L : List Pk) (J : List Pk → St → Prop) (x : AX) (fr : Fr) (σ : St) : Prop := x = .exit 0 ∧ fr.ds = [] ∧ J L σ
set_option maxRecDepth 20000 in
theorem seqI_loop {y n0 lo : Nat} {v : Value} {L : List Pk} {B : Nat → Prop} {J : List Pk → St → Prop} (hY : YieldsI y B L J) (hB : ∀ z, n0 ≤ z → B z) (hv : ∀ done σ, J done σ → ItV lo σ v L ∧ n0 ≤ σ.next) (hL : L.length < 1000000) :
  ∀ m fr σ, IYI y v L J m fr σ → loopX Tryz.prog false (loopOf (Tryz.f92.body.getD .skip)) fr σ (endL (EYI L J) B) := by
 refine loop_ind q0 92 (by kernel_rfl) _ _ _ ?_
 rintro m fr σ ⟨ts, i, rfl, F, hmi, hJ⟩
 have e0 := F.t0
 have e5 := F.t5
 have e6 := F.t6
 have e7 := F.t7
 have el := F.size
 by_cases hi : i < L.length
 ·have c0 : (i : Int) < (L.length : Int) := by omega
  have hx : L[i]? = some L[i] := List.getElem?_eq_getElem hi
  have hsp : L = L.take i ++ L[i] :: L.drop (i + 1) := by simp
  have tk : L.take (i + 1) = L.take i ++ [L[i]] := by rw [List.take_add_one, hx]; rfl
  generalize L[i] = x at hx hsp tk
  obtain ⟨hS, hn0⟩ := hv _ _ hJ
  rcases hS with ⟨_, rfl⟩ | ⟨a, s, cap, G, rfl, ga, ha1, ha2⟩
  ·simp at hi
  have c1 : (0 : Int) ≤ (i : Int) := by omega
  have ex := cellsP_at (G := G) hx
  have lx : i * 3 + 3 ≤ (cellsP L ++ G).length := by rw [List.length_append, cellsP_length]; omega
  simp only [Pk.cells] at ex
  have na : ¬ σ.next = a := by omega
  have w1 : IntKind.i64.wrap ((i : Int) + 1) = ((i + 1 : Nat) : Int) := by
   have : (i : Int) + 1 = ((i + 1 : Nat) : Int) := by omega
   rw [this]; exact wrapIN (by omega)
  simp only [go_sem, seval, if_pos rfl, opLen, undef, loopOf, Tryz.f92, Option.getD, Int.toNat_natCast, e0, e5, e6, e7, el, ga, ha2, na, c0, c1, ex, lx]
  refine roundX.hid (hY.round _ x _ _ hsp (hY.keep _ σ _ hJ ?_ ?_)) ?_
  ·simp only [go_sem, seval, if_pos rfl, opLen, St.next_put] <;> omega
  ·intro z hz
   simp only [go_sem, seval, if_pos rfl, opLen, hz]
  intro σ1 lg1 hlg1 h1
  obtain ⟨hB1, hJ1⟩ := h1
  rw [← tk] at hJ1
  have hBn := hB σ.next hn0
  refine ⟨?_⟩
  simp only [go_sem, seval, if_pos rfl, opLen, undef, e0, e5, e6, e7, el, w1]
  exact ⟨⟨hBn, hB1⟩, m - 1, by omega, _, i + 1, rfl, ⟨by simp only [List.length_set, el], by simp only [go_sem, seval, if_pos rfl, opLen, el, e0], by simp only [go_sem, seval, if_pos rfl, opLen, el, e5], by simp only [go_sem, seval, if_pos rfl, opLen, el, e6], by simp only [go_sem, seval, if_pos rfl, opLen, el]⟩, by omega, hJ1⟩
 ·have c0 : ¬ (i : Int) < (L.length : Int) := by omega
  obtain rfl : i = L.length := by omega
  rw [List.take_length] at hJ
  simp only [go_sem, seval, if_pos rfl, opLen, undef, loopOf, Tryz.f92, Option.getD, e0, e5, e6, e7, el, c0]
  exact ⟨rfl, rfl, hJ⟩
set_option maxRecDepth 20000 in
theorem seqI_call {y n0 lo c : Nat} {v : Value} {L : List Pk} {B : Nat → Prop} {J : List Pk → St → Prop} (hY : YieldsI y B L J) (hB : ∀ z, n0 ≤ z → B z) (hv : ∀ done σ, J done σ → ItV lo σ v L ∧ n0 ≤ σ.next) (hL : L.length < 1000000) {σ : St} (gc : σ.get c = some (.cells [v] false)) (h0 : J [] σ) :
  callX Tryz.prog 92 [.func (.yield y) #[] #[], .pointer (some ⟨c, 0, none⟩)] σ fun e σ' lg => e = .ret (.tuple ⟨[]⟩) ∧ ((∀ z ∈ lg, B z) ∧ J L σ') := by
 have hv0 := (hv _ _ h0).1
 have hlen : v = .slice none 0 0 ∧ L.length = 0 ∨ ∃ a s cap, v = .slice (some ⟨a, 0, some s⟩) L.length cap := by
  rcases hv0 with ⟨h1, h2⟩ | ⟨a, s, cap, G, h1, _⟩
  ·exact .inl ⟨h1, by rw [h2]; rfl⟩
  ·exact .inr ⟨a, s, cap, h1⟩
 refine enter (p := q0) Tryz.func92 rfl stat92 ?_
 have key : ∀ n : Nat, n = L.length → opLen (cP Tryz.prog).T σ 40 v = some (.val (.int .i64 n) []) := by
  rintro n rfl
  rcases hlen with ⟨rfl, h⟩ | ⟨a, s, cap, rfl⟩
  ·rw [h]; simp only [opLen, und37w]; rfl
  ·simp only [opLen, und37w]
 have hlen' := key _ rfl
 simp only [go_sem, seval, if_pos rfl, callW, q0, undef, Tryz.f92, gc, hlen']
 refine loop_then (seqI_loop hY hB hv hL L.length _ _ ⟨_, 0, rfl, ⟨rfl, rfl, rfl, rfl, rfl⟩, rfl, h0⟩) ?_
 intro x fr' σ' lg hlg hB' h
 obtain ⟨rfl, hds, hJ⟩ := h
 obtain ⟨ts', ds'⟩ := fr'
 simp only at hds
 subst hds
 simp only [go_sem, seval, if_pos rfl, opLen, Tryz.f92]
 exact ⟨hB', hJ⟩
noncomputable def apIA : Code := match findR (Tryz.f74.body.getD .skip) with | some x => x.2.1 | none => .skip
noncomputable def apID : Code := match findR (Tryz.f74.body.getD .skip) with | some x => x.2.2 | none => .skip
structure JAI (σ0 : St) (ts : List Value) (done : List Pk) (σ : St) : Prop where
 nx : σ0.next + 3 ≤ σ.next
 old : ∀ z, z < σ0.next → σ.get z = σ0.get z
 g2 : ∃ w, σ.get σ0.next = some (.cells [w] false) ∧ ItS (σ0.next + 3) σ w done
 gd : σ.get (σ0.next + 1) = some (.deferred false)
 gy : σ.get (σ0.next + 2) = some (loopOb .ready none ts #[7] apIA apID (σ0.next + 1))
set_option maxHeartbeats 1600000 in
set_option maxRecDepth 20000 in
theorem apI_yields {σ0 : St} {ts : List Value} {L : List Pk} (hts : ts.length = 13) (t2 : lget ts 2 = .pointer (some ⟨σ0.next, 0, none⟩)) (hL : L.length < 1000000) :
  YieldsI (σ0.next + 2) (fun z => σ0.next ≤ z) L (JAI σ0 ts) := by
 refine ⟨fun done x rest σ hsp H => ?_, fun done σ σ' H hn hg => ?_⟩
 ·have hlen : done.length < 1000000 := by
   have := congrArg List.length hsp
   simp at this; omega
  have nx := H.nx
  have gy := H.gy
  obtain ⟨w, g2, hw⟩ := H.g2
  have k2 : σ0.next < σ.next := by omega
  have ky : σ0.next + 2 < σ.next := by omega
  have k2' : σ0.next < σ.next + 1 := by omega
  have m1 : ¬ σ0.next + 2 = σ0.next := by omega
  have m3 : ¬ σ.next = σ0.next + 2 := by omega
  have m4 : ¬ σ0.next + 2 = σ.next := by omega
  have m5 : ¬ σ0.next + 2 = σ.next + 1 := by omega
  refine roundX.enter (p := q0) (bt := btAll 74) cP_ok mixed gy rfl (by kernel_rfl) (by kernel_rfl) ?_
  simp only [go_sem, seval, if_pos rfl, opLen, Pk.cells, apIA, findR, Tryz.f74, Option.getD, roundTs, hts]
  refine midRW.mk ?_ ?_
  ·simp only [go_sem, seval, if_pos rfl, opLen, ky, m3]
   exact gy
  rcases hw with ⟨rfl, rfl⟩ | ⟨a, rfl, ga, ha1, ha2⟩
  ·have hap : ∀ σ : St, ∀ b, σ.get b = some (.cells x.cells false) → opAppend (cP Tryz.prog).T σ 40 40 (.slice none 0 0) (.slice (some ⟨b, 0, some 0⟩) 1 1) = some (.new (.cells x.cells false) (.slice (some ⟨σ.next, 0, some 5⟩) 1 1) [b]) := fun σ b h => it_first h
   simp only [Pk.cells] at hap
   simp only [go_sem, seval, if_pos rfl, opLen, zerosN, apID, findR, Tryz.f74, Option.getD, hts, t2, g2, k2, k2', ky, m1, m3, m4, m5, hap]
   refine ⟨by simp only [go_sem, seval, if_pos rfl, opLen, St.next_put] <;> omega, fun z hz => ?_, ⟨.slice (some ⟨σ.next + 2, 0, some 5⟩) 1 1, ?_, .inr ⟨σ.next + 2, rfl, ?_, by omega, by simp only [go_sem, seval, if_pos rfl, opLen, St.next_put] <;> omega⟩⟩, ?_, ?_⟩
   ·have z1 : ¬ σ0.next + 2 = z := by omega
    have z2 : ¬ σ0.next = z := by omega
    have z3 : z < σ.next := by omega
    simp only [go_sem, seval, if_pos rfl, opLen, z1, z2, z3]
    exact H.old z hz
   ·simp only [go_sem, seval, if_pos rfl, opLen, m1, k2]
   ·have z1 : ¬ σ0.next + 2 = σ.next + 2 := by omega
    have z2 : ¬ σ0.next = σ.next + 2 := by omega
    simp only [go_sem, seval, if_pos rfl, opLen, z1, z2, cellsP, Pk.cells]
   ·have z1 : ¬ σ0.next + 2 = σ0.next + 1 := by omega
    have z2 : ¬ σ0.next = σ0.next + 1 := by omega
    have z3 : σ0.next + 1 < σ.next := by omega
    simp only [go_sem, seval, if_pos rfl, opLen, z1, z2, z3]
    exact H.gd
   ·rw [St.get_set, if_pos rfl]
    rfl
  ·have hap : ∀ σ : St, ∀ b, σ.get a = some (.cells (cellsP done) false) → σ.get b = some (.cells x.cells false) → opAppend (cP Tryz.prog).T σ 40 40 (.slice (some ⟨a, 0, some 5⟩) done.length done.length) (.slice (some ⟨b, 0, some 0⟩) 1 1) =
     some (.eff (.slice (some ⟨σ.next, 0, some 5⟩) (done.length + 1) (done.length + 1)) ((σ.new (.cells (cellsP (done ++ [x])) false)).put a none) [a]) := fun σ b h1 h2 => it_more h1 h2 (by omega)
   simp only [Pk.cells] at hap
   have n1 : ¬ a = σ0.next := by omega
   have n2 : ¬ a = σ0.next + 2 := by omega
   have n3 : ¬ σ0.next + 2 = a := by omega
   simp only [go_sem, seval, if_pos rfl, opLen, zerosN, apID, findR, Tryz.f74, Option.getD, hts, t2, g2, ga, ha2, k2, k2', ky, m1, m3, m4, m5, n1, n2, n3, hap]
   have hdl : (done ++ [x]).length = done.length + 1 := by rw [List.length_append]; rfl
   refine ⟨by omega, ⟨by simp only [go_sem, seval, if_pos rfl, opLen, St.next_put] <;> omega, fun z hz => ?_, ⟨.slice (some ⟨σ.next + 2, 0, some 5⟩) (done ++ [x]).length (done ++ [x]).length, ?_, .inr ⟨σ.next + 2, rfl, ?_, by omega, by simp only [go_sem, seval, if_pos rfl, opLen, St.next_put] <;> omega⟩⟩, ?_, ?_⟩⟩
   ·have z1 : ¬ σ0.next + 2 = z := by omega
    have z2 : ¬ σ0.next = z := by omega
    have z3 : z < σ.next := by omega
    have z4 : ¬ a = z := by omega
    simp only [go_sem, seval, if_pos rfl, opLen, z1, z2, z3, z4]
    exact H.old z hz
   ·rw [hdl]; simp only [go_sem, seval, if_pos rfl, opLen, m1, k2]
   ·have z1 : ¬ σ0.next + 2 = σ.next + 2 := by omega
    have z2 : ¬ σ0.next = σ.next + 2 := by omega
    have z4 : ¬ a = σ.next + 2 := by omega
    simp only [go_sem, seval, if_pos rfl, opLen, z1, z2, z4]
   ·have z1 : ¬ σ0.next + 2 = σ0.next + 1 := by omega
    have z2 : ¬ σ0.next = σ0.next + 1 := by omega
    have z3 : σ0.next + 1 < σ.next := by omega
    have z4 : ¬ a = σ0.next + 1 := by omega
    simp only [go_sem, seval, if_pos rfl, opLen, z1, z2, z3, z4]
    exact H.gd
   ·rw [St.get_set, if_pos rfl]
    rfl
 ·have nx := H.nx
  obtain ⟨w, g2, hw⟩ := H.g2
  exact ⟨by omega, fun z hz => (hg z (by omega)).trans (H.old z hz), ⟨w, (hg _ (by omega)).trans g2, hw.keep hn fun a _ h => hg a h⟩, (hg _ (by omega)).trans H.gd, (hg _ (by omega)).trans H.gy⟩
def apIT (σ : St) (c : Nat) : List Value := [.slice none 0 0, .func (.func 92) ⟨[]⟩ ⟨[.pointer (some ⟨c, 0, none⟩)]⟩, .pointer (some ⟨σ.next, 0, none⟩), undef, .slice none 0 0, undef, .func (.func 92) ⟨[]⟩ ⟨[.pointer (some ⟨c, 0, none⟩)]⟩, undef, undef, undef, undef, undef, undef]
def ApRI (σ : St) (L : List Pk) (e : AE) (σ' : St) (lg : Log) : Prop := ∃ w, e = .ret w ∧ (∀ z ∈ lg, σ.next ≤ z) ∧ ItS (σ.next + 3) σ' w L
theorem apI_call {σ : St} {c lo : Nat} {v : Value} {L : List Pk} (gc : σ.get c = some (.cells [v] false)) (hc : c < σ.next) (hv : ItV lo σ v L) (hL : L.length < 1000000) :
  callX Tryz.prog 74 [.slice none 0 0, .func (.func 92) ⟨[]⟩ ⟨[.pointer (some ⟨c, 0, none⟩)]⟩] σ (ApRI σ L) := by
 refine callX.enterD (p := q0) cP_ok mixed Tryz.func74 rfl stat74 ?_
 simp only [go_sem, seval, if_pos rfl, opLen, Tryz.f74]
 refine rangeX.of cP_ok (f := 92) (xs := []) (ys := [.pointer (some ⟨c, 0, none⟩)]) (by simp only [go_sem, seval, if_pos rfl, opLen]) body92 ?_
 have hY := apI_yields (σ0 := σ) (ts := apIT σ c) (L := L) rfl rfl hL
 refine callX.hid (R := fun σ' lg => (∀ z ∈ lg, σ.next ≤ z) ∧ JAI σ (apIT σ c) L σ') (seqI_call (c := c) (v := v) (n0 := σ.next) (lo := lo) hY (fun z hz => hz) (fun done σ' H => ⟨?_, ?_⟩) hL ?_ ⟨?_, ?_, ⟨.slice none 0 0, ?_, .inl ⟨rfl, rfl⟩⟩, ?_, ?_⟩) ?_
 ·rcases hv with h | ⟨a, s, cap, G, h1, h2, h3, h4⟩
  ·exact .inl h
  ·exact .inr ⟨a, s, cap, G, h1, (H.old a h4).trans h2, h3, by have := H.nx; omega⟩
 ·have := H.nx; omega
 ·simp only [go_sem, seval, if_pos rfl, opLen, hc, gc]
 ·simp only [go_sem, seval, if_pos rfl, opLen, St.next_put] <;> omega
 ·intro z hz
  simp only [go_sem, seval, if_pos rfl, opLen, hz]
 ·simp only [go_sem, seval, if_pos rfl, opLen]
 ·simp only [go_sem, seval, if_pos rfl, opLen]
 ·simp only [go_sem, seval, if_pos rfl, opLen]; rfl
 intro σ1 lg1 hlg1 h1
 obtain ⟨hB, H⟩ := h1
 have nx := H.nx
 obtain ⟨w, g2, hw⟩ := H.g2
 have gd := H.gd
 have k5 : σ.next < σ1.next := by omega
 have m5 : ¬ σ.next + 2 = σ.next := by omega
 refine ⟨?_⟩
 refine ⟨.ready, none, .norm, H.gy, rfl, rfl, ?_⟩
 simp only [go_sem, seval, if_pos rfl, opLen, k5, g2, m5]
 have kd : ¬ σ.next + 2 = σ.next + 1 := by omega
 refine .collected (by simp only [go_sem, seval, if_pos rfl, opLen, kd, gd]) ?_
 refine .ret cP_ok (by simp only [go_sem, seval, if_pos rfl, opLen] <;> rfl) ?_
 simp only [go_sem, seval, if_pos rfl, opLen]
 refine ⟨w, rfl, fun z hz => ?_, hw.keep (by simp only [go_sem, seval, if_pos rfl, opLen, St.next_put] <;> omega) fun a h1 h2 => ?_⟩
 ·simp only [List.mem_append, List.mem_cons, List.not_mem_nil, or_false, false_or] at hz
  rcases hz with (hz | hz) | hz <;> first | exact hB z hz | omega
 ·have q1 : ¬ σ.next + 1 = a := by omega
  have q2 : ¬ σ.next + 2 = a := by omega
  simp only [go_sem, seval, if_pos rfl, opLen, q1, q2]
theorem collectI_call {σ : St} {c lo : Nat} {v : Value} {L : List Pk} (gc : σ.get c = some (.cells [v] false)) (hc : c < σ.next) (hv : ItV lo σ v L) (hL : L.length < 1000000) :
  callX Tryz.prog 47 [.func (.func 92) ⟨[]⟩ ⟨[.pointer (some ⟨c, 0, none⟩)]⟩] σ (ApRI σ L) := by
 refine enter (p := q0) Tryz.func47 rfl stat47 ?_
 simp only [go_sem, seval, if_pos rfl, opLen, Tryz.f47, body74]
 refine callX.hidE (apI_call gc hc hv hL) ?_
 intro e σ1 lg1 hlg1 h1
 obtain ⟨w, rfl, hB, hw⟩ := h1
 refine ⟨?_⟩
 simp only [go_sem, seval, if_pos rfl, opLen]
 exact ⟨w, rfl, hB, hw⟩
end Go.Ab
namespace Go.Ab
open Go.Proofs
theorem bits_lt {n : Nat} (h : n < 256) : Sort.bitsLen n < 1000 := by
 have all : ((List.range 256).all fun n => Nat.blt (Sort.bitsLen n) 1000) = true := by kernel_rfl
 have := List.all_eq_true.1 all n (List.mem_range.2 h)
 simpa [Nat.blt_eq] using this
section
variable {σ0 : St} {k s cap : Nat} {g : FuncId} {ys : List Value} {lt : Pk → Pk → Bool} {p : Pk → Prop} {G : List Value}
set_option maxHeartbeats 1600000 in
set_option maxRecDepth 20000 in
theorem sortfunc_call (hc : CmpOk σ0 k g ys lt p) (hw : Sort.SWO lt) {d : Array Pk} {σ : St} (H : SAt σ0 k d G p σ) (hsz : d.size < 256) :
  callX Tryz.prog 91 [sliceS k s d.size cap, .func (.func g) ⟨[]⟩ ⟨ys⟩] σ (PdqR σ0 k G p lt 0 d.size d) := by
 have wu : IntKind.u64.wrap (d.size : Int) = (d.size : Int) := wrapUN (by omega)
 have hpd := pdq_ok (s := s) (n := d.size) (cap := cap) (G := G) hc hw (by omega) (d.size + 1) 0 d.size (Sort.bitsLen d.size) d σ (by omega) (by omega) (bits_lt hsz) H rfl (by omega) (Nat.le_refl _) (.inl rfl)
 simp only [sliceS] at hpd
 refine enter (p := q0) Tryz.func91 rfl stat91 ?_
 simp only [go_sem, seval, if_pos rfl, opLen, undef, sliceS, Tryz.f91, wu, body104, body105]
 refine .of (bitslen_call hsz _) ?_
 simp only [go_sem, seval, if_pos rfl, opLen, undef, sliceS, Tryz.f91, wu, body104, body105]
 refine callX.hidE hpd ?_
 intro e σ1 lg1 hlg1 hA
 obtain ⟨rfl, D, hS, hP, hs⟩ := hA
 refine ⟨?_⟩
 simp only [go_sem, seval, if_pos rfl, opLen]
 exact ⟨rfl, D, ⟨by simpa using hS.1, hS.2⟩, hP, hs⟩
end
end Go.Ab
namespace Go.Ab
open Go.Proofs
def INins (m : Nat) (fr : Fr) (σ : St) : Prop := m = 0 ∧ ∃ ts cv, fr = ⟨ts, []⟩ ∧ FI ts (.slice none 0 0) cv 0 0 1
def ENins (x : AX) (fr : Fr) (σ : St) : Prop := x = .exit 0 ∧ fr.ds = []
set_option maxRecDepth 20000 in
theorem insnil_loop : ∀ m fr σ, INins m fr σ → loopX Tryz.prog false insOutB fr σ (endL ENins fun _ => False) := by
 refine loop_ind q0 110 (by kernel_rfl) _ _ _ ?_
 rintro m fr σ ⟨rfl, ts, cv, rfl, F⟩
 have e0 := F.t0
 have e1 := F.t1
 have e2 := F.t2
 have e3 := F.t3
 have e8 := F.t8
 have el := F.size
 have c0 : ¬ ((1 : Nat) : Int) < ((0 : Nat) : Int) := by omega
 simp only [go_sem, seval, if_pos rfl, opLen, undef, insOutB, loopOf, Tryz.f110, Option.getD, e0, e1, e2, e3, e8, el, c0]
 exact ⟨rfl, rfl⟩
set_option maxRecDepth 20000 in
theorem insnil_call {cv : Value} (σ : St) : callX Tryz.prog 110 [.slice none 0 0, .int .i64 (0 : Nat), .int .i64 (0 : Nat), cv] σ fun e σ' lg => e = .ret (.tuple ⟨[]⟩) ∧ lg = [] := by
 have w1 : IntKind.i64.wrap (((0 : Nat) : Int) + 1) = ((1 : Nat) : Int) := by decide
 refine enter (p := q0) Tryz.func110 rfl stat110 ?_
 simp only [go_sem, seval, if_pos rfl, opLen, undef, Tryz.f110, w1]
 refine loop_then (insnil_loop 0 _ _ ⟨rfl, _, cv, rfl, ⟨rfl, rfl, rfl, rfl, rfl, rfl⟩⟩) ?_
 intro x fr' σ' lg hlg hB h
 obtain ⟨rfl, hds⟩ := h
 obtain ⟨ts', ds'⟩ := fr'
 simp only at hds
 subst hds
 obtain rfl : lg = [] := List.eq_nil_iff_forall_not_mem.2 fun z hz => hB z hz
 simp only [go_sem, seval, if_pos rfl, opLen]
def INpdq (m : Nat) (fr : Fr) (σ : St) : Prop := m = 0 ∧ ∃ ts cv limit, fr = ⟨ts, []⟩ ∧ FZ ts (.slice none 0 0) cv 0 0 limit
def ENpdq (x : AX) (fr : Fr) (σ : St) : Prop := x = .ret ∧ fr.ds = []
set_option maxHeartbeats 1600000 in
set_option maxRecDepth 20000 in
theorem pdqnil_loop : ∀ m fr σ, INpdq m fr σ → loopX Tryz.prog false pdqL fr σ (endL ENpdq fun _ => False) := by
 refine loop_ind q0 104 (by kernel_rfl) _ _ _ ?_
 rintro m fr σ ⟨rfl, ts, cv, limit, rfl, F⟩
 have e0 := F.t0
 have e1 := F.t1
 have e2 := F.t2
 have e3 := F.t3
 have e4 := F.t4
 obtain ⟨wB, e10⟩ := F.t10
 obtain ⟨wP, e11⟩ := F.t11
 have el := F.size
 have w1 : IntKind.i64.wrap (((0 : Nat) : Int) - ((0 : Nat) : Int)) = ((0 : Nat) : Int) := by decide
 have c0 : ((0 : Nat) : Int) ≤ 12 := by omega
 rw [pdqL_is]
 simp only [go_sem, seval, if_pos rfl, opLen, undef, pdqX, pdqL, loopOf, nthC, dropC, blockOf, Tryz.f104, Option.getD, Int.toNat_natCast, e0, e1, e2, e3, e4, e10, e11, el, w1, c0]
 refine callX.hidE (insnil_call σ) ?_
 intro e σ1 lg1 hlg1 hA
 obtain ⟨rfl, rfl⟩ := hA
 refine ⟨?_⟩
 simp only [go_sem, seval, if_pos rfl, opLen, undef, pdqX, pdqL, loopOf, nthC, dropC, blockOf, Tryz.f104, Option.getD, Int.toNat_natCast, e0, e1, e2, e3, e4, e10, e11, el]
 exact ⟨rfl, rfl⟩
set_option maxRecDepth 20000 in
theorem pdqnil_call {cv : Value} {limit : Nat} (σ : St) : callX Tryz.prog 104 [.slice none 0 0, .int .i64 (0 : Nat), .int .i64 (0 : Nat), .int .i64 limit, cv] σ fun e σ' lg => e = .ret (.tuple ⟨[]⟩) ∧ lg = [] := by
 refine enter (p := q0) Tryz.func104 rfl stat104 ?_
 simp only [go_sem, seval, if_pos rfl, opLen, undef, Tryz.f104]
 refine loop_then (pdqnil_loop 0 _ _ ⟨rfl, _, cv, limit, rfl, ⟨rfl, rfl, rfl, rfl, rfl, rfl, ⟨_, rfl⟩, ⟨_, rfl⟩⟩⟩) ?_
 intro x fr' σ' lg hlg hB h
 obtain ⟨rfl, hds⟩ := h
 obtain ⟨ts', ds'⟩ := fr'
 simp only at hds
 subst hds
 obtain rfl : lg = [] := List.eq_nil_iff_forall_not_mem.2 fun z hz => hB z hz
 simp only [go_sem, seval, if_pos rfl, opLen]
set_option maxRecDepth 20000 in
theorem sortnil_call {cv : Value} (σ : St) : callX Tryz.prog 91 [.slice none 0 0, cv] σ fun e σ' lg => e = .ret (.tuple ⟨[]⟩) ∧ lg = [] := by
 have wu : IntKind.u64.wrap 0 = ((0 : Nat) : Int) := by decide
 have hb := bitslen_call (n := 0) (by omega)
 have hp : ∀ σ, callX Tryz.prog 104 [.slice none 0 0, .int .i64 0, .int .i64 0, .int .i64 (Sort.bitsLen 0 : Nat), cv] σ fun e σ' lg => e = .ret (.tuple ⟨[]⟩) ∧ lg = [] := fun σ => pdqnil_call σ
 refine enter (p := q0) Tryz.func91 rfl stat91 ?_
 simp only [go_sem, seval, if_pos rfl, opLen, undef, Tryz.f91, wu, body104, body105]
 refine .of (hb _) ?_
 simp only [go_sem, seval, if_pos rfl, opLen, undef, Tryz.f91, wu, body104, body105]
 refine callX.hidE (hp _) ?_
 intro e σ1 lg1 hlg1 hA
 obtain ⟨rfl, rfl⟩ := hA
 refine ⟨?_⟩
 simp only [go_sem, seval, if_pos rfl, opLen]
def SortedP (σ : St) (L : List Pk) (lt : Pk → Pk → Bool) (e : AE) (σ' : St) (lg : Log) : Prop := ∃ w S, e = .ret w ∧ (∀ z ∈ lg, σ.next ≤ z) ∧ S.Perm L ∧ (S.Pairwise fun x y => lt y x = false) ∧ ItS σ.next σ' w S
theorem perm_sorted {L : List Pk} {lt : Pk → Pk → Bool} {D d : Array Pk} (hL : d.toList = L) (hp : Sort.PermIn 0 d.size d D) (hs : Sort.SortedIn lt 0 d.size D) : D.toList.Perm L ∧ D.toList.Pairwise fun x y => lt y x = false := by
 have hsz : D.size = d.size := hp.1
 refine ⟨?_, List.pairwise_iff_getElem.2 fun i j hi hj hij => ?_⟩
 ·have h := hp.2.2
  rw [← hsz, Array.extract_size, hsz, Array.extract_size, hL] at h
  exact h
 ·have hsi : i < D.size := by simpa using hi
  have hsj : j < D.size := by simpa using hj
  have hlt := hs i j (Nat.zero_le _) hij (by omega)
  rw [getElem!_pos D i hsi, getElem!_pos D j hsj] at hlt
  simpa using hlt
set_option maxHeartbeats 1600000 in
set_option maxRecDepth 20000 in
theorem sortedf_call {σ : St} {c lo : Nat} {v : Value} {L : List Pk} {g : FuncId} {ys : List Value} {lt : Pk → Pk → Bool} {p : Pk → Prop} (hc0 : ∀ σ1, σ.next ≤ σ1.next → (∀ z, z < σ.next → σ1.get z = σ.get z) → ∀ a, σ.next ≤ a → CmpOk σ1 a g ys lt p) (hw : Sort.SWO lt)
  (gc : σ.get c = some (.cells [v] false)) (hc : c < σ.next) (hv : ItV lo σ v L) (hL : L.length < 256) (ho : ∀ x ∈ L, p x) :
  callX Tryz.prog 67 [.func (.func 92) ⟨[]⟩ ⟨[.pointer (some ⟨c, 0, none⟩)]⟩, .func (.func g) ⟨[]⟩ ⟨ys⟩] σ (SortedP σ L lt) := by
 refine enter (p := q0) Tryz.func67 rfl stat67 ?_
 simp only [go_sem, seval, if_pos rfl, opLen, undef, Tryz.f67, body47]
 refine callX.hidE (collectI_call gc hc hv (by omega)) ?_
 intro e σ1 lg1 hlg1 h1
 have hn1 := hlg1.1
 obtain ⟨w, rfl, hB, hw1⟩ := h1
 rcases hw1 with ⟨rfl, rfl⟩ | ⟨a, rfl, ga, ha1, ha2⟩
 ·refine ⟨?_⟩
  simp only [go_sem, seval, if_pos rfl, opLen, undef, Tryz.f67, body91]
  refine callX.hidE (sortnil_call _) ?_
  intro e σ2 lg2 hlg2 hA
  obtain ⟨rfl, rfl⟩ := hA
  refine ⟨?_⟩
  simp only [go_sem, seval, if_pos rfl, opLen, undef]
  exact ⟨_, [], rfl, by simpa using hB, List.Perm.refl _, List.Pairwise.nil, .inl ⟨rfl, rfl⟩⟩
 ·have H : SAt σ1 a L.toArray [] p σ1 := ⟨⟨Nat.le_refl _, fun _ _ _ => rfl⟩, by simpa using ga, ha2, fun i hi => ho _ (by
   rw [getElem!_pos L.toArray i hi]
   simp), by simp; omega⟩
  have hck := hc0 σ1 hn1 (fun z hz => hlg1.2 z hz fun hm => by have := hB z hm; omega) a (by omega)
  have hs := sortfunc_call (s := 5) (cap := L.length) hck hw H (by simpa using hL)
  simp only [sliceS, List.size_toArray] at hs
  refine ⟨?_⟩
  simp only [go_sem, seval, if_pos rfl, opLen, undef, Tryz.f67, body91]
  refine callX.hidE hs ?_
  intro e σ2 lg2 hlg2 hA
  obtain ⟨rfl, D, hS, hP, hso⟩ := hA
  refine ⟨?_⟩
  simp only [go_sem, seval, if_pos rfl, opLen, undef]
  have hsz : D.size = L.length := by have := hP.1; simpa using this
  obtain ⟨hp1, hp2⟩ := perm_sorted (d := L.toArray) rfl hP hso
  refine ⟨_, D.toList, rfl, fun z hz => ?_, hp1, hp2, .inr ⟨a, by simp [hsz], by simpa using hS.2.get, by omega, ?_⟩⟩
  ·simp only [List.mem_append, List.mem_cons, List.not_mem_nil, or_false, false_or] at hz
   rcases hz with hz | hz
   ·exact hB z hz
   ·rcases hS.1 z hz with rfl | hz <;> omega
  ·have := hS.2.base.nx
   omega
end Go.Ab
namespace Go.Ab
open Go.Proofs
noncomputable def apA : Code := match findR (Tryz.f74.body.getD .skip) with | some x => x.2.1 | none => .skip
noncomputable def apD : Code := match findR (Tryz.f74.body.getD .skip) with | some x => x.2.2 | none => .skip
structure JA (σ0 : St) (ts : List Value) (done : List Pk) (σ : St) : Prop where
 nx : σ0.next + 3 ≤ σ.next
 old : ∀ z, z < σ0.next → σ.get z = σ0.get z
 g2 : ∃ w, σ.get σ0.next = some (.cells [w] false) ∧ PkS (σ0.next + 3) σ w done
 gd : σ.get (σ0.next + 1) = some (.deferred false)
 gy : σ.get (σ0.next + 2) = some (loopOb .ready none ts #[7] apA apD (σ0.next + 1))
set_option maxHeartbeats 1600000 in
set_option maxRecDepth 20000 in
theorem ap_yields {σ0 : St} {ts : List Value} {L : List Pk} (hts : ts.length = 13) (t2 : lget ts 2 = .pointer (some ⟨σ0.next, 0, none⟩)) (hL : L.length < 1000000) :
  Yields (σ0.next + 2) (fun z => σ0.next ≤ z) L (JA σ0 ts) := by
 refine ⟨fun done x rest σ hsp H => ?_, fun done σ σ' H hn hg => ?_⟩
 ·have hlen : done.length < 1000000 := by
   have := congrArg List.length hsp
   simp at this; omega
  have nx := H.nx
  have gy := H.gy
  obtain ⟨w, g2, hw⟩ := H.g2
  have k2 : σ0.next < σ.next := by omega
  have ky : σ0.next + 2 < σ.next := by omega
  have k2' : σ0.next < σ.next + 1 := by omega
  have m1 : ¬ σ0.next + 2 = σ0.next := by omega
  have m3 : ¬ σ.next = σ0.next + 2 := by omega
  have m4 : ¬ σ0.next + 2 = σ.next := by omega
  have m5 : ¬ σ0.next + 2 = σ.next + 1 := by omega
  refine roundX.enter (p := q8) (bt := btAll 74) cP_ok mixed gy rfl (by kernel_rfl) (by kernel_rfl) ?_
  simp only [go_sem, seval, if_pos rfl, opLen, Pk.val, Pk.cells, apA, findR, Tryz.f74, Option.getD, roundTs, hts]
  refine midRW.mk ?_ ?_
  ·simp only [go_sem, seval, if_pos rfl, opLen, ky, m3]
   exact gy
  rcases hw with ⟨rfl, rfl⟩ | ⟨a, rfl, ga, ha1, ha2⟩
  ·have hap : ∀ σ : St, ∀ b, σ.get b = some (.cells x.cells false) → opAppend (cP Tryz.prog).T σ 40 40 (.slice none 0 0) (.slice (some ⟨b, 0, some 0⟩) 1 1) = some (.new (.cells x.cells false) (.slice (some ⟨σ.next, 0, some 5⟩) 1 1) [b]) := fun σ b h => pk_first h
   simp only [Pk.cells] at hap
   simp only [go_sem, seval, if_pos rfl, opLen, zerosN, apD, findR, Tryz.f74, Option.getD, hts, t2, g2, k2, k2', ky, m1, m3, m4, m5, hap]
   refine ⟨by simp only [go_sem, seval, if_pos rfl, opLen, St.next_put] <;> omega, fun z hz => ?_, ⟨.slice (some ⟨σ.next + 2, 0, some 5⟩) 1 1, ?_, .inr ⟨σ.next + 2, rfl, ?_, by omega, by simp only [go_sem, seval, if_pos rfl, opLen, St.next_put] <;> omega⟩⟩, ?_, ?_⟩
   ·have z1 : ¬ σ0.next + 2 = z := by omega
    have z2 : ¬ σ0.next = z := by omega
    have z3 : z < σ.next := by omega
    simp only [go_sem, seval, if_pos rfl, opLen, z1, z2, z3]
    exact H.old z hz
   ·simp only [go_sem, seval, if_pos rfl, opLen, m1, k2]
   ·have z1 : ¬ σ0.next + 2 = σ.next + 2 := by omega
    have z2 : ¬ σ0.next = σ.next + 2 := by omega
    simp only [go_sem, seval, if_pos rfl, opLen, z1, z2, cellsP, Pk.cells]
   ·have z1 : ¬ σ0.next + 2 = σ0.next + 1 := by omega
    have z2 : ¬ σ0.next = σ0.next + 1 := by omega
    have z3 : σ0.next + 1 < σ.next := by omega
    simp only [go_sem, seval, if_pos rfl, opLen, z1, z2, z3]
    exact H.gd
   ·rw [St.get_set, if_pos rfl]
    rfl
  ·have hap : ∀ σ : St, ∀ b, σ.get a = some (.cells (cellsP done) false) → σ.get b = some (.cells x.cells false) → opAppend (cP Tryz.prog).T σ 40 40 (.slice (some ⟨a, 0, some 5⟩) done.length done.length) (.slice (some ⟨b, 0, some 0⟩) 1 1) =
     some (.eff (.slice (some ⟨σ.next, 0, some 5⟩) (done.length + 1) (done.length + 1)) ((σ.new (.cells (cellsP (done ++ [x])) false)).put a none) [a]) := fun σ b h1 h2 => pk_more h1 h2 (by omega)
   simp only [Pk.cells] at hap
   have n1 : ¬ a = σ0.next := by omega
   have n2 : ¬ a = σ0.next + 2 := by omega
   have n3 : ¬ σ0.next + 2 = a := by omega
   simp only [go_sem, seval, if_pos rfl, opLen, zerosN, apD, findR, Tryz.f74, Option.getD, hts, t2, g2, ga, ha2, k2, k2', ky, m1, m3, m4, m5, n1, n2, n3, hap]
   have hdl : (done ++ [x]).length = done.length + 1 := by rw [List.length_append]; rfl
   refine ⟨by omega, ⟨by simp only [go_sem, seval, if_pos rfl, opLen, St.next_put] <;> omega, fun z hz => ?_, ⟨.slice (some ⟨σ.next + 2, 0, some 5⟩) (done ++ [x]).length (done ++ [x]).length, ?_, .inr ⟨σ.next + 2, rfl, ?_, by omega, by simp only [go_sem, seval, if_pos rfl, opLen, St.next_put] <;> omega⟩⟩, ?_, ?_⟩⟩
   ·have z1 : ¬ σ0.next + 2 = z := by omega
    have z2 : ¬ σ0.next = z := by omega
    have z3 : z < σ.next := by omega
    have z4 : ¬ a = z := by omega
    simp only [go_sem, seval, if_pos rfl, opLen, z1, z2, z3, z4]
    exact H.old z hz
   ·rw [hdl]; simp only [go_sem, seval, if_pos rfl, opLen, m1, k2]
   ·have z1 : ¬ σ0.next + 2 = σ.next + 2 := by omega
    have z2 : ¬ σ0.next = σ.next + 2 := by omega
    have z4 : ¬ a = σ.next + 2 := by omega
    simp only [go_sem, seval, if_pos rfl, opLen, z1, z2, z4]
   ·have z1 : ¬ σ0.next + 2 = σ0.next + 1 := by omega
    have z2 : ¬ σ0.next = σ0.next + 1 := by omega
    have z3 : σ0.next + 1 < σ.next := by omega
    have z4 : ¬ a = σ0.next + 1 := by omega
    simp only [go_sem, seval, if_pos rfl, opLen, z1, z2, z3, z4]
    exact H.gd
   ·rw [St.get_set, if_pos rfl]
    rfl
 ·have nx := H.nx
  obtain ⟨w, g2, hw⟩ := H.g2
  exact ⟨by omega, fun z hz => (hg z (by omega)).trans (H.old z hz), ⟨w, (hg _ (by omega)).trans g2, hw.keep hn fun a _ h => hg a h⟩, (hg _ (by omega)).trans H.gd, (hg _ (by omega)).trans H.gy⟩
def apT (σ : St) (c : Nat) : List Value := [.slice none 0 0, .func (.func 75) ⟨[]⟩ ⟨[.pointer (some ⟨c, 0, none⟩)]⟩, .pointer (some ⟨σ.next, 0, none⟩), undef, .slice none 0 0, undef, .func (.func 75) ⟨[]⟩ ⟨[.pointer (some ⟨c, 0, none⟩)]⟩, undef, undef, undef, undef, undef, undef]
def ApR (σ : St) (L : List Pk) (e : AE) (σ' : St) (lg : Log) : Prop := ∃ w, e = .ret w ∧ (∀ z ∈ lg, σ.next ≤ z) ∧ PkS (σ.next + 3) σ' w L
theorem ap_call {σ : St} {c lo : Nat} {v : Value} {L : List Pk} (gc : σ.get c = some (.cells [v] false)) (hc : c < σ.next) (hv : PkS lo σ v L) (hL : L.length < 1000000) :
  callX Tryz.prog 74 [.slice none 0 0, .func (.func 75) ⟨[]⟩ ⟨[.pointer (some ⟨c, 0, none⟩)]⟩] σ (ApR σ L) := by
 refine callX.enterD (p := q8) cP_ok mixed Tryz.func74 rfl stat74 ?_
 simp only [go_sem, seval, if_pos rfl, opLen, Tryz.f74]
 refine rangeX.of cP_ok (f := 75) (xs := []) (ys := [.pointer (some ⟨c, 0, none⟩)]) (by simp only [go_sem, seval, if_pos rfl, opLen]) body75 ?_
 have hY := ap_yields (σ0 := σ) (ts := apT σ c) (L := L) rfl rfl hL
 refine callX.hid (R := fun σ' lg => (∀ z ∈ lg, σ.next ≤ z) ∧ JA σ (apT σ c) L σ') (seq_call (c := c) (v := v) (n0 := σ.next) (lo := lo) hY (fun z hz => hz) (fun done σ' H => ⟨?_, ?_⟩) hL ?_ ⟨?_, ?_, ⟨.slice none 0 0, ?_, .inl ⟨rfl, rfl⟩⟩, ?_, ?_⟩) ?_
 ·rcases hv with h | ⟨a, h1, h2, h3, h4⟩
  ·exact .inl h
  ·exact .inr ⟨a, h1, (H.old a h4).trans h2, h3, by have := H.nx; omega⟩
 ·have := H.nx; omega
 ·simp only [go_sem, seval, if_pos rfl, opLen, hc, gc]
 ·simp only [go_sem, seval, if_pos rfl, opLen, St.next_put] <;> omega
 ·intro z hz
  simp only [go_sem, seval, if_pos rfl, opLen, hz]
 ·simp only [go_sem, seval, if_pos rfl, opLen]
 ·simp only [go_sem, seval, if_pos rfl, opLen]
 ·simp only [go_sem, seval, if_pos rfl, opLen]; rfl
 intro σ1 lg1 hlg1 h1
 obtain ⟨hB, H⟩ := h1
 have nx := H.nx
 obtain ⟨w, g2, hw⟩ := H.g2
 have gd := H.gd
 have k5 : σ.next < σ1.next := by omega
 have m5 : ¬ σ.next + 2 = σ.next := by omega
 refine ⟨?_⟩
 refine ⟨.ready, none, .norm, H.gy, rfl, rfl, ?_⟩
 simp only [go_sem, seval, if_pos rfl, opLen, k5, g2, m5]
 have kd : ¬ σ.next + 2 = σ.next + 1 := by omega
 refine .collected (by simp only [go_sem, seval, if_pos rfl, opLen, kd, gd]) ?_
 refine .ret cP_ok (by simp only [go_sem, seval, if_pos rfl, opLen] <;> rfl) ?_
 simp only [go_sem, seval, if_pos rfl, opLen]
 refine ⟨w, rfl, fun z hz => ?_, hw.keep (by simp only [go_sem, seval, if_pos rfl, opLen, St.next_put] <;> omega) fun a h1 h2 => ?_⟩
 ·simp only [List.mem_append, List.mem_cons, List.not_mem_nil, or_false, false_or] at hz
  rcases hz with (hz | hz) | hz <;> first | exact hB z hz | omega
 ·have q1 : ¬ σ.next + 1 = a := by omega
  have q2 : ¬ σ.next + 2 = a := by omega
  simp only [go_sem, seval, if_pos rfl, opLen, q1, q2]
theorem collect_call {σ : St} {c lo : Nat} {v : Value} {L : List Pk} (gc : σ.get c = some (.cells [v] false)) (hc : c < σ.next) (hv : PkS lo σ v L) (hL : L.length < 1000000) :
  callX Tryz.prog 47 [.func (.func 75) ⟨[]⟩ ⟨[.pointer (some ⟨c, 0, none⟩)]⟩] σ (ApR σ L) := by
 refine enter (p := q8) Tryz.func47 rfl stat47 ?_
 simp only [go_sem, seval, if_pos rfl, opLen, Tryz.f47, body74]
 refine callX.hidE (ap_call gc hc hv hL) ?_
 intro e σ1 lg1 hlg1 h1
 obtain ⟨w, rfl, hB, hw⟩ := h1
 refine ⟨?_⟩
 simp only [go_sem, seval, if_pos rfl, opLen]
 exact ⟨w, rfl, hB, hw⟩
end Go.Ab
namespace Go.Ab
open Go.Proofs
theorem zeros_pk : ∀ n, zerosN [.int .i64 0, .int .i64 0, .int .i64 0] n = cellsP (List.replicate n Pk.zero)
 | 0 => rfl
 | n + 1 => by
  have := zeros_pk n
  simp only [zerosN, this, List.replicate_succ, cellsP, Pk.cells, Pk.zero]
theorem pk_make {σ : St} {n : Nat} (hn : n < 1000000) : opMakeSlice (cP Tryz.prog).T σ 40 (.int .i64 n) (.int .i64 n) = some (.new (.cells (cellsP (List.replicate n Pk.zero)) false) (.slice (some ⟨σ.next, 0, some 0⟩) n n) []) := by
 have h1 : (0 : Int) ≤ n := by omega
 have h2 : (n : Int) < 4294967296 := by omega
 simp only [opMakeSlice, und168, inf54, Tryz.t34]
 simp [plain, plainL, vcells, zeros_pk, h1, h2]
theorem over_zero : ∀ (L : List Pk) (n : Nat), L.length ≤ n → over (cellsP (List.replicate n Pk.zero)) 0 (cellsP L) = cellsP (L ++ List.replicate (n - L.length) Pk.zero)
 | [], n, _ => by simp only [cellsP, List.length_nil, Nat.sub_zero, List.nil_append]; cases cellsP (List.replicate n Pk.zero) <;> rfl
 | x :: L, 0, h => by simp at h
 | x :: L, n + 1, h => by
  have := over_zero L n (by simpa using h)
  simp only [List.replicate_succ, cellsP, Pk.cells, Pk.zero, List.cons_append, List.nil_append, over, List.length_cons, Nat.add_sub_add_right] at this ⊢
  rw [this]
theorem oneCells_pk : ∀ L : List Pk, oneCells (cellsP L) = true
 | [] => rfl
 | x :: L => by simp [cellsP, Pk.cells, oneCells, oneCells_pk L]
theorem pk_copy {σ : St} {a b n cap : Nat} {L : List Pk} (gb : σ.get b = some (.cells (cellsP (List.replicate n Pk.zero)) false)) (ga : σ.get a = some (.cells (cellsP L) false)) (h0 : 1 ≤ L.length) (hn : L.length ≤ n) :
  opCopy (cP Tryz.prog).T σ 40 (.slice (some ⟨b, 0, some 0⟩) n n) (.slice (some ⟨a, 0, some 5⟩) L.length cap) = some (.eff (.int .i64 L.length) (σ.set b (.cells (cellsP (L ++ List.replicate (n - L.length) Pk.zero)) false)) [b]) := by
 have h1 : Nat.min L.length n = L.length := Nat.min_eq_left hn
 have h2 : ¬ L.length * 3 = 0 := by omega
 have h3 : L.length * 3 ≤ (cellsP L).length := by rw [cellsP_length]; omega
 have h4 : (cellsP L).take (L.length * 3) = cellsP L := List.take_of_length_le (by rw [cellsP_length]; omega)
 have h5 : L.length * 3 ≤ (cellsP (List.replicate n Pk.zero)).length := by rw [cellsP_length, List.length_replicate]; omega
 have h6 : L.length ≠ 0 := by omega
 simp only [opCopy, und168, inf54, Tryz.t34, srcLen, srcCells, h1, ga, gb, h2, if_false, Nat.zero_add, List.drop_zero, h3, if_true, h4, h5, oneCells_pk, ne_eq, h6, not_false_eq_true, and_self, over_zero L n hn]
theorem pk_copy1 {σ : St} {a b n cap : Nat} {vs ws : List Value} (gb : σ.get b = some (.cells vs false)) (ga : σ.get a = some (.cells ws false)) : opCopy (cP Tryz.prog).T σ 40 (.slice (some ⟨b, 0, some 0⟩) n n) (.slice (some ⟨a, 0, some 5⟩) 0 cap) = some (.val (.int .i64 0) []) := by
 have h1 : Nat.min 0 n = 0 := Nat.min_eq_left (Nat.zero_le _)
 simp only [opCopy, und168, inf54, Tryz.t34, srcLen, srcCells, h1, gb]
 simp
theorem pk_copy0 {σ : St} {b n : Nat} {vs : List Value} (gb : σ.get b = some (.cells vs false)) : opCopy (cP Tryz.prog).T σ 40 (.slice (some ⟨b, 0, some 0⟩) n n) (.slice none 0 0) = some (.val (.int .i64 0) []) := by
 have h1 : Nat.min 0 n = 0 := Nat.min_eq_left (Nat.zero_le _)
 simp only [opCopy, und168, inf54, Tryz.t34, srcLen, srcCells, h1, gb]
 simp
def LayR (σ : St) (l n : Nat) (V : LV) (σ' : St) (lg : Log) : Prop := (∀ z ∈ lg, z = l ∨ σ.next ≤ z) ∧ σ.next < σ'.next ∧ ∃ R, R.length = n ∧ σ'.get l = some (.cells [.int .i64 V.lp, .int .i64 V.lb, .int .i64 V.room, .slice (some ⟨σ.next, 0, some 0⟩) n n, .int .i64 (0 : Nat), .int .i64 V.L.length, .bool true] false) ∧ σ'.get σ.next = some (.cells (cellsP R) false) ∧ Ring R 0 V.L
set_option maxRecDepth 20000 in
theorem llay_call {σ : St} {l lo n : Nat} {lp lb room : Int} {s f m w : Value} {L : List Pk} (gl : σ.get l = some (.cells [.int .i64 lp, .int .i64 lb, .int .i64 room, s, f, m, .bool true] false)) (hl : l < σ.next) (hw : PkS lo σ w L) (hlo : l < lo) (hn : 2 ≤ n ∧ n < 1000000) (hL : L.length ≤ n) :
  callX Tryz.prog 46 [.pointer (some ⟨l, 0, none⟩), w, .int .i64 n] σ fun e σ' lg => e = .ret (.tuple ⟨[]⟩) ∧ LayR σ l n ⟨lp, lb, room, L⟩ σ' lg := by
 have c1 : (1 : Int) < (n : Int) := by omega
 have hmk := pk_make (σ := σ) hn.2
 have n1 : ¬ σ.next = l := by omega
 have n2 : ¬ l = σ.next := by omega
 have R := Ring.lay L n hL (by omega)
 have hlen : (L ++ List.replicate (n - L.length) Pk.zero).length = n := by simp; omega
 by_cases hLn : L = []
 ·subst hLn
  have key : ∀ w : Value, (w = .slice none 0 0 ∨ ∃ a, w = .slice (some ⟨a, 0, some 5⟩) 0 0 ∧ σ.get a = some (.cells [] false) ∧ lo ≤ a ∧ a < σ.next) → callX Tryz.prog 46 [.pointer (some ⟨l, 0, none⟩), w, .int .i64 n] σ fun e σ' lg => e = .ret (.tuple ⟨[]⟩) ∧ LayR σ l n ⟨lp, lb, room, []⟩ σ' lg := by
   intro w hw
   have hlw : opLen (cP Tryz.prog).T ((σ.new (.cells (cellsP (List.replicate n Pk.zero)) false)).set l (.cells [.int .i64 lp, .int .i64 lb, .int .i64 room, .slice (some ⟨σ.next, 0, some 0⟩) n n, f, m, .bool true] false)) 40 w = some (.val (.int .i64 0) []) := by
    rcases hw with rfl | ⟨a, rfl, _⟩ <;> simp only [opLen, und168] <;> rfl
   have hcp : opCopy (cP Tryz.prog).T ((σ.new (.cells (cellsP (List.replicate n Pk.zero)) false)).set l (.cells [.int .i64 lp, .int .i64 lb, .int .i64 room, .slice (some ⟨σ.next, 0, some 0⟩) n n, f, m, .bool true] false)) 40 (.slice (some ⟨σ.next, 0, some 0⟩) n n) w = some (.val (.int .i64 0) []) := by
    rcases hw with rfl | ⟨a, rfl, ga, ha1, ha2⟩
    ·exact pk_copy0 (by rw [St.get_set, if_neg n2, St.get_new, if_pos rfl])
    ·exact pk_copy1 (by rw [St.get_set, if_neg n2, St.get_new, if_pos rfl]) (by rw [St.get_set, if_neg (by omega), St.get_new, if_neg (by omega)]; exact ga)
   refine enter (p := q8) Tryz.func46 rfl stat46 ?_
   simp only [go_sem, seval, if_pos rfl, undef, opMax, Tryz.f46, gl, hl, c1, n1, n2, hmk, hcp, hlw]
   refine ⟨fun z hz => by simp at hz; exact .inl hz, by simp only [go_sem, seval, if_pos rfl, opLen] <;> omega, _, hlen, ?_, ?_, R⟩
   ·rw [St.get_set, if_pos rfl]; rfl
   ·simp only [go_sem, seval, if_pos rfl, opLen, n2, List.length_nil, Nat.sub_zero]
  rcases hw with ⟨rfl, _⟩ | ⟨a, rfl, ga, ha1, ha2⟩
  ·exact key _ (.inl rfl)
  ·exact key _ (.inr ⟨a, rfl, ga, ha1, ha2⟩)
 have h1 : 1 ≤ L.length := by cases L <;> simp_all
 rcases hw with ⟨rfl, rfl⟩ | ⟨a, rfl, ga, ha1, ha2⟩
 ·simp at hLn
 ·have hcp : ∀ σ : St, ∀ b, σ.get b = some (.cells (cellsP (List.replicate n Pk.zero)) false) → σ.get a = some (.cells (cellsP L) false) → opCopy (cP Tryz.prog).T σ 40 (.slice (some ⟨b, 0, some 0⟩) n n) (.slice (some ⟨a, 0, some 5⟩) L.length L.length) = some (.eff (.int .i64 L.length) (σ.set b (.cells (cellsP (L ++ List.replicate (n - L.length) Pk.zero)) false)) [b]) := fun σ b h2 h3 => pk_copy h2 h3 h1 hL
  have n3 : ¬ l = a := by omega
  refine enter (p := q8) Tryz.func46 rfl stat46 ?_
  simp only [go_sem, seval, if_pos rfl, opLen, undef, opMax, Tryz.f46, gl, hl, c1, n1, n2, n3, ga, ha2, hmk, hcp]
  refine ⟨fun z hz => by simp at hz; omega, by simp only [go_sem, seval, if_pos rfl, opLen] <;> omega, _, hlen, ?_, ?_, R⟩
  ·rw [St.get_set, if_pos rfl]; rfl
  ·simp only [go_sem, seval, if_pos rfl, opLen, n2]
def LPutR (σ : St) (l r : Nat) (V : LV) (x : Pk) (σ' : St) (lg : Log) : Prop := (∀ z ∈ lg, z = l ∨ z = r ∨ σ.next ≤ z) ∧ ∃ r', (r' = r ∨ σ.next ≤ r') ∧ LAt σ' l r' { V with L := V.L ++ [x] }
set_option maxHeartbeats 1600000 in
set_option maxRecDepth 20000 in
theorem lput_free {σ : St} {l r : Nat} {V : LV} (H : LAt σ l r V) {x : Pk} (h1 : 0 ≤ x.id ∧ x.id ≤ 4611686018427387904) (h2 : 0 ≤ x.flow ∧ x.flow ≤ 2147483647) (h3 : 1 ≤ x.size ∧ x.size ≤ 2000) (hs : ∀ y ∈ V.L, 0 ≤ y.size ∧ y.size ≤ 2000) (hroom : x.size ≤ V.room - sumP V.L) (hr : -1000000000000 ≤ V.room ∧ V.room ≤ 1000000000000)
  (n f : Nat) (R : List Pk) (hRn : R.length = n) (gl : σ.get l = some (.cells [.int .i64 V.lp, .int .i64 V.lb, .int .i64 V.room, .slice (some ⟨r, 0, some 0⟩) n n, .int .i64 f, .int .i64 V.L.length, .bool true] false)) (gr : σ.get r = some (.cells (cellsP R) false)) (hR : Ring R f V.L) (hn : n < 1000000) (hlt : V.L.length < n) :
  callX Tryz.prog 22 [.pointer (some ⟨l, 0, none⟩), x.val] σ fun e σ' lg => e = .ret (.int .i64 0) ∧ LPutR σ l r V x σ' lg := by
 have hl := H.lt.1
 have hrr := H.lt.2
 have hf := hR.lt
 have hsum := sumP_bound V.L hs
 obtain ⟨idx, hidx⟩ : ∃ idx, idx = (f + V.L.length) % n := ⟨_, rfl⟩
 have hil : idx < n := by rw [hidx]; exact Nat.mod_lt _ (by omega)
 have w1 : IntKind.i64.wrap (V.room - sumP V.L) = V.room - sumP V.L := wrapI (by omega) (by omega)
 have w2 : IntKind.i64.wrap ((V.L.length : Int) + 1) = ((V.L.length + 1 : Nat) : Int) := by
  have : (V.L.length : Int) + 1 = ((V.L.length + 1 : Nat) : Int) := by omega
  rw [this]; exact wrapIN (by omega)
 have c1 : ¬ V.room - sumP V.L < x.size := by omega
 have c2 : ((V.L.length : Int) == (n : Int)) = false := by rw [beq_eq_false_iff_ne]; omega
 have c3 : (0 : Int) ≤ (idx : Int) := by omega
 have c4 : (idx : Int) < (n : Int) := by omega
 have n1 : ¬ l = r := H.ne
 have n2 : ¬ r = l := fun e => H.ne e.symm
 have n3 : ¬ σ.next = l := by omega
 have n4 : ¬ σ.next = r := by omega
 have lx : idx * 3 + 3 ≤ (cellsP R).length := by rw [cellsP_length]; omega
 have ov := overP_at' (L := R) x (by omega : idx < R.length)
 simp only [Pk.cells] at ov
 refine enter (p := q8) Tryz.func22 rfl stat22 ?_
 simp only [go_sem, seval, if_pos rfl, opLen, undef, Pk.val, Pk.cells, Tryz.f22, body23, body44, body45, body49]
 refine .of (lnone_call (l := l) (by simp only [go_sem, seval, if_pos rfl, opLen, hl, gl]; rfl)) ?_
 simp only [go_sem, seval, if_pos rfl, opLen, undef, body23, body44, body45, body49]
 refine .of (within98_call _ _ _ _) ?_
 simp only [go_sem, seval, if_pos rfl, opLen, undef, h1.1, h1.2, body23, body44, body45, body49]
 refine .of (within98_call _ _ _ _) ?_
 simp only [go_sem, seval, if_pos rfl, opLen, undef, h2.1, h2.2, body23, body44, body45, body49]
 refine .of (within98_call _ _ _ _) ?_
 simp only [go_sem, seval, if_pos rfl, opLen, undef, h3.1, h3.2, gl, hl, body23, body44, body45, body49]
 refine .of (bytes_call (H.keep (by simp only [go_sem, seval, if_pos rfl, opLen]) (by simp only [go_sem, seval, if_pos rfl, opLen, hl]) (by simp only [go_sem, seval, if_pos rfl, opLen, hrr])) hs) ?_
 simp only [go_sem, seval, if_pos rfl, opLen, undef, gl, hl, w1, c1, c2, body23, body44, body45, body49]
 refine .of (at_call (l := l) (r := r) (n := n) (f := f) (k := V.L.length) (by simp only [go_sem, seval, if_pos rfl, opLen, hl, gl]; rfl) (by simp only [go_sem, seval, if_pos rfl, opLen]; omega) (by omega) (by omega) (by omega)) ?_
 simp only [go_sem, seval, if_pos rfl, opLen, undef, ← hidx, Int.toNat_natCast, gl, gr, hl, hrr, c3, c4, n1, n2, n3, n4, lx, ov, w2, body23, body44, body45, body49]
 have hput := hR.put (by omega) x
 rw [hRn, ← hidx] at hput
 have hll : (V.L ++ [x]).length = V.L.length + 1 := by rw [List.length_append]; rfl
 have hRl : (R.set idx x).length = n := by rw [List.length_set, hRn]
 refine ⟨fun z hz => by simp at hz; omega, r, .inl rfl, ⟨R.set idx x, f, ?_, ?_, hput, by omega⟩, H.ne, by simp only [go_sem, seval, if_pos rfl, opLen, St.next_put] <;> omega⟩
 ·rw [hRl, hll, St.get_set, if_pos rfl]
 ·simp only [go_sem, seval, if_pos rfl, opLen, hrr, n1]
set_option maxHeartbeats 1600000 in
set_option maxRecDepth 20000 in
theorem lput_full {σ : St} {l r : Nat} {V : LV} (H : LAt σ l r V) {x : Pk} (h1 : 0 ≤ x.id ∧ x.id ≤ 4611686018427387904) (h2 : 0 ≤ x.flow ∧ x.flow ≤ 2147483647) (h3 : 1 ≤ x.size ∧ x.size ≤ 2000) (hs : ∀ y ∈ V.L, 0 ≤ y.size ∧ y.size ≤ 2000) (hroom : x.size ≤ V.room - sumP V.L) (hr : -1000000000000 ≤ V.room ∧ V.room ≤ 1000000000000)
  (n f : Nat) (gl : σ.get l = some (.cells [.int .i64 V.lp, .int .i64 V.lb, .int .i64 V.room, .slice (some ⟨r, 0, some 0⟩) n n, .int .i64 f, .int .i64 V.L.length, .bool true] false)) (hn : n < 400000) (hpos : 0 < n) (hlt : V.L.length = n) :
  callX Tryz.prog 22 [.pointer (some ⟨l, 0, none⟩), x.val] σ fun e σ' lg => e = .ret (.int .i64 0) ∧ LPutR σ l r V x σ' lg := by
 have hl := H.lt.1
 have hrr := H.lt.2
 have hsum := sumP_bound V.L hs
 have w1 : IntKind.i64.wrap (V.room - sumP V.L) = V.room - sumP V.L := wrapI (by omega) (by omega)
 have w2 : IntKind.i64.wrap ((V.L.length : Int) + 1) = ((V.L.length + 1 : Nat) : Int) := by
  have : (V.L.length : Int) + 1 = ((V.L.length + 1 : Nat) : Int) := by omega
  rw [this]; exact wrapIN (by omega)
 have w3 : IntKind.i64.wrap (2 * (V.L.length : Int)) = ((2 * n : Nat) : Int) := by
  have : 2 * (V.L.length : Int) = ((2 * n : Nat) : Int) := by omega
  rw [this]; exact wrapIN (by omega)
 have c1 : ¬ V.room - sumP V.L < x.size := by omega
 have c2 : ((V.L.length : Int) == (n : Int)) = true := by rw [beq_iff_eq]; omega
 have n1 : ¬ l = r := H.ne
 have n3 : ¬ σ.next = l := by omega
 refine enter (p := q8) Tryz.func22 rfl stat22 ?_
 simp only [go_sem, seval, if_pos rfl, opLen, undef, Pk.val, Pk.cells, Tryz.f22, body23, body44, body45, body49]
 refine .of (lnone_call (l := l) (by simp only [go_sem, seval, if_pos rfl, opLen, hl, gl]; rfl)) ?_
 simp only [go_sem, seval, if_pos rfl, opLen, undef, body23, body44, body45, body49]
 refine .of (within98_call _ _ _ _) ?_
 simp only [go_sem, seval, if_pos rfl, opLen, undef, h1.1, h1.2, body23, body44, body45, body49]
 refine .of (within98_call _ _ _ _) ?_
 simp only [go_sem, seval, if_pos rfl, opLen, undef, h2.1, h2.2, body23, body44, body45, body49]
 refine .of (within98_call _ _ _ _) ?_
 simp only [go_sem, seval, if_pos rfl, opLen, undef, h3.1, h3.2, gl, hl, body23, body44, body45, body49]
 refine .of (bytes_call (H.keep (by simp only [go_sem, seval, if_pos rfl, opLen]) (by simp only [go_sem, seval, if_pos rfl, opLen, hl]) (by simp only [go_sem, seval, if_pos rfl, opLen, hrr])) hs) ?_
 simp only [go_sem, seval, if_pos rfl, opLen, undef, gl, hl, w1, c1, c2, body23, body44, body45, body48, body49]
 refine callX.hid (all_call (H.keep (by simp only [go_sem, seval, if_pos rfl, opLen]) (by simp only [go_sem, seval, if_pos rfl, opLen, hl]) (by simp only [go_sem, seval, if_pos rfl, opLen, hrr]))) ?_
 intro σ1 lg1 hlg1 hA
 obtain ⟨hB1, nx1, v, gv, hv⟩ := hA
 simp only [go_sem, seval, if_pos rfl, opLen] at hB1 nx1 gv hv
 have hL : V.L.length < 1000000 := by omega
 refine ⟨?_⟩
 simp only [go_sem, seval, if_pos rfl, opLen, undef, body23, body44, body45, body47, body48, body49]
 refine callX.hidE (collect_call gv nx1 hv hL) ?_
 intro e σ2 lg2 hlg2 hC
 obtain ⟨w, rfl, hB2, hw⟩ := hC
 have kp : ∀ c, c < σ.next + 1 → σ2.get c = σ1.get c ∧ σ1.get c = (σ.new (.cells [.int .i64 x.id, .int .i64 x.flow, .int .i64 x.size] false)).get c := fun c hc => ⟨hlg2.2 c (by omega) fun hm => by have := hB2 c hm; omega, hlg1.2 c (by simp only [go_sem, seval, if_pos rfl, opLen]; omega) fun hm => by have := hB1 c hm; omega⟩
 have gl2 : σ2.get l = some (.cells [.int .i64 V.lp, .int .i64 V.lb, .int .i64 V.room, .slice (some ⟨r, 0, some 0⟩) n n, .int .i64 f, .int .i64 V.L.length, .bool true] false) := by
  obtain ⟨a, b⟩ := kp l (by omega)
  rw [a, b, St.get_new, if_neg n3]; exact gl
 have gx2 : σ2.get σ.next = some (.cells [.int .i64 x.id, .int .i64 x.flow, .int .i64 x.size] false) := by
  obtain ⟨a, b⟩ := kp σ.next (by omega)
  rw [a, b, St.get_new, if_pos rfl]
 have nx2 : σ1.next ≤ σ2.next := hlg2.1
 have hl2 : l < σ2.next := by omega
 refine ⟨?_⟩
 simp only [go_sem, seval, if_pos rfl, opLen, undef, gl2, hl2, w3, body23, body44, body45, body46, body47, body48, body49]
 refine callX.hid (llay_call (n := 2 * n) gl2 hl2 hw (by omega) (by omega) (by omega)) ?_
 intro σ3 lg3 hlg3 hY
 obtain ⟨hB3, hr3, R, hRn, gl3, gr3, hR⟩ := hY
 have nx3 : σ2.next ≤ σ3.next := hlg3.1
 have hl3 : l < σ3.next := by omega
 have hx3 : σ.next < σ3.next := by omega
 have gx3 : σ3.get σ.next = some (.cells [.int .i64 x.id, .int .i64 x.flow, .int .i64 x.size] false) := (hlg3.2 _ (by omega) fun hm => by have := hB3 _ hm; omega).trans gx2
 have an1 : (lg1.any fun c => c == l) = false := List.any_eq_false.2 fun c hc => by have := hB1 c hc; simp; omega
 have an2 : (lg2.any fun c => c == l) = false := List.any_eq_false.2 fun c hc => by have := hB2 c hc; simp; omega
 have q1 : ¬ σ.next + 1 ≤ l := by omega
 have q2 : ¬ σ1.next ≤ l := by omega
 refine ⟨?_⟩
 simp only [go_sem, seval, if_pos rfl, opLen, undef, gl3, hl3, an1, an2, q1, q2, body23, body44, body45, body46, body47, body48, body49]
 refine .of (at_call (l := l) (r := σ2.next) (n := 2 * n) (f := 0) (k := V.L.length) gl3 (by omega) (by omega) (by omega) (by omega)) ?_
 have hidx : V.L.length % (2 * n) = n := by rw [hlt]; exact Nat.mod_eq_of_lt (by omega)
 have hR' : Ring R 0 V.L := hR
 have c3 : (0 : Int) ≤ (n : Int) := by omega
 have c4 : (n : Int) < ((2 * n : Nat) : Int) := by omega
 have lx : n * 3 + 3 ≤ (cellsP R).length := by rw [cellsP_length]; omega
 have ov := overP_at' (L := R) x (by omega : n < R.length)
 simp only [Pk.cells] at ov
 have m1 : ¬ l = σ2.next := by omega
 have m2 : ¬ σ2.next = l := by omega
 have m3 : ¬ σ2.next = σ.next := by omega
 have m4 : ¬ σ.next = σ2.next := by omega
 simp only [go_sem, seval, if_pos rfl, opLen, undef, hidx, Int.toNat_natCast, gl3, gr3, gx3, hl3, hr3, hx3, c3, c4, m1, m2, m3, m4, n3, lx, ov, w2, body23, body44, body45, body49]
 have hput := hR'.put (by omega) x
 rw [hRn, Nat.zero_add, hidx] at hput
 have hll : (V.L ++ [x]).length = V.L.length + 1 := by rw [List.length_append]; rfl
 have hRl : (R.set n x).length = 2 * n := by rw [List.length_set, hRn]
 refine ⟨fun z hz => ?_, σ2.next, .inr (by omega), ⟨R.set n x, 0, ?_, ?_, hput, by omega⟩, m1, by simp only [go_sem, seval, if_pos rfl, opLen, St.next_put] <;> omega⟩
 ·simp only [List.mem_append, List.mem_cons, List.not_mem_nil, or_false] at hz
  rcases hz with ((hz | hz) | hz) | hz | hz
  ·have := hB1 z hz; omega
  ·have := hB2 z hz; omega
  ·have := hB3 z hz; omega
  ·omega
  ·omega
 ·rw [hRl, hll, St.get_set, if_pos rfl]; rfl
 ·simp only [go_sem, seval, if_pos rfl, opLen, hr3, m1]
theorem lput_call {σ : St} {l r : Nat} {V : LV} (H : LAt σ l r V) {x : Pk} (h1 : 0 ≤ x.id ∧ x.id ≤ 4611686018427387904) (h2 : 0 ≤ x.flow ∧ x.flow ≤ 2147483647) (h3 : 1 ≤ x.size ∧ x.size ≤ 2000) (hs : ∀ y ∈ V.L, 0 ≤ y.size ∧ y.size ≤ 2000) (hroom : x.size ≤ V.room - sumP V.L) (hr : -1000000000000 ≤ V.room ∧ V.room ≤ 1000000000000) (hn : V.L.length < 400000) :
  callX Tryz.prog 22 [.pointer (some ⟨l, 0, none⟩), x.val] σ fun e σ' lg => e = .ret (.int .i64 0) ∧ LPutR σ l r V x σ' lg := by
 obtain ⟨R, f, gl, gr, hR, hRs⟩ := H.core
 by_cases e : V.L.length < R.length
 ·exact lput_free H h1 h2 h3 hs hroom hr R.length f R rfl gl gr hR hRs e
 ·have := hR.le
  have := hR.lt
  exact lput_full H h1 h2 h3 hs hroom hr R.length f gl (by omega) (by omega) (by omega)
end Go.Ab
namespace Go.Ab
open Go.Proofs
theorem lnew_call {σ : St} {room : Int} (h : 0 ≤ room ∧ room ≤ 1000000000) : callX Tryz.prog 12 [.int .i64 room] σ fun e σ' lg => e = .ret (.tuple ⟨[.pointer (some ⟨σ.next + 1, 0, none⟩), .int .i64 0]⟩) ∧ ((∀ z ∈ lg, σ.next ≤ z) ∧ LAt σ' (σ.next + 1) σ.next ⟨0, 0, room, []⟩) := by
 have hmk := pk_make (σ := σ) (n := 1) (by omega)
 simp only [Int.cast_ofNat_Int] at hmk
 refine enter (p := q8) Tryz.func12 rfl stat12 ?_
 simp only [go_sem, seval, if_pos rfl, opLen, undef, Tryz.f12, body23]
 refine .of (within98_call _ _ _ _) ?_
 simp only [go_sem, seval, if_pos rfl, opLen, undef, h.1, h.2, hmk, body23]
 refine ⟨⟨List.replicate 1 Pk.zero, 0, ?_, ?_, ⟨by simp, by simp, fun i x h => by simp at h⟩, by simp⟩, by omega, by simp only [go_sem, seval, if_pos rfl, opLen] <;> omega⟩
 ·simp only [go_sem, seval, if_pos rfl, opLen]
 ·simp only [go_sem, seval, if_pos rfl, opLen]
theorem lfirst_call {σ : St} {l r : Nat} {V : LV} (H : LAt σ l r V) {x : Pk} {L : List Pk} (hL : V.L = x :: L) : DCall Tryz.prog 66 [.pointer (some ⟨l, 0, none⟩)] σ (.ret (.tuple ⟨[x.val, .bool true]⟩)) σ [] := by
 obtain ⟨R, f, gl, gr, hR, hRs⟩ := H.core
 have hl := H.lt.1
 have hrr := H.lt.2
 have hf := hR.lt
 have hx := hR.at' 0 x (by rw [hL]; rfl)
 rw [Nat.add_zero, Nat.mod_eq_of_lt hf] at hx
 have ex := cellsP_at' hx
 have lx : f * 3 + 3 ≤ (cellsP R).length := by rw [cellsP_length]; omega
 simp only [Pk.cells] at ex
 have c1 : (0 : Int) ≤ (f : Int) := by omega
 have c2 : (f : Int) < (R.length : Int) := by omega
 have c3 : ((V.L.length : Int) == 0) = false := by rw [beq_eq_false_iff_ne, hL, List.length_cons]; omega
 have n1 : ¬ σ.next = l := by omega
 have n2 : ¬ σ.next = r := by omega
 refine pure_call (enter (p := q8) Tryz.func66 rfl stat66 ?_) rfl
 simp only [go_sem, seval, if_pos rfl, opLen, undef, Pk.val, Pk.cells, Tryz.f66, body44]
 refine .of (lnone_call (l := l) (by simp only [go_sem, seval, if_pos rfl, opLen, hl, gl]; rfl)) ?_
 simp only [go_sem, seval, if_pos rfl, opLen, undef, Int.toNat_natCast, gl, gr, hl, hrr, c1, c2, c3, ex, lx, n1, n2, body44]
theorem lfirst_none {σ : St} {l r : Nat} {V : LV} (H : LAt σ l r V) (hL : V.L = []) : DCall Tryz.prog 66 [.pointer (some ⟨l, 0, none⟩)] σ (.ret (.tuple ⟨[Pk.zero.val, .bool false]⟩)) σ [] := by
 obtain ⟨R, f, gl, gr, hR, hRs⟩ := H.core
 have hl := H.lt.1
 have c3 : ((V.L.length : Int) == 0) = true := by rw [hL]; rfl
 refine pure_call (enter (p := q8) Tryz.func66 rfl stat66 ?_) rfl
 simp only [go_sem, seval, if_pos rfl, opLen, undef, Pk.val, Pk.cells, Pk.zero, Tryz.f66, body44]
 refine .of (lnone_call (l := l) (by simp only [go_sem, seval, if_pos rfl, opLen, hl, gl]; rfl)) ?_
 simp only [go_sem, seval, if_pos rfl, opLen, undef, gl, hl, c3, body44]
def LTakeR (σ : St) (l r : Nat) (V : LV) (L : List Pk) (σ' : St) (lg : Log) : Prop := (∀ z ∈ lg, z = l ∨ σ.next ≤ z) ∧ LAt σ' l r { V with L := L }
theorem ltake_call {σ : St} {l r : Nat} {V : LV} (H : LAt σ l r V) {x : Pk} {L : List Pk} (hL : V.L = x :: L) : callX Tryz.prog 37 [.pointer (some ⟨l, 0, none⟩)] σ fun e σ' lg => e = .ret (.tuple ⟨[x.val, .bool true]⟩) ∧ LTakeR σ l r V L σ' lg := by
 obtain ⟨R, f, gl, gr, hR, hRs⟩ := H.core
 have hl := H.lt.1
 have hrr := H.lt.2
 have hf := hR.lt
 have n1 : ¬ σ.next = l := by omega
 have n2 : ¬ σ.next = r := by omega
 have n3 : ¬ l = r := H.ne
 have w1 : IntKind.i64.wrap ((V.L.length : Int) - 1) = (L.length : Int) := by
  have : (V.L.length : Int) - 1 = (L.length : Int) := by rw [hL, List.length_cons]; omega
  rw [this]; exact wrapIN (by have := hR.le; rw [hL, List.length_cons] at this; omega)
 refine enter (p := q8) Tryz.func37 rfl stat37 ?_
 simp only [go_sem, seval, if_pos rfl, opLen, undef, Pk.val, Pk.cells, Tryz.f37, body49, body66]
 refine .of (lfirst_call (H.keep (by simp only [go_sem, seval, if_pos rfl, opLen]) (by simp only [go_sem, seval, if_pos rfl, opLen, hl]) (by simp only [go_sem, seval, if_pos rfl, opLen, hrr])) hL) ?_
 simp only [go_sem, seval, if_pos rfl, opLen, undef, Pk.val, Pk.cells, body49, body66]
 refine .of (at_call (l := l) (r := r) (n := R.length) (f := f) (k := 1) (by simp only [go_sem, seval, if_pos rfl, opLen, hl, gl]; rfl) (by simp only [go_sem, seval, if_pos rfl, opLen]; omega) (by omega) hf (by omega)) ?_
 simp only [go_sem, seval, if_pos rfl, opLen, undef, gl, hl, n1, n2, n3, w1, body49, body66]
 have hR' : Ring R f (x :: L) := hL ▸ hR
 refine ⟨fun z hz => by simp at hz; omega, ⟨R, (f + 1) % R.length, ?_, ?_, hR'.take, hRs⟩, H.ne, by simp only [go_sem, seval, if_pos rfl, opLen, St.next_put] <;> omega⟩
 ·rw [St.get_set, if_neg n1, St.get_set, if_pos rfl]
 ·simp only [go_sem, seval, if_pos rfl, opLen, hrr, n3]
  exact gr
theorem ltake_none {σ : St} {l r : Nat} {V : LV} (H : LAt σ l r V) (hL : V.L = []) : DCall Tryz.prog 37 [.pointer (some ⟨l, 0, none⟩)] σ (.ret (.tuple ⟨[Pk.zero.val, .bool false]⟩)) σ [] := by
 have hl := H.lt.1
 have hrr := H.lt.2
 refine pure_call (enter (p := q8) Tryz.func37 rfl stat37 ?_) rfl
 simp only [go_sem, seval, if_pos rfl, opLen, undef, Pk.val, Pk.cells, Pk.zero, Tryz.f37, body49, body66]
 refine .of (lfirst_none (H.keep (by simp only [go_sem, seval, if_pos rfl, opLen]) (by simp only [go_sem, seval, if_pos rfl, opLen, hl]) (by simp only [go_sem, seval, if_pos rfl, opLen, hrr])) hL) ?_
 simp only [go_sem, seval, if_pos rfl, opLen, undef, Pk.val, Pk.cells, Pk.zero, body49, body66]
end Go.Ab
namespace Go.Ab
open Go.Proofs
theorem QAt.in_lt {σ : St} {b : QB} {Q : QV} (H : QAt σ b Q) {c : Nat} (h : Foot b Q c) : c < σ.next := by
 rcases h with h | ⟨k, x, hx, rfl⟩
 ·exact H.lt c h
 ·exact (H.fl k x hx).2.1
def OnV.cells (o : OnV) : List Value := [.int .i64 o.pk.id, .int .i64 o.pk.flow, .int .i64 o.pk.size, .bool o.prom, .int .i64 o.n, .int .i64 o.d, .int .i64 o.fin, .int .i64 o.left]
structure PV where
 Q : QV
 V : LV
 on : Option OnV
 rate : Int
 most : Int
 now : Int
structure PB where
 p : Nat
 l : Nat
 r : Nat
 o : Option Nat
 b : QB
def onPtr : Option Nat → Value
 | none => .pointer none
 | some o => .pointer (some ⟨o, 0, none⟩)
def PFoot (B : PB) (Q : QV) (c : Nat) : Prop := c = B.p ∨ c = B.l ∨ c = B.r ∨ B.o = some c ∨ Foot B.b Q c
structure OnAt (σ : St) (B : PB) (Q : QV) (on : Option OnV) : Prop where
 has : B.o.isSome = on.isSome
 get : ∀ o x, B.o = some o → on = some x → σ.get o = some (.cells x.cells false) ∧ o < σ.next ∧ o ≠ B.p ∧ o ≠ B.l ∧ o ≠ B.r ∧ ¬ Foot B.b Q o
structure PAt (σ : St) (B : PB) (S : PV) : Prop where
 gp : σ.get B.p = some (.cells [.pointer (some ⟨B.b.q, 0, none⟩), .pointer (some ⟨B.l, 0, none⟩), .int .i64 S.rate, .int .i64 S.most, .int .i64 S.now, onPtr B.o] false)
 q : QAt σ B.b S.Q
 l : LAt σ B.l B.r S.V
 on : OnAt σ B S.Q S.on
 lt : B.p < σ.next
 pl : B.p ≠ B.l
 pr : B.p ≠ B.r
 pf : ¬ Foot B.b S.Q B.p
 lf : ¬ Foot B.b S.Q B.l
 rf : ¬ Foot B.b S.Q B.r
theorem PAt.in_lt {σ : St} {B : PB} {S : PV} (H : PAt σ B S) {c : Nat} (h : PFoot B S.Q c) : c < σ.next := by
 rcases h with rfl | rfl | rfl | h | h
 ·exact H.lt
 ·exact H.l.lt.1
 ·exact H.l.lt.2
 ·have := H.on.has
  rw [h] at this
  cases hx : S.on with
  | none => rw [hx] at this; cases this
  | some x => exact (H.on.get c x h hx).2.1
 ·exact H.q.in_lt h
theorem PAt.keep {σ σ' : St} {B : PB} {S : PV} (H : PAt σ B S) (hn : σ.next ≤ σ'.next) (hg : ∀ c, PFoot B S.Q c → σ'.get c = σ.get c) : PAt σ' B S :=
  { H with
    gp := (hg _ (.inl rfl)).trans H.gp
    q := H.q.keep hn fun c hc => hg c (.inr (.inr (.inr (.inr hc))))
    l := H.l.keep hn (hg _ (.inr (.inl rfl))) (hg _ (.inr (.inr (.inl rfl))))
    on := ⟨H.on.has, fun o x h1 h2 => by
      obtain ⟨a, b, c⟩ := H.on.get o x h1 h2
      exact ⟨(hg o (.inr (.inr (.inr (.inl h1))))).trans a, by omega, c⟩⟩
    lt := by have := H.lt; omega }
theorem within67_call (n a b : Int) (σ : St) : DCall Tryz.prog 13 [.int .i64 n, .int .i64 a, .int .i64 b] σ (.ret (.bool (decide (a ≤ n) && decide (n ≤ b)))) σ [] := by
 refine pure_call (enter (p := q8) Tryz.func13 rfl stat13 ?_) rfl
 by_cases h : a ≤ n
 ·simp only [go_sem, seval, if_pos rfl, opLen, Tryz.f13, h]
 ·simp only [go_sem, seval, if_pos rfl, opLen, undef, Tryz.f13, h]
theorem pnone_call {σ : St} {p q : Nat} {c1 c2 c3 c4 c5 : Value} (h : σ.get p = some (.cells [.pointer (some ⟨q, 0, none⟩), c1, c2, c3, c4, c5] false)) : DCall Tryz.prog 16 [.pointer (some ⟨p, 0, none⟩)] σ (.ret (.bool false)) σ [] := by
 refine pure_call (enter (p := q8) Tryz.func16 rfl stat16 ?_) rfl
 simp only [go_sem, seval, if_pos rfl, opLen, Tryz.f16, h]
def P0 (rate most now room : Int) : PV := ⟨Q0, ⟨0, 0, room, []⟩, none, rate, most, now⟩
def PNewR (σ : St) (rate most now room : Int) (e : AE) (σ' : St) (lg : Log) : Prop :=
 ∃ B : PB, e = .ret (.tuple ⟨[.pointer (some ⟨B.p, 0, none⟩), .int .i64 0]⟩) ∧ (∀ z ∈ lg, σ.next ≤ z) ∧ PAt σ' B (P0 rate most now room) ∧ ∀ c, PFoot B Q0 c → σ.next ≤ c
theorem foot_q0 {b : QB} {c : Nat} : Foot b Q0 c ↔ c ∈ b.core := by
 constructor
 ·rintro (h | ⟨k, x, hx, _⟩)
  ·exact h
  ·cases hx
 ·exact .inl
set_option maxRecDepth 20000 in
theorem pnew_call {σ : St} {rate most room now : Int} (h1 : 1 ≤ rate ∧ rate ≤ 1000000) (h2 : 1 ≤ most ∧ most ≤ 2000) (h3 : 0 ≤ room ∧ room ≤ 1000000000) (h4 : 0 ≤ now ∧ now ≤ 2147483647) :
    callX Tryz.prog 4 [.int .i64 rate, .int .i64 most, .int .i64 room, .int .i64 now] σ (PNewR σ rate most now room) := by
  refine enter (p := q8) Tryz.func4 rfl stat4 ?_
  simp only [go_sem, seval, if_pos rfl, opLen, undef, Tryz.f4, body14, body12, body13]
  refine callX.hid (lnew_call h3) ?_
  intro σ1 lg1 hlg1 hA
  obtain ⟨hB1, HL⟩ := hA
  have nx1 := HL.lt.1
  refine ⟨?_⟩
  simp only [go_sem, seval, if_pos rfl, opLen, undef, body14, body12, body13]
  refine .of (within67_call _ _ _ _) ?_
  simp only [go_sem, seval, if_pos rfl, opLen, undef, h1.1, h1.2, body14, body12, body13]
  refine .of (within67_call _ _ _ _) ?_
  simp only [go_sem, seval, if_pos rfl, opLen, undef, h2.1, h2.2, body14, body12, body13]
  refine .of (within67_call _ _ _ _) ?_
  simp only [go_sem, seval, if_pos rfl, opLen, undef, h4.1, h4.2, body14, body12, body13]
  refine callX.hid (qnew_call σ1) ?_
  intro σ2 lg2 hlg2 hN
  obtain ⟨hB2, HQ⟩ := hN
  refine ⟨?_⟩
  simp only [go_sem, seval, if_pos rfl, opLen, undef, body14, body12, body13]
  have nx2 := hlg2.1
  have ltq := HQ.lt
  simp only [QB.core, List.mem_cons, List.not_mem_nil, or_false] at ltq
  have lt4 := ltq (σ1.next + 4) (.inl rfl)
  have kp : ∀ c, c < σ1.next → σ2.get c = σ1.get c := fun c hc => hlg2.2 c hc fun hm => by have := hB2 c hm; omega
  have hfoot : ∀ c, Foot ⟨σ1.next + 4, σ1.next + 2, σ1.next + 3, σ1.next + 1, σ1.next, []⟩ Q0 c → σ1.next ≤ c ∧ c < σ2.next := fun c hc => by
    have h1 := HQ.in_lt hc
    rw [foot_q0] at hc
    simp only [QB.core, List.mem_cons, List.not_mem_nil, or_false] at hc
    omega
  refine ⟨⟨σ2.next, σ.next + 1, σ.next, none, ⟨σ1.next + 4, σ1.next + 2, σ1.next + 3, σ1.next + 1, σ1.next, []⟩⟩, rfl, fun z hz => ?_, ?_, fun c hc => ?_⟩
  · rcases List.mem_append.1 hz with hz | hz
    · exact hB1 z hz
    · have := hB2 z hz; omega
  · exact { gp := by rw [St.get_new, if_pos rfl]; rfl
            q := HQ.keep (by rw [St.next_new]; omega) fun c hc => by rw [St.get_new, if_neg (by have := hfoot c hc; omega)]
            l := HL.keep (by rw [St.next_new]; omega) (by rw [St.get_new, if_neg (by omega)]; exact kp _ (by omega)) (by rw [St.get_new, if_neg (by omega)]; exact kp _ (by omega))
            on := ⟨rfl, fun o x h => by cases h⟩
            lt := by rw [St.next_new]; exact Nat.lt_succ_self _
            pl := by show σ2.next ≠ σ.next + 1; omega
            pr := by show σ2.next ≠ σ.next; omega
            pf := fun h => by have := hfoot _ h; exact absurd this.2 (Nat.lt_irrefl _)
            lf := fun h => by have := (hfoot (σ.next + 1) h).1; omega
            rf := fun h => by have := (hfoot σ.next h).1; omega }
  · rcases hc with h | h | h | h | h
    · have h : c = σ2.next := h
      omega
    · have h : c = σ.next + 1 := h
      omega
    · have h : c = σ.next := h
      omega
    · cases h
    · have := (hfoot c h).1; omega
theorem PAt.line {σ σ' : St} {B : PB} {S : PV} {r' : Nat} {V' : LV} (H : PAt σ B S) (hn : σ.next ≤ σ'.next) (hg : ∀ c, c < σ.next → c ≠ B.l → c ≠ B.r → σ'.get c = σ.get c) (hl : LAt σ' B.l r' V') (hr : r' = B.r ∨ σ.next ≤ r') : PAt σ' { B with r := r' } { S with V := V' } := by
  have hp := H.lt
  have hpl := H.pl
  have hpr := H.pr
  have hfo : ∀ c, Foot B.b S.Q c → c ≠ B.l ∧ c ≠ B.r := fun c hc => ⟨fun e => H.lf (e ▸ hc), fun e => H.rf (e ▸ hc)⟩
  exact { gp := (hg _ hp hpl hpr).trans H.gp
          q := H.q.keep hn fun c hc => hg c (H.q.in_lt hc) (hfo c hc).1 (hfo c hc).2
          l := hl
          on := ⟨H.on.has, fun o x h1 h2 => by
            obtain ⟨a, b, c1, c2, c3, c4⟩ := H.on.get o x h1 h2
            exact ⟨(hg o b c2 c3).trans a, by omega, c1, c2, by show o ≠ r'; omega, c4⟩⟩
          lt := by have := H.lt; show B.p < _; omega
          pl := hpl
          pr := by show B.p ≠ r'; omega
          pf := H.pf
          lf := H.lf
          rf := fun h => by
            have h : Foot B.b S.Q r' := h
            rcases hr with rfl | hr
            · exact H.rf h
            · have := H.q.in_lt h; omega }
theorem PAt.queue {σ σ' : St} {B : PB} {S : PV} {b' : QB} {Q' : QV} (H : PAt σ B S) (hn : σ.next ≤ σ'.next) (hg : ∀ c, c < σ.next → ¬ Foot B.b S.Q c → σ'.get c = σ.get c) (hq : QAt σ' b' Q') (hbq : b'.q = B.b.q) (hf : ∀ c, Foot b' Q' c → Foot B.b S.Q c ∨ σ.next ≤ c) : PAt σ' { B with b := b' } { S with Q := Q' } := by
  have hll := H.l.lt
  have no : ∀ c, c < σ.next → ¬ Foot B.b S.Q c → ¬ Foot b' Q' c := fun c hc hn h => by
    rcases hf c h with h | h
    · exact hn h
    · omega
  exact { gp := by show σ'.get B.p = some (.cells [.pointer (some ⟨b'.q, 0, none⟩), _, _, _, _, _] false); rw [hbq]; exact (hg _ H.lt H.pf).trans H.gp
          q := hq
          l := H.l.keep hn (hg _ hll.1 H.lf) (hg _ hll.2 H.rf)
          on := ⟨H.on.has, fun o x h1 h2 => by
            obtain ⟨a, b, c1, c2, c3, c4⟩ := H.on.get o x h1 h2
            exact ⟨(hg o b c4).trans a, by omega, c1, c2, c3, no o b c4⟩⟩
          lt := by have := H.lt; show B.p < _; omega
          pl := H.pl
          pr := H.pr
          pf := no _ H.lt H.pf
          lf := no _ hll.1 H.lf
          rf := no _ hll.2 H.rf }
end Go.Ab
namespace Go.Ab
open Go.Proofs
def PAddR (σ : St) (B : PB) (S : PV) (flow rate room : Int) (σ' : St) (lg : Log) : Prop :=
 (∀ z ∈ lg, PFoot B S.Q z ∨ σ.next ≤ z) ∧ ∃ blk, σ.next ≤ blk ∧ PAt σ' B { S with Q := { S.Q with F := updF S.Q.F flow (some ⟨blk, rate, room, 0, S.now, 1⟩), nf := S.Q.nf + 1 } }
theorem padd_call {σ : St} {B : PB} {S : PV} (H : PAt σ B S) (flow rate room : Int) (h : (0 ≤ flow ∧ flow ≤ 2147483647) ∧ (1 ≤ rate ∧ rate ≤ 1000000) ∧ (0 ≤ room ∧ room ≤ 1000000000)) (hnow : 0 ≤ S.now ∧ S.now ≤ 2147483647) (hF : S.Q.F flow = none) (hn : S.Q.nf < 32) :
  callX Tryz.prog 6 [.pointer (some ⟨B.p, 0, none⟩), .int .i64 flow, .int .i64 rate, .int .i64 room] σ fun e σ' lg => e = .ret (.int .i64 0) ∧ PAddR σ B S flow rate room σ' lg := by
 have gp := H.gp
 have hp := H.lt
 refine enter (p := q8) Tryz.func6 rfl stat6 ?_
 simp only [go_sem, seval, if_pos rfl, opLen, undef, Tryz.f6, body17, body16]
 refine .of (pnone_call gp) ?_
 simp only [go_sem, seval, if_pos rfl, opLen, undef, gp, hp, body17, body16]
 refine callX.hid (qadd_call H.q flow rate room S.now h hnow hF hn) ?_
 intro σ1 lg1 hlg1 hA
 obtain ⟨h1, blk, hb, hq⟩ := hA
 refine ⟨?_⟩
 simp only [go_sem, seval, if_pos rfl, opLen, undef, gp, hp, body17, body16]
 have h1' : ∀ z ∈ lg1, Foot B.b S.Q z ∨ σ.next ≤ z := fun z hz => (h1 z hz).imp .inl id
 refine ⟨fun z hz => (h1' z hz).imp (fun h => .inr (.inr (.inr (.inr h)))) id, blk, hb, H.queue (b' := B.b) hlg1.1 (fun c hc hn => hlg1.2 c hc fun hm => by
  rcases h1' c hm with h | h
  ·exact hn h
  ·omega) hq rfl fun c hc => ?_⟩
 rcases hc with hc | ⟨k, z, hz, rfl⟩
 ·exact .inl (.inl hc)
 ·by_cases hk : k = flow
  ·subst hk
   have e : updF S.Q.F k (some ⟨blk, rate, room, 0, S.now, 1⟩) k = some z := hz
   rw [updF_same] at e
   cases e
   exact .inr hb
  ·have e : updF S.Q.F flow (some ⟨blk, rate, room, 0, S.now, 1⟩) k = some z := hz
   rw [updF_other _ _ hk] at e
   exact .inl (.inr ⟨k, z, e, rfl⟩)
def PPromR (σ : St) (B : PB) (S : PV) (id flow size : Int) (x : FlowV) (n d : Int) (σ' : St) (lg : Log) : Prop :=
 (∀ z ∈ lg, PFoot B S.Q z ∨ σ.next ≤ z) ∧ ∃ A', (∀ c ∈ A', c ∈ B.b.A ∨ σ.next ≤ c) ∧
  PAt σ' { B with b := { B.b with A := A' } } { S with Q := { S.Q with F := updF S.Q.F flow (some { x with bytes := x.bytes + size, n := n, d := d }), P := updF S.Q.P id (some (flow, size)), np := S.Q.np + 1, L := riseL (S.Q.L.length + 1) (S.Q.L ++ [⟨id, n, d, S.Q.t + 1⟩]) S.Q.L.length, t := S.Q.t + 1 } }
set_option maxRecDepth 20000 in
theorem pprom_call {σ : St} {B : PB} {S : PV} (H : PAt σ B S) (id flow : Int) (size now s R : Nat) {x : FlowV} (hnw : S.now = (now : Nat)) (hm : (size : Int) ≤ S.most) (hF : S.Q.F flow = some x) (hP : S.Q.P id = none) (hid : 0 ≤ id ∧ id ≤ 4611686018427387904) (hfl : 0 ≤ flow ∧ flow ≤ 2147483647) (hsz : 1 ≤ size ∧ size ≤ 2000) (hnow : now ≤ 2147483647)
  (hx1 : x.rate = R) (hx2 : x.n = fN s R) (hx3 : x.d = fD s R) (hR : 1 ≤ R ∧ R ≤ 1000000) (hS : s < 1000000000000000000) (hb : -100000000 ≤ x.bytes ∧ x.bytes ≤ 100000000) (hr : 0 ≤ x.room ∧ x.room ≤ 1000000000) (hroom : x.bytes + size ≤ x.room) (hnp : S.Q.np < 50000) (hnew : ∀ y ∈ S.Q.L, y.id ≠ id) (hL : S.Q.L.length < 1000) (ht : 0 ≤ S.Q.t ∧ S.Q.t < 1000000) :
  callX Tryz.prog 7 [.pointer (some ⟨B.p, 0, none⟩), .agg ⟨[.int .i64 id, .int .i64 flow, .int .i64 size]⟩] σ fun e σ' lg =>
   e = .ret (.tuple ⟨[.agg ⟨[.int .i64 (fN (max (now * R) s + size) R : Int), .int .i64 (fD (max (now * R) s + size) R : Int)]⟩, .int .i64 0]⟩) ∧ PPromR σ B S id flow size x (fN (max (now * R) s + size) R) (fD (max (now * R) s + size) R) σ' lg := by
 have gp := H.gp
 have hp := H.lt
 rw [hnw] at gp
 have c1 : ¬ S.most < (size : Int) := by omega
 have n1 : ¬ σ.next = B.p := by omega
 have n2 : ¬ σ.next + 1 = B.p := by omega
 have hqk : ∀ c, Foot B.b S.Q c → c < σ.next := fun c hc => H.q.in_lt hc
 refine enter (p := q8) Tryz.func7 rfl stat7 ?_
 simp only [go_sem, seval, if_pos rfl, opLen, undef, Tryz.f7, body18, body16]
 refine .of (pnone_call (p := B.p) (by simp only [go_sem, seval, if_pos rfl, opLen, hp, gp]; rfl)) ?_
 simp only [go_sem, seval, if_pos rfl, opLen, undef, gp, hp, c1, body18, body16]
 refine callX.hid (qput_call (H.q.keep (by simp only [go_sem, seval, if_pos rfl, opLen]) fun c hc => by have := hqk c hc; simp only [go_sem, seval, if_pos rfl, opLen, this]) id flow size now s R hF hP hid hfl hsz hnow hx1 hx2 hx3 hR hS hb hr hroom hnp hnew hL ht) ?_
 intro σ1 lg1 hlg1 hA
 obtain ⟨hB, A', hA', HQ⟩ := hA
 simp only [go_sem, seval, if_pos rfl, opLen] at hB hA'
 have nx := hlg1.1
 simp only [go_sem, seval, if_pos rfl, opLen] at nx
 have gk : ∀ c, c < σ.next + 2 → ¬ Foot B.b S.Q c → σ1.get c = ((σ.new (.cells [.int .i64 id, .int .i64 flow, .int .i64 size] false)).new (.cells [.int .i64 0, .int .i64 0] false)).get c := fun c hc hn => hlg1.2 c (by simp only [go_sem, seval, if_pos rfl, opLen]; omega) fun hm => by
  rcases hB c hm with h | h
  ·exact hn h
  ·omega
 have g1 := gk (σ.next + 1) (by omega) fun h => by have := hqk _ h; omega
 simp only [go_sem, seval, if_pos rfl, opLen] at g1
 have k1 : σ.next + 1 < σ1.next := by omega
 refine ⟨?_⟩
 have q1 : ¬ σ.next + 2 ≤ B.p := by omega
 simp only [go_sem, seval, if_pos rfl, opLen, undef, g1, k1, q1, body18, body16]
 have hfo : ∀ c, Foot { B.b with A := A' } { S.Q with F := updF S.Q.F flow (some { x with bytes := x.bytes + size, n := (fN (max (now * R) s + size) R : Nat), d := (fD (max (now * R) s + size) R : Nat) }), P := updF S.Q.P id (some (flow, (size : Int))), np := S.Q.np + 1, L := riseL (S.Q.L.length + 1) (S.Q.L ++ [⟨id, (fN (max (now * R) s + size) R : Nat), (fD (max (now * R) s + size) R : Nat), S.Q.t + 1⟩]) S.Q.L.length, t := S.Q.t + 1 } c → Foot B.b S.Q c ∨ σ.next + 2 ≤ c := by
  intro c hc
  rcases hc with hc | ⟨k, z, hz, rfl⟩
  ·simp only [QB.core, List.mem_cons] at hc
   rcases hc with h | h | h | h | h | h
   ·exact .inl (.inl (by simp [QB.core, h]))
   ·exact .inl (.inl (by simp [QB.core, h]))
   ·exact .inl (.inl (by simp [QB.core, h]))
   ·exact .inl (.inl (by simp [QB.core, h]))
   ·exact .inl (.inl (by simp [QB.core, h]))
   ·rcases hA' c h with h | h
    ·exact .inl (.inl (by simp [QB.core, h]))
    ·exact .inr h
  ·by_cases hk : k = flow
   ·subst hk
    have e := hz
    simp only [updF_same, Option.some.injEq] at e
    subst e
    exact .inl (.inr ⟨k, x, hF, rfl⟩)
   ·have e := hz
    simp only [updF_other _ _ hk] at e
    exact .inl (.inr ⟨k, z, e, rfl⟩)
 refine ⟨fun z hz => ?_, A', fun c hc => (hA' c hc).imp _root_.id fun h => by omega, H.queue (b' := { B.b with A := A' }) (by simp only [go_sem, seval, if_pos rfl, opLen, St.next_put] <;> omega) (fun c hc hn => ?_) (HQ.keep (by simp only [go_sem, seval, if_pos rfl, opLen, St.next_put] <;> omega) fun c hc => ?_) rfl fun c hc => (hfo c hc).imp _root_.id fun h => by omega⟩
 ·rcases List.mem_append.1 hz with hz | hz
  ·rcases hB z hz with h | h
   ·exact .inl (.inr (.inr (.inr (.inr h))))
   ·exact .inr (by omega)
  ·simp at hz; exact .inr (by omega)
 ·rw [St.get_set, if_neg (by omega), gk c (by omega) hn, St.get_new, if_neg (by rw [St.next_new]; omega), St.get_new, if_neg (by omega)]
 ·rw [St.get_set, if_neg fun e => ?_]
  rcases hfo c hc with h | h
  ·have := hqk c h; omega
  ·omega
theorem under_some {σ : St} {B : PB} {S : PV} (H : PAt σ B S) {x : OnV} (hx : S.on = some x) : DCall Tryz.prog 9 [.pointer (some ⟨B.p, 0, none⟩)] σ (.ret (.tuple ⟨[x.pk.val, .int .i64 x.left, .bool true]⟩)) σ [] := by
 have gp := H.gp
 have hp := H.lt
 obtain ⟨o, ho⟩ : ∃ o, B.o = some o := by
  have := H.on.has
  rw [hx] at this
  exact Option.isSome_iff_exists.1 this
 obtain ⟨go, hol, hop, _, _, _⟩ := H.on.get o x ho hx
 rw [ho] at gp
 simp only [onPtr] at gp
 simp only [OnV.cells] at go
 have n1 : ¬ σ.next = B.p := by omega
 have n2 : ¬ σ.next = o := by omega
 refine pure_call (enter (p := q8) Tryz.func9 rfl stat9 ?_) rfl
 simp only [go_sem, seval, if_pos rfl, opLen, undef, Pk.val, Pk.cells, Tryz.f9, body16]
 refine .of (pnone_call (p := B.p) (by simp only [go_sem, seval, if_pos rfl, opLen, hp, gp]; rfl)) ?_
 simp only [go_sem, seval, if_pos rfl, opLen, undef, gp, hp, go, hol, n1, n2, body16]
theorem under_none {σ : St} {B : PB} {S : PV} (H : PAt σ B S) (hx : S.on = none) : DCall Tryz.prog 9 [.pointer (some ⟨B.p, 0, none⟩)] σ (.ret (.tuple ⟨[Pk.zero.val, .int .i64 0, .bool false]⟩)) σ [] := by
 have gp := H.gp
 have hp := H.lt
 have ho : B.o = none := by
  have := H.on.has
  rw [hx] at this
  cases h : B.o with
  | none => rfl
  | some o => rw [h] at this; cases this
 rw [ho] at gp
 simp only [onPtr] at gp
 refine pure_call (enter (p := q8) Tryz.func9 rfl stat9 ?_) rfl
 simp only [go_sem, seval, if_pos rfl, opLen, undef, Pk.val, Pk.cells, Pk.zero, Tryz.f9, body16]
 refine .of (pnone_call (p := B.p) (by simp only [go_sem, seval, if_pos rfl, opLen, hp, gp]; rfl)) ?_
 simp only [go_sem, seval, if_pos rfl, opLen, undef, gp, hp, body16]
end Go.Ab
namespace Go.Ab
open Go.Proofs
structure Head (Q : QV) (y : Item) (flow size : Int) (x : FlowV) : Prop where
 head : Q.L[0]? = some y
 pack : Q.P y.id = some (flow, size)
 flow : Q.F flow = some x
 size : 1 ≤ size ∧ size ≤ 2000
 bytes : -100000000 ≤ x.bytes ∧ x.bytes ≤ 100000000
def takeV (Q : QV) (y : Item) (flow size : Int) (x : FlowV) : QV := { Q with F := updF Q.F flow (some { x with bytes := x.bytes - size }), P := updF Q.P y.id none, np := Q.np - 1, L := outL Q.L 0 }
def qOn (y : Item) (flow size : Int) : OnV := ⟨⟨y.id, flow, size⟩, true, y.n, y.d, 0, size⟩
def noOn (b : Bool) : OnV := ⟨⟨0, 0, 0⟩, b, 0, 0, 0, 0⟩
theorem takeV_foot {b : QB} {Q : QV} {y : Item} {flow size : Int} {x : FlowV} (h : Head Q y flow size x) {c : Nat} (hc : Foot b (takeV Q y flow size x) c) : Foot b Q c := by
 rcases hc with hc | ⟨k, z, hz, rfl⟩
 ·exact .inl hc
 ·by_cases hk : k = flow
  ·subst hk
   have e : updF Q.F k (some { x with bytes := x.bytes - size }) k = some z := hz
   simp only [updF_same, Option.some.injEq] at e
   subst e
   exact .inr ⟨k, x, h.flow, rfl⟩
  ·have e : updF Q.F flow (some { x with bytes := x.bytes - size }) k = some z := hz
   simp only [updF_other _ _ hk] at e
   exact .inr ⟨k, z, e, rfl⟩
def TakenR (σ : St) (B : PB) (S S' : PV) (σ' : St) (lg : Log) : Prop := (∀ z ∈ lg, PFoot B S.Q z ∨ σ.next ≤ z) ∧ PAt σ' B S'
set_option maxRecDepth 20000 in
theorem n1_some {σ : St} {B : PB} {S : PV} (H : PAt σ B S) {c : Nat} (gc : σ.get c = some (.cells [.pointer (some ⟨B.p, 0, none⟩)] false)) (hc : c < σ.next) {y : Item} {flow size : Int} {x : FlowV} (h : Head S.Q y flow size x) :
  callX Tryz.prog 34 [.pointer (some ⟨c, 0, none⟩)] σ fun e σ' lg => e = .ret (.tuple ⟨[.agg ⟨(qOn y flow size).cells⟩, .bool true]⟩) ∧ TakenR σ B S { S with Q := takeV S.Q y flow size x } σ' lg := by
 have gp := H.gp
 have hp := H.lt
 have n1 : ¬ σ.next = c := by omega
 have n2 : ¬ σ.next = B.p := by omega
 have hqk : ∀ c, Foot B.b S.Q c → c < σ.next := fun c hc => H.q.in_lt hc
 refine enter (p := q8) Tryz.func34 rfl stat34 ?_
 simp only [go_sem, seval, if_pos rfl, opLen, undef, qOn, OnV.cells, Tryz.f34, gc, gp, hc, hp, n1, n2, body35]
 refine callX.hid (qtake_call (H.q.keep (by simp only [go_sem, seval, if_pos rfl, opLen]) fun c hc => by have := hqk c hc; simp only [go_sem, seval, if_pos rfl, opLen, this]) h.head h.pack h.flow ⟨by have := h.size; omega, h.size.2⟩ h.bytes) ?_
 intro σ1 lg1 hlg1 hA
 obtain ⟨hB, HQ⟩ := hA
 have nx := hlg1.1
 simp only [go_sem, seval, if_pos rfl, opLen] at nx hB
 have gk : ∀ c, c < σ.next + 1 → ¬ Foot B.b S.Q c → σ1.get c = (σ.new (.cells [.int .i64 0, .int .i64 0, .int .i64 0, .bool false, .int .i64 0, .int .i64 0, .int .i64 0, .int .i64 0] false)).get c := fun c hc hn => hlg1.2 c (by simp only [go_sem, seval, if_pos rfl, opLen] <;> omega) fun hm => by
  rcases hB c hm with h | h
  ·exact hn h
  ·omega
 have g0 := gk σ.next (by omega) fun h => by have := hqk _ h; omega
 simp only [go_sem, seval, if_pos rfl, opLen] at g0
 have k1 : σ.next < σ1.next := by omega
 refine ⟨?_⟩
 simp only [go_sem, seval, if_pos rfl, opLen, undef, g0, k1, body35]
 have HQ' : QAt σ1 B.b (takeV S.Q y flow size x) := HQ
 refine ⟨fun z hz => ?_, H.queue (b' := B.b) (by simp only [go_sem, seval, if_pos rfl, opLen, St.next_put] <;> omega) (fun c hc hn => ?_) (HQ'.keep (by simp only [go_sem, seval, if_pos rfl, opLen, St.next_put] <;> omega) fun c hc => ?_) rfl fun c hc => .inl (takeV_foot h hc)⟩
 ·simp only [List.mem_append, List.mem_cons, List.not_mem_nil, or_false] at hz
  rcases hz with ((hz | hz) | hz) | hz
  ·rcases hB z hz with h | h
   ·exact .inl (.inr (.inr (.inr (.inr h))))
   ·exact .inr (by omega)
  ·exact .inr (by omega)
  ·exact .inr (by omega)
  ·exact .inr (by omega)
 ·have m1 : ¬ σ.next = c := by omega
  have m2 : c < σ1.next := by omega
  simp only [go_sem, seval, if_pos rfl, opLen, m1, m2]
  rw [gk c (by omega) hn, St.get_new, if_neg m1]
 ·have m0 := hqk c (takeV_foot h hc)
  have m1 : ¬ σ.next = c := by omega
  have m2 : c < σ1.next := by omega
  simp only [go_sem, seval, if_pos rfl, opLen, m1, m2]
set_option maxRecDepth 20000 in
theorem n1_none {σ : St} {B : PB} {S : PV} (H : PAt σ B S) {c : Nat} (gc : σ.get c = some (.cells [.pointer (some ⟨B.p, 0, none⟩)] false)) (hc : c < σ.next) (h : S.Q.L = []) :
  DCall Tryz.prog 34 [.pointer (some ⟨c, 0, none⟩)] σ (.ret (.tuple ⟨[.agg ⟨(noOn true).cells⟩, .bool false]⟩)) σ [] := by
 have gp := H.gp
 have hp := H.lt
 have n1 : ¬ σ.next = c := by omega
 have n2 : ¬ σ.next = B.p := by omega
 have hqk : ∀ c, Foot B.b S.Q c → c < σ.next := fun c hc => H.q.in_lt hc
 refine pure_call (enter (p := q8) Tryz.func34 rfl stat34 ?_) rfl
 simp only [go_sem, seval, if_pos rfl, opLen, undef, noOn, OnV.cells, Tryz.f34, gc, gp, hc, hp, n1, n2, body35]
 refine callX.hid (qtake_empty (H.q.keep (by simp only [go_sem, seval, if_pos rfl, opLen]) fun c hc => by have := hqk c hc; simp only [go_sem, seval, if_pos rfl, opLen, this]) h) ?_
 intro σ1 lg1 hlg1 hB
 have nx := hlg1.1
 simp only [go_sem, seval, if_pos rfl, opLen] at nx hB
 have g0 : σ1.get σ.next = (σ.new (.cells [.int .i64 0, .int .i64 0, .int .i64 0, .bool false, .int .i64 0, .int .i64 0, .int .i64 0, .int .i64 0] false)).get σ.next := hlg1.2 _ (by simp only [go_sem, seval, if_pos rfl, opLen] <;> omega) fun hm => by have := hB _ hm; omega
 simp only [go_sem, seval, if_pos rfl, opLen] at g0
 have k1 : σ.next < σ1.next := by omega
 refine ⟨?_⟩
 simp only [go_sem, seval, if_pos rfl, opLen, undef, g0, k1, body35]
 intro z hz
 rcases hz with ((hz | hz) | hz) | hz
 ·have := hB z hz; omega
 ·omega
 ·omega
 ·omega
set_option maxRecDepth 20000 in
theorem n2_some {σ : St} {B : PB} {S : PV} (H : PAt σ B S) {c : Nat} (gc : σ.get c = some (.cells [.pointer (some ⟨B.p, 0, none⟩)] false)) (hc : c < σ.next) {x : Pk} {L : List Pk} (h : S.V.L = x :: L) :
  callX Tryz.prog 36 [.pointer (some ⟨c, 0, none⟩)] σ fun e σ' lg => e = .ret (.tuple ⟨[.agg ⟨(lineOn x).cells⟩, .bool true]⟩) ∧ TakenR σ B S { S with V := { S.V with L := L } } σ' lg := by
 have gp := H.gp
 have hp := H.lt
 have hll := H.l.lt
 have n1 : ¬ σ.next = c := by omega
 have n2 : ¬ σ.next = B.p := by omega
 refine enter (p := q8) Tryz.func36 rfl stat36 ?_
 simp only [go_sem, seval, if_pos rfl, opLen, undef, lineOn, OnV.cells, Tryz.f36, gc, gp, hc, hp, n1, n2, body37]
 refine callX.hid (ltake_call (H.l.keep (by simp only [go_sem, seval, if_pos rfl, opLen]) (by simp only [go_sem, seval, if_pos rfl, opLen, hll.1]) (by simp only [go_sem, seval, if_pos rfl, opLen, hll.2])) h) ?_
 intro σ1 lg1 hlg1 hA
 obtain ⟨hB, HL⟩ := hA
 have nx := hlg1.1
 simp only [go_sem, seval, if_pos rfl, opLen] at nx hB
 have gk : ∀ c, c < σ.next + 1 → c ≠ B.l → σ1.get c = (σ.new (.cells [.int .i64 0, .int .i64 0, .int .i64 0, .bool false, .int .i64 0, .int .i64 0, .int .i64 0, .int .i64 0] false)).get c := fun c hc hn => hlg1.2 c (by simp only [go_sem, seval, if_pos rfl, opLen] <;> omega) fun hm => by
  rcases hB c hm with h | h
  ·exact hn h
  ·omega
 have g0 := gk σ.next (by omega) (by omega)
 simp only [go_sem, seval, if_pos rfl, opLen] at g0
 have k1 : σ.next < σ1.next := by omega
 refine ⟨?_⟩
 simp only [go_sem, seval, if_pos rfl, opLen, undef, Pk.val, Pk.cells, g0, k1, body37]
 have fin : ∀ c, c < σ.next → ∀ o o' o'', (((σ1.new o).set σ1.next o').set σ.next o'').get c = σ1.get c := fun c hc o o' o'' => by
  rw [St.get_set, if_neg (by omega), St.get_set, if_neg (by omega), St.get_new, if_neg (by omega)]
 refine ⟨fun z hz => ?_, H.line (r' := B.r) (by simp only [go_sem, seval, if_pos rfl, opLen, St.next_put] <;> omega) (fun c hc hcl hcr => ?_) (HL.keep (by simp only [go_sem, seval, if_pos rfl, opLen, St.next_put] <;> omega) (fin _ hll.1 _ _ _) (fin _ hll.2 _ _ _)) (.inl rfl)⟩
 ·simp only [List.mem_append, List.mem_cons, List.not_mem_nil, or_false] at hz
  rcases hz with (hz | hz) | hz
  ·rcases hB z hz with h | h
   ·exact .inl (.inr (.inl h))
   ·exact .inr (by omega)
  ·exact .inr (by omega)
  ·exact .inr (by omega)
 ·rw [fin c hc, gk c (by omega) hcl, St.get_new, if_neg (by omega)]
set_option maxRecDepth 20000 in
theorem n2_none {σ : St} {B : PB} {S : PV} (H : PAt σ B S) {c : Nat} (gc : σ.get c = some (.cells [.pointer (some ⟨B.p, 0, none⟩)] false)) (hc : c < σ.next) (h : S.V.L = []) :
  DCall Tryz.prog 36 [.pointer (some ⟨c, 0, none⟩)] σ (.ret (.tuple ⟨[.agg ⟨(noOn false).cells⟩, .bool false]⟩)) σ [] := by
 have gp := H.gp
 have hp := H.lt
 have hll := H.l.lt
 have n1 : ¬ σ.next = c := by omega
 have n2 : ¬ σ.next = B.p := by omega
 refine pure_call (enter (p := q8) Tryz.func36 rfl stat36 ?_) rfl
 simp only [go_sem, seval, if_pos rfl, opLen, undef, noOn, OnV.cells, Tryz.f36, gc, gp, hc, hp, n1, n2, body37]
 refine .of (ltake_none (H.l.keep (by simp only [go_sem, seval, if_pos rfl, opLen]) (by simp only [go_sem, seval, if_pos rfl, opLen, hll.1]) (by simp only [go_sem, seval, if_pos rfl, opLen, hll.2])) h) ?_
 simp only [go_sem, seval, if_pos rfl, opLen, undef, Pk.val, Pk.cells, Pk.zero, body37]
end Go.Ab
namespace Go.Ab
open Go.Proofs
inductive NextR (S : PV) : OnV → Bool → PV → Prop
 | queue {y : Item} {flow size : Int} {x : FlowV} (h : Head S.Q y flow size x) : NextR S (qOn y flow size) true { S with Q := takeV S.Q y flow size x }
 | line {x : Pk} {L : List Pk} (h : S.Q.L = []) (h' : S.V.L = x :: L) : NextR S (lineOn x) true { S with V := { S.V with L := L } }
 | none (h : S.Q.L = []) (h' : S.V.L = []) : NextR S (noOn false) false S
def FirstR (σ : St) (B : PB) (S S' : PV) (o : OnV) (t : Bool) (e : AE) (σ' : St) (lg : Log) : Prop := e = .ret (.tuple ⟨[.agg ⟨o.cells⟩, .bool t]⟩) ∧ TakenR σ B S S' σ' lg
set_option maxHeartbeats 1600000 in
set_option maxRecDepth 20000 in
theorem first_queue {σ : St} {B : PB} {S : PV} (H : PAt σ B S) {s c : Nat} (gs : σ.get s = some (.cells [.func (.func 34) ⟨[]⟩ ⟨[.pointer (some ⟨c, 0, none⟩)]⟩, .func (.func 36) ⟨[]⟩ ⟨[.pointer (some ⟨c, 0, none⟩)]⟩] false)) (hs : s < σ.next)
  (gc : σ.get c = some (.cells [.pointer (some ⟨B.p, 0, none⟩)] false)) (hc : c < σ.next) {y : Item} {flow size : Int} {x : FlowV} (h : Head S.Q y flow size x) :
  callX Tryz.prog 33 [.slice (some ⟨s, 0, some 0⟩) 2 2] σ (FirstR σ B S { S with Q := takeV S.Q y flow size x } (qOn y flow size) true) := by
 have n1 : ¬ σ.next = s := by omega
 have n2 : ¬ σ.next = c := by omega
 have kf : ∀ c, PFoot B S.Q c → c < σ.next := fun c hc => H.in_lt hc
 refine enter (p := q8) Tryz.func33 rfl stat33 ?_
 simp only [go_sem, seval, if_pos rfl, opLen, undef, OnV.cells, Tryz.f33, body34, body36]
 refine turn q8 33 (by kernel_rfl) ?_
 simp only [go_sem, seval, if_pos rfl, opLen, undef, gs, hs, n1, body34, body36]
 refine callX.hid (n1_some (c := c) (H.keep (by simp only [go_sem, seval, if_pos rfl, opLen]) fun c hc => by have := kf c hc; simp only [go_sem, seval, if_pos rfl, opLen, this]) (by simp only [go_sem, seval, if_pos rfl, opLen, hc, gc]) (by simp only [go_sem, seval, if_pos rfl, opLen] <;> omega) h) ?_
 intro σ1 lg1 hlg1 hA
 obtain ⟨hB, H1⟩ := hA
 have nx := hlg1.1
 simp only [go_sem, seval, if_pos rfl, opLen] at nx hB
 have g0 := hlg1.2 σ.next (by simp only [go_sem, seval, if_pos rfl, opLen] <;> omega) fun hm => by
  rcases hB _ hm with h | h
  ·have := kf _ h; omega
  ·omega
 simp only [go_sem, seval, if_pos rfl, opLen] at g0
 have k1 : σ.next < σ1.next := by omega
 refine ⟨?_⟩
 simp only [go_sem, seval, if_pos rfl, opLen, undef, OnV.cells, qOn, g0, k1, body34, body36]
 have hkf : ∀ c, PFoot B (takeV S.Q y flow size x) c → c < σ.next := fun c hc => kf c (by
  rcases hc with hc | hc | hc | hc | hc
  ·exact .inl hc
  ·exact .inr (.inl hc)
  ·exact .inr (.inr (.inl hc))
  ·exact .inr (.inr (.inr (.inl hc)))
  ·exact .inr (.inr (.inr (.inr (takeV_foot h hc)))))
 refine ⟨rfl, fun z hz => ?_, H1.keep (by simp only [go_sem, seval, if_pos rfl, opLen, St.next_put] <;> omega) fun c hc => ?_⟩
 ·simp only [List.mem_append, List.mem_cons, List.not_mem_nil, or_false] at hz
  rcases hz with (hz | hz) | hz
  ·rcases hB z hz with h | h
   ·exact .inl h
   ·exact .inr (by omega)
  ·exact .inr (by omega)
  ·exact .inr (by omega)
 ·have m0 := hkf c hc
  have m1 : ¬ σ.next = c := by omega
  have m2 : c < σ1.next := by omega
  simp only [go_sem, seval, if_pos rfl, opLen, m1, m2]
set_option maxHeartbeats 1600000 in
set_option maxRecDepth 20000 in
theorem first_line {σ : St} {B : PB} {S : PV} (H : PAt σ B S) {s c : Nat} (gs : σ.get s = some (.cells [.func (.func 34) ⟨[]⟩ ⟨[.pointer (some ⟨c, 0, none⟩)]⟩, .func (.func 36) ⟨[]⟩ ⟨[.pointer (some ⟨c, 0, none⟩)]⟩] false)) (hs : s < σ.next)
  (gc : σ.get c = some (.cells [.pointer (some ⟨B.p, 0, none⟩)] false)) (hc : c < σ.next) (h0 : S.Q.L = []) {x : Pk} {L : List Pk} (h : S.V.L = x :: L) :
  callX Tryz.prog 33 [.slice (some ⟨s, 0, some 0⟩) 2 2] σ (FirstR σ B S { S with V := { S.V with L := L } } (lineOn x) true) := by
 have n1 : ¬ σ.next = s := by omega
 have n2 : ¬ σ.next = c := by omega
 have n3 : ¬ σ.next + 1 = s := by omega
 have n4 : ¬ σ.next + 1 = c := by omega
 have kf : ∀ c, PFoot B S.Q c → c < σ.next := fun c hc => H.in_lt hc
 refine enter (p := q8) Tryz.func33 rfl stat33 ?_
 simp only [go_sem, seval, if_pos rfl, opLen, undef, OnV.cells, Tryz.f33, body34, body36]
 refine turn q8 33 (by kernel_rfl) ?_
 simp only [go_sem, seval, if_pos rfl, opLen, undef, gs, hs, n1, body34, body36]
 refine .of (n1_none (c := c) (H.keep (by simp only [go_sem, seval, if_pos rfl, opLen]) fun c hc => by have := kf c hc; simp only [go_sem, seval, if_pos rfl, opLen, this]) (by simp only [go_sem, seval, if_pos rfl, opLen, hc, gc]) (by simp only [go_sem, seval, if_pos rfl, opLen] <;> omega) h0) ?_
 simp only [go_sem, seval, if_pos rfl, opLen, undef, OnV.cells, noOn, body34, body36]
 refine turn q8 33 (by kernel_rfl) ?_
 simp only [go_sem, seval, if_pos rfl, opLen, undef, gs, hs, n1, n3, body34, body36]
 refine callX.hid (n2_some (c := c) (H.keep (by simp only [go_sem, seval, if_pos rfl, opLen]) fun c hc => by have := kf c hc; simp only [go_sem, seval, if_pos rfl, opLen, this]) (by simp only [go_sem, seval, if_pos rfl, opLen, hc, gc]) (by simp only [go_sem, seval, if_pos rfl, opLen] <;> omega) h) ?_
 intro σ1 lg1 hlg1 hA
 obtain ⟨hB, H1⟩ := hA
 have nx := hlg1.1
 simp only [go_sem, seval, if_pos rfl, opLen] at nx hB
 have g0 := hlg1.2 σ.next (by simp only [go_sem, seval, if_pos rfl, opLen] <;> omega) fun hm => by
  rcases hB _ hm with h | h
  ·have := kf _ h; omega
  ·omega
 simp only [go_sem, seval, if_pos rfl, opLen] at g0
 have k1 : σ.next < σ1.next := by omega
 refine ⟨?_⟩
 simp only [go_sem, seval, if_pos rfl, opLen, undef, OnV.cells, lineOn, g0, k1, body34, body36]
 have hkf : ∀ c, PFoot B S.Q c → c < σ.next := fun c hc => kf c hc
 refine ⟨rfl, fun z hz => ?_, H1.keep (by simp only [go_sem, seval, if_pos rfl, opLen, St.next_put] <;> omega) fun c hc => ?_⟩
 ·simp only [List.mem_append, List.mem_cons, List.not_mem_nil, or_false] at hz
  rcases hz with hz | (hz | hz) | hz
  ·exact .inr (by omega)
  ·rcases hB z hz with h | h
   ·exact .inl h
   ·exact .inr (by omega)
  ·exact .inr (by omega)
  ·exact .inr (by omega)
 ·have m0 := hkf c hc
  have m1 : ¬ σ.next = c := by omega
  have m2 : c < σ1.next := by omega
  simp only [go_sem, seval, if_pos rfl, opLen, m1, m2]
set_option maxHeartbeats 1600000 in
set_option maxRecDepth 20000 in
theorem first_none {σ : St} {B : PB} {S : PV} (H : PAt σ B S) {s c : Nat} (gs : σ.get s = some (.cells [.func (.func 34) ⟨[]⟩ ⟨[.pointer (some ⟨c, 0, none⟩)]⟩, .func (.func 36) ⟨[]⟩ ⟨[.pointer (some ⟨c, 0, none⟩)]⟩] false)) (hs : s < σ.next)
  (gc : σ.get c = some (.cells [.pointer (some ⟨B.p, 0, none⟩)] false)) (hc : c < σ.next) (h0 : S.Q.L = []) (h : S.V.L = []) :
  DCall Tryz.prog 33 [.slice (some ⟨s, 0, some 0⟩) 2 2] σ (.ret (.tuple ⟨[.agg ⟨(noOn false).cells⟩, .bool false]⟩)) σ [] := by
 have n1 : ¬ σ.next = s := by omega
 have n2 : ¬ σ.next = c := by omega
 have n3 : ¬ σ.next + 1 = s := by omega
 have n4 : ¬ σ.next + 1 = c := by omega
 have kf : ∀ c, PFoot B S.Q c → c < σ.next := fun c hc => H.in_lt hc
 refine pure_call (enter (p := q8) Tryz.func33 rfl stat33 ?_) rfl
 simp only [go_sem, seval, if_pos rfl, opLen, undef, OnV.cells, Tryz.f33, body34, body36]
 refine turn q8 33 (by kernel_rfl) ?_
 simp only [go_sem, seval, if_pos rfl, opLen, undef, gs, hs, n1, body34, body36]
 refine .of (n1_none (c := c) (H.keep (by simp only [go_sem, seval, if_pos rfl, opLen]) fun c hc => by have := kf c hc; simp only [go_sem, seval, if_pos rfl, opLen, this]) (by simp only [go_sem, seval, if_pos rfl, opLen, hc, gc]) (by simp only [go_sem, seval, if_pos rfl, opLen] <;> omega) h0) ?_
 simp only [go_sem, seval, if_pos rfl, opLen, undef, OnV.cells, noOn, body34, body36]
 refine turn q8 33 (by kernel_rfl) ?_
 simp only [go_sem, seval, if_pos rfl, opLen, undef, gs, hs, n1, n3, body34, body36]
 refine .of (n2_none (c := c) (H.keep (by simp only [go_sem, seval, if_pos rfl, opLen]) fun c hc => by have := kf c hc; simp only [go_sem, seval, if_pos rfl, opLen, this]) (by simp only [go_sem, seval, if_pos rfl, opLen, hc, gc]) (by simp only [go_sem, seval, if_pos rfl, opLen] <;> omega) h) ?_
 simp only [go_sem, seval, if_pos rfl, opLen, undef, OnV.cells, noOn, body34, body36]
 refine turn q8 33 (by kernel_rfl) ?_
 simp only [go_sem, seval, if_pos rfl, opLen, undef, OnV.cells, noOn, body34, body36]
theorem first_call {σ : St} {B : PB} {S S' : PV} {o : OnV} {t : Bool} (H : PAt σ B S) {s c : Nat} (gs : σ.get s = some (.cells [.func (.func 34) ⟨[]⟩ ⟨[.pointer (some ⟨c, 0, none⟩)]⟩, .func (.func 36) ⟨[]⟩ ⟨[.pointer (some ⟨c, 0, none⟩)]⟩] false)) (hs : s < σ.next)
  (gc : σ.get c = some (.cells [.pointer (some ⟨B.p, 0, none⟩)] false)) (hc : c < σ.next) (h : NextR S o t S') : callX Tryz.prog 33 [.slice (some ⟨s, 0, some 0⟩) 2 2] σ (FirstR σ B S S' o t) := by
 cases h with
 | queue h => exact first_queue H gs hs gc hc h
 | line h h' => exact first_line H gs hs gc hc h h'
 | none h h' => exact .of (first_none H gs hs gc hc h h') ⟨rfl, ⟨fun z hz => absurd hz (by simp), H⟩⟩
theorem NextR.foot {S S' : PV} {o : OnV} {t : Bool} (h : NextR S o t S') {B : PB} {c : Nat} (hc : PFoot B S'.Q c) : PFoot B S.Q c := by
 cases h with
 | queue h =>
  rcases hc with hc | hc | hc | hc | hc
  ·exact .inl hc
  ·exact .inr (.inl hc)
  ·exact .inr (.inr (.inl hc))
  ·exact .inr (.inr (.inr (.inl hc)))
  ·exact .inr (.inr (.inr (.inr (takeV_foot h hc))))
 | line h h' => exact hc
 | none h h' => exact hc
set_option maxRecDepth 20000 in
theorem next_call {σ : St} {B : PB} {S S' : PV} {o : OnV} {t : Bool} (H : PAt σ B S) (h : NextR S o t S') : callX Tryz.prog 19 [.pointer (some ⟨B.p, 0, none⟩)] σ fun e σ' lg => e = .ret (.tuple ⟨[.agg ⟨o.cells⟩, .bool t]⟩) ∧ TakenR σ B S S' σ' lg := by
 have kf : ∀ c, PFoot B S.Q c → c < σ.next := fun c hc => H.in_lt hc
 refine enter (p := q8) Tryz.func19 rfl stat19 ?_
 simp only [go_sem, seval, if_pos rfl, opLen, undef, zerosN, Tryz.f19, body33, body34, body36]
 refine callX.hidE (first_call (c := σ.next) (s := σ.next + 2) (H.keep (by simp only [go_sem, seval, if_pos rfl, opLen]) fun c hc => by have := kf c hc; simp only [go_sem, seval, if_pos rfl, opLen, this]) (by simp only [go_sem, seval, if_pos rfl, opLen]) (by simp only [go_sem, seval, if_pos rfl, opLen] <;> omega) (by simp only [go_sem, seval, if_pos rfl, opLen]) (by simp only [go_sem, seval, if_pos rfl, opLen] <;> omega) h) ?_
 intro e σ1 lg1 hlg1 hA
 obtain ⟨rfl, hB, H1⟩ := hA
 have nx := hlg1.1
 simp only [go_sem, seval, if_pos rfl, opLen] at nx hB
 have g0 := hlg1.2 (σ.next + 1) (by simp only [go_sem, seval, if_pos rfl, opLen] <;> omega) fun hm => by
  rcases hB _ hm with h | h
  ·have := kf _ h; omega
  ·omega
 simp only [go_sem, seval, if_pos rfl, opLen] at g0
 have k1 : σ.next + 1 < σ1.next := by omega
 refine ⟨?_⟩
 simp only [go_sem, seval, if_pos rfl, opLen, undef, OnV.cells, g0, k1, body33, body34, body36]
 refine ⟨fun z hz => ?_, H1.keep (by simp only [go_sem, seval, if_pos rfl, opLen, St.next_put] <;> omega) fun c hc => ?_⟩
 ·rcases List.mem_append.1 hz with hz | hz
  ·rcases hB z hz with h | h
   ·exact .inl h
   ·exact .inr (by omega)
  ·simp at hz; exact .inr (by omega)
 ·have m0 := kf c (h.foot hc)
  rw [St.get_set, if_neg (by omega)]
end Go.Ab
namespace Go.Ab
open Go.Proofs
def Drains : List OnV → QV → Prop
 | [], Q => Q.L = []
 | o :: os, Q => ∃ y flow size x, Head Q y flow size x ∧ o = qOn y flow size ∧ Drains os (takeV Q y flow size x)
def OnV.sent (o : OnV) : List Value := [.int .i64 o.pk.id, .int .i64 o.pk.flow, .int .i64 o.pk.size, .bool o.prom, .int .i64 o.n, .int .i64 o.d, .int .i64 o.fin]
def cellsO : List OnV → List Value
 | [] => []
 | x :: xs => x.sent ++ cellsO xs
theorem cellsO_length : ∀ L : List OnV, (cellsO L).length = 7 * L.length
 | [] => rfl
 | x :: xs => by simp [cellsO, OnV.sent, cellsO_length xs]; omega
theorem cellsO_append : ∀ (L L' : List OnV), cellsO (L ++ L') = cellsO L ++ cellsO L'
 | [], _ => rfl
 | x :: xs, L' => by simp [cellsO, cellsO_append xs L']
def SoS (lo : Nat) (σ : St) (v : Value) (L : List OnV) : Prop := (v = .slice none 0 0 ∧ L = []) ∨ ∃ a, v = .slice (some ⟨a, 0, some 9⟩) L.length L.length ∧ σ.get a = some (.cells (cellsO L) false) ∧ lo ≤ a ∧ a < σ.next ∧ L ≠ []
theorem SoS.keep {lo : Nat} {σ σ' : St} {v : Value} {L : List OnV} (h : SoS lo σ v L) (hn : σ.next ≤ σ'.next) (hg : ∀ a, lo ≤ a → a < σ.next → σ'.get a = σ.get a) : SoS lo σ' v L := by
 rcases h with h | ⟨a, h1, h2, h3, h4, h5⟩
 ·exact .inl h
 ·exact .inr ⟨a, h1, (hg a h3 h4).trans h2, h3, by omega, h5⟩
theorem und80 : (cP Tryz.prog).T.und 35 = some (.slice 45) := (cx_und 35).trans Tryz.underlying35
theorem inf88 : (cP Tryz.prog).T.info 45 = some Tryz.t45 := (cx_info 45).trans info45
theorem so_first {σ : St} {b : Nat} {x : OnV} (hg : σ.get b = some (.cells x.sent false)) :
  opAppend (cP Tryz.prog).T σ 35 35 (.slice none 0 0) (.slice (some ⟨b, 0, some 0⟩) 1 1) = some (.new (.cells x.sent false) (.slice (some ⟨σ.next, 0, some 9⟩) 1 1) [b]) := by
 simp only [OnV.sent] at hg ⊢
 simp only [opAppend, und80, inf88, srcLen, Tryz.t45, srcCells, hg]
 simp [isSeqD, oneCells, plain, plainL, vcells]
theorem so_more {σ : St} {a b : Nat} {L : List OnV} {x : OnV} (ha : σ.get a = some (.cells (cellsO L) false)) (hg : σ.get b = some (.cells x.sent false)) (sm : L.length ≤ 1000000) :
  opAppend (cP Tryz.prog).T σ 35 35 (.slice (some ⟨a, 0, some 9⟩) L.length L.length) (.slice (some ⟨b, 0, some 0⟩) 1 1) =
   some (.eff (.slice (some ⟨σ.next, 0, some 9⟩) (L.length + 1) (L.length + 1)) ((σ.new (.cells (cellsO (L ++ [x])) false)).put a none) [a]) := by
 have l3 : ¬ 4294967296 ≤ L.length := by omega
 have tk : (cellsO L).take (L.length * 7) = cellsO L := List.take_of_length_le (by rw [cellsO_length]; omega)
 have ap : cellsO (L ++ [x]) = cellsO L ++ x.sent := by rw [cellsO_append]; simp [cellsO]
 rw [ap]
 simp only [OnV.sent] at hg ⊢
 simp only [opAppend, und80, inf88, srcLen, Tryz.t45, srcCells, hg, ha]
 simp [isSeqD, oneCells, plain, plainL, vcells, l3, tk, cellsO_length]
 omega
noncomputable def serveB : Code := loopOf (Tryz.f8.body.getD .skip)
structure FS (ts : List Value) (p : Nat) (v : Value) (bytes : Int) : Prop where
 size : ts.length = 106
 t0 : lget ts 0 = .pointer (some ⟨p, 0, none⟩)
 t4 : lget ts 4 = v
 t5 : lget ts 5 = .int .i64 bytes
end Go.Ab
namespace Go.Ab
open Go.Proofs
noncomputable def serveX : Code := blockOf (dropC 1 serveB)
noncomputable def serveT : Code := dropC 1 serveX
theorem serveB_is : serveB = (nthC 0 serveB).seq (Code.block 2 ((nthC 0 serveX).seq serveT)) := by rfl
structure Low (B : PB) (Q : QV) (lo : Nat) : Prop where
 p : B.p < lo
 l : B.l < lo
 r : B.r < lo
 f : ∀ c, Foot B.b Q c → c < lo
theorem PAt.turn {σ σ' : St} {B : PB} {S : PV} (H : PAt σ B S) {lo : Nat} (hl : Low B S.Q lo) (hn : σ.next ≤ σ'.next) {o' : Option Nat} {on' : Option OnV}
    (hg : ∀ c, c < lo → c ≠ B.p → B.o ≠ some c → σ'.get c = σ.get c)
    (gp : σ'.get B.p = some (.cells [.pointer (some ⟨B.b.q, 0, none⟩), .pointer (some ⟨B.l, 0, none⟩), .int .i64 S.rate, .int .i64 S.most, .int .i64 S.now, onPtr o'] false)) (hon : OnAt σ' { B with o := o' } S.Q on') :
    PAt σ' { B with o := o' } { S with on := on' } := by
  have no : ∀ c, PFoot B S.Q c → B.o ≠ some c ∨ (c ≠ B.l ∧ c ≠ B.r ∧ ¬ Foot B.b S.Q c) := fun c _ => by
    by_cases e : B.o = some c
    · have := H.on.has
      rw [e] at this
      cases hx : S.on with
      | none => rw [hx] at this; cases this
      | some x =>
        obtain ⟨_, _, _, h1, h2, h3⟩ := H.on.get c x e hx
        exact .inr ⟨h1, h2, h3⟩
    · exact .inl e
  have nl : B.o ≠ some B.l := fun e => by
    rcases no B.l (.inr (.inl rfl)) with h | h
    · exact h e
    · exact h.1 rfl
  have nr : B.o ≠ some B.r := fun e => by
    rcases no B.r (.inr (.inr (.inl rfl))) with h | h
    · exact h e
    · exact h.2.1 rfl
  have nf : ∀ c, Foot B.b S.Q c → B.o ≠ some c := fun c hc e => by
    rcases no c (.inr (.inr (.inr (.inr hc)))) with h | h
    · exact h e
    · exact h.2.2 hc
  exact { gp := gp
          q := H.q.keep hn fun c hc => hg c (hl.f c hc) (fun e => H.pf (e ▸ hc)) (nf c hc)
          l := H.l.keep hn (hg _ hl.l (fun e => H.pl e.symm) nl) (hg _ hl.r (fun e => H.pr e.symm) nr)
          on := hon
          lt := by have := H.lt; show B.p < _; omega
          pl := H.pl
          pr := H.pr
          pf := H.pf
          lf := H.lf
          rf := H.rf }
set_option maxHeartbeats 1600000 in
set_option maxRecDepth 20000 in
theorem tail_part {σ : St} {B : PB} {S : PV} {lo o : Nat} {ts : List Value} {v : Value} {bytes : Int} {x : OnV} {K : RR → Prop} (H : PAt σ B S) (hl : Low B S.Q lo) (F : FS ts B.p v bytes) (ho : B.o = some o) (hx : S.on = some x) (hb : 0 < bytes ∧ bytes ≤ 1000000) (hx1 : x.left ≤ 2000) (h : bytes < x.left)
  (k : ∀ ts' σ', FS ts' B.p v 0 → PAt σ' B { S with on := some { x with left := x.left - bytes } } → σ'.next = σ.next → (∀ c, c ≠ o → σ'.get c = σ.get c) → K ⟨.norm, ⟨ts', []⟩, σ', [o]⟩) :
  wp (cP Tryz.prog) q8 (btAll 8) false serveT ⟨ts, []⟩ σ K := by
 have e0 := F.t0
 have e4 := F.t4
 have e5 := F.t5
 have el := F.size
 have gp := H.gp
 have hp := H.lt
 rw [ho] at gp
 simp only [onPtr] at gp
 obtain ⟨go, hol, hop, ho2, ho3, ho4⟩ := H.on.get o x ho hx
 simp only [OnV.cells] at go
 have n1 : ¬ B.p = o := fun e => hop e.symm
 have c1 : ¬ x.left < bytes := by omega
 have w1 : IntKind.i64.wrap (bytes - bytes) = 0 := by rw [Int.sub_self]; decide
 have w2 : IntKind.i64.wrap (x.left - bytes) = x.left - bytes := wrapI (by omega) (by omega)
 have z1 : (x.left - bytes == 0) = false := by rw [beq_eq_false_iff_ne]; omega
 have q1 : ¬ σ.next ≤ B.p := by omega
 have q2 : ¬ σ.next ≤ o := by omega
 simp only [go_sem, seval, if_pos rfl, opLen, undef, opMin, serveT, serveX, serveB, blockOf, dropC, nthC, loopOf, Tryz.f8, Option.getD, e0, e4, e5, el, gp, hp, go, hol, hop, n1, c1, w1, w2, z1, q1, q2]
 refine k _ _ ⟨by simp only [List.length_set, el], by simp only [go_sem, seval, if_pos rfl, opLen, el, e0], by simp only [go_sem, seval, if_pos rfl, opLen, el, e4], by simp only [go_sem, seval, if_pos rfl, opLen, el]⟩ ?_ rfl fun c hc => by rw [St.get_set, if_neg (Ne.symm hc)]
 have hB : ({ B with o := some o } : PB) = B := by cases B; simp only at ho; subst ho; rfl
 have T := H.turn (σ' := σ.set o (.cells [.int .i64 x.pk.id, .int .i64 x.pk.flow, .int .i64 x.pk.size, .bool x.prom, .int .i64 x.n, .int .i64 x.d, .int .i64 x.fin, .int .i64 (x.left - bytes)] false)) (o' := some o) (on' := some { x with left := x.left - bytes }) hl (Nat.le_refl _) (fun c _ _ h2 => by rw [St.get_set, if_neg fun e => h2 (by rw [ho, e])]) (by rw [St.get_set, if_neg hop]; exact gp) ⟨rfl, fun o' x' h1 h2 => by
  cases h1
  cases h2
  exact ⟨by rw [St.get_set, if_pos rfl]; rfl, hol, hop, ho2, ho3, ho4⟩⟩
 rw [hB] at T
 exact T
def FullR (σ : St) (B : PB) (S : PV) (o lo : Nat) (v' : Value) (acc : List OnV) (x : OnV) (σ' : St) (lg : Log) : Prop :=
 PAt σ' { B with o := none } { S with on := none } ∧ SoS lo σ' v' (acc ++ [{ x with fin := S.now, left := 0 }]) ∧ σ.next ≤ σ'.next ∧ (∀ z ∈ lg, z = o ∨ z = B.p ∨ lo ≤ z)
set_option maxHeartbeats 3200000 in
set_option maxRecDepth 20000 in
theorem tail_full {σ : St} {B : PB} {S : PV} {lo o : Nat} {ts : List Value} {v : Value} {acc : List OnV} {bytes : Int} {x : OnV} {K : RR → Prop} (H : PAt σ B S) (hl : Low B S.Q lo) (hlo : lo ≤ σ.next) (F : FS ts B.p v bytes) (ho : B.o = some o) (hx : S.on = some x) (hb : 0 < bytes ∧ bytes ≤ 1000000) (hx1 : 1 ≤ x.left ∧ x.left ≤ 2000) (h : x.left ≤ bytes)
  (hv : SoS lo σ v acc) (hav : ∀ a n m, v = .slice (some ⟨a, 0, some 9⟩) n m → a ≠ o) (hacc : acc.length ≤ 1000000)
  (k : ∀ ts' v' σ' lg, FS ts' B.p v' (bytes - x.left) → FullR σ B S o lo v' acc x σ' lg → K ⟨.norm, ⟨ts', []⟩, σ', lg⟩) :
  wp (cP Tryz.prog) q8 (btAll 8) false serveT ⟨ts, []⟩ σ K := by
 have e0 := F.t0
 have e4 := F.t4
 have e5 := F.t5
 have el := F.size
 have gp := H.gp
 have hp := H.lt
 rw [ho] at gp
 simp only [onPtr] at gp
 obtain ⟨go, hol, hop, ho2, ho3, ho4⟩ := H.on.get o x ho hx
 simp only [OnV.cells] at go
 have n1 : ¬ B.p = o := fun e => hop e.symm
 have n2 : ¬ σ.next = B.p := by omega
 have n3 : ¬ σ.next = o := by omega
 have n4 : ¬ σ.next + 1 = B.p := by omega
 have hmin : (if x.left < bytes then x.left else bytes) = x.left := by
  split
  ·rfl
  ·omega
 have hmin' : opMin (.int .i64 bytes) (.int .i64 x.left) = some (.val (.int .i64 x.left) []) := by simp only [opMin, hmin]
 have w1 : IntKind.i64.wrap (bytes - x.left) = bytes - x.left := wrapI (by omega) (by omega)
 have w2 : IntKind.i64.wrap (x.left - x.left) = 0 := by rw [Int.sub_self]; decide
 have q1 : ¬ σ.next ≤ B.p := by omega
 have q2 : ¬ σ.next ≤ o := by omega
 have nf : ∀ c, c < lo → Foot B.b S.Q c → c ≠ B.p ∧ c ≠ o := fun c _ hc => ⟨fun e => H.pf (e ▸ hc), fun e => ho4 (e ▸ hc)⟩
 have hB' : ∀ σ' : St, σ.next ≤ σ'.next → (∀ c, c < lo → c ≠ B.p → c ≠ o → σ'.get c = σ.get c) → σ'.get B.p = some (.cells [.pointer (some ⟨B.b.q, 0, none⟩), .pointer (some ⟨B.l, 0, none⟩), .int .i64 S.rate, .int .i64 S.most, .int .i64 S.now, .pointer none] false) → PAt σ' { B with o := none } { S with on := none } := fun σ' h1 h2 h3 =>
  H.turn hl h1 (fun c hc hcp hco => h2 c hc hcp fun e => hco (by rw [ho, e])) h3 ⟨rfl, fun o' x' h => by cases h⟩
 rcases hv with ⟨rfl, rfl⟩ | ⟨a, rfl, ga, ha1, ha2, hne⟩
 ·have hap : ∀ σ : St, ∀ b, σ.get b = some (.cells ({ x with fin := S.now, left := 0 } : OnV).sent false) → opAppend (cP Tryz.prog).T σ 35 35 (.slice none 0 0) (.slice (some ⟨b, 0, some 0⟩) 1 1) = some (.new (.cells ({ x with fin := S.now, left := 0 } : OnV).sent false) (.slice (some ⟨σ.next, 0, some 9⟩) 1 1) [b]) := fun σ b h => so_first h
  simp only [OnV.sent] at hap
  simp only [go_sem, seval, if_pos rfl, opLen, undef, zerosN, serveT, serveX, serveB, blockOf, dropC, nthC, loopOf, Tryz.f8, Option.getD, e0, e4, e5, el, gp, hp, go, hol, hop, n1, n2, n3, n4, hmin', w1, w2, q1, q2, hap]
  refine k _ (.slice (some ⟨σ.next + 1, 0, some 9⟩) 1 1) _ _ ⟨by simp only [List.length_set, el], by simp only [go_sem, seval, if_pos rfl, opLen, el, e0], by simp only [go_sem, seval, if_pos rfl, opLen, el], by simp only [go_sem, seval, if_pos rfl, opLen, el]⟩ ⟨hB' _ (by simp only [go_sem, seval, if_pos rfl, opLen, St.next_put] <;> omega) (fun c h1 h2 h3 => ?_) (by rw [St.get_set, if_pos rfl]), .inr ⟨σ.next + 1, rfl, ?_, by omega, by simp only [go_sem, seval, if_pos rfl, opLen, St.next_put] <;> omega, by simp⟩, by simp only [go_sem, seval, if_pos rfl, opLen, St.next_put] <;> omega, fun z hz => ?_⟩
  ·have z1 : ¬ B.p = c := fun e => h2 e.symm
   have z2 : ¬ o = c := fun e => h3 e.symm
   have z3 : c < σ.next := by omega
   simp only [go_sem, seval, if_pos rfl, opLen, z1, z2, z3]
  ·have z1 : ¬ B.p = σ.next + 1 := by omega
   simp only [go_sem, seval, if_pos rfl, opLen, z1, cellsO, OnV.sent]
  ·simp only [List.mem_cons, List.mem_append, List.not_mem_nil, or_false] at hz; omega
 ·have hao : ¬ a = o := hav a _ _ rfl
  have hap : ¬ a = B.p := by have := hl.p; omega
  have hapn : ∀ σ : St, ∀ b, σ.get a = some (.cells (cellsO acc) false) → σ.get b = some (.cells ({ x with fin := S.now, left := 0 } : OnV).sent false) → opAppend (cP Tryz.prog).T σ 35 35 (.slice (some ⟨a, 0, some 9⟩) acc.length acc.length) (.slice (some ⟨b, 0, some 0⟩) 1 1) =
    some (.eff (.slice (some ⟨σ.next, 0, some 9⟩) (acc.length + 1) (acc.length + 1)) ((σ.new (.cells (cellsO (acc ++ [{ x with fin := S.now, left := 0 }])) false)).put a none) [a]) := fun σ b h1 h2 => so_more h1 h2 hacc
  simp only [OnV.sent] at hapn
  have m1 : ¬ B.p = a := fun e => hap e.symm
  have m2 : ¬ o = a := fun e => hao e.symm
  simp only [go_sem, seval, if_pos rfl, opLen, undef, zerosN, serveT, serveX, serveB, blockOf, dropC, nthC, loopOf, Tryz.f8, Option.getD, e0, e4, e5, el, gp, hp, go, hol, hop, ga, ha2, hao, hap, m1, m2, n1, n2, n3, n4, hmin', w1, w2, q1, q2, hapn]
  have hll : (acc ++ [({ x with fin := S.now, left := 0 } : OnV)]).length = acc.length + 1 := by rw [List.length_append]; rfl
  refine k _ (.slice (some ⟨σ.next + 1, 0, some 9⟩) (acc.length + 1) (acc.length + 1)) _ _ ⟨by simp only [List.length_set, el], by simp only [go_sem, seval, if_pos rfl, opLen, el, e0], by simp only [go_sem, seval, if_pos rfl, opLen, el], by simp only [go_sem, seval, if_pos rfl, opLen, el]⟩ ⟨hB' _ (by simp only [go_sem, seval, if_pos rfl, opLen, St.next_put] <;> omega) (fun c h1 h2 h3 => ?_) (by rw [St.get_set, if_pos rfl]), .inr ⟨σ.next + 1, by rw [hll], ?_, by omega, by simp only [go_sem, seval, if_pos rfl, opLen, St.next_put] <;> omega, by simp⟩, by simp only [go_sem, seval, if_pos rfl, opLen, St.next_put] <;> omega, fun z hz => ?_⟩
  ·have z1 : ¬ B.p = c := fun e => h2 e.symm
   have z2 : ¬ o = c := fun e => h3 e.symm
   have z3 : c < σ.next := by omega
   have z4 : ¬ a = c := by omega
   simp only [go_sem, seval, if_pos rfl, opLen, z1, z2, z3, z4]
  ·have z1 : ¬ B.p = σ.next + 1 := by omega
   have z4 : ¬ a = σ.next + 1 := by omega
   simp only [go_sem, seval, if_pos rfl, opLen, z1, z4]
  ·simp only [List.mem_cons, List.mem_append, List.not_mem_nil, or_false] at hz; omega
attribute [irreducible] serveT
end Go.Ab
namespace Go.Ab
open Go.Proofs
structure Sizes (on : Option OnV) (qs : List OnV) (L : List Pk) : Prop where
 on : ∀ x, on = some x → 1 ≤ x.left ∧ x.left ≤ 2000
 qs : ∀ x ∈ qs, 1 ≤ x.left ∧ x.left ≤ 2000
 L : ∀ y ∈ L, 1 ≤ y.size ∧ y.size ≤ 2000
structure Alike (S S' : PV) : Prop where
 rate : S'.rate = S.rate
 most : S'.most = S.most
 now : S'.now = S.now
 lp : S'.V.lp = S.V.lp
 lb : S'.V.lb = S.V.lb
 room : S'.V.room = S.V.room
theorem Alike.refl (S : PV) : Alike S S := ⟨rfl, rfl, rfl, rfl, rfl, rfl⟩
theorem Alike.trans {S S' S'' : PV} (h : Alike S S') (k : Alike S' S'') : Alike S S'' := ⟨k.rate.trans h.rate, k.most.trans h.most, k.now.trans h.now, k.lp.trans h.lp, k.lb.trans h.lb, k.room.trans h.room⟩
theorem serves_zero {now : Int} {on on' : Option OnV} {qs qs' out : List OnV} {L L' : List Pk} (h : Serves now 0 on qs L out on' qs' L') : out = [] ∧ on' = on ∧ qs' = qs ∧ L' = L := by
 cases h with
 | zero => exact ⟨rfl, rfl, rfl, rfl⟩
 | empty h => omega
 | part h => omega
 | full h => omega
 | nextq h => omega
 | nextl h => omega
inductive Took : QV → List OnV → QV → List OnV → Prop
 | refl {Q : QV} {qs : List OnV} : Took Q qs Q qs
 | more {Q Q' : QV} {qs os : List OnV} {y : Item} {flow size : Int} {x : FlowV} (h : Took Q qs Q' (qOn y flow size :: os)) (hh : Head Q' y flow size x) : Took Q qs (takeV Q' y flow size x) os
theorem Took.nil {Q Q' : QV} {qs qs' : List OnV} (h : Took Q qs Q' qs') : qs = [] → Q' = Q ∧ qs' = [] := by
 induction h with
 | refl => exact fun e => ⟨rfl, e⟩
 | more h hh ih =>
  intro e
  have := (ih e).2
  cases this
theorem next_of {S : PV} {qs : List OnV} (hD : Drains qs S.Q) (hS : Sizes S.on qs S.V.L) : (qs = [] ∧ S.V.L = [] ∧ NextR S (noOn false) false S) ∨
  ∃ x S' qs', NextR S x true S' ∧ Drains qs' S'.Q ∧ S'.on = S.on ∧ Alike S S' ∧ Sizes (some x) qs' S'.V.L ∧ (∀ Q0 q0, Took Q0 q0 S.Q qs → Took Q0 q0 S'.Q qs') ∧
   ∀ now b out on' q' L', 0 < b → Serves now b (some x) qs' S'.V.L out on' q' L' → Serves now b none qs S.V.L out on' q' L' := by
 cases qs with
 | nil =>
  have h0 : S.Q.L = [] := hD
  cases hL : S.V.L with
  | nil => exact .inl ⟨rfl, rfl, .none h0 hL⟩
  | cons x L =>
   have hx := hS.L x (by rw [hL]; simp)
   refine .inr ⟨_, _, [], .line h0 hL, h0, rfl, ⟨rfl, rfl, rfl, rfl, rfl, rfl⟩, ⟨fun z hz => by cases hz; exact hx, fun z hz => (by cases hz), fun z hz => hS.L z (by rw [hL]; exact List.mem_cons_of_mem _ hz)⟩, fun _ _ h => h, fun now b out on' q' L' hb h => .nextl hb h⟩
 | cons o os =>
  obtain ⟨y, flow, size, x, hh, rfl, hd⟩ := hD
  have hx := hS.qs _ List.mem_cons_self
  exact .inr ⟨_, _, os, .queue hh, hd, rfl, ⟨rfl, rfl, rfl, rfl, rfl, rfl⟩, ⟨fun z hz => by cases hz; exact hx, fun z hz => hS.qs z (List.mem_cons_of_mem _ hz), hS.L⟩, fun _ _ h => .more h hh, fun now b out on' q' L' hb h => .nextq hb h⟩
structure SL (B0 : PB) (S0 : PV) (lo : Nat) (R : Int) (qs0 : List OnV) (σ : St) (v : Value) (m : Nat) (o : Option Nat) (S : PV) (qs acc : List OnV) : Prop where
 hm : m ≤ 1000000
 at' : PAt σ { B0 with o := o } S
 al : Alike S0 S
 low : Low { B0 with o := o } S.Q lo
 hlo : lo ≤ σ.next
 dr : Drains qs S.Q
 sz : Sizes S.on qs S.V.L
 so : SoS lo σ v acc
 av : ∀ a n k, v = .slice (some ⟨a, 0, some 9⟩) n k → o ≠ some a
 len : acc.length + m ≤ 1000000
 ho : ∀ z, o = some z → B0.o = some z ∨ lo ≤ z
 sv : ∀ out on' qs' L', Serves S0.now m S.on qs S.V.L out on' qs' L' → Serves S0.now R S0.on qs0 S0.V.L (acc ++ out) on' qs' L'
 ft : ∀ c, Foot B0.b S.Q c → Foot B0.b S0.Q c
 tk : Took S0.Q qs0 S.Q qs
def IS (B0 : PB) (S0 : PV) (lo : Nat) (R : Int) (qs0 : List OnV) (m : Nat) (fr : Fr) (σ : St) : Prop :=
 ∃ ts v o S qs acc, fr = ⟨ts, []⟩ ∧ FS ts B0.p v (m : Int) ∧ SL B0 S0 lo R qs0 σ v m o S qs acc
def ES (B0 : PB) (S0 : PV) (lo : Nat) (R : Int) (qs0 : List OnV) (x : AX) (fr : Fr) (σ : St) : Prop :=
 x = .exit 1 ∧ ∃ ts v m o S qs acc, fr = ⟨ts, []⟩ ∧ ts.length = 106 ∧ lget ts 4 = v ∧ SL B0 S0 lo R qs0 σ v m o S qs acc ∧ Serves S0.now R S0.on qs0 S0.V.L acc S.on qs S.V.L
theorem SL.part {B0 : PB} {S0 : PV} {lo : Nat} {R : Int} {qs0 : List OnV} {σ σ' : St} {v : Value} {m o : Nat} {S : PV} {qs acc : List OnV} {x : OnV} (H : SL B0 S0 lo R qs0 σ v m (some o) S qs acc) (hx : S.on = some x) (hm : 0 < m) (hlt : (m : Int) < x.left)
    (h1 : PAt σ' { B0 with o := some o } { S with on := some { x with left := x.left - m } }) (hn : σ'.next = σ.next) (hg : ∀ c, c ≠ o → σ'.get c = σ.get c) : SL B0 S0 lo R qs0 σ' v 0 (some o) { S with on := some { x with left := x.left - m } } qs acc :=
  { hm := Nat.zero_le _
    at' := h1
    al := H.al.trans ⟨rfl, rfl, rfl, rfl, rfl, rfl⟩
    low := ⟨H.low.p, H.low.l, H.low.r, H.low.f⟩
    hlo := by have := H.hlo; omega
    dr := H.dr
    sz := ⟨fun z hz => by cases hz; have := (H.sz.on x hx).2; show 1 ≤ x.left - m ∧ x.left - m ≤ 2000; omega, H.sz.qs, H.sz.L⟩
    so := by
      rcases H.so with h | ⟨a, h2, h3, h4, h5, h6⟩
      · exact .inl h
      · exact .inr ⟨a, h2, (hg a fun e => H.av a _ _ h2 (by rw [e])).trans h3, h4, by omega, h6⟩
    av := H.av
    len := by have := H.len; omega
    ho := H.ho
    sv := fun out on' qs' L' h => by
      have h : Serves S0.now 0 (some { x with left := x.left - m }) qs S.V.L out on' qs' L' := h
      obtain ⟨rfl, rfl, rfl, rfl⟩ := serves_zero h
      refine H.sv _ _ _ _ ?_
      rw [hx]
      exact .part (by omega) hlt
    ft := H.ft
    tk := H.tk }
theorem SL.full {B0 : PB} {S0 : PV} {lo : Nat} {R : Int} {qs0 : List OnV} {σ σ' : St} {v v' : Value} {m o : Nat} {S : PV} {qs acc : List OnV} {x : OnV} {lg : Log} (H : SL B0 S0 lo R qs0 σ v m (some o) S qs acc) (hx : S.on = some x) (hm : 0 < m) (hle : x.left ≤ (m : Int))
    (h : FullR σ { B0 with o := some o } S o lo v' acc x σ' lg) : SL B0 S0 lo R qs0 σ' v' (m - x.left.toNat) none { S with on := none } qs (acc ++ [{ x with fin := S.now, left := 0 }]) := by
  have hl := H.sz.on x hx
  have hk : ((m - x.left.toNat : Nat) : Int) = m - x.left := by omega
  have hm1 := H.hm
  exact { hm := by omega
          at' := h.1
          al := H.al.trans ⟨rfl, rfl, rfl, rfl, rfl, rfl⟩
          low := ⟨H.low.p, H.low.l, H.low.r, H.low.f⟩
          hlo := by have := H.hlo; have := h.2.2.1; omega
          dr := H.dr
          sz := ⟨fun z hz => (by cases hz), H.sz.qs, H.sz.L⟩
          so := h.2.1
          av := fun a n k _ e => by cases e
          len := by have := H.len; simp; omega
          ho := fun z hz => by cases hz
          sv := fun out on' qs' L' k => by
            rw [hk] at k
            have k : Serves S0.now (m - x.left) none qs S.V.L out on' qs' L' := k
            rw [List.append_assoc]
            refine H.sv _ _ _ _ ?_
            rw [hx, H.al.now]
            exact .full (by omega) hle k
          ft := H.ft
          tk := H.tk }
end Go.Ab
namespace Go.Ab
open Go.Proofs
theorem SL.next {B0 : PB} {S0 : PV} {lo : Nat} {R : Int} {qs0 : List OnV} {σ σ1 σ2 : St} {v : Value} {m : Nat} {S S' : PV} {qs qs' acc : List OnV} {x : OnV} {lg : Log} (H : SL B0 S0 lo R qs0 σ v m none S qs acc) (hx : S.on = none) (hm : 0 < m) (hN : NextR S x true S') (hD : Drains qs' S'.Q) (hon : S'.on = S.on) (hal : Alike S S') (hsz : Sizes (some x) qs' S'.V.L)
    (htk : ∀ Q0 q0, Took Q0 q0 S.Q qs → Took Q0 q0 S'.Q qs') (hsv : ∀ now b out on' q' L', 0 < b → Serves now b (some x) qs' S'.V.L out on' q' L' → Serves now b none qs S.V.L out on' q' L') (hl : Logged σ σ1 lg) (hT : TakenR σ { B0 with o := none } S S' σ1 lg)
    (hn : σ2.next = σ1.next + 1) (hg : ∀ c, c < σ1.next → c ≠ B0.p → σ2.get c = σ1.get c) (g1 : σ2.get σ1.next = some (.cells x.cells false)) (g2 : σ2.get B0.p = some (.cells [.pointer (some ⟨B0.b.q, 0, none⟩), .pointer (some ⟨B0.l, 0, none⟩), .int .i64 S'.rate, .int .i64 S'.most, .int .i64 S'.now, .pointer (some ⟨σ1.next, 0, none⟩)] false)) :
    SL B0 S0 lo R qs0 σ2 v m (some σ1.next) { S' with on := some x } qs' acc := by
  obtain ⟨hB, H1⟩ := hT
  have hlo := H.hlo
  have hnx := hl.1
  have ft : ∀ c, Foot B0.b S'.Q c → Foot B0.b S.Q c := fun c hc => by
    have := hN.foot (B := { B0 with o := none }) (c := c) (.inr (.inr (.inr (.inr hc))))
    rcases this with h | h | h | h | h
    · exact absurd hc (h ▸ H1.pf)
    · exact absurd hc (h ▸ H1.lf)
    · exact absurd hc (h ▸ H1.rf)
    · cases h
    · exact h
  have hp : B0.p < lo := H.low.p
  have hll : B0.l < lo := H.low.l
  have hr : B0.r < lo := H.low.r
  have lw : Low { B0 with o := none } S'.Q lo := ⟨hp, hll, hr, fun c hc => H.low.f c (ft c hc)⟩
  have P2 := H1.turn (σ' := σ2) (o' := some σ1.next) (on' := some x) lw (by omega) (fun c hc hcp _ => hg c (by omega) hcp) g2 ⟨rfl, fun o' x' h1 h2 => by
    cases h1
    cases h2
    exact ⟨g1, by omega, by show σ1.next ≠ B0.p; omega, by show σ1.next ≠ B0.l; omega, by show σ1.next ≠ B0.r; omega, fun h => by have := lw.f _ h; omega⟩⟩
  exact { hm := H.hm
          at' := P2
          al := H.al.trans (hal.trans ⟨rfl, rfl, rfl, rfl, rfl, rfl⟩)
          low := ⟨hp, hll, hr, lw.f⟩
          hlo := by omega
          dr := hD
          sz := hsz
          so := H.so.keep (by omega) fun a h1 h2 => by
            rw [hg a (by omega) (by omega)]
            exact hl.2 a h2 fun hm => by
              rcases hB a hm with h | h
              · rcases h with h | h | h | h | h
                · have h : a = B0.p := h
                  omega
                · have h : a = B0.l := h
                  omega
                · have h : a = B0.r := h
                  omega
                · cases h
                · have := H.low.f a h; omega
              · omega
          av := fun a n k hv e => by
            have e : σ1.next = a := by cases e; rfl
            rcases H.so with ⟨h, _⟩ | ⟨a', h, _, _, h4, _⟩
            · rw [h] at hv; cases hv
            · rw [h] at hv
              have : a' = a := by cases hv; rfl
              omega
          len := H.len
          ho := fun z hz => .inr (by cases hz; omega)
          sv := fun out on' q' L' k => H.sv _ _ _ _ (by rw [hx]; exact hsv _ _ _ _ _ _ (by omega) k)
          ft := fun c hc => H.ft c (ft c hc)
          tk := htk _ _ H.tk }
theorem SL.old {B0 : PB} {S0 : PV} {lo : Nat} {R : Int} {qs0 : List OnV} {σ : St} {v : Value} {m : Nat} {S : PV} {qs acc : List OnV} (H : SL B0 S0 lo R qs0 σ v m none S qs acc) {c : Nat} (h : PFoot { B0 with o := none } S.Q c) : c < lo := by
 rcases h with h | h | h | h | h
 ·exact h ▸ H.low.p
 ·exact h ▸ H.low.l
 ·exact h ▸ H.low.r
 ·cases h
 ·exact H.low.f c h
theorem SL.keep {B0 : PB} {S0 : PV} {lo : Nat} {R : Int} {qs0 : List OnV} {σ σ' : St} {v : Value} {m : Nat} {o : Option Nat} {S : PV} {qs acc : List OnV} (H : SL B0 S0 lo R qs0 σ v m o S qs acc) (h : PAt σ' { B0 with o := o } S) (hn : σ.next ≤ σ'.next) (hg : ∀ a, lo ≤ a → a < σ.next → σ'.get a = σ.get a) : SL B0 S0 lo R qs0 σ' v m o S qs acc :=
  { H with
    at' := h
    hlo := by have := H.hlo; omega
    so := H.so.keep hn hg }
set_option maxHeartbeats 3200000 in
set_option maxRecDepth 20000 in
theorem serve_loop {B0 : PB} {S0 : PV} {lo : Nat} {R : Int} {qs0 : List OnV} : ∀ m fr σ, IS B0 S0 lo R qs0 m fr σ → loopX Tryz.prog false serveB fr σ (endL (ES B0 S0 lo R qs0) fun z => PFoot B0 S0.Q z ∨ lo ≤ z) := by
 refine loop_ind q8 8 (by kernel_rfl) _ _ _ ?_
 rintro m fr σ ⟨ts, v, o, S, qs, acc, rfl, F, H⟩
 have e0 := F.t0
 have e4 := F.t4
 have e5 := F.t5
 have el := F.size
 have gp : σ.get B0.p = some (.cells [.pointer (some ⟨B0.b.q, 0, none⟩), .pointer (some ⟨B0.l, 0, none⟩), .int .i64 S.rate, .int .i64 S.most, .int .i64 S.now, onPtr o] false) := H.at'.gp
 have hp : B0.p < σ.next := H.at'.lt
 have hhas : o.isSome = S.on.isSome := H.at'.on.has
 by_cases hm : m = 0
 ·subst hm
  have c0 : ¬ (0 : Int) < ((0 : Nat) : Int) := by omega
  simp only [Int.cast_ofNat_Int] at e5 c0
  simp only [go_sem, seval, if_pos rfl, opLen, undef, serveB, loopOf, Tryz.f8, Option.getD, e0, e4, e5, el, c0]
  refine ⟨rfl, _, v, 0, o, S, qs, acc, rfl, by simp only [List.length_set, el], by simp only [go_sem, seval, if_pos rfl, opLen, el, e4], H, ?_⟩
  have := H.sv [] S.on qs S.V.L .zero
  rw [List.append_nil] at this
  exact this
 have hm0 : 0 < m := by omega
 have hm1 := H.hm
 have c0 : (0 : Int) < (m : Int) := by omega
 have hB1 : ∀ z, o = some z → PFoot B0 S0.Q z ∨ lo ≤ z := fun z hz => (H.ho z hz).imp (fun h => .inr (.inr (.inr (.inl h)))) id
 cases hon : S.on with
 | some x =>
  obtain ⟨o', rfl⟩ : ∃ o', o = some o' := by
   rw [hon] at hhas
   exact Option.isSome_iff_exists.1 hhas
  simp only [onPtr] at gp
  have hsx := H.sz.on x hon
  by_cases hlt : (m : Int) < x.left
  ·rw [serveB_is]
   simp only [go_sem, seval, if_pos rfl, opLen, undef, nthC, serveX, serveB, blockOf, dropC, loopOf, Tryz.f8, Option.getD, e0, e4, e5, el, gp, hp, c0]
   refine tail_part (v := v) (bytes := (m : Int)) H.at' H.low ⟨by simp only [List.length_set, el], by simp only [go_sem, seval, if_pos rfl, opLen, el, e0], by simp only [go_sem, seval, if_pos rfl, opLen, el, e4], by simp only [go_sem, seval, if_pos rfl, opLen, el, e5]⟩ rfl hon (by omega) (by omega) hlt ?_
   intro ts' σ' F1 P1 hn hg
   have H' := H.part hon hm0 hlt P1 hn hg
   have hz := hB1 o' rfl
   simp only [go_sem, seval, if_pos rfl, opLen]
   exact ⟨hz, 0, hm0, ts', v, some o', _, qs, acc, rfl, F1, H'⟩
  ·rw [serveB_is]
   simp only [go_sem, seval, if_pos rfl, opLen, undef, nthC, serveX, serveB, blockOf, dropC, loopOf, Tryz.f8, Option.getD, e0, e4, e5, el, gp, hp, c0]
   refine tail_full (v := v) (bytes := (m : Int)) H.at' H.low H.hlo ⟨by simp only [List.length_set, el], by simp only [go_sem, seval, if_pos rfl, opLen, el, e0], by simp only [go_sem, seval, if_pos rfl, opLen, el, e4], by simp only [go_sem, seval, if_pos rfl, opLen, el, e5]⟩ rfl hon (by omega) (by omega) (by omega) H.so (fun a n k hv e => H.av a n k hv (by rw [e])) (by have := H.len; omega) ?_
   intro ts' v' σ' lg F1 hfl
   have H' := H.full hon hm0 (by omega) hfl
   have hz : ∀ z ∈ lg, PFoot B0 S0.Q z ∨ lo ≤ z := fun z hz => by
    rcases hfl.2.2.2 z hz with h | h | h
    ·exact hB1 z (by rw [h])
    ·exact .inl (.inl h)
    ·exact .inr h
   have hk : ((m - x.left.toNat : Nat) : Int) = m - x.left := by omega
   rw [← hk] at F1
   simp only [go_sem, seval, if_pos rfl, opLen]
   exact ⟨hz, m - x.left.toNat, by omega, ts', v', none, _, qs, _, rfl, F1, H'⟩
 | none =>
  obtain rfl : o = none := by
   rw [hon] at hhas
   cases o with
   | none => rfl
   | some o => cases hhas
  simp only [onPtr] at gp
  rcases next_of H.dr H.sz with ⟨rfl, hL, hN⟩ | ⟨x, S', qs', hN, hD, hon', hal, hsz, htk, hsv⟩
  ·rw [serveB_is]
   simp only [go_sem, seval, if_pos rfl, opLen, undef, nthC, serveX, serveB, blockOf, dropC, loopOf, Tryz.f8, Option.getD, e0, e4, e5, el, gp, hp, c0, body19]
   refine callX.hid (next_call (B := { B0 with o := none }) H.at' hN) ?_
   intro σ1 lg1 hlg1 hA
   refine ⟨?_⟩
   simp only [go_sem, seval, if_pos rfl, opLen, undef, noOn, OnV.cells, e0, e4, e5, el, body19]
   have hB := hA.1
   have nx := hlg1.1
   have hlo := H.hlo
   have hz : ∀ z ∈ lg1, PFoot B0 S0.Q z ∨ lo ≤ z := fun z hz => by
    rcases hB z hz with h | h
    ·rcases h with h | h | h | h | h
     ·exact .inl (.inl h)
     ·exact .inl (.inr (.inl h))
     ·exact .inl (.inr (.inr (.inl h)))
     ·cases h
     ·exact .inl (.inr (.inr (.inr (.inr (H.ft z h)))))
    ·exact .inr (by omega)
   refine ⟨fun z hz' => hz'.elim (hz z) fun e => .inr (by omega), rfl, _, v, m, none, S, [], acc, rfl, by simp only [List.length_set, el], by simp only [go_sem, seval, if_pos rfl, opLen, el, e4], ?_, ?_⟩
   ·refine H.keep (hA.2.keep (by simp only [go_sem, seval, if_pos rfl, opLen, St.next_put] <;> omega) fun c hc => ?_) (by simp only [go_sem, seval, if_pos rfl, opLen, St.next_put] <;> omega) fun a h1 h2 => ?_
    ·have := hA.2.in_lt hc
     simp only [go_sem, seval, if_pos rfl, opLen, this]
    ·have h3 : a < σ1.next := by omega
     simp only [go_sem, seval, if_pos rfl, opLen, h3]
     exact hlg1.2 a h2 fun hm => by
      rcases hB a hm with h | h
      ·have := H.old h; omega
      ·omega
   ·have := H.sv [] none [] [] (by rw [hon, hL]; exact .empty c0)
    rw [List.append_nil] at this
    rw [hon, hL]
    exact this
  ·by_cases hlt : (m : Int) < x.left
   ·rw [serveB_is]
    simp only [go_sem, seval, if_pos rfl, opLen, undef, nthC, serveX, serveB, blockOf, dropC, loopOf, Tryz.f8, Option.getD, e0, e4, e5, el, gp, hp, c0, body19]
    refine callX.hid (next_call (B := { B0 with o := none }) H.at' hN) ?_
    intro σ1 lg1 hlg1 hA
    have gp1 : σ1.get B0.p = some (.cells [.pointer (some ⟨B0.b.q, 0, none⟩), .pointer (some ⟨B0.l, 0, none⟩), .int .i64 S'.rate, .int .i64 S'.most, .int .i64 S'.now, .pointer none] false) := hA.2.gp
    have hp1 : B0.p < σ1.next := hA.2.lt
    have n1 : ¬ σ1.next = B0.p := by omega
    have hB := hA.1
    have hlo := H.hlo
    have nx := hlg1.1
    have hz1 : ∀ z ∈ lg1, PFoot B0 S0.Q z ∨ lo ≤ z := fun z hz => by
     rcases hB z hz with h | h
     ·rcases h with h | h | h | h | h
      ·exact .inl (.inl h)
      ·exact .inl (.inr (.inl h))
      ·exact .inl (.inr (.inr (.inl h)))
      ·cases h
      ·exact .inl (.inr (.inr (.inr (.inr (H.ft z h)))))
     ·exact .inr (by omega)
    have H2 := H.next (σ2 := (((σ1.new (.cells [.int .i64 0, .int .i64 0, .int .i64 0, .bool false, .int .i64 0, .int .i64 0, .int .i64 0, .int .i64 0] false)).set σ1.next (.cells x.cells false)).set B0.p (.cells [.pointer (some ⟨B0.b.q, 0, none⟩), .pointer (some ⟨B0.l, 0, none⟩), .int .i64 S'.rate, .int .i64 S'.most, .int .i64 S'.now, .pointer (some ⟨σ1.next, 0, none⟩)] false))) hon hm0 hN hD hon' hal hsz htk hsv hlg1 hA
     (by simp only [go_sem, seval, if_pos rfl, opLen]) (fun c h1 h2 => by have h2 : ¬ B0.p = c := fun e => h2 e.symm; simp only [go_sem, seval, if_pos rfl, opLen, h1, h2]) (by have h2 : ¬ B0.p = σ1.next := (by omega); simp only [go_sem, seval, if_pos rfl, opLen, h2]) (by rw [St.get_set, if_pos rfl])
    have hsx := hsz.on x rfl
    refine ⟨?_⟩
    simp only [go_sem, seval, if_pos rfl, opLen, undef, OnV.cells, gp1, hp1, n1, e0, e4, e5, el, body19]
    refine tail_part (v := v) (bytes := (m : Int)) H2.at' H2.low ⟨by simp only [List.length_set, el], by simp only [go_sem, seval, if_pos rfl, opLen, el, e0], by simp only [go_sem, seval, if_pos rfl, opLen, el, e4], by simp only [go_sem, seval, if_pos rfl, opLen, el, e5]⟩ rfl rfl (by omega) (by omega) hlt ?_
    intro ts' σ' F1 P1 hn hg
    have H' := H2.part rfl hm0 hlt P1 hn hg
    simp only [go_sem, seval, if_pos rfl, opLen]
    refine ⟨fun z hz => ?_, 0, hm0, ts', v, some σ1.next, _, qs', acc, rfl, F1, H'⟩
    rcases hz with ((hz | hz) | hz) | hz
    ·exact hz1 z hz
    ·exact .inr (by omega)
    ·exact .inl (.inl hz)
    ·exact .inr (by omega)
   ·rw [serveB_is]
    simp only [go_sem, seval, if_pos rfl, opLen, undef, nthC, serveX, serveB, blockOf, dropC, loopOf, Tryz.f8, Option.getD, e0, e4, e5, el, gp, hp, c0, body19]
    refine callX.hid (next_call (B := { B0 with o := none }) H.at' hN) ?_
    intro σ1 lg1 hlg1 hA
    have gp1 : σ1.get B0.p = some (.cells [.pointer (some ⟨B0.b.q, 0, none⟩), .pointer (some ⟨B0.l, 0, none⟩), .int .i64 S'.rate, .int .i64 S'.most, .int .i64 S'.now, .pointer none] false) := hA.2.gp
    have hp1 : B0.p < σ1.next := hA.2.lt
    have n1 : ¬ σ1.next = B0.p := by omega
    have hB := hA.1
    have hlo := H.hlo
    have nx := hlg1.1
    have hz1 : ∀ z ∈ lg1, PFoot B0 S0.Q z ∨ lo ≤ z := fun z hz => by
     rcases hB z hz with h | h
     ·rcases h with h | h | h | h | h
      ·exact .inl (.inl h)
      ·exact .inl (.inr (.inl h))
      ·exact .inl (.inr (.inr (.inl h)))
      ·cases h
      ·exact .inl (.inr (.inr (.inr (.inr (H.ft z h)))))
     ·exact .inr (by omega)
    have H2 := H.next (σ2 := (((σ1.new (.cells [.int .i64 0, .int .i64 0, .int .i64 0, .bool false, .int .i64 0, .int .i64 0, .int .i64 0, .int .i64 0] false)).set σ1.next (.cells x.cells false)).set B0.p (.cells [.pointer (some ⟨B0.b.q, 0, none⟩), .pointer (some ⟨B0.l, 0, none⟩), .int .i64 S'.rate, .int .i64 S'.most, .int .i64 S'.now, .pointer (some ⟨σ1.next, 0, none⟩)] false))) hon hm0 hN hD hon' hal hsz htk hsv hlg1 hA
     (by simp only [go_sem, seval, if_pos rfl, opLen]) (fun c h1 h2 => by have h2 : ¬ B0.p = c := fun e => h2 e.symm; simp only [go_sem, seval, if_pos rfl, opLen, h1, h2]) (by have h2 : ¬ B0.p = σ1.next := (by omega); simp only [go_sem, seval, if_pos rfl, opLen, h2]) (by rw [St.get_set, if_pos rfl])
    have hsx := hsz.on x rfl
    refine ⟨?_⟩
    simp only [go_sem, seval, if_pos rfl, opLen, undef, OnV.cells, gp1, hp1, n1, e0, e4, e5, el, body19]
    refine tail_full (v := v) (bytes := (m : Int)) H2.at' H2.low H2.hlo ⟨by simp only [List.length_set, el], by simp only [go_sem, seval, if_pos rfl, opLen, el, e0], by simp only [go_sem, seval, if_pos rfl, opLen, el, e4], by simp only [go_sem, seval, if_pos rfl, opLen, el, e5]⟩ rfl rfl (by omega) (by omega) (by omega) H2.so (fun a n k hv e => H2.av a n k hv (by rw [e])) (by have := H.len; omega) ?_
    intro ts' v' σ' lg F1 hfl
    have H' := H2.full rfl hm0 (by omega) hfl
    have hk : ((m - x.left.toNat : Nat) : Int) = m - x.left := by omega
    rw [← hk] at F1
    simp only [go_sem, seval, if_pos rfl, opLen]
    refine ⟨fun z hz => ?_, m - x.left.toNat, by omega, ts', v', none, _, qs', _, rfl, F1, H'⟩
    rcases hz with ((hz | hz) | hz) | hz
    ·exact hz1 z hz
    ·exact .inr (by omega)
    ·exact .inl (.inl hz)
    ·rcases hfl.2.2.2 z hz with h | h | h
     ·exact .inr (by omega)
     ·exact .inl (.inl h)
     ·exact .inr h
end Go.Ab
namespace Go.Ab
open Go.Proofs
def tick (S : PV) : PV := { S with now := S.now + 1 }
structure Served (σ : St) (B : PB) (S : PV) (qs : List OnV) (σ' : St) (v : Value) (o : Option Nat) (S' : PV) (qs' out : List OnV) : Prop where
 at' : PAt σ' { B with o := o } S'
 al : Alike (tick S) S'
 dr : Drains qs' S'.Q
 sz : Sizes S'.on qs' S'.V.L
 so : SoS σ.next σ' v out
 av : ∀ a n k, v = .slice (some ⟨a, 0, some 9⟩) n k → o ≠ some a
 sv : Serves (S.now + 1) S.rate S.on qs S.V.L out S'.on qs' S'.V.L
 o : ∀ z, o = some z → B.o = some z ∨ σ.next ≤ z
 ft : ∀ c, Foot B.b S'.Q c → Foot B.b S.Q c
 tk : Took S.Q qs S'.Q qs'
def ServedR (σ : St) (B : PB) (S : PV) (qs : List OnV) (e : AE) (σ' : St) (lg : Log) : Prop :=
 ∃ v o S' qs' out, e = .ret (.tuple ⟨[v, .int .i64 0]⟩) ∧ (∀ z ∈ lg, PFoot B S.Q z ∨ σ.next ≤ z) ∧ Served σ B S qs σ' v o S' qs' out
theorem PAt.now {σ σ' : St} {B : PB} {S : PV} (H : PAt σ B S) (k : Int) (hn : σ.next ≤ σ'.next) (hg : ∀ c, c < σ.next → c ≠ B.p → σ'.get c = σ.get c)
    (gp : σ'.get B.p = some (.cells [.pointer (some ⟨B.b.q, 0, none⟩), .pointer (some ⟨B.l, 0, none⟩), .int .i64 S.rate, .int .i64 S.most, .int .i64 k, onPtr B.o] false)) : PAt σ' B { S with now := k } :=
  { gp := gp
    q := H.q.keep hn fun c hc => hg c (H.q.in_lt hc) fun e => H.pf (e ▸ hc)
    l := H.l.keep hn (hg _ H.l.lt.1 fun e => H.pl e.symm) (hg _ H.l.lt.2 fun e => H.pr e.symm)
    on := ⟨H.on.has, fun o x h1 h2 => by
      obtain ⟨a, b, c1, c2⟩ := H.on.get o x h1 h2
      exact ⟨(hg o b c1).trans a, by omega, c1, c2⟩⟩
    lt := by have := H.lt; omega
    pl := H.pl
    pr := H.pr
    pf := H.pf
    lf := H.lf
    rf := H.rf }
set_option maxHeartbeats 1600000 in
set_option maxRecDepth 20000 in
theorem serve_call {σ : St} {B : PB} {S : PV} {qs : List OnV} (H : PAt σ B S) (hD : Drains qs S.Q) (hS : Sizes S.on qs S.V.L) (hnow : 0 ≤ S.now ∧ S.now < 2147483647) (hr : 0 ≤ S.rate ∧ S.rate ≤ 1000000) : callX Tryz.prog 8 [.pointer (some ⟨B.p, 0, none⟩)] σ (ServedR σ B S qs) := by
  have gp := H.gp
  have hp := H.lt
  have c1 : ¬ (2147483647 : Int) ≤ S.now := by omega
  have w1 : IntKind.i64.wrap (S.now + 1) = S.now + 1 := wrapI (by omega) (by omega)
  have hR : ((S.rate.toNat : Nat) : Int) = S.rate := by omega
  refine enter (p := q8) Tryz.func8 rfl stat8 ?_
  simp only [go_sem, seval, if_pos rfl, opLen, undef, Tryz.f8, body16]
  refine enscope q8 8 (by kernel_rfl) ?_
  simp only [go_sem, seval, if_pos rfl, opLen, undef, body16]
  refine .of (pnone_call gp) ?_
  simp only [go_sem, seval, if_pos rfl, opLen, undef, gp, hp, c1, w1, body16]
  have H1 := H.now (σ' := σ.set B.p (.cells [.pointer (some ⟨B.b.q, 0, none⟩), .pointer (some ⟨B.l, 0, none⟩), .int .i64 S.rate, .int .i64 S.most, .int .i64 (S.now + 1), onPtr B.o] false)) (S.now + 1) (Nat.le_refl _) (fun c _ h => by rw [St.get_set, if_neg (Ne.symm h)]) (by rw [St.get_set, if_pos rfl])
  refine loop_then (serve_loop (B0 := B) (S0 := tick S) (lo := σ.next) (R := S.rate) (qs0 := qs) S.rate.toNat _ _ ⟨_, .slice none 0 0, B.o, tick S, qs, [], rfl, ⟨rfl, rfl, rfl, by rw [hR]; rfl⟩, ?_⟩) ?_
  · exact { hm := by omega
            at' := H1
            al := Alike.refl _
            low := ⟨H.lt, H.l.lt.1, H.l.lt.2, fun c hc => H.q.in_lt hc⟩
            hlo := Nat.le_refl _
            dr := hD
            sz := hS
            so := .inl ⟨rfl, rfl⟩
            av := fun a n k h => by cases h
            len := by show 0 + S.rate.toNat ≤ 1000000; omega
            ho := fun z hz => .inl hz
            sv := fun out on' qs' L' h => by rw [hR] at h; exact h
            ft := fun c h => h
            tk := .refl }
  · intro x fr' σ' lg hlg hB h
    obtain ⟨rfl, ts, v, m, o, S', qs', acc, rfl, el, e4, HL, hs⟩ := h
    simp only [go_sem, seval, if_pos rfl, opLen, undef, e4, el, body16]
    refine ⟨v, o, S', qs', acc, rfl, fun z hz => ?_, ⟨HL.at', HL.al, HL.dr, HL.sz, HL.so, HL.av, hs, HL.ho, HL.ft, HL.tk⟩⟩
    rcases List.mem_cons.1 hz with h | h
    · exact .inl (.inl h)
    · exact hB z h
end Go.Ab
namespace Go.Ab
open Go.Proofs
structure TE (σ : St) (b : QB) (Q : QV) (qb bx : Nat) : Prop where
 q : QAt σ b Q
 gb : σ.get qb = some (.cells [.pointer (some ⟨b.q, 0, none⟩)] false)
 gx : σ.get bx = some (.cells [.func (.func 41) ⟨[]⟩ ⟨[.pointer (some ⟨qb, 0, none⟩)]⟩] false)
 lt : qb < σ.next ∧ bx < σ.next
theorem TE.keep {σ σ' : St} {b : QB} {Q : QV} {qb bx : Nat} (T : TE σ b Q qb bx) (hn : σ.next ≤ σ'.next) (hg : ∀ z, z < σ.next → σ'.get z = σ.get z) : TE σ' b Q qb bx :=
 ⟨T.q.keep hn fun c hc => hg c (T.q.in_lt hc), (hg _ T.lt.1).trans T.gb, (hg _ T.lt.2).trans T.gx, by have := T.lt; omega⟩
set_option maxRecDepth 20000 in
theorem turn_call {σ : St} {b : QB} {Q : QV} {qb : Nat} (H : QAt σ b Q) (gb : σ.get qb = some (.cells [.pointer (some ⟨b.q, 0, none⟩)] false)) (hqb : qb < σ.next) {x : Pk} {n : Nat} {it : Item} (hi : Q.L[n]? = some it) (hid : it.id = x.id) :
  DCall Tryz.prog 41 [.agg ⟨x.cells⟩, .pointer (some ⟨qb, 0, none⟩)] σ (.ret (.int .i64 it.turn)) σ [] := by
 have gq := H.gq
 have hq : b.q < σ.next := H.lt _ (by simp [QB.core])
 have hx : HX (σ.new (.cells x.cells false)) b.h b.m b.A Q.L Q.t := H.hx.keep (by simp) fun c hc => by
  have := H.hx.lt c hc
  rw [St.get_new, if_neg (by omega)]
 have hg := HX.get hx hi
 rw [hid] at hg
 simp only [Pk.cells, Item.cells] at hg ⊢
 refine pure_call (enter (p := q8) Tryz.func41 rfl stat41 ?_) rfl
 simp only [go_sem, seval, if_pos rfl, opLen, undef, Tryz.f41, gb, gq, hqb, hq]
 refine .of hg ?_
 simp only [go_sem, seval, if_pos rfl, opLen, undef, zerosN, Tryz.f41, gb, gq, hqb, hq]
set_option maxRecDepth 20000 in
theorem cmpk_call {σ : St} {b : QB} {Q : QV} {qb bx : Nat} (T : TE σ b Q qb bx) {x y : Pk} {i j : Nat} {u v : Item} (hu : Q.L[i]? = some u) (hux : u.id = x.id) (hv : Q.L[j]? = some v) (hvy : v.id = y.id) :
  DCall Tryz.prog 69 [.agg ⟨x.cells⟩, .agg ⟨y.cells⟩, .pointer (some ⟨bx, 0, none⟩)] σ (.ret (.int .i64 (cmpI u.turn v.turn))) σ [] := by
 have T2 : TE ((σ.new (.cells x.cells false)).new (.cells y.cells false)) b Q qb bx := T.keep (by simp; omega) fun z hz => by
  rw [St.get_new, if_neg (by simp; omega), St.get_new, if_neg (by omega)]
 have d1 := turn_call T2.q T2.gb T2.lt.1 hu hux
 have d2 := turn_call T2.q T2.gb T2.lt.1 hv hvy
 have gx := T.gx
 have l1 := T.lt.1
 have l2 := T.lt.2
 simp only [Pk.cells] at d1 d2 ⊢
 refine pure_call (enter (p := q8) Tryz.func69 rfl stat69 ?_) rfl
 simp only [go_sem, seval, if_pos rfl, opLen, undef, Tryz.f69, gx, l2]
 refine .of d1 ?_
 simp only [go_sem, seval, if_pos rfl, opLen, undef, Tryz.f69, gx, l2]
 refine .of d2 ?_
 simp only [go_sem, seval, if_pos rfl, opLen, undef, Tryz.f69, gx, l2]
def ltT (tn : Int → Int) (x y : Pk) : Bool := decide (tn x.id < tn y.id)
def InQ (Q : QV) (x : Pk) : Prop := ∃ (i : Nat) (it : Item), Q.L[i]? = some it ∧ it.id = x.id
theorem by_ok {σ σ1 : St} {b : QB} {Q : QV} {qb bx a : Nat} {tn : Int → Int} (T : TE σ b Q qb bx) (htn : ∀ it ∈ Q.L, tn it.id = it.turn) (hn : σ.next ≤ σ1.next) (hg : ∀ z, z < σ.next → σ1.get z = σ.get z) (ha : σ.next ≤ a) :
  CmpOk σ1 a 69 [.pointer (some ⟨bx, 0, none⟩)] (ltT tn) (InQ Q) :=
 ⟨body69, fun σ2 hB x y ⟨i, u, hu, hux⟩ ⟨j, v, hv, hvy⟩ => ⟨_, cmpk_call (T.keep (by have := hB.nx; omega) fun z hz => (hB.get z (by omega) (by omega)).trans (hg z hz)) hu hux hv hvy, by
  have e1 := htn u (List.mem_of_getElem? hu)
  have e2 := htn v (List.mem_of_getElem? hv)
  rw [hux] at e1
  rw [hvy] at e2
  simp only [ltT, cmpI, e1, e2]
  by_cases h : u.turn < v.turn
  ·simp [h]
  ·simp only [h, if_false]
   split <;> simp⟩⟩
theorem swo_ltT (tn : Int → Int) : Sort.SWO (ltT tn) := by
 constructor
 ·intro x; simp [ltT]
 ·intro x y z h1 h2; simp only [ltT, decide_eq_true_eq] at *; omega
 ·intro x y z h1 h2; simp only [ltT, decide_eq_false_iff_not] at *; omega
def OrdR (σ : St) (L : List Pk) (tn : Int → Int) (e : AE) (σ' : St) (lg : Log) : Prop :=
 ∃ w S, e = .ret w ∧ (∀ z ∈ lg, σ.next ≤ z) ∧ S.Perm L ∧ (S.Pairwise fun x y => tn x.id ≤ tn y.id) ∧ ItS σ.next σ' w S
theorem values_call (sa : Option Addr) (sl sc : Nat) (σ : St) : callX Tryz.prog 68 [.slice sa sl sc] σ fun e σ' lg => e = .ret (.func (.func 92) ⟨[]⟩ ⟨[.pointer (some ⟨σ.next, 0, none⟩)]⟩) ∧ (lg = [] ∧ σ' = σ.new (.cells [.slice sa sl sc] false)) := by
 refine enter (p := q8) Tryz.func68 rfl stat68 ?_
 simp only [go_sem, seval, if_pos rfl, opLen, undef, Tryz.f68]
set_option maxRecDepth 20000 in
theorem ordered_call {σ : St} {b : QB} {Q : QV} {qb lo : Nat} (H : QAt σ b Q) (gb : σ.get qb = some (.cells [.pointer (some ⟨b.q, 0, none⟩)] false)) (hqb : qb < σ.next) {v : Value} {L : List Pk} (hv : ItV lo σ v L) (hL : L.length < 256)
  {tn : Int → Int} (htn : ∀ it ∈ Q.L, tn it.id = it.turn) (hp : ∀ x ∈ L, InQ Q x) :
  callX Tryz.prog 40 [v, .func (.func 41) ⟨[]⟩ ⟨[.pointer (some ⟨qb, 0, none⟩)]⟩] σ (OrdR σ L tn) := by
 obtain ⟨sa, sl, sc, rfl⟩ : ∃ sa sl sc, v = .slice sa sl sc := by
  rcases hv with ⟨rfl, _⟩ | ⟨a, s, cap, G, rfl, _⟩
  ·exact ⟨_, _, _, rfl⟩
  ·exact ⟨_, _, _, rfl⟩
 refine enter (p := q8) Tryz.func40 rfl stat40 ?_
 simp only [go_sem, seval, if_pos rfl, opLen, undef, Tryz.f40]
 refine callX.hidE (values_call sa sl sc _) ?_
 intro e σ1 lg1 hlg1 h1
 obtain ⟨rfl, rfl, rfl⟩ := h1
 refine ⟨?_⟩
 simp only [go_sem, seval, if_pos rfl, opLen, undef, Tryz.f40]
 have T : TE ((σ.new (.cells [.func (.func 41) ⟨[]⟩ ⟨[.pointer (some ⟨qb, 0, none⟩)]⟩] false)).new (.cells [.slice sa sl sc] false)) b Q qb σ.next := by
  refine ⟨H.keep (by simp; omega) fun c hc => ?_, ?_, ?_, ?_⟩
  ·have := H.in_lt hc
   rw [St.get_new, if_neg (by simp; omega), St.get_new, if_neg (by omega)]
  ·rw [St.get_new, if_neg (by simp; omega), St.get_new, if_neg (by omega)]; exact gb
  ·rw [St.get_new, if_neg (by simp), St.get_new, if_pos rfl]
  ·simp; omega
 have hv' : ItV lo ((σ.new (.cells [.func (.func 41) ⟨[]⟩ ⟨[.pointer (some ⟨qb, 0, none⟩)]⟩] false)).new (.cells [.slice sa sl sc] false)) (.slice sa sl sc) L := by
  rcases hv with h | ⟨a, s, cap, G, h1, h2, h3, h4⟩
  ·exact .inl h
  ·refine .inr ⟨a, s, cap, G, h1, ?_, h3, by simp; omega⟩
   rw [St.get_new, if_neg (by simp; omega), St.get_new, if_neg (by omega)]
   exact h2
 have hs := sortedf_call (lt := ltT tn) (p := InQ Q) (fun σ1 hn hg a ha => by_ok T htn hn hg ha) (swo_ltT tn) (c := σ.next + 1) (by rw [St.get_new, if_pos (by simp)]) (by simp) hv' hL hp
 refine callX.hidE hs ?_
 intro e σ2 lg2 hlg2 hA
 obtain ⟨w, S, rfl, hB, hP, hS, hw⟩ := hA
 refine ⟨?_⟩
 simp only [go_sem, seval, if_pos rfl, opLen, undef]
 simp only [St.next_new] at hB hw
 refine ⟨w, S, rfl, fun z hz => by have := hB z (by simpa using hz); omega, hP, hS.imp fun {x y} h => by simp only [ltT, decide_eq_false_iff_not] at h; omega, ?_⟩
 rcases hw with h | ⟨a, h1, h2, h3, h4⟩
 ·exact .inl h
 ·exact .inr ⟨a, h1, h2, by omega, h4⟩
end Go.Ab
namespace Go.Ab
open Go.Proofs
noncomputable def dropBody : Code := Tryz.f21.body.getD .skip
noncomputable def dropB1 : Code := loopOf (nthC 3 dropBody)
theorem dropB1_is : dropB1 = .seq (nthC 0 dropB1) (dropC 1 dropB1) := by rfl
def pkE (e : MapEntry) : Pk :=
 match e.val with
 | .agg ⟨[.int _ a, .int _ b, .int _ c]⟩ => ⟨a, b, c⟩
 | _ => Pk.zero
def ofF (f : Int) (es : List MapEntry) : List Pk := (es.map pkE).filter fun x => decide (x.flow = f)
def EsOk (es : List MapEntry) (Q : QV) : Prop := ∀ e ∈ es, e.val = .agg ⟨(pkE e).cells⟩ ∧ e.key = .int .i64 (pkE e).id ∧ Q.P (pkE e).id = some ((pkE e).flow, (pkE e).size)
theorem esOk_of {es : List MapEntry} {Q : QV} (hk : KI es) (hl : ∀ k, lkV es k = (Q.P k).map (packOf k)) : EsOk es Q := fun e he => by
 obtain ⟨k, h1⟩ := hk.ints e he
 have h2 := lkV_of_key hk e he h1
 rw [hl] at h2
 cases hP : Q.P k with
 | none => rw [hP] at h2; cases h2
 | some x =>
  obtain ⟨fl, sz⟩ := x
  rw [hP] at h2
  simp only [Option.map_some, packOf, Option.some.injEq] at h2
  have h3 : pkE e = ⟨k, fl, sz⟩ := by unfold pkE; rw [← h2]
  rw [h3]
  exact ⟨h2.symm, h1, hP⟩
structure FR1 (ts : List Value) (f : Int) (qb itb : Nat) (v : Value) : Prop where
 size : ts.length = 68
 t1 : lget ts 1 = .int .i64 f
 t2 : lget ts 2 = .pointer (some ⟨qb, 0, none⟩)
 t6 : lget ts 6 = v
 t26 : lget ts 26 = .pointer (some ⟨itb, 0, none⟩)
structure D1 (σ : St) (b : QB) (Q : QV) (qb itb lo ck : Nat) (es : List MapEntry) (f : Int) (seen : List Nat) (v : Value) (D : List Pk) : Prop where
 q : QAt σ b Q
 gb : σ.get qb = some (.cells [.pointer (some ⟨b.q, 0, none⟩)] false)
 gm : σ.get b.pm = some (.map es ck)
 gi : σ.get itb = some (.mapIter (some b.pm) ck ⟨seen⟩ ck)
 lt : qb < itb ∧ itb < lo ∧ lo ≤ σ.next
 ft : ∀ c, Foot b Q c → c < qb
 v : PkS lo σ v D
 perm : (D ++ ofF f (leftE seen es)).Perm (ofF f es)
theorem D1.next {σ σ' : St} {b : QB} {Q : QV} {qb itb lo ck : Nat} {es : List MapEntry} {f : Int} {seen : List Nat} {v v' : Value} {D D' : List Pk} (H : D1 σ b Q qb itb lo ck es f seen v D) (hbr : Br es ck) {e : MapEntry} (he : e ∈ leftE seen es)
  (hn : σ.next ≤ σ'.next) (hg : ∀ c, c < lo → c ≠ itb → σ'.get c = σ.get c) (gi : σ'.get itb = some (.mapIter (some b.pm) ck ⟨seen ++ [e.born]⟩ ck)) (hv : PkS lo σ' v' D') (hD : D' = D ++ (if (pkE e).flow = f then [pkE e] else [])) :
  D1 σ' b Q qb itb lo ck es f (seen ++ [e.born]) v' D' := by
 have lt := H.lt
 refine ⟨H.q.keep hn fun c hc => ?_, (hg qb (by omega) (by omega)).trans H.gb, ?_, gi, by omega, H.ft, hv, ?_⟩
 ·have := H.ft c hc
  exact hg c (by omega) (by omega)
 ·have := H.ft b.pm (.inl (by simp [QB.core]))
  exact (hg _ (by omega) (by omega)).trans H.gm
 ·refine List.Perm.trans ?_ H.perm
  have h1 := leftE_step hbr.1 he
  have h2 : (ofF f (leftE seen es)).Perm (ofF f (e :: leftE (seen ++ [e.born]) es)) := (h1.map pkE).filter _
  rw [hD, List.append_assoc]
  refine List.Perm.append_left D (List.Perm.trans ?_ h2.symm)
  unfold ofF
  rw [List.map_cons, List.filter_cons]
  by_cases hf : (pkE e).flow = f <;> simp [hf]
theorem drop_r7 {σ : St} {b : QB} {Q : QV} {qb itb lo ck : Nat} {es : List MapEntry} {f : Int} {seen : List Nat} {v : Value} {D : List Pk} {ts : List Value} {K : RR → Prop} (H : D1 σ b Q qb itb lo ck es f seen v D) (hbr : Br es ck) (F : FR1 ts f qb itb v) (hne : leftE seen es ≠ [])
  (h : ∀ e ∈ leftE seen es, ∀ ts', FR1 ts' f qb itb v → lget ts' 28 = .bool true → K ⟨.norm, ⟨ts', []⟩, stepSt σ itb b.pm ck seen ck e, [itb]⟩) : codeS Tryz.prog false (nthC 0 dropB1) ⟨ts, []⟩ σ K := by
 have e1 := F.t1
 have e2 := F.t2
 have e6 := F.t6
 have e26 := F.t26
 have el := F.size
 have hold : allOld ck es = true := by
  have : ∀ l : List MapEntry, (∀ e ∈ l, e.born < ck) → allOld ck l = true := fun l => by
   induction l with
   | nil => intro _; rfl
   | cons x l ih =>
    intro hl
    simp only [allOld, Bool.and_eq_true, Nat.blt_eq]
    exact ⟨hl x (by simp), ih fun y hy => hl y (by simp [hy])⟩
  exact this es hbr.2
 simp only [dropB1, dropBody, nthC, loopOf, Tryz.f21, Option.getD]
 refine codeS.next cP_ok q8 rfl rfl rfl (by simp only [go_sem, seval, if_pos rfl, opLen, e26]) H.gi H.gm hold (Nat.le_refl _) hne fun e he => ?_
 simp only [go_sem, seval, if_pos rfl, opLen, undef, stepTup, el]
 exact h e he _ ⟨by simp only [List.length_set, el], by simp only [go_sem, seval, if_pos rfl, opLen, el, e1], by simp only [go_sem, seval, if_pos rfl, opLen, el, e2], by simp only [go_sem, seval, if_pos rfl, opLen, el, e6], by simp only [go_sem, seval, if_pos rfl, opLen, el, e26]⟩ (by simp only [go_sem, seval, if_pos rfl, opLen, el])
theorem drop_r7e {σ : St} {b : QB} {Q : QV} {qb itb lo ck : Nat} {es : List MapEntry} {f : Int} {seen : List Nat} {v : Value} {D : List Pk} {ts : List Value} {K : RR → Prop} (H : D1 σ b Q qb itb lo ck es f seen v D) (hbr : Br es ck) (F : FR1 ts f qb itb v) (hne : leftE seen es = [])
  (h : ∀ ts', FR1 ts' f qb itb v → lget ts' 28 = .bool false → K ⟨.norm, ⟨ts', []⟩, σ, []⟩) : codeS Tryz.prog false (nthC 0 dropB1) ⟨ts, []⟩ σ K := by
 have e1 := F.t1
 have e2 := F.t2
 have e6 := F.t6
 have e26 := F.t26
 have el := F.size
 simp only [dropB1, dropBody, nthC, loopOf, Tryz.f21, Option.getD]
 refine codeS.next_end cP_ok q8 rfl rfl rfl (by simp only [go_sem, seval, if_pos rfl, opLen, e26]) H.gi H.gm hne hbr.2 ?_
 simp only [go_sem, seval, if_pos rfl, opLen, undef, el]
 exact h _ ⟨by simp only [List.length_set, el], by simp only [go_sem, seval, if_pos rfl, opLen, el, e1], by simp only [go_sem, seval, if_pos rfl, opLen, el, e2], by simp only [go_sem, seval, if_pos rfl, opLen, el, e6], by simp only [go_sem, seval, if_pos rfl, opLen, el, e26]⟩ (by simp only [go_sem, seval, if_pos rfl, opLen, el])
set_option maxHeartbeats 1600000 in
set_option maxRecDepth 20000 in
theorem drop_b1 {σ : St} {b : QB} {Q : QV} {qb itb lo ck : Nat} {es : List MapEntry} {f : Int} {seen : List Nat} {v : Value} {D : List Pk} {ts : List Value} {K : RR → Prop} (H : D1 σ b Q qb itb lo ck es f seen v D) (hbr : Br es ck) (hes : EsOk es Q) (hD : D.length ≤ 1000000) (F : FR1 ts f qb itb v) {e : MapEntry} (he : e ∈ leftE seen es) (h28 : lget ts 28 = .bool true)
  (k : ∀ ts' v' D' σ' lg, FR1 ts' f qb itb v' → D1 σ' b Q qb itb lo ck es f (seen ++ [e.born]) v' D' → (∀ z ∈ lg, itb ≤ z) → σ.next ≤ σ'.next → K ⟨.norm, ⟨ts', []⟩, σ', lg⟩) :
  wp (cP Tryz.prog) q8 (btAll 21) false (dropC 1 dropB1) ⟨ts, []⟩ (stepSt σ itb b.pm ck seen ck e) K := by
 have e1 := F.t1
 have e2 := F.t2
 have e6 := F.t6
 have e26 := F.t26
 have el := F.size
 have lt := H.lt
 have hem := (leftE_mem he).1
 obtain ⟨hval, hkey, hP⟩ := hes e hem
 have gi' : (stepSt σ itb b.pm ck seen ck e).get itb = some (.mapIter (some b.pm) ck ⟨seen ++ [e.born]⟩ ck) := by unfold stepSt; rw [St.get_set, if_pos rfl]
 have gm' : (stepSt σ itb b.pm ck seen ck e).get b.pm = some (.map es ck) := by
  have := H.ft b.pm (.inl (by simp [QB.core]))
  unfold stepSt; rw [St.get_set, if_neg (by omega)]; exact H.gm
 have hent := opEntry_is gi' gm' hbr.1 hem
 rw [hval] at hent
 have nx : (stepSt σ itb b.pm ck seen ck e).next = σ.next := by unfold stepSt; rfl
 have gs : ∀ c, c ≠ itb → (stepSt σ itb b.pm ck seen ck e).get c = σ.get c := fun c hc => by unfold stepSt; rw [St.get_set, if_neg (Ne.symm hc)]
 generalize hx : pkE e = x at *
 generalize hs : stepSt σ itb b.pm ck seen ck e = σ1 at *
 simp only [Pk.cells] at hent
 by_cases hf : x.flow = f
 ·rcases H.v with ⟨rfl, rfl⟩ | ⟨a, rfl, ga, ha1, ha2⟩
  ·have hap : ∀ σ : St, ∀ b, σ.get b = some (.cells x.cells false) → opAppend (cP Tryz.prog).T σ 40 40 (.slice none 0 0) (.slice (some ⟨b, 0, some 0⟩) 1 1) = some (.new (.cells x.cells false) (.slice (some ⟨σ.next, 0, some 5⟩) 1 1) [b]) := fun σ b h => pk_first h
   simp only [Pk.cells] at hap
   simp only [go_sem, seval, if_pos rfl, opLen, undef, zerosN, dropB1, dropBody, nthC, dropC, loopOf, Tryz.f21, Option.getD, e1, e2, e6, e26, el, h28, hent, hf, hap]
   refine k _ _ [x] _ _ ⟨by simp only [List.length_set, el], by simp only [go_sem, seval, if_pos rfl, opLen, el, e1], by simp only [go_sem, seval, if_pos rfl, opLen, el, e2], by simp only [go_sem, seval, if_pos rfl, opLen, el], by simp only [go_sem, seval, if_pos rfl, opLen, el, e26]⟩ (H.next hbr he (by simp only [go_sem, seval, if_pos rfl, opLen, St.next_put] <;> omega) (fun c h1 h2 => ?_) ?_ (.inr ⟨σ1.next + 2, rfl, ?_, by omega, by simp only [go_sem, seval, if_pos rfl, opLen, St.next_put] <;> omega⟩) (by rw [hx, if_pos hf]; rfl)) ?_ ?_
   ·have z : c < σ1.next := by omega
    simp only [go_sem, seval, if_pos rfl, opLen, z]
    exact gs c h2
   ·have z : itb < σ1.next := by omega
    simp only [go_sem, seval, if_pos rfl, opLen, z]
    exact gi'
   ·simp only [go_sem, seval, if_pos rfl, opLen, cellsP, Pk.cells, hf]
   ·intro z hz
    simp only [go_sem, seval, if_pos rfl, opLen] at hz
    omega
   ·simp only [go_sem, seval, if_pos rfl, opLen, St.next_put] <;> omega
  ·have hap : ∀ σ : St, ∀ b, σ.get a = some (.cells (cellsP D) false) → σ.get b = some (.cells x.cells false) → opAppend (cP Tryz.prog).T σ 40 40 (.slice (some ⟨a, 0, some 5⟩) D.length D.length) (.slice (some ⟨b, 0, some 0⟩) 1 1) =
     some (.eff (.slice (some ⟨σ.next, 0, some 5⟩) (D.length + 1) (D.length + 1)) ((σ.new (.cells (cellsP (D ++ [x])) false)).put a none) [a]) := fun σ b h1 h2 => pk_more h1 h2 hD
   have ga' : σ1.get a = some (.cells (cellsP D) false) := (gs a (by omega)).trans ga
   have z1 : a < σ1.next := by omega
   simp only [Pk.cells] at hap
   simp only [go_sem, seval, if_pos rfl, opLen, undef, zerosN, dropB1, dropBody, nthC, dropC, loopOf, Tryz.f21, Option.getD, e1, e2, e6, e26, el, h28, hent, hf, ga', z1, hap]
   have hdl : (D ++ [x]).length = D.length + 1 := by rw [List.length_append]; rfl
   refine k _ (.slice (some ⟨σ1.next + 2, 0, some 5⟩) (D ++ [x]).length (D ++ [x]).length) (D ++ [x]) _ _ ⟨by simp only [List.length_set, el], by simp only [go_sem, seval, if_pos rfl, opLen, el, e1], by simp only [go_sem, seval, if_pos rfl, opLen, el, e2], by rw [hdl]; simp only [go_sem, seval, if_pos rfl, opLen, el], by simp only [go_sem, seval, if_pos rfl, opLen, el, e26]⟩ (H.next hbr he (by simp only [go_sem, seval, if_pos rfl, opLen, St.next_put] <;> omega) (fun c h1 h2 => ?_) ?_ (.inr ⟨σ1.next + 2, rfl, ?_, by omega, by simp only [go_sem, seval, if_pos rfl, opLen, St.next_put] <;> omega⟩) (by rw [hx, if_pos hf])) ?_ ?_
   ·have z : c < σ1.next := by omega
    have z2 : ¬ a = c := by omega
    simp only [go_sem, seval, if_pos rfl, opLen, z, z2]
    exact gs c h2
   ·have z : itb < σ1.next := by omega
    have z2 : ¬ a = itb := by omega
    simp only [go_sem, seval, if_pos rfl, opLen, z, z2]
    exact gi'
   ·have z2 : ¬ a = σ1.next + 2 := by omega
    simp only [go_sem, seval, if_pos rfl, opLen, z2]
   ·intro z hz
    simp only [go_sem, seval, if_pos rfl, opLen] at hz
    omega
   ·simp only [go_sem, seval, if_pos rfl, opLen, St.next_put] <;> omega
 ·have hb : (x.flow == f) = false := by simpa using hf
  simp only [go_sem, seval, if_pos rfl, opLen, undef, zerosN, dropB1, dropBody, nthC, dropC, loopOf, Tryz.f21, Option.getD, e1, e2, e6, e26, el, h28, hent, hf, hb]
  refine k _ v D _ _ ⟨by simp only [List.length_set, el], by simp only [go_sem, seval, if_pos rfl, opLen, el, e1], by simp only [go_sem, seval, if_pos rfl, opLen, el, e2], by simp only [go_sem, seval, if_pos rfl, opLen, el, e6], by simp only [go_sem, seval, if_pos rfl, opLen, el, e26]⟩ (H.next hbr he (by simp only [go_sem, seval, if_pos rfl, opLen, St.next_put] <;> omega) (fun c h1 h2 => ?_) ?_ (H.v.keep (by simp only [go_sem, seval, if_pos rfl, opLen, St.next_put] <;> omega) fun c h1 h2 => ?_) (by rw [hx, if_neg hf]; simp)) ?_ ?_
  ·have z : c < σ1.next := by omega
   simp only [go_sem, seval, if_pos rfl, opLen, z]
   exact gs c h2
  ·have z : itb < σ1.next := by omega
   simp only [go_sem, seval, if_pos rfl, opLen, z]
   exact gi'
  ·have z : c < σ1.next := by omega
   simp only [go_sem, seval, if_pos rfl, opLen, z]
   exact gs c (by omega)
  ·intro z hz
   simp only [go_sem, seval, if_pos rfl, opLen] at hz
   omega
  ·simp only [go_sem, seval, if_pos rfl, opLen, St.next_put] <;> omega
theorem dropB1_stat : statAll (btAll 21) (dropC 1 dropB1) = true := by kernel_rfl
theorem drop_loop1 {b : QB} {Q : QV} {qb itb lo ck : Nat} {es : List MapEntry} {f : Int} (hbr : Br es ck) (hes : EsOk es Q) (hL : es.length ≤ 1000000) : ∀ (m : Nat) (σ : St) (seen : List Nat) (v : Value) (D : List Pk) (ts : List Value) (S : RR → Prop), (leftE seen es).length = m → FR1 ts f qb itb v → D1 σ b Q qb itb lo ck es f seen v D →
  (∀ ts' v' D' σ' lg seen', FR1 ts' f qb itb v' → D1 σ' b Q qb itb lo ck es f seen' v' D' → leftE seen' es = [] → (∀ z ∈ lg, itb ≤ z) → σ.next ≤ σ'.next → S ⟨.exit 1, ⟨ts', []⟩, σ', lg⟩) → loopS Tryz.prog false dropB1 ⟨ts, []⟩ σ S := by
 intro m
 induction m with
 | zero =>
  intro σ seen v D ts S hm F H h
  have hl : leftE seen es = [] := List.eq_nil_of_length_eq_zero hm
  refine loopS.step ?_
  have := codeS.seq (P := Tryz.prog) (rnd := false) (fr := ⟨ts, []⟩) (σ := σ) (S := thenW (loopS Tryz.prog false dropB1) S) (drop_r7e H hbr F hl fun ts' F' h28 => (show codeS Tryz.prog false (dropC 1 dropB1) ⟨ts', []⟩ σ (preW [] (thenW (loopS Tryz.prog false dropB1) S)) from codeS.of_wp cP_ok mixed dropB1_stat (p := q8) (by
   have el := F'.size
   simp only [go_sem, seval, if_pos rfl, opLen, undef, zerosN, dropB1, dropBody, nthC, dropC, loopOf, Tryz.f21, Option.getD, el, h28]
   exact h ts' v D σ [] seen F' H hl (by simp) (Nat.le_refl _))))
  rw [← dropB1_is] at this
  exact this
 | succ m ih =>
  intro σ seen v D ts S hm F H h
  have hl : leftE seen es ≠ [] := by intro e; rw [e] at hm; simp at hm
  have hD : D.length ≤ 1000000 := by
   have h1 := H.perm.length_eq
   have h2 : (ofF f es).length ≤ es.length := by unfold ofF; exact Nat.le_trans (List.length_filter_le _ _) (by simp)
   rw [List.length_append] at h1
   omega
  refine loopS.step ?_
  have := codeS.seq (P := Tryz.prog) (rnd := false) (fr := ⟨ts, []⟩) (σ := σ) (S := thenW (loopS Tryz.prog false dropB1) S) (drop_r7 H hbr F hl fun e he ts' F' h28 => (show codeS Tryz.prog false (dropC 1 dropB1) ⟨ts', []⟩ (stepSt σ itb b.pm ck seen ck e) (preW [itb] (thenW (loopS Tryz.prog false dropB1) S)) from codeS.of_wp cP_ok mixed dropB1_stat (p := q8) (drop_b1 H hbr hes hD F' he h28 fun ts2 v2 D2 σ2 lg2 F2 H2 hlg2 hn2 => (show loopS Tryz.prog false dropB1 ⟨ts2, []⟩ σ2 (preW ([itb] ++ lg2) S) from ih σ2 _ v2 D2 ts2 _ (by
    have := (leftE_step hbr.1 he).length_eq
    simp only [List.length_cons] at this
    omega) F2 H2 fun ts3 v3 D3 σ3 lg3 seen3 F3 H3 hl3 hlg3 hn3 => h ts3 v3 D3 σ3 _ seen3 F3 H3 hl3 (fun z hz => by
     rcases List.mem_append.1 hz with hz | hz
     ·rcases List.mem_append.1 hz with hz | hz
      ·simp at hz; omega
      ·exact hlg2 z hz
     ·exact hlg3 z hz) (by omega)))))
  rw [← dropB1_is] at this
  exact this
end Go.Ab
