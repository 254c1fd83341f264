/- A heap with or without a list, and what its calls leave; lookups in frames that are not spelt out. -/
import Derived.Test.YtlipmhhndhhgdaaLd
import Derived.Test.YtlipmhhndhhgdaaFr
set_option linter.unusedSimpArgs false
set_option linter.unusedVariables false
namespace Go.Ab
open Go.Proofs

/-- A heap whose blocks are numbered from lo on. -/
def HV (σ : St) (lo h m : Nat) (L : List Item) (t : Int) : Prop :=
  lo ≤ h ∧ lo ≤ m ∧ lo ≤ σ.next ∧ ((L = [] ∧ HE σ h m t) ∨ ∃ a cap, lo ≤ a ∧ HI σ h a m L cap t)

/-- What a call turns stands from lo on. -/
def From (lo : Nat) (lg : Log) : Prop := ∀ c ∈ lg, lo ≤ c

theorem From.nil {lo : Nat} : From lo [] := fun c hc => by simp at hc
theorem From.append {lo : Nat} {a b : Log} (ha : From lo a) (hb : From lo b) : From lo (a ++ b) := fun c hc => by
  rcases List.mem_append.1 hc with h | h
  · exact ha c h
  · exact hb c h

/-- What stands below lo is as it was. -/
theorem keep_below {f : FuncId} {args : List Value} {σ σ' : St} {e : AE} {lg : Log} {lo : Nat} (h : DCall Try.prog f args σ e σ' lg) (hl : From lo lg) (hn : lo ≤ σ.next) : ∀ c, c < lo → σ'.get c = σ.get c := fun c hc =>
  h.1.2 c (by omega) fun hm => by have := hl c hm; omega

theorem HI.pos {σ : St} {h a m : Nat} {L : List Item} {cap : Nat} {t : Int} (H : HI σ h a m L cap t) : AllPos L := fun x hx => Item.ok_pos (H.ok x hx)
theorem HI.dist {σ : St} {h a m : Nat} {L : List Item} {cap : Nat} {t : Int} (H : HI σ h a m L cap t) : Dist L := by
  obtain ⟨f, _, hi⟩ := H.hs
  exact hi.dist
theorem HV.pos {σ : St} {lo h m : Nat} {L : List Item} {t : Int} (H : HV σ lo h m L t) : AllPos L := by
  rcases H.2.2.2 with ⟨rfl, _⟩ | ⟨a, cap, _, H⟩
  · exact fun x hx => by simp at hx
  · exact H.pos

theorem put_hv {σ : St} {lo h m : Nat} {L : List Item} {t : Int} (H : HV σ lo h m L t) (id kn kd : Int) (h0 : 0 ≤ id) (h1 : id ≤ 4611686018427387904) (hk : okR kn kd = true) (ht : 0 ≤ t) (ht1 : t < 1000000) (hnew : ∀ y ∈ L, y.id ≠ id) (hsm : L.length < 1000) :
    ∃ σ' lg, DCall Try.prog 14 [.pointer (some ⟨h, 0, none⟩), .int .i64 id, .agg ⟨[.int .i64 kn, .int .i64 kd]⟩] σ (.ret (.int .i64 0)) σ' lg ∧ From lo lg ∧ HV σ' lo h m (riseL (L.length + 1) (L ++ [⟨id, kn, kd, t + 1⟩]) L.length) (t + 1) := by
  obtain ⟨a1, a2, a3, H⟩ := H
  rcases H with ⟨rfl, H⟩ | ⟨a, cap, a4, H⟩
  · obtain ⟨σ', a, d, H', ha⟩ := put_first H id kn kd h0 h1 hk ht ht1
    refine ⟨σ', _, d, fun c hc => ?_, a1, a2, by have := d.1.1; omega, .inr ⟨a, 1, by omega, ?_⟩⟩
    · simp at hc; omega
    · simpa [riseL] using H'
  · have hcap : L.length ≤ cap := by
      obtain ⟨f, H1, _⟩ := H.hs
      obtain ⟨G, _, hG⟩ := H1.ga
      omega
    by_cases hc : L.length + 1 ≤ cap
    · obtain ⟨σ', d, H', nx, _⟩ := put_in H id kn kd h0 h1 hk ht ht1 hnew hsm hc
      refine ⟨σ', _, d, fun c hc => ?_, a1, a2, by omega, .inr ⟨a, cap, a4, H'⟩⟩
      simp at hc; omega
    · obtain ⟨σ', d, H', nx, _⟩ := put_move H id kn kd h0 h1 hk ht ht1 hnew hsm (by omega)
      refine ⟨σ', _, d, fun c hc => ?_, a1, a2, by omega, .inr ⟨_, _, by omega, H'⟩⟩
      simp at hc; omega

theorem put_hv_bad {σ : St} {lo h m : Nat} {L : List Item} {t : Int} (H : HV σ lo h m L t) (id kn kd : Int) (h0 : 0 ≤ id) (h1 : id ≤ 4611686018427387904) (hkn : okI kn = true) (hkd : okI kd = true) (hc : ¬ chk kn kd) :
    DCall Try.prog 14 [.pointer (some ⟨h, 0, none⟩), .int .i64 id, .agg ⟨[.int .i64 kn, .int .i64 kd]⟩] σ (.ret (.int .i64 2)) σ [] := by
  obtain ⟨a1, a2, a3, H⟩ := H
  rcases H with ⟨rfl, H⟩ | ⟨a, cap, a4, H⟩
  · obtain ⟨ck, gm⟩ := H.gm
    exact put_bad (f := fun _ => none) H.gh gm KV.nil (fun _ => rfl) H.lt id kn kd h0 h1 hkn hkd hc
  · obtain ⟨f, H1, _⟩ := H.hs
    obtain ⟨es, ck, gm, hkv, hlk⟩ := H1.gm
    exact put_bad H1.gh gm hkv hlk ⟨H1.lt.1, H1.lt.2.2⟩ id kn kd h0 h1 hkn hkd hc

theorem len_hv {σ : St} {lo h m : Nat} {L : List Item} {t : Int} (H : HV σ lo h m L t) : DCall Try.prog 17 [.pointer (some ⟨h, 0, none⟩)] σ (.ret (.int .i64 L.length)) σ [] := by
  obtain ⟨a1, a2, a3, H⟩ := H
  rcases H with ⟨rfl, H⟩ | ⟨a, cap, a4, H⟩
  · exact len_call0 H.gh
  · obtain ⟨f, H1, _⟩ := H.hs
    exact len_call H1.gh

theorem HV.dist {σ : St} {lo h m : Nat} {L : List Item} {t : Int} (H : HV σ lo h m L t) : Dist L := by
  rcases H.2.2.2 with ⟨rfl, _⟩ | ⟨a, cap, _, H⟩
  · exact fun i j x y hx => by simp at hx
  · exact H.dist

theorem HV.grow {σ σ' : St} {lo h m : Nat} {L : List Item} {t : Int} (H : HV σ lo h m L t) (hn : σ.next ≤ σ'.next) (hg : ∀ c, c < σ.next → σ'.get c = σ.get c) : HV σ' lo h m L t := by
  obtain ⟨a1, a2, a3, H⟩ := H
  refine ⟨a1, a2, by omega, ?_⟩
  rcases H with ⟨rfl, H⟩ | ⟨a, cap, a4, H⟩
  · obtain ⟨ck, gm⟩ := H.gm
    exact .inl ⟨rfl, ⟨(hg _ H.lt.1).trans H.gh, ⟨ck, (hg _ H.lt.2).trans gm⟩, H.ne, by have := H.lt; omega⟩⟩
  · exact .inr ⟨a, cap, a4, H.grow hn hg⟩

theorem set_hv {σ : St} {lo h m : Nat} {L : List Item} {t : Int} (H : HV σ lo h m L t) {n : Nat} {x : Item} (hx : L[n]? = some x) (kn kd : Int) (h0 : 0 ≤ x.id) (h1 : x.id ≤ 4611686018427387904) (hk : okR kn kd = true) :
    ∃ σ' lg n2 z, DCall Try.prog 15 [.pointer (some ⟨h, 0, none⟩), .int .i64 x.id, .agg ⟨[.int .i64 kn, .int .i64 kd]⟩] σ (.ret (.int .i64 0)) σ' lg ∧ From lo lg ∧
      (riseL (n + 1) (L.set n (x.key kn kd)) n)[n2]? = some z ∧ z.id = x.id ∧ HV σ' lo h m (setL L n n2 (x.key kn kd)) t := by
  obtain ⟨a1, a2, a3, H⟩ := H
  rcases H with ⟨rfl, H⟩ | ⟨a, cap, a4, H⟩
  · simp at hx
  · obtain ⟨σ', n2, z, d, b1, b2, b3, b4, _⟩ := set_ok H hx kn kd h0 h1 hk
    refine ⟨σ', _, n2, z, d, fun c hc => ?_, b1, b2, a1, a2, by omega, .inr ⟨a, cap, a4, b3⟩⟩
    simp at hc; omega

theorem set_hv_bad {σ : St} {lo h m : Nat} {L : List Item} {t : Int} (H : HV σ lo h m L t) (hl : 0 < L.length) (id kn kd : Int) (h0 : 0 ≤ id) (h1 : id ≤ 4611686018427387904) (hkn : okI kn = true) (hkd : okI kd = true) (hc : ¬ chk kn kd) :
    DCall Try.prog 15 [.pointer (some ⟨h, 0, none⟩), .int .i64 id, .agg ⟨[.int .i64 kn, .int .i64 kd]⟩] σ (.ret (.int .i64 2)) σ [] := by
  obtain ⟨a1, a2, a3, H⟩ := H
  rcases H with ⟨rfl, H⟩ | ⟨a, cap, a4, H⟩
  · simp at hl
  · exact set_bad H id kn kd h0 h1 hkn hkd hc

theorem take_hv {σ : St} {lo h m : Nat} {L : List Item} {t : Int} (H : HV σ lo h m L t) {x : Item} (hx : L[0]? = some x) :
    ∃ σ' lg, DCall Try.prog 16 [.pointer (some ⟨h, 0, none⟩)] σ (.ret (.tuple ⟨[.agg ⟨x.cells⟩, .bool true]⟩)) σ' lg ∧ From lo lg ∧ HV σ' lo h m (outL L 0) t := by
  obtain ⟨a1, a2, a3, H⟩ := H
  rcases H with ⟨rfl, H⟩ | ⟨a, cap, a4, H⟩
  · simp at hx
  · obtain ⟨σ', d, b3, b4, _⟩ := take_call H hx
    refine ⟨σ', _, d, fun c hc => ?_, a1, a2, by omega, .inr ⟨a, cap, a4, b3⟩⟩
    simp at hc; omega

theorem flat24 : flats Try.prog 24 = some [.int, .int] := by kernel_rfl
theorem flat31 : flats Try.prog 31 = some [.int, .int, .int, .int] := by kernel_rfl

/-! ### frames -/
theorem lget_put (ts : List Value) (i : Nat) (v : Value) (j : Nat) : lget (ts.set i v) j = if i = j then (if i < ts.length then v else undef) else lget ts j := by
  induction ts generalizing i j with
  | nil => simp [lget]
  | cons x ts ih =>
    cases i with
    | zero => cases j <;> simp [lget]
    | succ i =>
      cases j with
      | zero => simp [lget]
      | succ j => simp [lget, ih]

theorem lgetq_put (ts : List Value) (i : Nat) (v : Value) (j : Nat) : lget? (ts.set i v) j = if i = j then (if i < ts.length then some v else none) else lget? ts j := by
  rw [lget?_eq, lget?_eq, List.getElem?_set]

theorem lget_start2 (a b : Value) (n : Nat) : lget (start [a, b] n).ts 0 = a ∧ lget (start [a, b] n).ts 1 = b := ⟨rfl, rfl⟩

/-- The n-th statement of a row of statements. -/
def nthC : Nat → Code → Code
  | 0, .seq a _ => a
  | n + 1, .seq _ b => nthC n b
  | _, c => c

end Go.Ab
