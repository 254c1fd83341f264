/- From a call of the abstract machine to a call of the model: what came in is as it was. -/
import Derived.Test.YtlipmhhndhhgdaaGreatOa
import Derived.Test.YtlipmhhndhhgdaaGreatFr
set_option linter.unusedSimpArgs false
set_option linter.unusedVariables false
namespace Go.Ab
open Go.RowKit

variable {P : Program}

/-- Blocks that are only read, whole as they came in. -/
def ReadOnly (ρ : Ren) (σ : St) (w : World) : Prop := ∀ b l, ρ b = some l → ∃ vs o, σ.get b = some (.cells vs true) ∧ l.fix = some o ∧ w.heap[l.block]? = some o

theorem below_of_aft {ρ ρ' : Ren} {σ σ' : St} {w w' : World} (hw : WR ρ σ w.heap) (hA : Aft ρ σ w ρ' σ' w') (hro : ReadOnly ρ σ w) (hs : ∀ b, b < σ.next → σ'.get b = σ.get b) : Below w.heap.size w w' :=
  ⟨hA.os, hA.tape, hA.out, hA.size, fun k hk => by
    by_cases h : ∃ b l, ρ b = some l ∧ l.block = k
    · obtain ⟨b, l, hb, rfl⟩ := h
      obtain ⟨vs, o, h1, h2, h3⟩ := hro b l hb
      have hlt := (hw.dom b l hb).1
      obtain ⟨c, e, fz, a1, _, _, a4, _⟩ := hA.wr.obj b l (.cells vs true) (by rw [hA.ext b hlt]; exact hb) (by rw [hs b hlt]; exact h1)
      rw [a1, h3, a4.2 rfl o h2]
    · exact hA.fr k hk fun b l hb _ he => h ⟨b, l, hb, he⟩⟩

theorem plain_back {ρ : Ren} {v v' : Value} (hp : plain v = true) (h : VR ρ v v') : ∀ ρ₀, VR ρ₀ v v' := fun ρ₀ => by
  have h0 : VR (fun _ => none) v v' := VR.forget (plain_VR (fun _ => none) v hp) h fun b l hb => by cases hb
  exact h0.mono fun b l hb => by cases hb

/-- A law's call: it hands back true, and turns nothing of what was there. -/
theorem calls_true {f : FuncId} {args : List Value} {σ σ' : St} {b : Bool} {lg : Log} (h : DCall P f args σ (.ret (.bool b)) σ' lg) {ρ : Ren} {w : World} {args' : Array Value} (hw : WR ρ σ w.heap) (ha : VRL ρ args args'.toList) (hro : ReadOnly ρ σ w) (hlg : ∀ b, b < σ.next → b ∉ lg) :
    Calls P f args' w fun e w' => e = .returned (.bool b) ∧ Below w.heap.size w w' := by
  refine ((h.2 ρ w args' hw ha).mono fun e w' ⟨ρ', he, hA⟩ => ?_).calls fun k d hd => (by simp [fence] at hd)
  refine ⟨?_, below_of_aft hw hA hro fun c hc => h.1.2 c hc (hlg c hc)⟩
  cases e with
  | returned v' =>
    have he' : VR ρ' (.bool b) v' := he
    cases he'
    rfl
  | panicked c => exact False.elim he
  | outgrown => exact False.elim he

/-- A row of plain cells that came in, as the one block of a state. -/
theorem row_state {w : World} {x : Addr} {vs : List Value} (hv : ∀ i v, vs[i]? = some v → w.cell? (x.add i) = some v) (hp : ∀ ρ, VRL ρ vs vs) (hne : 0 < vs.length) :
    ∃ ρ : Ren, (∃ l, ρ 0 = some l ∧ l.block = x.block ∧ l.off = x.off) ∧ x.spot = none ∧ WR ρ (St.nil.new (.cells vs true)) w.heap ∧ ReadOnly ρ (St.nil.new (.cells vs true)) w := by
  have h0 := hv 0 vs[0] (by simp [hne])
  have hspot : x.spot = none := World.cell?_spot h0
  have hcell : ∃ c e fz, w.heap[x.block]? = some (.cells c e fz) ∧ ∀ i v, vs[i]? = some v → c[x.off + i]? = some v := by
    have hadd : ∀ i, (x.add i).block = x.block ∧ (x.add i).off = x.off + i ∧ (x.add i).spot = none := fun i => by
      unfold Addr.add
      split
      · rename_i h; subst h; exact ⟨rfl, rfl, hspot⟩
      · exact ⟨rfl, rfl, rfl⟩
    unfold World.cell? at hv h0
    simp only [(hadd _).1, (hadd _).2.1, (hadd _).2.2] at hv h0
    cases hb : w.heap[x.block]? with
    | none => rw [hb] at h0; cases h0
    | some o =>
      rw [hb] at h0
      cases o with
      | cells c e fz =>
        refine ⟨c, e, fz, rfl, fun i v hi => ?_⟩
        have := hv i v hi
        rw [hb] at this
        simpa using this
      | _ => cases h0
  obtain ⟨c, e, fz, hb, hc⟩ := hcell
  have hsz : x.off + vs.length ≤ c.size := by
    have := hc (vs.length - 1) vs[vs.length - 1] (by simp [hne])
    have := (Array.getElem?_eq_some_iff.1 this).1
    omega
  let l : Loc := ⟨x.block, x.off, c.size - x.off, some (.cells c e fz)⟩
  let ρ : Ren := fun b => if b = 0 then some l else none
  have hρ : ∀ b k, ρ b = some k → b = 0 ∧ k = l := fun b k h => by
    simp only [ρ] at h
    split at h
    · cases h; exact ⟨by assumption, rfl⟩
    · cases h
  have hg : (St.nil.new (.cells vs true)).get 0 = some (.cells vs true) := by rw [St.get_new]; rfl
  refine ⟨ρ, ⟨l, by simp [ρ], rfl, rfl⟩, hspot, ⟨fun b k hk => ?_, fun b k o hk ho => ?_, fun b b' k k' hk hk' _ _ _ => ?_⟩, fun b k hk => ?_⟩
  · obtain ⟨rfl, rfl⟩ := hρ b k hk
    exact ⟨Nat.zero_lt_one, (Array.getElem?_eq_some_iff.1 hb).1⟩
  · obtain ⟨rfl, rfl⟩ := hρ b k hk
    rw [hg] at ho
    cases ho
    refine ⟨c, e, fz, hb, by simp only [l]; omega, by simp only [l]; omega, ⟨fun h => (by cases h), fun _ o ho => by cases ho; rfl⟩, ?_⟩
    have : (c.toList.drop l.off).take vs.length = vs := by
      apply List.ext_getElem?
      intro i
      rw [List.getElem?_take]
      split
      · rename_i hi
        rw [List.getElem?_drop, Array.getElem?_toList, hc i vs[i] (by simp [hi])]
        simp [hi]
      · rename_i hi
        rw [List.getElem?_eq_none (by omega)]
    rw [this]
    exact hp ρ
  · rw [(hρ b k hk).1, (hρ b' k' hk').1]
  · obtain ⟨rfl, rfl⟩ := hρ b k hk
    exact ⟨vs, _, hg, rfl, hb⟩

/-- A state without a block. -/
theorem nil_state (w : World) : WR (fun _ => none) St.nil w.heap ∧ ReadOnly (fun _ => none) St.nil w :=
  ⟨⟨fun b l hl => (by cases hl), fun b l o hl => (by cases hl), fun b b' l l' hl => (by cases hl)⟩, fun b l hl => (by cases hl)⟩

/-- What is told of a slice of flat elements that came in. -/
def IsRow (ks : List FK) (w : World) (a : Option Addr) (len cap : Nat) (es : List (List Value)) : Prop :=
  (a = none ∧ len = 0 ∧ cap = 0 ∧ es = []) ∨
  ∃ x, a = some x ∧ len ≤ cap ∧ cap ≤ maxLen ∧ es.length = cap ∧ (∀ c ∈ es, oks ks c) ∧ ∀ i c, es[i]? = some c → ∀ j v, c[j]? = some v → w.cell? (x.add (i * ks.length + j)) = some v

theorem flatten_at {α : Type} {k : Nat} : ∀ {es : List (List α)}, (∀ c ∈ es, c.length = k) → ∀ {q : Nat} {v : α}, es.flatten[q]? = some v → ∃ i c j, es[i]? = some c ∧ c[j]? = some v ∧ q = i * k + j
  | [], _, q, v, h => by simp at h
  | c :: es, hk, q, v, h => by
    rw [List.flatten_cons] at h
    have hc := hk c (by simp)
    by_cases hq : q < c.length
    · rw [List.getElem?_append_left hq] at h
      exact ⟨0, c, q, rfl, h, by omega⟩
    · rw [List.getElem?_append_right (by omega)] at h
      obtain ⟨i, c', j, h1, h2, h3⟩ := flatten_at (fun c hc => hk c (by simp [hc])) h
      refine ⟨i + 1, c', j, by simpa using h1, h2, ?_⟩
      rw [Nat.add_mul]; omega

theorem flatten_len {α : Type} {k : Nat} : ∀ {es : List (List α)}, (∀ c ∈ es, c.length = k) → es.flatten.length = es.length * k
  | [], _ => by simp
  | c :: es, h => by
    rw [List.flatten_cons, List.length_append, h c (by simp), flatten_len fun c hc => h c (by simp [hc]), List.length_cons, Nat.add_mul]; omega

/-- An element of a row, as it stands in the row's cells. -/
theorem flatten_take {α : Type} {k : Nat} : ∀ {es : List (List α)}, (∀ c ∈ es, c.length = k) → ∀ {i : Nat} {c : List α}, es[i]? = some c → (es.flatten.drop (i * k)).take k = c ∧ i * k + k ≤ es.flatten.length
  | [], _, i, c, h => by simp at h
  | d :: es, hk, 0, c, h => by
    simp only [List.getElem?_cons_zero, Option.some.injEq] at h
    subst h
    have := hk d (by simp)
    rw [List.flatten_cons, Nat.zero_mul, List.drop_zero, ← this]
    simp
  | d :: es, hk, i + 1, c, h => by
    have hd := hk d (by simp)
    obtain ⟨h1, h2⟩ := flatten_take (es := es) (fun c hc => hk c (List.mem_cons_of_mem _ hc)) (by simpa using h)
    rw [List.flatten_cons, Nat.add_mul, Nat.one_mul, Nat.add_comm, List.length_append, ← hd, List.drop_length_add_append, hd]
    exact ⟨h1, by omega⟩

theorem maxLen_is : maxLen ≤ 9223372036854775807 := by decide

theorem flatten_VRL (ρ : Ren) {ks : List FK} : ∀ {es : List (List Value)}, (∀ c ∈ es, oks ks c) → VRL ρ es.flatten es.flatten
  | [], _ => .nil
  | c :: es, h => by
    rw [List.flatten_cons]
    exact (oks_VRL ρ (h c (by simp))).append (flatten_VRL ρ fun c hc => h c (by simp [hc]))

/-- A slice that came in, as a state and a value of the abstract machine. 'cap' is 0: nothing is known of where it leads. -/
theorem row_in {ks : List FK} {w : World} {a : Option Addr} {len cap : Nat} {es : List (List Value)} (h : IsRow ks w a len cap es) (hk : 0 < ks.length) :
    ∃ (ρ : Ren) (σ : St) (v : Value), WR ρ σ w.heap ∧ ReadOnly ρ σ w ∧ VR ρ v (.slice a len cap) ∧
      (len = 0 ∧ σ = St.nil ∧ (v = .slice none 0 0 ∨ v = .slice (some ⟨0, 0, some 1⟩) 0 0) ∨ len ≤ es.length ∧ σ = St.nil.new (.cells es.flatten true) ∧ v = .slice (some ⟨0, 0, some 0⟩) len cap) := by
  rcases h with ⟨rfl, rfl, rfl, rfl⟩ | ⟨x, rfl, hl, hm, he, hok, hc⟩
  · exact ⟨_, _, .slice none 0 0, (nil_state w).1, (nil_state w).2, .sliceNil, .inl ⟨rfl, rfl, .inl rfl⟩⟩
  · by_cases h0 : cap = 0
    · subst h0
      obtain rfl : len = 0 := by omega
      exact ⟨_, _, .slice (some ⟨0, 0, some 1⟩) 0 0, (nil_state w).1, (nil_state w).2, .sliceE, .inl ⟨rfl, rfl, .inr rfl⟩⟩
    · have hlen : ∀ c ∈ es, c.length = ks.length := fun c hcm => oks_length (hok c hcm)
      have hpos : 0 < es.flatten.length := by
        rw [flatten_len hlen, he]
        exact Nat.mul_pos (by omega) hk
      obtain ⟨ρ, ⟨l, h1, h2, h3⟩, h4, h5, h6⟩ := row_state (w := w) (x := x) (vs := es.flatten) (fun i v hi => by
        obtain ⟨q, c, j, a1, a2, rfl⟩ := flatten_at hlen hi
        exact hc q c a1 j v a2) (fun ρ => flatten_VRL ρ hok) hpos
      refine ⟨ρ, _, _, h5, h6, ?_, .inr ⟨by omega, rfl, rfl⟩⟩
      have := VR.sliceX (ρ := ρ) (off := 0) (len := len) (cap := cap) h1
      obtain ⟨xb, xo, xs⟩ := x
      simp only at h2 h3 h4
      subst h2 h3 h4
      exact this

end Go.Ab
