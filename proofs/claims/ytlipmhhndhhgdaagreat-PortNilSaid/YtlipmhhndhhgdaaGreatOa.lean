/- What came in: cells of flat types, read off the claim's own reading. -/
import Derived.Test.YtlipmhhndhhgdaaGreatFq
import Derived.WalkKit
import Derived.ProofKit
import Derived.OpenShut
import Derived.ShutString
import Derived.ChangeOld
import Derived.Below
set_option linter.unusedSimpArgs false
set_option linter.unusedVariables false
namespace Go.Ab

/-- A kind of plain cell. -/
inductive FK where
  | bool
  | int (k : IntKind)
  | str

def FK.ok : FK → Value → Prop
  | .bool, v => ∃ b, v = .bool b
  | .int k, v => ∃ n, v = .int k n ∧ (Lit.int k n).wf = true
  | .str, v => ∃ s : ByteArray, v = .string s ∧ s.size ≤ maxLen

def oks : List FK → List Value → Prop
  | [], [] => True
  | k :: ks, v :: vs => k.ok v ∧ oks ks vs
  | _, _ => False

theorem oks_length : ∀ {ks : List FK} {vs : List Value}, oks ks vs → vs.length = ks.length
  | [], [], _ => rfl
  | _ :: _, _ :: _, h => by simp [oks_length h.2]
  | [], _ :: _, h => h.elim
  | _ :: _, [], h => h.elim
theorem oks_append : ∀ {ks : List FK} {vs : List Value} {ks' : List FK} {vs' : List Value}, oks ks vs → oks ks' vs' → oks (ks ++ ks') (vs ++ vs')
  | [], [], _, _, _, h => h
  | _ :: _, _ :: _, _, _, h, h' => ⟨h.1, oks_append h.2 h'⟩
  | [], _ :: _, _, _, h, _ => h.elim
  | _ :: _, [], _, _, h, _ => h.elim

theorem FK.plain {k : FK} {v : Value} (h : k.ok v) (ρ : Ren) : VR ρ v v := by
  cases k with
  | bool => obtain ⟨b, rfl⟩ := h; exact .bool b
  | int k => obtain ⟨n, rfl, _⟩ := h; exact .int k n
  | str => obtain ⟨s, rfl, _⟩ := h; exact .string s
theorem oks_VRL (ρ : Ren) : ∀ {ks : List FK} {vs : List Value}, oks ks vs → VRL ρ vs vs
  | [], [], _ => .nil
  | _ :: _, _ :: _, h => .cons (FK.plain h.1 ρ) (oks_VRL ρ h.2)
  | [], _ :: _, h => h.elim
  | _ :: _, [], h => h.elim

def flatFs (rc : TypeId → Option (List FK)) (P : Program) : List Field → Nat → Option (List FK)
  | [], _ => some []
  | f :: fs, off =>
    if f.offset = off then
      match rc f.type with
      | some ks => if P.cellsOf f.type = ks.length then (flatFs rc P fs (off + ks.length)).map (ks ++ ·) else none
      | none => none
    else none

/-- The cells of a flat type. -/
def flatK (P : Program) : Nat → TypeId → Option (List FK)
  | 0, _ => none
  | f + 1, t => match P.underlying t with
    | some .bool => some [.bool]
    | some (.int k) => some [.int k]
    | some .string => some [.str]
    | some (.struct fs) => match flatFs (flatK P f) P fs.toList 0 with
      | some ks => if P.cellsOf t = ks.length then some ks else none
      | none => none
    | _ => none

section
variable {H : Type} {enc : TypeId × Value → H} {P : Program} {w : World} {base : Nat} {spare : Nat → Bool} {held : Bool}

theorem flatFs_ok {rc : TypeId → Option (List FK)} {cs : List Value} {n : Nat} (hrc : ∀ t ks cs x, rc t = some ks → DataW.trod enc P w base spare held n t cs = some x → oks ks cs) :
    ∀ (fs : List Field) (off : Nat) (ks : List FK), flatFs rc P fs off = some ks → (∀ f ∈ fs, ∃ x, DataW.trod enc P w base spare held n f.type ((cs.drop f.offset).take (P.cellsOf f.type)) = some x) →
      oks ks ((cs.drop off).take ks.length)
  | [], off, ks, h, _ => by
    simp only [flatFs, Option.some.injEq] at h
    subst h
    simp [oks]
  | f :: fs, off, ks, h, hx => by
    simp only [flatFs] at h
    split at h
    · rename_i ho
      split at h
      · rename_i k1 hk
        split at h
        · rename_i hc
          rw [Option.map_eq_some_iff] at h
          obtain ⟨k2, h2, rfl⟩ := h
          obtain ⟨x, hx1⟩ := hx f (by simp)
          rw [ho, hc] at hx1
          have a := hrc _ _ _ _ hk hx1
          have b := flatFs_ok hrc fs _ _ h2 fun g hg => hx g (by simp [hg])
          have e : (cs.drop off).take (k1 ++ k2).length = (cs.drop off).take k1.length ++ (cs.drop (off + k1.length)).take k2.length := by
            rw [List.length_append, List.take_add, List.drop_drop]
          rw [e]
          exact oks_append a b
        · cases h
      · cases h
    · cases h

theorem flatK_ok : ∀ (m n : Nat) (t : TypeId) (ks : List FK) (cs : List Value) (x : DataW H × List MemPlace), flatK P m t = some ks → DataW.trod enc P w base spare held n t cs = some x → oks ks cs
  | 0, _, _, _, _, _, h, _ => by cases h
  | m + 1, n, t, ks, cs, x, h, hx => by
    simp only [flatK] at h
    split at h
    · rename_i ht
      cases h
      obtain ⟨b, rfl, _⟩ := DataW.trod_bool ht hx
      exact ⟨⟨b, rfl⟩, trivial⟩
    · rename_i k ht
      cases h
      obtain ⟨i, rfl, _, hw⟩ := DataW.trod_int ht hx
      exact ⟨⟨i, rfl, hw⟩, trivial⟩
    · rename_i ht
      cases h
      obtain ⟨s, rfl, _, hw⟩ := DataW.trod_string ht hx
      exact ⟨⟨s, rfl, hw⟩, trivial⟩
    · rename_i fs ht
      obtain ⟨xs, n', rfl, _, hl, hxl, hf⟩ := DataW.trod_struct ht hx
      split at h
      · rename_i ks' hk
        split at h
        · rename_i hc
          cases h
          have := flatFs_ok (cs := cs) (n := n') (fun t ks cs x h1 h2 => flatK_ok m n' t ks cs x h1 h2) fs.toList 0 ks hk fun f hfm => by
            obtain ⟨i, hi⟩ := List.getElem?_of_mem hfm
            rw [Array.getElem?_toList] at hi
            have hil : i < xs.length := by
              rw [hxl]
              exact (Array.getElem?_eq_some_iff.1 hi).1
            exact ⟨_, (hf i f hi).trans (List.getElem?_eq_getElem hil)⟩
          rw [List.drop_zero, ← hc, ← hl, List.take_length] at this
          exact this
        · cases h
      · cases h
    · cases h

/-- A slice of flat elements: it is nil; or it leads to a row of cells, 'cap' elements of them. -/
theorem open_flats {t e : TypeId} {m : Nat} {ks : List FK} {fuel : Nat} {cs : List Value} {x : DataW H × List MemPlace} (ht : P.underlying t = some (.slice e)) (hk : flatK P m e = some ks) (hc : P.cellsOf e = ks.length)
    (h : DataW.trod enc P w base (fun _ => true) held fuel t cs = some x) :
    cs = [.slice none 0 0] ∨
    ∃ (a : Addr) (len cap : Nat) (es : List (List Value)), cs = [.slice (some a) len cap] ∧ base ≤ a.block ∧ len ≤ cap ∧ cap ≤ maxLen ∧ es.length = cap ∧ (∀ c ∈ es, oks ks c) ∧
      ∀ i c, es[i]? = some c → ∀ j v, c[j]? = some v → w.cell? (a.add (i * ks.length + j)) = some v := by
  rcases DataW.trod_slice ht h with h0 | ⟨a, len, cap, elems, rest, n, _, rfl, rfl, hb, hl, hm, hlen, hel, hsp, hns⟩
  · exact .inl h0.1
  right
  have each : ∀ i, i < cap → ∃ c, w.cells? base (a.add (i * ks.length)) ks.length = some c ∧ oks ks c := by
    intro i hi
    have hb' : ∃ y, (w.cells? base (a.add (i * P.cellsOf e)) (P.cellsOf e)).bind (DataW.trod enc P w base (fun _ => true) held n e) = some y := by
      by_cases h1 : i < len
      · exact ⟨_, (hel i h1).trans (List.getElem?_eq_getElem (by omega))⟩
      · obtain ⟨hrl, hr⟩ := hsp rfl
        have := hr (i - len) (by omega)
        rw [show len + (i - len) = i by omega] at this
        exact ⟨_, this.trans (List.getElem?_eq_getElem (by omega))⟩
    obtain ⟨y, hy⟩ := hb'
    rw [hc, Option.bind_eq_some_iff] at hy
    obtain ⟨c, h1, h2⟩ := hy
    exact ⟨c, h1, flatK_ok _ _ _ _ _ _ hk h2⟩
  let g : Nat → List Value := fun i => (w.cells? base (a.add (i * ks.length)) ks.length).getD []
  have hg : ∀ i, i < cap → w.cells? base (a.add (i * ks.length)) ks.length = some (g i) ∧ oks ks (g i) := fun i hi => by
    obtain ⟨c, h1, h2⟩ := each i hi
    have : g i = c := by simp [g, h1]
    rw [this]; exact ⟨h1, h2⟩
  refine ⟨a, len, cap, (List.range cap).map g, rfl, hb, hl, hm, by simp, fun c hcm => ?_, fun i c hi j v hj => ?_⟩
  · simp only [List.mem_map, List.mem_range] at hcm
    obtain ⟨i, hi, rfl⟩ := hcm
    exact (hg i hi).2
  · simp only [List.getElem?_map, Option.map_eq_some_iff] at hi
    obtain ⟨q, hq, rfl⟩ := hi
    have hql := (List.getElem?_eq_some_iff.1 hq).1
    simp only [List.length_range] at hql
    rw [List.getElem?_range hql] at hq
    cases hq
    obtain ⟨_, h2, h3⟩ := World.cells?_some (hg i hql).1
    have hjl := (List.getElem?_eq_some_iff.1 hj).1
    have := h3 j (by omega)
    rw [hj] at this
    rwa [Addr.add_add] at this

end

end Go.Ab
