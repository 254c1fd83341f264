/- Maps of int64 to int, and lists of items, as the abstract heap holds them. -/
import Derived.Test.YtlipmhhndhhgdaaTh
set_option linter.unusedSimpArgs false
set_option linter.unusedVariables false
namespace Go.Ab
open Go.Proofs

/-! ### maps -/
def lk : List MapEntry → Int → Option Int
  | [], _ => none
  | e :: es, k => match e.key with
    | .int .i64 k' => if k' = k then (match e.val with | .int .i64 v => some v | _ => none) else lk es k
    | _ => lk es k

structure KV (es : List MapEntry) : Prop where
  ints : ∀ e ∈ es, ∃ k v, e.key = .int .i64 k ∧ e.val = .int .i64 v
  nodup : es.Pairwise fun a b => a.key ≠ b.key

theorem KV.tail {e : MapEntry} {es : List MapEntry} (h : KV (e :: es)) : KV es := ⟨fun x hx => h.ints x (by simp [hx]), (List.pairwise_cons.1 h.nodup).2⟩

theorem find_none {T : TT} (hT : ∃ k, T.und 2 = some (.int k)) {k : Int} : ∀ {es : List MapEntry} {i : Nat}, KV es → lk es k = none → findA T 2 (.int .i64 k) es i = some none
  | [], _, _, _ => rfl
  | e :: es, i, h, hk => by
    obtain ⟨kk, hu⟩ := hT
    obtain ⟨k', v, h1, h2⟩ := h.ints e (by simp)
    simp only [lk, h1, h2] at hk
    split at hk
    · cases hk
    · rename_i hne
      have : (k == k') = false := by
        simp only [beq_eq_false_iff_ne]; rintro rfl; exact hne rfl
      simp only [findA, keyEq, h1, hu, if_true, this]
      exact find_none ⟨kk, hu⟩ h.tail hk

theorem find_some {T : TT} (hT : ∃ k, T.und 2 = some (.int k)) {k v : Int} : ∀ {es : List MapEntry} {i : Nat}, KV es → lk es k = some v → ∃ j e, findA T 2 (.int .i64 k) es i = some (some (i + j, e)) ∧ e.val = .int .i64 v ∧ es[j]? = some e ∧ e.key = .int .i64 k
  | [], _, _, h => by cases h
  | e :: es, i, h, hk => by
    obtain ⟨kk, hu⟩ := hT
    obtain ⟨k', v', h1, h2⟩ := h.ints e (by simp)
    simp only [lk, h1, h2] at hk
    split at hk
    · rename_i he
      subst he
      cases hk
      refine ⟨0, e, ?_, h2, rfl, h1⟩
      simp [findA, keyEq, h1, hu]
    · rename_i hne
      have : (k == k') = false := by
        simp only [beq_eq_false_iff_ne]; rintro rfl; exact hne rfl
      obtain ⟨j, e', a1, a2, a3, a4⟩ := find_some (i := i + 1) ⟨kk, hu⟩ h.tail hk
      refine ⟨j + 1, e', ?_, a2, by simpa using a3, a4⟩
      simp only [findA, keyEq, h1, hu, if_true, this, a1]
      congr 3
      omega

theorem lk_none_key {k : Int} : ∀ {es : List MapEntry}, KV es → lk es k = none → ∀ e ∈ es, e.key ≠ .int .i64 k
  | [], _, _, _, h => by cases h
  | x :: es, h, hk, e, he => by
    obtain ⟨k', v', h1, h2⟩ := h.ints x (by simp)
    simp only [lk, h1, h2] at hk
    split at hk
    · cases hk
    · rename_i hne
      rcases List.mem_cons.1 he with rfl | he
      · rw [h1]; intro e'; simp only [Value.int.injEq, true_and] at e'; exact hne e'
      · exact lk_none_key h.tail hk e he

theorem pushE_eq (es : List MapEntry) (x : MapEntry) : pushE es x = es ++ [x] := by induction es with
  | nil => rfl
  | cons e es ih => simp [pushE, ih]

theorem push_KV {es : List MapEntry} {k v : Int} {c : Nat} (h : KV es) (hk : lk es k = none) : KV (pushE es ⟨.int .i64 k, .int .i64 v, c⟩) := by
  rw [pushE_eq]
  refine ⟨fun e he => ?_, ?_⟩
  · rcases List.mem_append.1 he with he | he
    · exact h.ints e he
    · simp only [List.mem_singleton] at he; subst he; exact ⟨k, v, rfl, rfl⟩
  · rw [List.pairwise_append]
    exact ⟨h.nodup, by simp, fun a ha b hb => by simp only [List.mem_singleton] at hb; subst hb; exact lk_none_key h hk a ha⟩

theorem push_lk {k v : Int} {c : Nat} : ∀ {es : List MapEntry}, KV es → lk es k = none → ∀ k', lk (pushE es ⟨.int .i64 k, .int .i64 v, c⟩) k' = if k' = k then some v else lk es k'
  | [], _, _, k' => by
    simp only [pushE, lk, Value.int.injEq, true_and]
    by_cases e : k = k'
    · subst e; simp
    · rw [if_neg e, if_neg (Ne.symm e)]
  | x :: es, h, hk, k' => by
    obtain ⟨kx, vx, h1, h2⟩ := h.ints x (by simp)
    have hne : kx ≠ k := fun e => lk_none_key h hk x (by simp) (by rw [h1, e])
    have hk' : lk es k = none := by
      simp only [lk, h1, h2, Value.int.injEq, true_and, if_neg hne] at hk; exact hk
    simp only [pushE, lk, h1, h2, Value.int.injEq, true_and]
    rw [push_lk h.tail hk' k']
    by_cases e : kx = k'
    · subst e; rw [if_pos rfl, if_neg hne, if_pos rfl]
    · rw [if_neg e, if_neg e]

theorem mod_KV {k v : Int} : ∀ {es : List MapEntry} {j : Nat} {e : MapEntry}, KV es → es[j]? = some e → e.key = .int .i64 k →
    KV (modE es j (.int .i64 k) (.int .i64 v)) ∧ ∀ k', lk (modE es j (.int .i64 k) (.int .i64 v)) k' = if k' = k then some v else lk es k'
  | [], _, _, _, h, _ => by simp at h
  | x :: es, 0, e, h, he, hk => by
    simp only [List.getElem?_cons_zero, Option.some.injEq] at he
    subst he
    simp only [modE]
    refine ⟨⟨fun y hy => ?_, ?_⟩, fun k' => ?_⟩
    · rcases List.mem_cons.1 hy with rfl | hy
      · exact ⟨k, v, rfl, rfl⟩
      · exact h.ints y (by simp [hy])
    · have := List.pairwise_cons.1 h.nodup
      refine List.pairwise_cons.2 ⟨fun y hy => ?_, this.2⟩
      have := this.1 y hy
      rw [hk] at this; exact this
    · obtain ⟨kx, vx, h1, h2⟩ := h.ints x (by simp)
      simp only [lk, hk, h2, Value.int.injEq, true_and]
      by_cases e : k = k'
      · subst e; simp
      · rw [if_neg e, if_neg (Ne.symm e), if_neg e]
  | x :: es, j + 1, e, h, he, hk => by
    simp only [List.getElem?_cons_succ] at he
    obtain ⟨a, b⟩ := mod_KV h.tail he hk (v := v)
    obtain ⟨kx, vx, h1, h2⟩ := h.ints x (by simp)
    have hm : e ∈ es := List.mem_of_getElem? he
    have hne : kx ≠ k := fun e' => (List.pairwise_cons.1 h.nodup).1 e hm (by rw [h1, hk, e'])
    simp only [modE]
    refine ⟨⟨fun y hy => ?_, List.pairwise_cons.2 ⟨fun y hy hkey => ?_, a.nodup⟩⟩, fun k' => ?_⟩
    · rcases List.mem_cons.1 hy with rfl | hy
      · exact ⟨kx, vx, h1, h2⟩
      · exact a.ints y hy
    · -- a key of the turned tail is one of the tail
      have keys : ∀ {l : List MapEntry} {i : Nat} {z : MapEntry}, l[i]? = some z → z.key = .int .i64 k → ∀ y ∈ modE l i (.int .i64 k) (.int .i64 v), ∃ z ∈ l, z.key = y.key := by
        intro l
        induction l with
        | nil => intro i z h; simp at h
        | cons w l ih =>
          intro i z hz hzk y hy
          cases i with
          | zero =>
            simp only [List.getElem?_cons_zero, Option.some.injEq] at hz
            subst hz
            simp only [modE, List.mem_cons] at hy
            rcases hy with rfl | hy
            · exact ⟨w, by simp, hzk⟩
            · exact ⟨y, by simp [hy], rfl⟩
          | succ i =>
            simp only [List.getElem?_cons_succ] at hz
            simp only [modE, List.mem_cons] at hy
            rcases hy with rfl | hy
            · exact ⟨y, by simp, rfl⟩
            · obtain ⟨z', a1, a2⟩ := ih hz hzk y hy
              exact ⟨z', by simp [a1], a2⟩
      obtain ⟨z, hz, hzk⟩ := keys he hk y hy
      exact (List.pairwise_cons.1 h.nodup).1 z hz (by rw [hzk]; exact hkey)
    · simp only [lk, h1, h2, Value.int.injEq, true_and, b k']
      by_cases e : kx = k'
      · subst e; rw [if_pos rfl, if_neg hne, if_pos rfl]
      · rw [if_neg e, if_neg e]

theorem del_KV {k : Int} : ∀ {es : List MapEntry} {j : Nat} {e : MapEntry}, KV es → es[j]? = some e → e.key = .int .i64 k →
    KV (delE es j) ∧ ∀ k', lk (delE es j) k' = if k' = k then none else lk es k'
  | [], _, _, _, h, _ => by simp at h
  | x :: es, 0, e, h, he, hk => by
    simp only [List.getElem?_cons_zero, Option.some.injEq] at he
    subst he
    obtain ⟨kx, vx, h1, h2⟩ := h.ints x (by simp)
    simp only [delE]
    refine ⟨h.tail, fun k' => ?_⟩
    simp only [lk, hk, h2, Value.int.injEq, true_and]
    by_cases e : k = k'
    · subst e
      rw [if_pos rfl]
      cases hl : lk es k with
      | none => rfl
      | some v =>
        obtain ⟨j, y, _, _, hy, hyk⟩ := find_some (T := ⟨fun _ => some { (default : TypeInfo) with desc := .int .i64 }, fun _ => none⟩) ⟨.i64, rfl⟩ (i := 0) h.tail hl
        exact absurd (hk.trans hyk.symm) ((List.pairwise_cons.1 h.nodup).1 y (List.mem_of_getElem? hy))
    · rw [if_neg (Ne.symm e), if_neg e]
  | x :: es, j + 1, e, h, he, hk => by
    simp only [List.getElem?_cons_succ] at he
    obtain ⟨a, b⟩ := del_KV h.tail he hk
    obtain ⟨kx, vx, h1, h2⟩ := h.ints x (by simp)
    have hm : e ∈ es := List.mem_of_getElem? he
    have hne : kx ≠ k := fun e' => (List.pairwise_cons.1 h.nodup).1 e hm (by rw [h1, hk, e'])
    have sub : ∀ {l : List MapEntry} {i : Nat}, ∀ y ∈ delE l i, y ∈ l := by
      intro l
      induction l with
      | nil => intro i y hy; cases hy
      | cons w l ih =>
        intro i y hy
        cases i with
        | zero => simp only [delE] at hy; simp [hy]
        | succ i =>
          simp only [delE, List.mem_cons] at hy
          rcases hy with rfl | hy
          · simp
          · simp [ih y hy]
    simp only [delE]
    refine ⟨⟨fun y hy => ?_, List.pairwise_cons.2 ⟨fun y hy => (List.pairwise_cons.1 h.nodup).1 y (sub y hy), a.nodup⟩⟩, fun k' => ?_⟩
    · rcases List.mem_cons.1 hy with rfl | hy
      · exact ⟨kx, vx, h1, h2⟩
      · exact a.ints y hy
    · simp only [lk, h1, h2, Value.int.injEq, true_and, b k']
      by_cases e : kx = k'
      · subst e; rw [if_pos rfl, if_neg hne, if_pos rfl]
      · rw [if_neg e, if_neg e]

/-! ### lists of items -/
def cellsL : List Item → List Value
  | [] => []
  | x :: xs => x.cells ++ cellsL xs

theorem Item.cells_length (x : Item) : x.cells.length = 4 := rfl
theorem cellsL_length : ∀ L : List Item, (cellsL L).length = 4 * L.length
  | [] => rfl
  | x :: xs => by simp [cellsL, Item.cells_length, cellsL_length xs]; omega

theorem cells_at {G : List Value} : ∀ {L : List Item} {i : Nat} {x : Item}, L[i]? = some x → ((cellsL L ++ G).drop (i * 4)).take 4 = x.cells
  | [], _, _, h => by simp at h
  | y :: L, 0, x, h => by
    simp only [List.getElem?_cons_zero, Option.some.injEq] at h
    subst h
    simp [cellsL, Item.cells]
  | y :: L, i + 1, x, h => by
    simp only [List.getElem?_cons_succ] at h
    have := cells_at (G := G) h
    have e : (i + 1) * 4 = 4 + i * 4 := by omega
    rw [e, ← List.drop_drop]
    simpa [cellsL, Item.cells] using this

theorem over_at {G : List Value} : ∀ {L : List Item} {i : Nat} (x : Item), i < L.length → over (cellsL L ++ G) (i * 4) x.cells = cellsL (L.set i x) ++ G
  | [], _, _, h => by simp at h
  | y :: L, 0, x, h => by simp [over, cellsL, Item.cells]
  | y :: L, i + 1, x, h => by
    have := over_at (G := G) (L := L) (i := i) x (by simpa using h)
    have e : (i + 1) * 4 = i * 4 + 4 := by omega
    rw [e, List.set_cons_succ]
    simp only [cellsL, Item.cells, List.cons_append, List.nil_append, over] at this ⊢
    rw [this]

end Go.Ab
