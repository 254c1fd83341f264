/- PortLetsSaid: part 4 of 7 of the proof that it returns true for every input and leaves its arguments as they were; no condition. -/
import Derived.Test.YtemimidmnnjanaaGreatJPortLetsSaid2
import Derived.Test.YtemimidmnnjanaaGreatJPortLetsSaid1
import Derived.Test.YtemimidmnnjanaaGreatProg
import Derived.KernelRfl
set_option linter.unusedSimpArgs false
set_option linter.unusedVariables false
namespace Go.Ab
open Go.Proofs
theorem HI.drop {σ : St} {h a m : Nat} {L : List Item} {cap : Nat} {t : Int} (H : HI σ h a m L cap t) {n : Nat} {x : Item} (hx : L[n]? = some x) :
  ∃ σ', DCall Tryz.prog 43 [.pointer (some ⟨h, 0, none⟩), .int .i64 x.id] σ (.ret (.int .i64 0)) σ' [h, a, m] ∧ HI σ' h a m (outL L n) cap t := by
 obtain ⟨σ', d, b3, b4, _⟩ := out_call H hx
 obtain ⟨f, H1, hi⟩ := H.hs
 obtain ⟨es, ck, gm, hkv, hlk⟩ := H1.gm
 have hno := none_call H1.gh
 have hlo := map_get (ok := true) gm hkv hlk (hi.fwd n x hx)
 refine ⟨σ', calls (one_ok' (one_ok' Orc.none_ok d) hno) Tryz.func43 rfl 40 nobt (by kernel_rfl) ?_, b3⟩
 exact ⟨_, by simp only [go_sem, seval, if_pos rfl, one_other, Orc.one_call, hlo, H1.gh, Tryz.f43, Tryz.underlying2, info2, Tryz.t2, Tryz.underlying3, info3, Tryz.t3, Tryz.underlying4, info4, Tryz.t4, Tryz.underlying30, info30, Tryz.t30, Tryz.underlying70, info70, Tryz.t70, Tryz.underlying24, info24, Tryz.t24, Tryz.underlying95, info95, Tryz.t95, Tryz.underlying106, info106, Tryz.t106, Tryz.underlying107, info107, Tryz.t107, Tryz.underlying108, info108, Tryz.t108, Tryz.underlying110, info110, Tryz.t110, Tryz.underlying111, info111, Tryz.t111, Tryz.underlying124, info124, Tryz.t124, body60, body71] <;> rfl, by simp only [go_sem, seval, if_pos rfl, Tryz.f43], rfl, rfl⟩
theorem HI.get {σ : St} {h a m : Nat} {L : List Item} {cap : Nat} {t : Int} (H0 : HI σ h a m L cap t) {n : Nat} {x : Item} (hx : L[n]? = some x) :
  DCall Tryz.prog 42 [.pointer (some ⟨h, 0, none⟩), .int .i64 x.id] σ (.ret (.tuple ⟨[.agg ⟨x.cells⟩, .bool true]⟩)) σ [] := by
 obtain ⟨f, H1, hi⟩ := H0.hs
 obtain ⟨es, ck, gm0, hkv, hlk⟩ := H1.gm
 obtain ⟨G, ga0, hG⟩ := H1.ga
 have lt := H1.lt
 let σ1 := σ.new (.cells [.int .i64 0, .int .i64 0, .int .i64 0, .int .i64 0] false)
 have gh : σ1.get h = some (.cells [.map (some m), .slice (some ⟨a, 0, some 6⟩) L.length cap, .int .i64 t] false) := by rw [St.get_new, if_neg (by omega)]; exact H1.gh
 have gm : σ1.get m = some (.map es ck) := by rw [St.get_new, if_neg (by omega)]; exact gm0
 have ga : σ1.get a = some (.cells (cellsL L ++ G) false) := by rw [St.get_new, if_neg (by omega)]; exact ga0
 have hno := none_call gh
 have hlo := map_get (ok := true) gm hkv hlk (hi.fwd n x hx)
 have hn : n < L.length := (List.getElem?_eq_some_iff.1 hx).1
 have e1 := cells_at (G := G) hx
 have l1 : n * 4 + 4 ≤ (cellsL L ++ G).length := by rw [List.length_append, cellsL_length]; omega
 have c0 : (0 : Int) ≤ (n : Int) := by omega
 have c1 : (n : Int) < (L.length : Int) := by omega
 simp only [Item.cells] at e1 ⊢
 refine DCall.forget (σ' := σ1.set σ.next (.cells [.int .i64 x.id, .int .i64 x.n, .int .i64 x.d, .int .i64 x.turn] false)) ?_ rfl
 refine callsL (one_ok' p8_ok hno) Tryz.func42 rfl 40 nobt (by kernel_rfl) ?_
 exact ⟨_, by simp only [go_sem, seval, if_pos rfl, σ1, one_other, Orc.one_call, hlo, gh, ga, e1, l1, c0, c1, Int.toNat_natCast, Tryz.f42, Tryz.underlying2, info2, Tryz.t2, Tryz.underlying3, info3, Tryz.t3, Tryz.underlying4, info4, Tryz.t4, Tryz.underlying30, info30, Tryz.t30, Tryz.underlying70, info70, Tryz.t70, Tryz.underlying24, info24, Tryz.t24, Tryz.underlying94, info94, Tryz.t94, Tryz.underlying95, info95, Tryz.t95, Tryz.underlying109, info109, Tryz.t109, Tryz.underlying106, info106, Tryz.t106, Tryz.underlying107, info107, Tryz.t107, Tryz.underlying108, info108, Tryz.t108, Tryz.underlying110, info110, Tryz.t110, Tryz.underlying111, info111, Tryz.t111, Tryz.underlying124, info124, Tryz.t124, body60] <;> rfl, by simp only [go_sem, seval, if_pos rfl, Tryz.f42, Tryz.underlying94, info94, Tryz.t94, Tryz.underlying95, info95, Tryz.t95], rfl, fun c hc => by simp only [σ1, St.get_set, St.get_new]; rw [if_neg (by omega), if_neg (by omega)]⟩
end Go.Ab
namespace Go.Ab
variable {P : Program}
def callX (P : Program) (f : FuncId) (args : List Value) (σ : St) (K : AE → St → Log → Prop) : Prop := ∃ e σ' l, DCall P f args σ e σ' l ∧ K e σ' l
def roundX (P : Program) (r : Nat) (args : List Value) (σ : St) (K : AE → St → Log → Prop) : Prop := ∃ e σ' l, DRound P r args σ e σ' l ∧ K e σ' l
structure PureTab (P : Program) where
 get : FuncId → List Value → Option Value
 ok : ∀ f args v, get f args = some v → ∀ σ, DCall P f args σ (.ret v) σ []
def callO (P : Program) (f : FuncId) (args : List Value) (σ : St) (K : AE → St → Log → Prop) : Option Value → Prop
 | some v => K (.ret v) σ []
 | none => callX P f args σ K
def callW (p : PureTab P) (f : FuncId) (args : List Value) (σ : St) (K : AE → St → Log → Prop) : Prop := callO P f args σ K (p.get f args)
theorem callW.sound {p : PureTab P} {f : FuncId} {args : List Value} {σ : St} {K : AE → St → Log → Prop} (h : callW p f args σ K) : callX P f args σ K := by
 unfold callW at h
 cases hp : p.get f args with
 | some v => rw [hp] at h; exact ⟨_, _, _, p.ok f args v hp σ, h⟩
 | none => rw [hp] at h; exact h
theorem callX.of {f : FuncId} {args : List Value} {σ σ' : St} {e : AE} {l : Log} {K : AE → St → Log → Prop} (d : DCall P f args σ e σ' l) (k : K e σ' l) : callX P f args σ K := ⟨_, _, _, d, k⟩
theorem callX.use {f : FuncId} {args : List Value} {σ : St} {K K' : AE → St → Log → Prop} (d : callX P f args σ K') (k : ∀ e σ' l, Logged σ σ' l → K' e σ' l → K e σ' l) : callX P f args σ K :=
 let ⟨e, σ', l, h, h'⟩ := d
 ⟨e, σ', l, h, k e σ' l h.1 h'⟩
def retW (fr : Fr) (dst : Option Tmp) (lg : Log) (k : Fr → St → Log → Prop) (Q : RR → Prop) : AE → St → Log → Prop
 | .ret v, σ', l => k (fr.put dst v) σ' (lg ++ l)
 | .panic c, σ', l => Q ⟨.panic c, fr, σ', lg ++ l⟩
def opsW (p : PureTab P) (rnd : Bool) (dst : Option Tmp) (fr : Fr) (σ : St) (lg : Log) (k : Fr → St → Log → Prop) (Q : RR → Prop) : Option ORes → Prop
 | some (.val v _) => k (fr.put dst v) σ lg
 | some (.new ob v _) => k (fr.put dst v) (σ.new ob) lg
 | some (.eff v σ' l) => k (fr.put dst v) σ' (lg ++ l)
 | some (.panic v) => Q ⟨.panic [{ v, recovered := false }], fr, σ, lg⟩
 | some (.enter f args) => callW p f args σ (retW fr dst lg k Q)
 | some (.round r args) => roundX P r args σ (retW fr dst lg k Q)
 | some (.defer d) => rnd = false ∧ k ({ fr with ds := d :: fr.ds }.put dst undef) σ lg
 | _ => False
def wOps (C : Cx) (p : PureTab P) (rnd : Bool) (ops : List Oper) (Q : RR → Prop) : List Oper → Fr → St → Log → Prop
 | [], fr, σ, lg => Q ⟨.norm, fr, σ, lg⟩
 | o :: rest, fr, σ, lg => opsW p rnd o.dst fr σ lg (wOps C p rnd ops Q rest) Q (wantK C.T C.bodies o fr.ts σ (wantedA ops o fr.ts))
theorem wOps_sound {C : Cx} {p : PureTab P} {rnd : Bool} {ops : List Oper} {Q : RR → Prop} : ∀ (rest : List Oper) (fr : Fr) (σ : St) (lg : Log), wOps C p rnd ops Q rest fr σ lg →
  ∃ x fr' σ' l, OpsR P C rnd ops rest fr σ x fr' σ' l ∧ Q ⟨x, fr', σ', lg ++ l⟩ := by
 intro rest
 induction rest with
 | nil => intro fr σ lg h; exact ⟨_, _, _, _, .nil, by simpa [wOps] using h⟩
 | cons o rest ih =>
  intro fr σ lg h
  simp only [wOps] at h
  cases hw : wantedA ops o fr.ts with
  | false =>
   rw [hw] at h
   obtain ⟨x, fr', σ', l, h1, h2⟩ := ih _ _ _ h
   exact ⟨_, _, _, _, .skip hw h1, h2⟩
  | true =>
   rw [hw] at h
   simp only [wantK] at h
   unfold opsW at h
   split at h
   ·rename_i hs
    obtain ⟨x, fr', σ', l, h1, h2⟩ := ih _ _ _ h
    exact ⟨_, _, _, _, .val hw hs h1, h2⟩
   ·rename_i hs
    obtain ⟨x, fr', σ', l, h1, h2⟩ := ih _ _ _ h
    exact ⟨_, _, _, _, .new hw hs h1, h2⟩
   ·rename_i hs
    obtain ⟨x, fr', σ', l, h1, h2⟩ := ih _ _ _ h
    exact ⟨_, _, _, _, .eff hw hs h1, by rw [← List.append_assoc]; exact h2⟩
   ·rename_i hs
    exact ⟨_, _, _, _, .panic hw hs, by simpa using h⟩
   ·rename_i hs
    obtain ⟨e, σ₁, l₁, hc, hk⟩ := h.sound
    cases e with
    | ret v =>
     obtain ⟨x, fr', σ', l, h1, h2⟩ := ih _ _ _ hk
     exact ⟨_, _, _, _, .call hw hs hc h1, by rw [← List.append_assoc]; exact h2⟩
    | panic c => exact ⟨_, _, _, _, .callP hw hs hc, hk⟩
   ·rename_i hs
    obtain ⟨e, σ₁, l₁, hc, hk⟩ := h
    cases e with
    | ret v =>
     obtain ⟨x, fr', σ', l, h1, h2⟩ := ih _ _ _ hk
     exact ⟨_, _, _, _, .round hw hs hc h1, by rw [← List.append_assoc]; exact h2⟩
    | panic c => exact ⟨_, _, _, _, .roundP hw hs hc, hk⟩
   ·rename_i hs
    obtain ⟨x, fr', σ', l, h1, h2⟩ := ih _ _ _ h.2
    exact ⟨_, _, _, _, .defer hw h.1 hs h1, h2⟩
   ·exact h.elim
abbrev Loud := List (Nat × SK × Nat × Nat)
abbrev DK := List Value → St → Log → Loud → Prop
def loudOne (k : Nat) (kd : SK) (lo hi : Nat) : Loud := if quietK kd then [] else [(k, kd, lo, hi)]
def retD (kn : Nat) (σ : St) (dst : Option Tmp) (ts : List Value) (acc : Loud) (lg : Log) (k : DK) : AE → St → Log → Prop
 | .ret v, σ', l => k (putL ts dst v) σ' (lg ++ l) (acc ++ [(kn, .full l, σ.next, σ'.next)])
 | .panic _, _, _ => False
def drawnW (p : PureTab P) (kn : Nat) (dst : Option Tmp) (ts : List Value) (σ : St) (acc : Loud) (lg : Log) (k : DK) : Option ORes → Prop
 | some (.val v rd) => k (putL ts dst v) σ lg (acc ++ loudOne kn (.pure rd) σ.next σ.next)
 | some (.new ob v rd) => k (putL ts dst v) (σ.new ob) lg (acc ++ [(kn, .alloc ob rd, σ.next, σ.next + 1)])
 | some (.eff v σ' l) => k (putL ts dst v) σ' (lg ++ l) (acc ++ [(kn, .full l, σ.next, σ'.next)])
 | some (.enter f args) => callW p f args σ (retD kn σ dst ts acc lg k)
 | _ => False
def wDrawn (C : Cx) (p : PureTab P) (ops : List Oper) (K : DK) : List Oper → Nat → List Value → St → Log → Loud → Prop
 | [], _, ts, σ, lg, acc => K ts σ lg acc
 | o :: rest, kn, ts, σ, lg, acc => drawnW p kn o.dst ts σ acc lg (wDrawn C p ops K rest (kn + 1)) (wantK C.T C.bodies o ts σ (wantedA ops o ts))
theorem loud_cons {s : Stp} {r : Dr} {σ' : St} {k : Nat} (h : r.σAt 0 = σ') : loud (s :: r.st) r.σ k = loudOne k s.kd s.σ.next σ'.next ++ loud r.st r.σ (k + 1) := by
 have hi : (match r.st with | [] => r.σ.next | s' :: _ => s'.σ.next) = σ'.next := by
  rw [← h]
  unfold Dr.σAt
  cases r.st with
  | nil => rfl
  | cons s' l => rfl
 have hu : loud (s :: r.st) r.σ k = if quietK s.kd then loud r.st r.σ (k + 1) else (k, s.kd, s.σ.next, (match r.st with | [] => r.σ.next | s' :: _ => s'.σ.next)) :: loud r.st r.σ (k + 1) := rfl
 rw [hu, hi]
 unfold loudOne
 split <;> simp
theorem wDrawn_sound {C : Cx} {p : PureTab P} (hC : C.Ok P) {ops : List Oper} {K : DK} : ∀ (rest : List Oper) (kn : Nat) (ts : List Value) (σ : St) (lg : Log) (acc : Loud), wDrawn C p ops K rest kn ts σ lg acc →
  ∃ r : Dr, Chain P C ops rest ts σ r ∧ K r.ts r.σ (lg ++ r.lg) (acc ++ loud r.st r.σ kn) := by
 intro rest
 induction rest with
 | nil =>
  intro kn ts σ lg acc h
  exact ⟨⟨[], ts, σ, []⟩, ⟨rfl, rfl, rfl, fun k o h => by simp at h, logged_self _ _⟩, by simpa [loud, wDrawn] using h⟩
 | cons o rest ih =>
  intro kn ts σ lg acc h
  simp only [wDrawn] at h
  cases hw : wantedA ops o ts with
  | false =>
   rw [hw] at h
   obtain ⟨r, h1, h2⟩ := ih _ _ _ _ _ h
   refine ⟨_, Chain.cons (s := ⟨ts, σ, undef, .pure []⟩) (l := []) h1 rfl rfl (.skip hw rfl rfl rfl) (logged_self _ _), ?_⟩
   show K r.ts r.σ (lg ++ ([] ++ r.lg)) (acc ++ loud (_ :: r.st) r.σ kn)
   rw [loud_cons h1.σ0, List.nil_append, ← List.append_assoc]
   exact h2
  | true =>
   rw [hw] at h
   simp only [wantK] at h
   unfold drawnW at h
   split at h
   ·rename_i v rd hs
    obtain ⟨r, h1, h2⟩ := ih _ _ _ _ _ h
    refine ⟨_, Chain.cons (s := ⟨ts, σ, v, .pure rd⟩) (l := []) h1 rfl rfl (.val hw hs rfl rfl) (logged_self _ _), ?_⟩
    show K r.ts r.σ (lg ++ ([] ++ r.lg)) (acc ++ loud (_ :: r.st) r.σ kn)
    rw [loud_cons h1.σ0, List.nil_append, ← List.append_assoc]
    exact h2
   ·rename_i ob v rd hs
    obtain ⟨r, h1, h2⟩ := ih _ _ _ _ _ h
    refine ⟨_, Chain.cons (s := ⟨ts, σ, v, .alloc ob rd⟩) (l := []) h1 rfl rfl (.new hw hs rfl rfl) (logged_new _ _), ?_⟩
    show K r.ts r.σ (lg ++ ([] ++ r.lg)) (acc ++ loud (_ :: r.st) r.σ kn)
    rw [loud_cons h1.σ0, List.nil_append, ← List.append_assoc]
    exact h2
   ·rename_i v σ' l hs
    obtain ⟨r, h1, h2⟩ := ih _ _ _ _ _ h
    refine ⟨_, Chain.cons (s := ⟨ts, σ, v, .full l⟩) h1 rfl rfl (.eff hw hs rfl) (stepOp_log hC hs), ?_⟩
    show K r.ts r.σ (lg ++ (l ++ r.lg)) (acc ++ loud (_ :: r.st) r.σ kn)
    rw [loud_cons h1.σ0, ← List.append_assoc, ← List.append_assoc]
    exact h2
   ·rename_i f args hs
    obtain ⟨e, σ', l, hc, hk⟩ := h.sound
    cases e with
    | ret v =>
     obtain ⟨r, h1, h2⟩ := ih _ _ _ _ _ hk
     refine ⟨_, Chain.cons (s := ⟨ts, σ, v, .full l⟩) h1 rfl rfl (.call hw hs hc rfl) hc.1, ?_⟩
     show K r.ts r.σ (lg ++ (l ++ r.lg)) (acc ++ loud (_ :: r.st) r.σ kn)
     rw [loud_cons h1.σ0, ← List.append_assoc, ← List.append_assoc]
     exact h2
    | panic c => exact hk.elim
   ·exact h.elim
def pairOk (bj i j : Nat) (ki kj : SK) (lo hi : Nat) : Bool := decide (j ≤ i) || bj.testBit i || !clash ki kj lo hi
def dynL (B : List Nat) (l : Loud) : Bool :=
 match l with
 | [] => true
 | [_] => true
 | _ => l.all fun (j, kj, _, _) => l.all fun (i, ki, lo, hi) => pairOk (B.getD j 0) i j ki kj lo hi
def regW (C : Cx) (p : PureTab P) (rnd draw : Bool) (B : List Nat) (ops : Array Oper) (fr : Fr) (σ : St) (Q : RR → Prop) : Prop :=
 match draw with
 | false => wOps C p rnd ops.toList Q ops.toList fr σ []
 | true => wDrawn C p ops.toList (fun ts σ' lg acc => dynL B acc = true ∧ Q ⟨.norm, { fr with ts := ts }, σ', lg⟩) ops.toList 0 fr.ts σ [] []
theorem regW_sound {C : Cx} {p : PureTab P} (hC : C.Ok P) (hm : P.follows .mixedOrders = true) {bt : Nat → List Nat} {rnd draw : Bool} {id : Nat} {ops : Array Oper} {fr : Fr} {σ : St} {Q : RR → Prop} (hs : statAll bt (.region id ops draw) = true)
  (h : regW C p rnd draw (bt id) ops fr σ Q) : ∃ r, DC P rnd (.region id ops draw) fr σ r ∧ Q r := by
 cases draw with
 | false =>
  obtain ⟨x, fr', σ', l, h1, h2⟩ := wOps_sound _ _ _ _ h
  exact ⟨_, DC.ops hC h1, h2⟩
 | true =>
  obtain ⟨r, h1, h2, h3⟩ := wDrawn_sound hC _ _ _ _ _ _ h
  exact ⟨_, DC.chain hC hm (by simpa [statAll] using hs) h1 h2, h3⟩
def preW (lg : Log) (Q : RR → Prop) (r : RR) : Prop := Q (r.pre lg)
def blockW (id : Nat) (Q : RR → Prop) (r : RR) : Prop := Q { r with x := r.x.inBlock id }
def preK (lg : Log) (K : AE → St → Log → Prop) (e : AE) (σ : St) (l : Log) : Prop := K e σ (lg ++ l)
def thenW (k : Fr → St → (RR → Prop) → Prop) (Q : RR → Prop) (r : RR) : Prop :=
 match r.x with
 | .norm => k r.fr r.σ (preW r.lg Q)
 | _ => Q r
def condW (a b : Prop) : Option Value → Prop
 | some (.bool t) => if t then a else b
 | _ => False
def loopX (P : Program) (rnd : Bool) (b : Code) (fr : Fr) (σ : St) (Q : RR → Prop) : Prop := ∃ r, DL P rnd b fr σ r ∧ Q r
def scopeX (P : Program) (rnd : Bool) (body c : Code) (fr : Fr) (σ : St) (Q : RR → Prop) : Prop := ∃ r, DS P rnd body c fr σ r ∧ Q r
def rangeX (P : Program) (rnd : Bool) (g : Operand) (ps : Array Tmp) (a b : Code) (fr : Fr) (σ : St) (Q : RR → Prop) : Prop := ∃ r, DC P rnd (.rangeFunc g ps a b) fr σ r ∧ Q r
def wp (C : Cx) (p : PureTab P) (bt : Nat → List Nat) (rnd : Bool) : Code → Fr → St → (RR → Prop) → Prop
 | .skip, fr, σ, Q => Q ⟨.norm, fr, σ, []⟩
 | .label _, fr, σ, Q => Q ⟨.norm, fr, σ, []⟩
 | .exit i, fr, σ, Q => Q ⟨.exit i, fr, σ, []⟩
 | .goto i, fr, σ, Q => Q ⟨.goto i, fr, σ, []⟩
 | .ret, fr, σ, Q => Q ⟨.ret, fr, σ, []⟩
 | .seq a b, fr, σ, Q => wp C p bt rnd a fr σ (thenW (wp C p bt rnd b) Q)
 | .cond c a b, fr, σ, Q => condW (wp C p bt rnd a fr σ Q) (wp C p bt rnd b fr σ Q) (ev fr.ts c)
 | .block id b, fr, σ, Q => wp C p bt rnd b fr σ (blockW id Q)
 | .region id ops draw, fr, σ, Q => regW C p rnd draw (bt id) ops fr σ Q
 | .loop b, fr, σ, Q => loopX P rnd b fr σ Q
 | .scope b, fr, σ, Q => scopeX P rnd b b fr σ Q
 | .rangeFunc g ps a b, fr, σ, Q => rangeX P rnd g ps a b fr σ Q
 | _, _, _, _ => False
theorem wp_sound {C : Cx} {p : PureTab P} (hC : C.Ok P) (hm : P.follows .mixedOrders = true) {bt : Nat → List Nat} {rnd : Bool} : ∀ (c : Code) (fr : Fr) (σ : St) (Q : RR → Prop), statAll bt c = true → wp C p bt rnd c fr σ Q → ∃ r, DC P rnd c fr σ r ∧ Q r := by
 intro c
 induction c with
 | skip => intro fr σ Q _ h; exact ⟨_, DC.skip _ _ _, h⟩
 | label l => intro fr σ Q _ h; exact ⟨_, DC.label _ _ _ _, h⟩
 | exit i => intro fr σ Q _ h; exact ⟨_, DC.exit _ _ _ _, h⟩
 | goto i => intro fr σ Q _ h; exact ⟨_, DC.goto _ _ _ _, h⟩
 | ret => intro fr σ Q _ h; exact ⟨_, DC.ret _ _ _, h⟩
 | seq a b iha ihb =>
  intro fr σ Q hs h
  simp only [statAll, Bool.and_eq_true] at hs
  obtain ⟨r, h1, h2⟩ := iha _ _ _ hs.1 h
  unfold thenW at h2
  cases hx : r.x with
  | norm =>
   rw [hx] at h2
   obtain ⟨r', h3, h4⟩ := ihb _ _ _ hs.2 h2
   exact ⟨_, DC.seq h1 hx h3, h4⟩
  | exit i => rw [hx] at h2; exact ⟨_, DC.seq_out h1 (by rw [hx]; rfl), h2⟩
  | goto i => rw [hx] at h2; exact ⟨_, DC.seq_out h1 (by rw [hx]; rfl), h2⟩
  | ret => rw [hx] at h2; exact ⟨_, DC.seq_out h1 (by rw [hx]; rfl), h2⟩
  | panic ch => rw [hx] at h2; exact ⟨_, DC.seq_out h1 (by rw [hx]; rfl), h2⟩
 | cond c a b iha ihb =>
  intro fr σ Q hs h
  simp only [statAll, Bool.and_eq_true] at hs
  simp only [wp] at h
  unfold condW at h
  split at h
  ·rename_i t hc
   cases t with
   | true =>
    obtain ⟨r, h1, h2⟩ := iha _ _ _ hs.1 (by simpa using h)
    exact ⟨r, DC.cond (t := true) hc h1, h2⟩
   | false =>
    obtain ⟨r, h1, h2⟩ := ihb _ _ _ hs.2 (by simpa using h)
    exact ⟨r, DC.cond (t := false) hc h1, h2⟩
  ·exact h.elim
 | block id b ih =>
  intro fr σ Q hs h
  obtain ⟨r, h1, h2⟩ := ih _ _ _ hs h
  exact ⟨_, DC.block h1, h2⟩
 | region id ops draw => intro fr σ Q hs h; exact regW_sound hC hm hs h
 | loop b => intro fr σ Q _ h; obtain ⟨r, h1, h2⟩ := h; exact ⟨r, DC.loop h1, h2⟩
 | scope b => intro fr σ Q _ h; obtain ⟨r, h1, h2⟩ := h; exact ⟨r, DC.scope h1, h2⟩
 | rangeFunc g ps a b => intro fr σ Q _ h; exact h
 | _ => intro fr σ Q _ h; exact h.elim
theorem loopX.step {C : Cx} {p : PureTab P} (hC : C.Ok P) (hm : P.follows .mixedOrders = true) {bt : Nat → List Nat} {rnd : Bool} {b : Code} {fr : Fr} {σ : St} {Q : RR → Prop} (hs : statAll bt b = true)
  (h : wp C p bt rnd b fr σ (thenW (loopX P rnd b) Q)) : loopX P rnd b fr σ Q := by
 obtain ⟨r, h1, h2⟩ := wp_sound hC hm b fr σ _ hs h
 unfold thenW at h2
 cases hx : r.x with
 | norm =>
  rw [hx] at h2
  obtain ⟨r', h3, h4⟩ := h2
  exact ⟨_, DL.next h1 hx h3, h4⟩
 | exit i => rw [hx] at h2; exact ⟨_, DL.out h1 (by rw [hx]; rfl), h2⟩
 | goto i => rw [hx] at h2; exact ⟨_, DL.out h1 (by rw [hx]; rfl), h2⟩
 | ret => rw [hx] at h2; exact ⟨_, DL.out h1 (by rw [hx]; rfl), h2⟩
 | panic ch => rw [hx] at h2; exact ⟨_, DL.out h1 (by rw [hx]; rfl), h2⟩
theorem loopX.mono {rnd : Bool} {b : Code} {fr : Fr} {σ : St} {Q Q' : RR → Prop} (h : loopX P rnd b fr σ Q) (k : ∀ r, Logged σ r.σ r.lg → Q r → Q' r) : loopX P rnd b fr σ Q' :=
 let ⟨r, h1, h2⟩ := h
 ⟨r, h1, k r h1.1 h2⟩
def scopeW (P : Program) (rnd : Bool) (body : Code) (Q : RR → Prop) (r : RR) : Prop :=
 match r.x with
 | .goto l => match findLabel body l with
  | some rest => scopeX P rnd body rest r.fr r.σ (preW r.lg Q)
  | none => Q r
 | _ => Q r
theorem scopeX.step {C : Cx} {p : PureTab P} (hC : C.Ok P) (hm : P.follows .mixedOrders = true) {bt : Nat → List Nat} {rnd : Bool} {body c : Code} {fr : Fr} {σ : St} {Q : RR → Prop} (hs : statAll bt c = true)
  (h : wp C p bt rnd c fr σ (scopeW P rnd body Q)) : scopeX P rnd body c fr σ Q := by
 obtain ⟨r, h1, h2⟩ := wp_sound hC hm c fr σ _ hs h
 unfold scopeW at h2
 split at h2
 ·rename_i l hx
  split at h2
  ·rename_i rest hf
   obtain ⟨r', h3, h4⟩ := h2
   exact ⟨_, DS.jump h1 hx hf h3, h4⟩
  ·rename_i hf
   exact ⟨_, DS.out h1 fun l' hl => by rw [hx] at hl; cases hl; exact hf, h2⟩
 ·rename_i hne
  exact ⟨_, DS.out h1 fun l hl => (hne l hl).elim, h2⟩
def endW (C : Cx) (rs : List ResultVar) (K : AE → St → Log → Prop) (r : RR) : Prop :=
 match endsA C.T rs r with
 | some e => K e r.σ r.lg
 | none => False
theorem callX.enter {C : Cx} {p : PureTab P} (hC : C.Ok P) (hm : P.follows .mixedOrders = true) {bt : Nat → List Nat} {f : FuncId} {fn : Func} {c : Code} {args : List Value} {σ : St} {K : AE → St → Log → Prop}
  (hf : P.funcs[f]? = some fn) (hb : fn.body = some c) (hs : statAll bt c = true) (h : wp C p bt false c (start args fn.ntmps) σ (endW C fn.results.toList K)) : callX P f args σ K := by
 obtain ⟨r, h1, h2⟩ := wp_sound hC hm c _ _ _ hs h
 unfold endW at h2
 split at h2
 ·rename_i e he
  exact ⟨_, _, _, DCall.of_code hC.T ⟨hf, hb⟩ h1 he, h2⟩
 ·exact h2.elim
def deferX (P : Program) (f : FuncId) (args : List Value) (u : AM) (σ : St) (K : AE → AM → St → Log → Prop) : Prop := ∃ e u' σ' l, DDefer P f args u σ e u' σ' l ∧ K e u' σ' l
def leaveX (P : Program) (fn : Func) (ts : List Value) (ds : List Deferred) (u : AM) (σ : St) (K : AE → St → Log → Prop) : Prop := ∃ e σ' l, DLeave P fn ts ds u σ e σ' l ∧ K e σ' l
theorem deferX.recover {C : Cx} {p : PureTab P} (hC : C.Ok P) (hm : P.follows .mixedOrders = true) {bt : Nat → List Nat} {f : FuncId} {fn : Func} {c : Code} {id : Nat} {o : Oper} {tys : Array TypeId} {args : List Value} {u : AM} {σ : St} {K : AE → AM → St → Log → Prop}
  (hf : P.funcs[f]? = some fn) (hb : fn.body = some (.seq (.region id #[o] false) c)) (hop : o.op = .call { callee := .builtin .recover, args := #[], argTypes := tys }) (hg : o.guard = none) (hs : statAll bt c = true)
  (h : wp C p bt false c ((start args fn.ntmps).put o.dst (recoverA u).1) σ (endW C fn.results.toList fun e σ' l => K e (recoverA u).2 σ' l)) : deferX P f args u σ K := by
 obtain ⟨r, h1, h2⟩ := wp_sound hC hm c _ _ _ hs h
 unfold endW at h2
 split at h2
 ·rename_i e he
  exact ⟨_, _, _, _, DDefer.of_recover hC.T ⟨hf, hb⟩ hop hg h1 he, h2⟩
 ·exact h2.elim
theorem leaveX.ret {C : Cx} (hC : C.Ok P) {fn : Func} {ts : List Value} {σ : St} {v : Value} {K : AE → St → Log → Prop} (h : resA C.T σ ts fn.results.toList = some v) (k : K (.ret v) σ []) : leaveX P fn ts [] .returning σ K := ⟨_, _, _, DLeave.returned hC.T h, k⟩
def leaveK (P : Program) (fn : Func) (ts : List Value) (ds : List Deferred) (K : AE → St → Log → Prop) (e : AE) (u : AM) (σ : St) (l : Log) : Prop :=
 match nextMode e u with
 | some u₂ => leaveX P fn ts ds u₂ σ (preK l K)
 | none => False
theorem leaveX.cons {fn : Func} {ts : List Value} {ds : List Deferred} {f : FuncId} {cap args : Array Value} {u : AM} {σ : St} {K : AE → St → Log → Prop} (hb : HasBody P f)
  (h : deferX P f (args.toList ++ cap.toList) u σ (leaveK P fn ts ds K)) : leaveX P fn ts ({ target := .fn (.func f) cap, args := args } :: ds) u σ K := by
 obtain ⟨e, u', σ', l, h1, h2⟩ := h
 unfold leaveK at h2
 split at h2
 ·rename_i u₂ hn
  obtain ⟨e₂, σ₂, l₂, h3, h4⟩ := h2
  exact ⟨_, _, _, DLeave.cons rfl hb h1 hn h3, h4⟩
 ·exact h2.elim
def endD (P : Program) (C : Cx) (fn : Func) (K : AE → St → Log → Prop) (r : RR) : Prop :=
 match modeOf r.x with
 | some u => leaveX P fn r.fr.ts r.fr.ds u r.σ (preK r.lg K)
 | none => False
theorem callX.enterD {C : Cx} {p : PureTab P} (hC : C.Ok P) (hm : P.follows .mixedOrders = true) {bt : Nat → List Nat} {f : FuncId} {fn : Func} {c : Code} {args : List Value} {σ : St} {K : AE → St → Log → Prop}
  (hf : P.funcs[f]? = some fn) (hb : fn.body = some c) (hs : statAll bt c = true) (h : wp C p bt false c (start args fn.ntmps) σ (endD P C fn K)) : callX P f args σ K := by
 obtain ⟨r, h1, h2⟩ := wp_sound hC hm c _ _ _ hs h
 unfold endD at h2
 split at h2
 ·rename_i u hu
  obtain ⟨e, σ', l, h3, h4⟩ := h2
  refine ⟨_, _, _, DCall.of_code_defers ⟨hf, hb⟩ h1 ?_ h3, h4⟩
  unfold modeOf at hu
  split at hu <;> cases hu <;> simp_all
 ·exact h2.elim
section eqs
variable {C : Cx} {p : PureTab P} {bt : Nat → List Nat} {rnd : Bool} {fr : Fr} {σ : St} {Q : RR → Prop}
theorem wp_skip : wp C p bt rnd .skip fr σ Q = Q ⟨.norm, fr, σ, []⟩ := (rfl)
theorem wp_label {l : Nat} : wp C p bt rnd (.label l) fr σ Q = Q ⟨.norm, fr, σ, []⟩ := (rfl)
theorem wp_exit {i : Nat} : wp C p bt rnd (.exit i) fr σ Q = Q ⟨.exit i, fr, σ, []⟩ := (rfl)
theorem wp_goto {i : Nat} : wp C p bt rnd (.goto i) fr σ Q = Q ⟨.goto i, fr, σ, []⟩ := (rfl)
theorem wp_ret : wp C p bt rnd .ret fr σ Q = Q ⟨.ret, fr, σ, []⟩ := (rfl)
theorem wp_seq {a b : Code} : wp C p bt rnd (.seq a b) fr σ Q = wp C p bt rnd a fr σ (thenW (wp C p bt rnd b) Q) := (rfl)
theorem wp_cond {c : Operand} {a b : Code} : wp C p bt rnd (.cond c a b) fr σ Q = condW (wp C p bt rnd a fr σ Q) (wp C p bt rnd b fr σ Q) (ev fr.ts c) := (rfl)
theorem wp_block {id : Nat} {b : Code} : wp C p bt rnd (.block id b) fr σ Q = wp C p bt rnd b fr σ (blockW id Q) := (rfl)
theorem wp_ops {id : Nat} {ops : List Oper} : wp C p bt rnd (.region id ⟨ops⟩ false) fr σ Q = wOps C p rnd ops Q ops fr σ [] := (rfl)
theorem wp_drawn {id : Nat} {ops : List Oper} : wp C p bt rnd (.region id ⟨ops⟩ true) fr σ Q = wDrawn C p ops (fun ts σ' lg acc => dynL (bt id) acc = true ∧ Q ⟨.norm, { fr with ts := ts }, σ', lg⟩) ops 0 fr.ts σ [] [] := (rfl)
theorem wp_loop {b : Code} : wp C p bt rnd (.loop b) fr σ Q = loopX P rnd b fr σ Q := (rfl)
theorem wp_scope {b : Code} : wp C p bt rnd (.scope b) fr σ Q = scopeX P rnd b b fr σ Q := (rfl)
theorem wp_range {g : Operand} {ps : Array Tmp} {a b : Code} : wp C p bt rnd (.rangeFunc g ps a b) fr σ Q = rangeX P rnd g ps a b fr σ Q := (rfl)
theorem wOps_nil {ops : List Oper} {lg : Log} : wOps C p rnd ops Q [] fr σ lg = Q ⟨.norm, fr, σ, lg⟩ := (rfl)
theorem wOps_cons {ops rest : List Oper} {o : Oper} {lg : Log} : wOps C p rnd ops Q (o :: rest) fr σ lg = opsW p rnd o.dst fr σ lg (wOps C p rnd ops Q rest) Q (wantK C.T C.bodies o fr.ts σ (wantedA ops o fr.ts)) := (rfl)
theorem wDrawn_nil {ops : List Oper} {K : DK} {kn : Nat} {ts : List Value} {lg : Log} {acc : Loud} : wDrawn C p ops K [] kn ts σ lg acc = K ts σ lg acc := (rfl)
theorem wDrawn_cons {ops rest : List Oper} {o : Oper} {K : DK} {kn : Nat} {ts : List Value} {lg : Log} {acc : Loud} : wDrawn C p ops K (o :: rest) kn ts σ lg acc = drawnW p kn o.dst ts σ acc lg (wDrawn C p ops K rest (kn + 1)) (wantK C.T C.bodies o ts σ (wantedA ops o ts)) := (rfl)
theorem wp_congr {c : Code} {fr' : Fr} {σ' : St} (h : fr = fr') (h' : σ = σ') : wp C p bt rnd c fr σ Q = wp C p bt rnd c fr' σ' Q := by rw [h, h']
theorem wOps_congr {ops rest : List Oper} {fr' : Fr} {σ' : St} {lg lg' : Log} (h : fr = fr') (h' : σ = σ') (h2 : lg = lg') : wOps C p rnd ops Q rest fr σ lg = wOps C p rnd ops Q rest fr' σ' lg' := by rw [h, h', h2]
theorem opsW_congr {dst : Option Tmp} {lg : Log} {k : Fr → St → Log → Prop} {o o' : Option ORes} (h : o = o') : opsW p rnd dst fr σ lg k Q o = opsW p rnd dst fr σ lg k Q o' := by rw [h]
theorem wDrawn_congr {ops rest : List Oper} {K : DK} {kn kn' : Nat} {ts ts' : List Value} {σ' : St} {lg lg' : Log} {acc acc' : Loud} (h0 : kn = kn') (h : ts = ts') (h' : σ = σ') (h2 : lg = lg') (h3 : acc = acc') : wDrawn C p ops K rest kn ts σ lg acc = wDrawn C p ops K rest kn' ts' σ' lg' acc' := by rw [h0, h, h', h2, h3]
theorem drawnW_congr {kn : Nat} {dst : Option Tmp} {ts : List Value} {acc : Loud} {lg : Log} {k : DK} {o o' : Option ORes} (h : o = o') : drawnW p kn dst ts σ acc lg k o = drawnW p kn dst ts σ acc lg k o' := by rw [h]
theorem condW_congr {a b : Prop} {o o' : Option Value} (h : o = o') : condW a b o = condW a b o' := by rw [h]
theorem condW_true {a b : Prop} : condW a b (some (.bool true)) = a := (rfl)
theorem condW_false {a b : Prop} : condW a b (some (.bool false)) = b := (rfl)
theorem condW_dec {a b c : Prop} [Decidable c] : condW a b (some (.bool (decide c))) = if c then a else b := by
 by_cases h : c <;> simp [condW, h]
theorem thenW_norm {k : Fr → St → (RR → Prop) → Prop} {lg : Log} : thenW k Q ⟨.norm, fr, σ, lg⟩ = k fr σ (preW lg Q) := (rfl)
theorem thenW_exit {k : Fr → St → (RR → Prop) → Prop} {lg : Log} {i : Nat} : thenW k Q ⟨.exit i, fr, σ, lg⟩ = Q ⟨.exit i, fr, σ, lg⟩ := (rfl)
theorem thenW_goto {k : Fr → St → (RR → Prop) → Prop} {lg : Log} {i : Nat} : thenW k Q ⟨.goto i, fr, σ, lg⟩ = Q ⟨.goto i, fr, σ, lg⟩ := (rfl)
theorem thenW_ret {k : Fr → St → (RR → Prop) → Prop} {lg : Log} : thenW k Q ⟨.ret, fr, σ, lg⟩ = Q ⟨.ret, fr, σ, lg⟩ := (rfl)
theorem thenW_panic {k : Fr → St → (RR → Prop) → Prop} {lg : Log} {c : List PanicEntry} : thenW k Q ⟨.panic c, fr, σ, lg⟩ = Q ⟨.panic c, fr, σ, lg⟩ := (rfl)
theorem retW_ret {dst : Option Tmp} {lg l : Log} {k : Fr → St → Log → Prop} {v : Value} : retW fr dst lg k Q (.ret v) σ l = k (fr.put dst v) σ (lg ++ l) := (rfl)
theorem retW_panic {dst : Option Tmp} {lg l : Log} {k : Fr → St → Log → Prop} {c : List PanicEntry} : retW fr dst lg k Q (.panic c) σ l = Q ⟨.panic c, fr, σ, lg ++ l⟩ := (rfl)
theorem opsW_val {dst : Option Tmp} {lg : Log} {k : Fr → St → Log → Prop} {v : Value} {rd : List Nat} : opsW p rnd dst fr σ lg k Q (some (.val v rd)) = k (fr.put dst v) σ lg := (rfl)
theorem opsW_new {dst : Option Tmp} {lg : Log} {k : Fr → St → Log → Prop} {v : Value} {ob : AObj} {rd : List Nat} : opsW p rnd dst fr σ lg k Q (some (.new ob v rd)) = k (fr.put dst v) (σ.new ob) lg := (rfl)
theorem opsW_eff {dst : Option Tmp} {lg l : Log} {k : Fr → St → Log → Prop} {v : Value} {σ' : St} : opsW p rnd dst fr σ lg k Q (some (.eff v σ' l)) = k (fr.put dst v) σ' (lg ++ l) := (rfl)
theorem opsW_panic {dst : Option Tmp} {lg : Log} {k : Fr → St → Log → Prop} {v : Value} : opsW p rnd dst fr σ lg k Q (some (.panic v)) = Q ⟨.panic [{ v, recovered := false }], fr, σ, lg⟩ := (rfl)
theorem opsW_enter {dst : Option Tmp} {lg : Log} {k : Fr → St → Log → Prop} {f : FuncId} {args : List Value} : opsW p rnd dst fr σ lg k Q (some (.enter f args)) = callW p f args σ (retW fr dst lg k Q) := (rfl)
theorem opsW_round {dst : Option Tmp} {lg : Log} {k : Fr → St → Log → Prop} {r : Nat} {args : List Value} : opsW p rnd dst fr σ lg k Q (some (.round r args)) = roundX P r args σ (retW fr dst lg k Q) := (rfl)
theorem opsW_defer {dst : Option Tmp} {lg : Log} {k : Fr → St → Log → Prop} {d : Deferred} : opsW p false dst fr σ lg k Q (some (.defer d)) = k ({ fr with ds := d :: fr.ds }.put dst undef) σ lg := by simp [opsW]
theorem retD_ret {kn : Nat} {dst : Option Tmp} {ts : List Value} {acc : Loud} {lg l : Log} {k : DK} {v : Value} {σ' : St} : retD kn σ dst ts acc lg k (.ret v) σ' l = k (putL ts dst v) σ' (lg ++ l) (acc ++ [(kn, .full l, σ.next, σ'.next)]) := (rfl)
theorem drawnW_val {kn : Nat} {dst : Option Tmp} {ts : List Value} {acc : Loud} {lg : Log} {k : DK} {v : Value} {rd : List Nat} : drawnW p kn dst ts σ acc lg k (some (.val v rd)) = k (putL ts dst v) σ lg (acc ++ loudOne kn (.pure rd) σ.next σ.next) := (rfl)
theorem drawnW_new {kn : Nat} {dst : Option Tmp} {ts : List Value} {acc : Loud} {lg : Log} {k : DK} {v : Value} {ob : AObj} {rd : List Nat} : drawnW p kn dst ts σ acc lg k (some (.new ob v rd)) = k (putL ts dst v) (σ.new ob) lg (acc ++ [(kn, .alloc ob rd, σ.next, σ.next + 1)]) := (rfl)
theorem drawnW_eff {kn : Nat} {dst : Option Tmp} {ts : List Value} {acc : Loud} {lg l : Log} {k : DK} {v : Value} {σ' : St} : drawnW p kn dst ts σ acc lg k (some (.eff v σ' l)) = k (putL ts dst v) σ' (lg ++ l) (acc ++ [(kn, .full l, σ.next, σ'.next)]) := (rfl)
theorem drawnW_enter {kn : Nat} {dst : Option Tmp} {ts : List Value} {acc : Loud} {lg : Log} {k : DK} {f : FuncId} {args : List Value} : drawnW p kn dst ts σ acc lg k (some (.enter f args)) = callW p f args σ (retD kn σ dst ts acc lg k) := (rfl)
theorem loudOne_quiet {kn lo hi : Nat} : loudOne kn (.pure []) lo hi = [] := (rfl)
theorem loudOne_pure {kn lo hi r : Nat} {rd : List Nat} : loudOne kn (.pure (r :: rd)) lo hi = [(kn, .pure (r :: rd), lo, hi)] := (rfl)
theorem callW_congr {f : FuncId} {args args' : List Value} {K : AE → St → Log → Prop} {σ' : St} (h : args = args') (h' : σ = σ') : callW p f args σ K = callW p f args' σ' K := by rw [h, h']
theorem callX_congr {f : FuncId} {args args' : List Value} {K : AE → St → Log → Prop} {σ' : St} (h : args = args') (h' : σ = σ') : callX P f args σ K = callX P f args' σ' K := by rw [h, h']
theorem callO_congr {f : FuncId} {args args' : List Value} {K : AE → St → Log → Prop} {σ' : St} {o o' : Option Value} (h : args = args') (h' : σ = σ') (h2 : o = o') : callO P f args σ K o = callO P f args' σ' K o' := by rw [h, h', h2]
theorem callO_some {f : FuncId} {args : List Value} {K : AE → St → Log → Prop} {v : Value} : callO P f args σ K (some v) = K (.ret v) σ [] := (rfl)
theorem callO_none {f : FuncId} {args : List Value} {K : AE → St → Log → Prop} : callO P f args σ K none = callX P f args σ K := (rfl)
theorem loopX_congr {b : Code} {fr' : Fr} {σ' : St} (h : fr = fr') (h' : σ = σ') : loopX P rnd b fr σ Q = loopX P rnd b fr' σ' Q := by rw [h, h']
theorem scopeX_congr {b c : Code} {fr' : Fr} {σ' : St} (h : fr = fr') (h' : σ = σ') : scopeX P rnd b c fr σ Q = scopeX P rnd b c fr' σ' Q := by rw [h, h']
theorem rangeX_congr {g : Operand} {ps : Array Tmp} {a b : Code} {fr' : Fr} {σ' : St} (h : fr = fr') (h' : σ = σ') : rangeX P rnd g ps a b fr σ Q = rangeX P rnd g ps a b fr' σ' Q := by rw [h, h']
theorem thenW_congr {k : Fr → St → (RR → Prop) → Prop} {r r' : RR} (h : r = r') : thenW k Q r = thenW k Q r' := by rw [h]
theorem retW_congr {dst : Option Tmp} {lg l l' : Log} {k : Fr → St → Log → Prop} {e e' : AE} {σ' : St} (h : e = e') (h' : σ = σ') (h2 : l = l') : retW fr dst lg k Q e σ l = retW fr dst lg k Q e' σ' l' := by rw [h, h', h2]
theorem retD_congr {kn : Nat} {dst : Option Tmp} {ts : List Value} {acc : Loud} {lg l l' : Log} {k : DK} {e e' : AE} {σ₁ σ₂ : St} (h : e = e') (h' : σ₁ = σ₂) (h2 : l = l') : retD kn σ dst ts acc lg k e σ₁ l = retD kn σ dst ts acc lg k e' σ₂ l' := by rw [h, h', h2]
def endK (K : AE → St → Log → Prop) (σ : St) (lg : Log) : Option AE → Prop
 | some e => K e σ lg
 | none => False
theorem endK_some {K : AE → St → Log → Prop} {lg : Log} {e : AE} : endK K σ lg (some e) = K e σ lg := (rfl)
theorem endK_congr {K : AE → St → Log → Prop} {lg lg' : Log} {e e' : Option AE} {σ' : St} (h : e = e') (h' : σ = σ') (h2 : lg = lg') : endK K σ lg e = endK K σ' lg' e' := by rw [h, h', h2]
theorem endW_mk {rs : List ResultVar} {K : AE → St → Log → Prop} {x : AX} {lg : Log} : endW C rs K ⟨x, fr, σ, lg⟩ = endK K σ lg (endsA C.T rs ⟨x, fr, σ, lg⟩) := by
 unfold endW endK
 cases endsA C.T rs ⟨x, fr, σ, lg⟩ <;> rfl
theorem endD_ret {fn : Func} {K : AE → St → Log → Prop} {lg : Log} {ts : List Value} {ds : List Deferred} : endD P C fn K ⟨.ret, ⟨ts, ds⟩, σ, lg⟩ = leaveX P fn ts ds .returning σ (preK lg K) := (rfl)
theorem endD_norm {fn : Func} {K : AE → St → Log → Prop} {lg : Log} {ts : List Value} {ds : List Deferred} : endD P C fn K ⟨.norm, ⟨ts, ds⟩, σ, lg⟩ = leaveX P fn ts ds .returning σ (preK lg K) := (rfl)
theorem endD_panic {fn : Func} {K : AE → St → Log → Prop} {lg : Log} {ts : List Value} {ds : List Deferred} {c : List PanicEntry} : endD P C fn K ⟨.panic c, ⟨ts, ds⟩, σ, lg⟩ = leaveX P fn ts ds (.panicking c) σ (preK lg K) := (rfl)
theorem leaveX_congr {fn : Func} {K : AE → St → Log → Prop} {ts ts' : List Value} {ds ds' : List Deferred} {u : AM} {σ' : St} (h : ts = ts') (h1 : ds = ds') (h2 : σ = σ') : leaveX P fn ts ds u σ K = leaveX P fn ts' ds' u σ' K := by rw [h, h1, h2]
theorem leaveK_ret {fn : Func} {ts : List Value} {ds : List Deferred} {K : AE → St → Log → Prop} {v : Value} {l : Log} : leaveK P fn ts ds K (.ret v) .returning σ l = leaveX P fn ts ds .returning σ (preK l K) := (rfl)
theorem leaveK_done {fn : Func} {ts : List Value} {ds : List Deferred} {K : AE → St → Log → Prop} {v w : Value} {l : Log} : leaveK P fn ts ds K (.ret v) (.panicking [{ v := w, recovered := true }]) σ l = leaveX P fn ts ds .returning σ (preK l K) := (rfl)
theorem preW_mk {x : AX} {l lg : Log} : preW l Q ⟨x, fr, σ, lg⟩ = Q ⟨x, fr, σ, l ++ lg⟩ := (rfl)
theorem blockW_mk {id : Nat} {x : AX} {lg : Log} : blockW id Q ⟨x, fr, σ, lg⟩ = Q ⟨x.inBlock id, fr, σ, lg⟩ := (rfl)
theorem preK_eq {K : AE → St → Log → Prop} {e : AE} {l lg : Log} : preK l K e σ lg = K e σ (l ++ lg) := (rfl)
theorem scopeW_goto {body : Code} {lg : Log} {l : Nat} : scopeW P rnd body Q ⟨.goto l, fr, σ, lg⟩ = match findLabel body l with | some rest => scopeX P rnd body rest fr σ (preW lg Q) | none => Q ⟨.goto l, fr, σ, lg⟩ := (rfl)
theorem scopeW_norm {body : Code} {lg : Log} : scopeW P rnd body Q ⟨.norm, fr, σ, lg⟩ = Q ⟨.norm, fr, σ, lg⟩ := (rfl)
theorem scopeW_ret {body : Code} {lg : Log} : scopeW P rnd body Q ⟨.ret, fr, σ, lg⟩ = Q ⟨.ret, fr, σ, lg⟩ := (rfl)
theorem scopeW_exit {body : Code} {lg : Log} {i : Nat} : scopeW P rnd body Q ⟨.exit i, fr, σ, lg⟩ = Q ⟨.exit i, fr, σ, lg⟩ := (rfl)
theorem scopeW_panic {body : Code} {lg : Log} {c : List PanicEntry} : scopeW P rnd body Q ⟨.panic c, fr, σ, lg⟩ = Q ⟨.panic c, fr, σ, lg⟩ := (rfl)
end eqs
def withExt (C : Cx) (e : FuncId → Option Ext) : Cx := { T := { info := C.T.info, flat := C.T.flat, ext := e }, bodies := C.bodies }
theorem withExt_ok {C : Cx} (hC : C.Ok P) {e : FuncId → Option Ext} (he : ∀ g x, e g = some x → ExtIs P g x) : (withExt C e).Ok P := ⟨⟨hC.T.info, hC.T.flat, he⟩, hC.bodies⟩
theorem withExt_und (C : Cx) (e : FuncId → Option Ext) (t : TypeId) : (withExt C e).T.und t = C.T.und t := rfl
theorem withExt_info (C : Cx) (e : FuncId → Option Ext) (t : TypeId) : (withExt C e).T.info t = C.T.info t := rfl
theorem withExt_flat (C : Cx) (e : FuncId → Option Ext) (t : TypeId) : (withExt C e).T.flat t = C.T.flat t := rfl
theorem withExt_ext (C : Cx) (e : FuncId → Option Ext) (t : TypeId) : (withExt C e).T.ext t = e t := rfl
theorem withExt_bodies (C : Cx) (e : FuncId → Option Ext) (g : FuncId) : (withExt C e).bodies g = C.bodies g := rfl
end Go.Ab
namespace Go.Ab
open Go.Proofs
def btTab : List (Nat × List (Nat × List Nat)) := [
 (6, [(3, [0, 1, 3, 7, 0, 0, 0, 0, 128, 384, 896, 2047, 4095])]),
 (7, [(3, [0, 1, 0, 4, 12, 28, 63, 127]), (5, [0, 1, 3, 7, 0, 0, 32, 96, 224, 511, 1023, 1023, 4095, 8191])]),
 (8, [(14, [0, 1, 3, 7, 0, 0, 48, 0, 128, 384, 896, 1920, 3968, 8064, 0, 32640, 112, 131071, 262143, 524287]), (16, [0, 1, 3, 7, 0, 16, 48, 112, 255, 511, 1023, 2047])]),
 (9, [(3, [0, 1, 3, 7, 15, 31, 63, 127, 0, 256, 768, 1792, 3840, 7936, 16128, 255, 65535, 131071])]),
 (10, [(10, [0, 1, 3, 7, 0, 31, 63])]),
 (15, [(3, [0, 1, 0, 4, 12, 28, 63, 127]), (5, [0, 1, 3, 7, 0, 31, 63])]),
 (17, [(9, [0, 1, 3, 7, 0, 0, 0, 0, 0, 256, 992, 2016, 4095])]),
 (18, [(3, [0, 1, 3, 7, 0, 16, 63, 127]), (4, [0, 1, 3, 7, 0, 16, 63, 127, 255, 255, 0, 1535, 4095]), (11, [0, 1, 0, 4, 12, 28, 0, 64, 192, 448, 1020, 2047, 4095]), (15, [0, 1, 0, 4, 12, 28, 63, 127, 255, 511, 511, 0, 3071, 8191]), (16, [0, 1, 0, 4, 12, 28, 63, 127, 255, 255, 0, 1535, 4095]), (20, [0, 0, 0, 0, 8, 24, 56, 0, 128, 504, 125, 1149, 3197, 8191, 16383, 32767]), (21, [0, 1, 3, 7, 0, 16, 0, 127]), (22, [0, 1, 3, 7, 0, 16, 0, 127])]),
 (21, [(15, [0, 1, 3, 7, 0, 16, 63]), (16, [0, 1, 3, 7, 0, 16, 63])]),
 (22, [(5, [0, 1, 0, 4, 12, 28, 0, 64, 252, 511, 1023]), (7, [0, 1, 3, 7, 15, 0, 32, 127, 255, 511, 1023, 2047]), (9, [0, 1, 3, 7, 0, 16, 48, 112, 240, 511]), (10, [0, 0, 2, 6, 0, 16, 48, 112, 240, 511]), (11, [0, 1, 3, 7, 0, 0, 32, 96, 224, 496, 0, 2047, 4095])]),
 (32, [(11, [0, 0, 2, 6, 14, 0, 0, 0, 128, 384, 896, 2016, 4064, 8190, 16383, 32767, 65535])]),
 (35, [(4, [0, 1, 3, 7, 0, 16, 63, 0, 255]), (5, [0, 1, 3, 7, 0, 16, 63]), (6, [0, 1, 3, 7, 0, 16, 63, 127, 255, 511, 0, 1024, 4095, 8191, 16383, 32767]), (7, [0, 0, 2, 1, 15, 31])]),
 (37, [(3, [0, 0, 0, 4, 0, 16, 48, 112, 240, 253, 765, 1789, 4095, 8191, 16383])]),
 (41, [(1, [0, 1, 3, 7, 0, 16, 63, 127, 255, 255, 0, 1535, 4095])]),
 (48, [(5, [0, 0, 2, 6, 14, 0, 0, 96, 254, 510, 1022, 2047, 4095])]),
 (49, [(1, [0, 1, 3, 7, 0, 31, 0, 64, 192, 448, 960, 2047, 4095])]),
 (52, [(5, [0, 1, 3, 0, 8, 24, 63, 0, 128, 511, 0, 1024, 3072, 8191, 0, 0, 65535, 131071]), (8, [0, 0, 3, 0, 8, 24, 63, 127])]),
 (54, [(2, [0, 1, 0, 4, 0, 16, 60, 127, 255, 511, 1023, 0, 2303, 8191, 16383])]),
 (56, [(2, [0, 0, 3, 0, 0, 0, 48, 127, 255])]),
 (59, [(2, [0, 1, 3, 0, 8, 24, 0, 120, 255, 0, 512, 2047, 0, 4096, 12288, 0, 61440, 131071, 0, 0, 1048575, 2097151]), (3, [0, 0, 3, 0, 8, 24, 0, 71, 255]), (7, [0, 0, 3, 0, 8, 24, 7, 127]), (10, [0, 1, 3, 0, 15, 0, 32, 96, 0, 480, 1023, 0, 4095])]),
 (61, [(1, [0, 1, 3, 7, 15, 31, 63, 127, 255, 511, 1023, 2047, 511, 4607, 12799, 32767, 65535, 131071])]),
 (62, [(0, [0, 1, 3, 7, 15, 0, 32, 96, 224, 0, 992, 2016, 4064, 0, 16383])]),
 (63, [(2, [0, 1, 3, 7, 0, 31, 63, 0, 128, 384, 896, 0, 3968, 8064, 16383, 32767])]),
 (66, [(3, [0, 1, 3, 7, 0, 16, 48, 112, 255, 511, 1023, 2047])]),
 (69, [(1, [0, 0, 3, 0, 0, 31, 63, 127])]),
 (71, [(1, [0, 1, 3, 7, 0, 31, 63, 0, 128, 384, 896, 1920, 3968, 0, 8319, 32767]), (4, [0, 1, 3, 7, 15, 0, 32, 127])]),
 (72, [(4, [0, 0, 0, 6, 15, 31])]),
 (80, [(8, [0, 0, 2, 1, 15])]),
 (81, [(2, [0, 0, 0, 6, 3, 31])]),
 (100, [(6, [0, 0, 3, 0, 0, 24, 7, 127])]),
 (103, [(0, [0, 0, 0, 0, 0, 0, 48, 112, 0, 0, 768, 1792, 4083, 8179, 16383, 32767])]),
 (104, [(17, [0, 1, 3, 7, 7, 7, 39, 119, 247, 7, 7, 1543, 3591, 8191, 16383, 32767, 65535])]),
 (106, [(4, [0, 0, 2, 6, 14, 30, 63, 127, 255, 511, 1023, 2047, 255, 8191, 16383, 255, 33023, 98559, 229631, 255, 1016063, 2064639, 4194303, 8388607, 16777215])]),
 (110, [(4, [0, 0, 3, 7, 15, 15, 15, 111, 239, 15, 15, 1039, 3599, 7695, 16383, 32767, 65535]), (6, [0, 0, 0, 0, 8, 0, 0, 64, 224, 480, 0, 0, 3072, 7168, 16355, 32739, 65535, 131071])]),
 (111, [(10, [0, 0, 0, 0, 0, 24, 0, 0, 0, 384, 960, 1984, 0, 0, 12288, 28672, 65475, 131011, 262143, 524287])]),
 (112, [(10, [0, 0, 0, 0, 0, 24, 0, 0, 0, 384, 960, 1984, 0, 0, 12288, 28672, 65475, 131011, 262143, 524287])]),
 (114, [(3, [0, 0, 0, 0, 0, 0, 48, 112, 0, 0, 768, 1792, 4083, 8179, 16383, 32767])]),
 (115, [(5, [0, 0, 3, 7, 15, 15, 15, 111, 239, 15, 15, 1039, 3599, 7695, 16383, 32767, 65535, 131071]), (11, [0, 0, 0, 0, 8, 0, 0, 64, 224, 480, 0, 0, 3072, 7168, 16355, 32739, 65535, 131071]), (16, [0, 0, 0, 6, 14, 0, 0, 64, 224, 480, 1023, 2047, 4095]), (17, [0, 0, 0, 0, 8, 0, 0, 64, 224, 480, 0, 0, 3072, 7168, 16355, 32739, 65535, 131071]), (22, [0, 0, 0, 6, 14, 0, 0, 64, 224, 480, 1023, 2047, 4095]), (23, [0, 0, 0, 0, 8, 0, 0, 64, 224, 480, 0, 0, 3072, 7168, 16355, 32739, 65535, 131071])]),
 (116, [(1, [0, 0, 0, 0, 0, 0, 48, 112, 0, 0, 768, 1792, 4083, 8179, 16383, 32767]), (3, [0, 0, 3, 7, 15, 15, 15, 111, 239, 15, 15, 1551, 3599, 8191, 16383, 32767, 65535]), (5, [0, 0, 3, 7, 15, 15, 15, 111, 239, 15, 15, 1551, 3599, 8191, 16383, 32767]), (8, [0, 0, 0, 0, 0, 0, 48, 112, 0, 0, 768, 1792, 4083, 8179, 16383, 32767])]),
 (117, [(1, [0, 0, 0, 0, 0, 0, 48, 112, 0, 0, 768, 1792, 4083, 8179, 16383, 32767]), (3, [0, 0, 3, 7, 15, 15, 15, 111, 239, 15, 15, 1551, 3599, 8191, 16383, 32767]), (5, [0, 0, 3, 7, 15, 15, 15, 111, 239, 15, 15, 1551, 3599, 8191, 16383, 32767, 65535]), (8, [0, 0, 0, 0, 0, 0, 48, 112, 0, 0, 768, 1792, 4083, 8179, 16383, 32767]), (10, [0, 0, 0, 0, 0, 0, 48, 112, 0, 0, 768, 1792, 4083, 8179, 16383, 32767]), (13, [0, 0, 3, 7, 15, 15, 15, 111, 239, 15, 15, 1551, 3599, 8191, 16383, 32767]), (15, [0, 0, 3, 7, 15, 15, 15, 111, 239, 15, 15, 1551, 3599, 8191, 16383, 32767, 65535]), (18, [0, 0, 0, 0, 0, 0, 48, 112, 0, 0, 768, 1792, 4083, 8179, 16383, 32767]), (21, [0, 0, 0, 0, 0, 0, 48, 112, 0, 0, 768, 1792, 4083, 8179, 16383, 32767])]),
 (120, [(8, [0, 0, 2, 1, 15])]),
 (121, [(3, [0, 1, 0, 7, 15, 31, 31, 31, 31, 415, 991, 2015, 31, 31, 31, 24607, 57375, 127007, 258079, 524287, 1048575, 2097151]), (5, [0, 0, 0, 0, 12, 30, 62, 0, 0, 0, 768, 1920, 3968, 8191, 16383, 32767]), (6, [0, 0, 0, 6, 0, 0, 0, 96, 0, 0, 0, 1536, 3840, 7936, 0, 0, 0, 98304, 245760, 507904, 1048335, 2096911, 4194303, 8388607])]),
 (123, [(1, [0, 1, 3, 0, 8, 24, 56, 127, 255, 511]), (2, [0, 1, 3, 0, 8, 24, 56, 127, 255, 511]), (3, [0, 1, 3, 0, 8, 24, 56, 127, 255, 511])]),
 (126, [(1, [0, 0, 0, 6, 14, 0, 0, 96, 224, 511, 1023])])]
def lookN {α : Type} (d : α) : List (Nat × α) → Nat → α
 | [], _ => d
 | (k, v) :: r, n => match Nat.beq k n with
  | true => v
  | false => lookN d r n
def btAll (f : FuncId) (r : Nat) : List Nat :=
 match Nat.beq r 1000000 with
 | true => [f]
 | false => lookN [] (lookN [] btTab f) r
inductive BT (α : Type) where
 | leaf
 | node (l : BT α) (o : Option α) (r : BT α)
def BT.get {α : Type} : BT α → List Bool → Option α
 | .leaf, _ => none
 | .node _ o _, [] => o
 | .node l _ r, b :: bs => match b with | true => r.get bs | false => l.get bs
structure TyRow where
 num : TypeId
 info : TypeInfo
 at' : Tryz.prog.info? num = some info
noncomputable def ty0 : TyRow := ⟨0, Tryz.t0, by kernel_rfl⟩
noncomputable def ty1 : TyRow := ⟨1, Tryz.t1, by kernel_rfl⟩
noncomputable def ty2 : TyRow := ⟨2, Tryz.t2, by kernel_rfl⟩
noncomputable def ty3 : TyRow := ⟨3, Tryz.t3, by kernel_rfl⟩
noncomputable def ty4 : TyRow := ⟨4, Tryz.t4, by kernel_rfl⟩
noncomputable def ty5 : TyRow := ⟨5, Tryz.t5, by kernel_rfl⟩
noncomputable def ty6 : TyRow := ⟨6, Tryz.t6, by kernel_rfl⟩
noncomputable def ty7 : TyRow := ⟨7, Tryz.t7, by kernel_rfl⟩
noncomputable def ty8 : TyRow := ⟨8, Tryz.t8, by kernel_rfl⟩
noncomputable def ty9 : TyRow := ⟨9, Tryz.t9, by kernel_rfl⟩
noncomputable def ty10 : TyRow := ⟨10, Tryz.t10, by kernel_rfl⟩
noncomputable def ty11 : TyRow := ⟨11, Tryz.t11, by kernel_rfl⟩
noncomputable def ty12 : TyRow := ⟨12, Tryz.t12, by kernel_rfl⟩
noncomputable def ty13 : TyRow := ⟨13, Tryz.t13, by kernel_rfl⟩
noncomputable def ty14 : TyRow := ⟨14, Tryz.t14, by kernel_rfl⟩
noncomputable def ty15 : TyRow := ⟨15, Tryz.t15, by kernel_rfl⟩
noncomputable def ty16 : TyRow := ⟨16, Tryz.t16, by kernel_rfl⟩
noncomputable def ty17 : TyRow := ⟨17, Tryz.t17, by kernel_rfl⟩
noncomputable def ty18 : TyRow := ⟨18, Tryz.t18, by kernel_rfl⟩
noncomputable def ty19 : TyRow := ⟨19, Tryz.t19, by kernel_rfl⟩
noncomputable def ty20 : TyRow := ⟨20, Tryz.t20, by kernel_rfl⟩
noncomputable def ty21 : TyRow := ⟨21, Tryz.t21, by kernel_rfl⟩
noncomputable def ty22 : TyRow := ⟨22, Tryz.t22, by kernel_rfl⟩
noncomputable def ty23 : TyRow := ⟨23, Tryz.t23, by kernel_rfl⟩
noncomputable def ty24 : TyRow := ⟨24, Tryz.t24, by kernel_rfl⟩
noncomputable def ty25 : TyRow := ⟨25, Tryz.t25, by kernel_rfl⟩
noncomputable def ty26 : TyRow := ⟨26, Tryz.t26, by kernel_rfl⟩
noncomputable def ty27 : TyRow := ⟨27, Tryz.t27, by kernel_rfl⟩
noncomputable def ty28 : TyRow := ⟨28, Tryz.t28, by kernel_rfl⟩
noncomputable def ty29 : TyRow := ⟨29, Tryz.t29, by kernel_rfl⟩
noncomputable def ty30 : TyRow := ⟨30, Tryz.t30, by kernel_rfl⟩
noncomputable def ty31 : TyRow := ⟨31, Tryz.t31, by kernel_rfl⟩
noncomputable def ty33 : TyRow := ⟨33, Tryz.t33, by kernel_rfl⟩
noncomputable def ty34 : TyRow := ⟨34, Tryz.t34, by kernel_rfl⟩
noncomputable def ty35 : TyRow := ⟨35, Tryz.t35, by kernel_rfl⟩
noncomputable def ty36 : TyRow := ⟨36, Tryz.t36, by kernel_rfl⟩
noncomputable def ty40 : TyRow := ⟨40, Tryz.t40, by kernel_rfl⟩
noncomputable def ty44 : TyRow := ⟨44, Tryz.t44, by kernel_rfl⟩
noncomputable def ty45 : TyRow := ⟨45, Tryz.t45, by kernel_rfl⟩
noncomputable def ty47 : TyRow := ⟨47, Tryz.t47, by kernel_rfl⟩
noncomputable def ty48 : TyRow := ⟨48, Tryz.t48, by kernel_rfl⟩
noncomputable def ty51 : TyRow := ⟨51, Tryz.t51, by kernel_rfl⟩
noncomputable def ty53 : TyRow := ⟨53, Tryz.t53, by kernel_rfl⟩
noncomputable def ty54 : TyRow := ⟨54, Tryz.t54, by kernel_rfl⟩
noncomputable def ty55 : TyRow := ⟨55, Tryz.t55, by kernel_rfl⟩
noncomputable def ty59 : TyRow := ⟨59, Tryz.t59, by kernel_rfl⟩
noncomputable def ty60 : TyRow := ⟨60, Tryz.t60, by kernel_rfl⟩
noncomputable def ty61 : TyRow := ⟨61, Tryz.t61, by kernel_rfl⟩
noncomputable def ty62 : TyRow := ⟨62, Tryz.t62, by kernel_rfl⟩
noncomputable def ty66 : TyRow := ⟨66, Tryz.t66, by kernel_rfl⟩
noncomputable def ty67 : TyRow := ⟨67, Tryz.t67, by kernel_rfl⟩
noncomputable def ty68 : TyRow := ⟨68, Tryz.t68, by kernel_rfl⟩
noncomputable def ty69 : TyRow := ⟨69, Tryz.t69, by kernel_rfl⟩
noncomputable def ty70 : TyRow := ⟨70, Tryz.t70, by kernel_rfl⟩
noncomputable def ty72 : TyRow := ⟨72, Tryz.t72, by kernel_rfl⟩
noncomputable def ty73 : TyRow := ⟨73, Tryz.t73, by kernel_rfl⟩
noncomputable def ty74 : TyRow := ⟨74, Tryz.t74, by kernel_rfl⟩
noncomputable def ty75 : TyRow := ⟨75, Tryz.t75, by kernel_rfl⟩
noncomputable def ty76 : TyRow := ⟨76, Tryz.t76, by kernel_rfl⟩
noncomputable def ty78 : TyRow := ⟨78, Tryz.t78, by kernel_rfl⟩
noncomputable def ty79 : TyRow := ⟨79, Tryz.t79, by kernel_rfl⟩
noncomputable def ty80 : TyRow := ⟨80, Tryz.t80, by kernel_rfl⟩
noncomputable def ty86 : TyRow := ⟨86, Tryz.t86, by kernel_rfl⟩
noncomputable def ty94 : TyRow := ⟨94, Tryz.t94, by kernel_rfl⟩
noncomputable def ty95 : TyRow := ⟨95, Tryz.t95, by kernel_rfl⟩
noncomputable def ty96 : TyRow := ⟨96, Tryz.t96, by kernel_rfl⟩
noncomputable def ty98 : TyRow := ⟨98, Tryz.t98, by kernel_rfl⟩
noncomputable def ty102 : TyRow := ⟨102, Tryz.t102, by kernel_rfl⟩
noncomputable def ty103 : TyRow := ⟨103, Tryz.t103, by kernel_rfl⟩
noncomputable def ty105 : TyRow := ⟨105, Tryz.t105, by kernel_rfl⟩
noncomputable def ty106 : TyRow := ⟨106, Tryz.t106, by kernel_rfl⟩
noncomputable def ty107 : TyRow := ⟨107, Tryz.t107, by kernel_rfl⟩
noncomputable def ty108 : TyRow := ⟨108, Tryz.t108, by kernel_rfl⟩
noncomputable def ty109 : TyRow := ⟨109, Tryz.t109, by kernel_rfl⟩
noncomputable def ty110 : TyRow := ⟨110, Tryz.t110, by kernel_rfl⟩
noncomputable def ty111 : TyRow := ⟨111, Tryz.t111, by kernel_rfl⟩
noncomputable def ty112 : TyRow := ⟨112, Tryz.t112, by kernel_rfl⟩
noncomputable def ty115 : TyRow := ⟨115, Tryz.t115, by kernel_rfl⟩
noncomputable def ty119 : TyRow := ⟨119, Tryz.t119, by kernel_rfl⟩
noncomputable def ty121 : TyRow := ⟨121, Tryz.t121, by kernel_rfl⟩
noncomputable def ty123 : TyRow := ⟨123, Tryz.t123, by kernel_rfl⟩
noncomputable def ty124 : TyRow := ⟨124, Tryz.t124, by kernel_rfl⟩
noncomputable def ty127 : TyRow := ⟨127, Tryz.t127, by kernel_rfl⟩
noncomputable def ty128 : TyRow := ⟨128, Tryz.t128, by kernel_rfl⟩
noncomputable def ty137 : TyRow := ⟨137, Tryz.t137, by kernel_rfl⟩
noncomputable def ty139 : TyRow := ⟨139, Tryz.t139, by kernel_rfl⟩
noncomputable def ty140 : TyRow := ⟨140, Tryz.t140, by kernel_rfl⟩
noncomputable def ty143 : TyRow := ⟨143, Tryz.t143, by kernel_rfl⟩
noncomputable def ty144 : TyRow := ⟨144, Tryz.t144, by kernel_rfl⟩
noncomputable def ty148 : TyRow := ⟨148, Tryz.t148, by kernel_rfl⟩
noncomputable def ty158 : TyRow := ⟨158, Tryz.t158, by kernel_rfl⟩
noncomputable def ty164 : TyRow := ⟨164, Tryz.t164, by kernel_rfl⟩
noncomputable def ty165 : TyRow := ⟨165, Tryz.t165, by kernel_rfl⟩
noncomputable def ty166 : TyRow := ⟨166, Tryz.t166, by kernel_rfl⟩
noncomputable def ty167 : TyRow := ⟨167, Tryz.t167, by kernel_rfl⟩
noncomputable def ty170 : TyRow := ⟨170, Tryz.t170, by kernel_rfl⟩
noncomputable def ty179 : TyRow := ⟨179, Tryz.t179, by kernel_rfl⟩
noncomputable def tyTree : BT TyRow := (.node (.node (.node (.node (.node (.node (.node (.node .leaf none (.node .leaf (some ty128) .leaf)) none .leaf) none (.node .leaf none (.node .leaf (some ty96) .leaf))) none (.node (.node (.node .leaf none (.node .leaf (some ty144) .leaf)) none (.node .leaf (some ty80) .leaf)) (some ty16) (.node .leaf (some ty48) (.node .leaf (some ty112) .leaf)))) none (.node (.node (.node .leaf none (.node .leaf (some ty72) .leaf)) none (.node .leaf (some ty40) .leaf)) (some ty8) (.node .leaf (some ty24) .leaf))) none (.node (.node (.node (.node .leaf none (.node .leaf (some ty68) .leaf)) none (.node (.node .leaf none (.node .leaf (some ty164) .leaf)) (some ty36) .leaf)) none (.node (.node (.node .leaf none (.node .leaf (some ty148) .leaf)) none .leaf) (some ty20) .leaf)) (some ty4) (.node (.node (.node (.node .leaf none (.node .leaf (some ty140) .leaf)) none (.node .leaf (some ty76) .leaf)) none (.node .leaf (some ty44) (.node .leaf (some ty108) .leaf))) (some ty12) (.node .leaf (some ty28) (.node .leaf (some ty60) (.node .leaf (some ty124) .leaf)))))) none (.node (.node (.node (.node (.node .leaf none (.node .leaf (some ty66) .leaf)) none (.node .leaf (some ty34) (.node .leaf (some ty98) .leaf))) none (.node .leaf (some ty18) .leaf)) none (.node (.node (.node .leaf none (.node .leaf (some ty74) .leaf)) none (.node (.node .leaf none (.node .leaf (some ty170) .leaf)) none (.node .leaf (some ty106) .leaf))) (some ty10) (.node .leaf (some ty26) .leaf))) (some ty2) (.node (.node (.node (.node .leaf none (.node .leaf (some ty70) .leaf)) none (.node (.node .leaf none (.node .leaf (some ty166) .leaf)) none (.node .leaf (some ty102) .leaf))) none (.node (.node .leaf none (.node .leaf (some ty86) .leaf)) (some ty22) (.node .leaf (some ty54) .leaf))) (some ty6) (.node (.node (.node .leaf none (.node .leaf (some ty78) .leaf)) none (.node .leaf none (.node .leaf (some ty110) .leaf))) (some ty14) (.node (.node (.node .leaf none (.node .leaf (some ty158) .leaf)) none (.node .leaf (some ty94) .leaf)) (some ty30) (.node .leaf (some ty62) .leaf)))))) (some ty0) (.node (.node (.node (.node (.node .leaf none (.node .leaf (some ty33) .leaf)) none (.node .leaf (some ty17) .leaf)) none (.node (.node (.node (.node .leaf none (.node .leaf (some ty137) .leaf)) none (.node .leaf (some ty73) .leaf)) none (.node .leaf none (.node .leaf (some ty105) .leaf))) (some ty9) (.node .leaf (some ty25) (.node .leaf none (.node .leaf (some ty121) .leaf))))) none (.node (.node (.node (.node .leaf none (.node .leaf (some ty69) .leaf)) none (.node (.node .leaf none (.node .leaf (some ty165) .leaf)) none .leaf)) none (.node .leaf (some ty21) (.node .leaf (some ty53) .leaf))) (some ty5) (.node (.node .leaf none (.node .leaf (some ty45) (.node .leaf (some ty109) .leaf))) (some ty13) (.node .leaf (some ty29) (.node .leaf (some ty61) .leaf))))) (some ty1) (.node (.node (.node (.node (.node .leaf none (.node .leaf (some ty67) .leaf)) none (.node .leaf (some ty35) .leaf)) none (.node .leaf (some ty19) (.node (.node .leaf none (.node .leaf (some ty179) .leaf)) (some ty51) (.node .leaf (some ty115) .leaf)))) none (.node (.node (.node (.node .leaf none (.node .leaf (some ty139) .leaf)) none (.node .leaf (some ty75) .leaf)) none (.node .leaf none (.node .leaf (some ty107) .leaf))) (some ty11) (.node .leaf (some ty27) (.node .leaf (some ty59) (.node .leaf (some ty123) .leaf))))) (some ty3) (.node (.node (.node .leaf none (.node (.node .leaf none (.node .leaf (some ty167) .leaf)) none (.node .leaf (some ty103) .leaf))) none (.node .leaf (some ty23) (.node .leaf (some ty55) (.node .leaf (some ty119) .leaf)))) (some ty7) (.node (.node (.node (.node .leaf none (.node .leaf (some ty143) .leaf)) none (.node .leaf (some ty79) .leaf)) none (.node .leaf (some ty47) (.node .leaf (some ty111) .leaf))) (some ty15) (.node (.node .leaf none (.node .leaf (some ty95) .leaf)) (some ty31) (.node .leaf none (.node .leaf (some ty127) .leaf))))))))
noncomputable def tyAt (t : TypeId) : Option TypeInfo :=
 match tyTree.get (bits t t) with
 | some r => match Nat.beq r.num t with
  | true => some r.info
  | false => none
 | none => none
theorem tyAt_ok (t : TypeId) (i : TypeInfo) (h : tyAt t = some i) : Tryz.prog.info? t = some i := by
 unfold tyAt at h
 split at h
 ·rename_i r _
  split at h
  ·rename_i hb
   cases h
   rw [← Nat.eq_of_beq_eq_true hb]
   exact r.at'
  ·cases h
 ·cases h
structure ExtRow where
 num : FuncId
 ext : Ext
 is : ExtIs Tryz.prog num ext
noncomputable def ext97 : ExtRow := ⟨97, (.add64), ⟨Tryz.f97, Tryz.func97, by kernel_rfl, by kernel_rfl, by kernel_rfl, by kernel_rfl⟩⟩
noncomputable def ext98 : ExtRow := ⟨98, (.sub64), ⟨Tryz.f98, Tryz.func98, by kernel_rfl, by kernel_rfl, by kernel_rfl, by kernel_rfl⟩⟩
noncomputable def extTree : BT ExtRow := (.node (.node .leaf none (.node (.node (.node (.node .leaf none (.node .leaf none (.node .leaf (some ext98) .leaf))) none .leaf) none .leaf) none .leaf)) none (.node (.node (.node (.node (.node .leaf none (.node .leaf none (.node .leaf (some ext97) .leaf))) none .leaf) none .leaf) none .leaf) none .leaf))
noncomputable def extAt (f : FuncId) : Option Ext :=
 match extTree.get (bits f f) with
 | some r => match Nat.beq r.num f with
  | true => some r.ext
  | false => none
 | none => none
theorem extAt_ok (f : FuncId) (x : Ext) (h : extAt f = some x) : ExtIs Tryz.prog f x := by
 unfold extAt at h
 split at h
 ·rename_i r _
  split at h
  ·rename_i hb
   cases h
   rw [← Nat.eq_of_beq_eq_true hb]
   exact r.is
  ·cases h
 ·cases h
theorem stat3 : statAll (btAll 3) (Tryz.f3.body.getD .skip) = true := by kernel_rfl
theorem stat4 : statAll (btAll 4) (Tryz.f4.body.getD .skip) = true := by kernel_rfl
theorem stat5 : statAll (btAll 5) (Tryz.f5.body.getD .skip) = true := by kernel_rfl
theorem stat6 : statAll (btAll 6) (Tryz.f6.body.getD .skip) = true := by kernel_rfl
theorem stat7 : statAll (btAll 7) (Tryz.f7.body.getD .skip) = true := by kernel_rfl
theorem stat8 : statAll (btAll 8) (Tryz.f8.body.getD .skip) = true := by kernel_rfl
theorem stat9 : statAll (btAll 9) (Tryz.f9.body.getD .skip) = true := by kernel_rfl
theorem stat11 : statAll (btAll 11) (Tryz.f11.body.getD .skip) = true := by kernel_rfl
theorem stat12 : statAll (btAll 12) (Tryz.f12.body.getD .skip) = true := by kernel_rfl
theorem stat13 : statAll (btAll 13) (Tryz.f13.body.getD .skip) = true := by kernel_rfl
theorem stat14 : statAll (btAll 14) (Tryz.f14.body.getD .skip) = true := by kernel_rfl
theorem stat15 : statAll (btAll 15) (Tryz.f15.body.getD .skip) = true := by kernel_rfl
theorem stat16 : statAll (btAll 16) (Tryz.f16.body.getD .skip) = true := by kernel_rfl
theorem stat17 : statAll (btAll 17) (Tryz.f17.body.getD .skip) = true := by kernel_rfl
theorem stat18 : statAll (btAll 18) (Tryz.f18.body.getD .skip) = true := by kernel_rfl
theorem stat19 : statAll (btAll 19) (Tryz.f19.body.getD .skip) = true := by kernel_rfl
theorem stat20 : statAll (btAll 20) (Tryz.f20.body.getD .skip) = true := by kernel_rfl
theorem stat22 : statAll (btAll 22) (Tryz.f22.body.getD .skip) = true := by kernel_rfl
theorem stat23 : statAll (btAll 23) (Tryz.f23.body.getD .skip) = true := by kernel_rfl
theorem stat24 : statAll (btAll 24) (Tryz.f24.body.getD .skip) = true := by kernel_rfl
theorem stat25 : statAll (btAll 25) (Tryz.f25.body.getD .skip) = true := by kernel_rfl
theorem stat26 : statAll (btAll 26) (Tryz.f26.body.getD .skip) = true := by kernel_rfl
theorem stat27 : statAll (btAll 27) (Tryz.f27.body.getD .skip) = true := by kernel_rfl
theorem stat28 : statAll (btAll 28) (Tryz.f28.body.getD .skip) = true := by kernel_rfl
theorem stat29 : statAll (btAll 29) (Tryz.f29.body.getD .skip) = true := by kernel_rfl
theorem stat30 : statAll (btAll 30) (Tryz.f30.body.getD .skip) = true := by kernel_rfl
theorem stat31 : statAll (btAll 31) (Tryz.f31.body.getD .skip) = true := by kernel_rfl
theorem stat32 : statAll (btAll 32) (Tryz.f32.body.getD .skip) = true := by kernel_rfl
theorem stat33 : statAll (btAll 33) (Tryz.f33.body.getD .skip) = true := by kernel_rfl
theorem stat34 : statAll (btAll 34) (Tryz.f34.body.getD .skip) = true := by kernel_rfl
theorem stat35 : statAll (btAll 35) (Tryz.f35.body.getD .skip) = true := by kernel_rfl
theorem stat36 : statAll (btAll 36) (Tryz.f36.body.getD .skip) = true := by kernel_rfl
theorem stat37 : statAll (btAll 37) (Tryz.f37.body.getD .skip) = true := by kernel_rfl
theorem stat38 : statAll (btAll 38) (Tryz.f38.body.getD .skip) = true := by kernel_rfl
theorem stat39 : statAll (btAll 39) (Tryz.f39.body.getD .skip) = true := by kernel_rfl
theorem stat40 : statAll (btAll 40) (Tryz.f40.body.getD .skip) = true := by kernel_rfl
theorem stat41 : statAll (btAll 41) (Tryz.f41.body.getD .skip) = true := by kernel_rfl
theorem stat44 : statAll (btAll 44) (Tryz.f44.body.getD .skip) = true := by kernel_rfl
theorem stat45 : statAll (btAll 45) (Tryz.f45.body.getD .skip) = true := by kernel_rfl
theorem stat46 : statAll (btAll 46) (Tryz.f46.body.getD .skip) = true := by kernel_rfl
theorem stat47 : statAll (btAll 47) (Tryz.f47.body.getD .skip) = true := by kernel_rfl
theorem stat48 : statAll (btAll 48) (Tryz.f48.body.getD .skip) = true := by kernel_rfl
theorem stat49 : statAll (btAll 49) (Tryz.f49.body.getD .skip) = true := by kernel_rfl
theorem stat50 : statAll (btAll 50) (Tryz.f50.body.getD .skip) = true := by kernel_rfl
theorem stat51 : statAll (btAll 51) (Tryz.f51.body.getD .skip) = true := by kernel_rfl
theorem stat52 : statAll (btAll 52) (Tryz.f52.body.getD .skip) = true := by kernel_rfl
theorem stat53 : statAll (btAll 53) (Tryz.f53.body.getD .skip) = true := by kernel_rfl
theorem stat54 : statAll (btAll 54) (Tryz.f54.body.getD .skip) = true := by kernel_rfl
theorem stat55 : statAll (btAll 55) (Tryz.f55.body.getD .skip) = true := by kernel_rfl
theorem stat56 : statAll (btAll 56) (Tryz.f56.body.getD .skip) = true := by kernel_rfl
theorem stat57 : statAll (btAll 57) (Tryz.f57.body.getD .skip) = true := by kernel_rfl
theorem stat58 : statAll (btAll 58) (Tryz.f58.body.getD .skip) = true := by kernel_rfl
theorem stat59 : statAll (btAll 59) (Tryz.f59.body.getD .skip) = true := by kernel_rfl
theorem stat60 : statAll (btAll 60) (Tryz.f60.body.getD .skip) = true := by kernel_rfl
theorem stat61 : statAll (btAll 61) (Tryz.f61.body.getD .skip) = true := by kernel_rfl
theorem stat62 : statAll (btAll 62) (Tryz.f62.body.getD .skip) = true := by kernel_rfl
theorem stat63 : statAll (btAll 63) (Tryz.f63.body.getD .skip) = true := by kernel_rfl
theorem stat64 : statAll (btAll 64) (Tryz.f64.body.getD .skip) = true := by kernel_rfl
theorem stat65 : statAll (btAll 65) (Tryz.f65.body.getD .skip) = true := by kernel_rfl
theorem stat66 : statAll (btAll 66) (Tryz.f66.body.getD .skip) = true := by kernel_rfl
theorem stat67 : statAll (btAll 67) (Tryz.f67.body.getD .skip) = true := by kernel_rfl
theorem stat68 : statAll (btAll 68) (Tryz.f68.body.getD .skip) = true := by kernel_rfl
theorem stat69 : statAll (btAll 69) (Tryz.f69.body.getD .skip) = true := by kernel_rfl
theorem stat70 : statAll (btAll 70) (Tryz.f70.body.getD .skip) = true := by kernel_rfl
theorem stat71 : statAll (btAll 71) (Tryz.f71.body.getD .skip) = true := by kernel_rfl
theorem stat72 : statAll (btAll 72) (Tryz.f72.body.getD .skip) = true := by kernel_rfl
theorem stat73 : statAll (btAll 73) (Tryz.f73.body.getD .skip) = true := by kernel_rfl
theorem stat74 : statAll (btAll 74) (Tryz.f74.body.getD .skip) = true := by kernel_rfl
theorem stat75 : statAll (btAll 75) (Tryz.f75.body.getD .skip) = true := by kernel_rfl
theorem stat76 : statAll (btAll 76) (Tryz.f76.body.getD .skip) = true := by kernel_rfl
theorem stat77 : statAll (btAll 77) (Tryz.f77.body.getD .skip) = true := by kernel_rfl
theorem stat78 : statAll (btAll 78) (Tryz.f78.body.getD .skip) = true := by kernel_rfl
theorem stat79 : statAll (btAll 79) (Tryz.f79.body.getD .skip) = true := by kernel_rfl
theorem stat80 : statAll (btAll 80) (Tryz.f80.body.getD .skip) = true := by kernel_rfl
theorem stat81 : statAll (btAll 81) (Tryz.f81.body.getD .skip) = true := by kernel_rfl
theorem stat82 : statAll (btAll 82) (Tryz.f82.body.getD .skip) = true := by kernel_rfl
theorem stat83 : statAll (btAll 83) (Tryz.f83.body.getD .skip) = true := by kernel_rfl
theorem stat84 : statAll (btAll 84) (Tryz.f84.body.getD .skip) = true := by kernel_rfl
theorem stat85 : statAll (btAll 85) (Tryz.f85.body.getD .skip) = true := by kernel_rfl
theorem stat86 : statAll (btAll 86) (Tryz.f86.body.getD .skip) = true := by kernel_rfl
theorem stat87 : statAll (btAll 87) (Tryz.f87.body.getD .skip) = true := by kernel_rfl
theorem stat88 : statAll (btAll 88) (Tryz.f88.body.getD .skip) = true := by kernel_rfl
theorem stat89 : statAll (btAll 89) (Tryz.f89.body.getD .skip) = true := by kernel_rfl
theorem stat90 : statAll (btAll 90) (Tryz.f90.body.getD .skip) = true := by kernel_rfl
theorem stat91 : statAll (btAll 91) (Tryz.f91.body.getD .skip) = true := by kernel_rfl
theorem stat92 : statAll (btAll 92) (Tryz.f92.body.getD .skip) = true := by kernel_rfl
theorem stat93 : statAll (btAll 93) (Tryz.f93.body.getD .skip) = true := by kernel_rfl
theorem stat94 : statAll (btAll 94) (Tryz.f94.body.getD .skip) = true := by kernel_rfl
theorem stat95 : statAll (btAll 95) (Tryz.f95.body.getD .skip) = true := by kernel_rfl
theorem stat96 : statAll (btAll 96) (Tryz.f96.body.getD .skip) = true := by kernel_rfl
theorem stat99 : statAll (btAll 99) (Tryz.f99.body.getD .skip) = true := by kernel_rfl
theorem stat100 : statAll (btAll 100) (Tryz.f100.body.getD .skip) = true := by kernel_rfl
theorem stat101 : statAll (btAll 101) (Tryz.f101.body.getD .skip) = true := by kernel_rfl
theorem stat102 : statAll (btAll 102) (Tryz.f102.body.getD .skip) = true := by kernel_rfl
theorem stat103 : statAll (btAll 103) (Tryz.f103.body.getD .skip) = true := by kernel_rfl
theorem stat104 : statAll (btAll 104) (Tryz.f104.body.getD .skip) = true := by kernel_rfl
theorem stat105 : statAll (btAll 105) (Tryz.f105.body.getD .skip) = true := by kernel_rfl
theorem stat106 : statAll (btAll 106) (Tryz.f106.body.getD .skip) = true := by kernel_rfl
theorem stat107 : statAll (btAll 107) (Tryz.f107.body.getD .skip) = true := by kernel_rfl
theorem stat108 : statAll (btAll 108) (Tryz.f108.body.getD .skip) = true := by kernel_rfl
theorem stat109 : statAll (btAll 109) (Tryz.f109.body.getD .skip) = true := by kernel_rfl
theorem stat110 : statAll (btAll 110) (Tryz.f110.body.getD .skip) = true := by kernel_rfl
theorem stat111 : statAll (btAll 111) (Tryz.f111.body.getD .skip) = true := by kernel_rfl
theorem stat112 : statAll (btAll 112) (Tryz.f112.body.getD .skip) = true := by kernel_rfl
theorem stat113 : statAll (btAll 113) (Tryz.f113.body.getD .skip) = true := by kernel_rfl
theorem stat114 : statAll (btAll 114) (Tryz.f114.body.getD .skip) = true := by kernel_rfl
theorem stat115 : statAll (btAll 115) (Tryz.f115.body.getD .skip) = true := by kernel_rfl
theorem stat116 : statAll (btAll 116) (Tryz.f116.body.getD .skip) = true := by kernel_rfl
theorem stat117 : statAll (btAll 117) (Tryz.f117.body.getD .skip) = true := by kernel_rfl
theorem stat118 : statAll (btAll 118) (Tryz.f118.body.getD .skip) = true := by kernel_rfl
theorem stat119 : statAll (btAll 119) (Tryz.f119.body.getD .skip) = true := by kernel_rfl
theorem stat120 : statAll (btAll 120) (Tryz.f120.body.getD .skip) = true := by kernel_rfl
theorem stat121 : statAll (btAll 121) (Tryz.f121.body.getD .skip) = true := by kernel_rfl
theorem stat122 : statAll (btAll 122) (Tryz.f122.body.getD .skip) = true := by kernel_rfl
theorem stat123 : statAll (btAll 123) (Tryz.f123.body.getD .skip) = true := by kernel_rfl
theorem stat124 : statAll (btAll 124) (Tryz.f124.body.getD .skip) = true := by kernel_rfl
theorem stat125 : statAll (btAll 125) (Tryz.f125.body.getD .skip) = true := by kernel_rfl
theorem stat126 : statAll (btAll 126) (Tryz.f126.body.getD .skip) = true := by kernel_rfl
theorem has4 : HasBody Tryz.prog 4 := cP_ok.bodies 4 (cx_bodies Tryz.func4 (by kernel_rfl))
theorem has5 : HasBody Tryz.prog 5 := cP_ok.bodies 5 (cx_bodies Tryz.func5 (by kernel_rfl))
theorem has6 : HasBody Tryz.prog 6 := cP_ok.bodies 6 (cx_bodies Tryz.func6 (by kernel_rfl))
theorem has7 : HasBody Tryz.prog 7 := cP_ok.bodies 7 (cx_bodies Tryz.func7 (by kernel_rfl))
theorem has8 : HasBody Tryz.prog 8 := cP_ok.bodies 8 (cx_bodies Tryz.func8 (by kernel_rfl))
theorem has11 : HasBody Tryz.prog 11 := cP_ok.bodies 11 (cx_bodies Tryz.func11 (by kernel_rfl))
theorem has12 : HasBody Tryz.prog 12 := cP_ok.bodies 12 (cx_bodies Tryz.func12 (by kernel_rfl))
theorem has13 : HasBody Tryz.prog 13 := cP_ok.bodies 13 (cx_bodies Tryz.func13 (by kernel_rfl))
theorem has14 : HasBody Tryz.prog 14 := cP_ok.bodies 14 (cx_bodies Tryz.func14 (by kernel_rfl))
theorem has15 : HasBody Tryz.prog 15 := cP_ok.bodies 15 (cx_bodies Tryz.func15 (by kernel_rfl))
theorem has16 : HasBody Tryz.prog 16 := cP_ok.bodies 16 (cx_bodies Tryz.func16 (by kernel_rfl))
theorem has17 : HasBody Tryz.prog 17 := cP_ok.bodies 17 (cx_bodies Tryz.func17 (by kernel_rfl))
theorem has18 : HasBody Tryz.prog 18 := cP_ok.bodies 18 (cx_bodies Tryz.func18 (by kernel_rfl))
theorem has19 : HasBody Tryz.prog 19 := cP_ok.bodies 19 (cx_bodies Tryz.func19 (by kernel_rfl))
theorem has22 : HasBody Tryz.prog 22 := cP_ok.bodies 22 (cx_bodies Tryz.func22 (by kernel_rfl))
theorem has23 : HasBody Tryz.prog 23 := cP_ok.bodies 23 (cx_bodies Tryz.func23 (by kernel_rfl))
theorem has24 : HasBody Tryz.prog 24 := cP_ok.bodies 24 (cx_bodies Tryz.func24 (by kernel_rfl))
theorem has25 : HasBody Tryz.prog 25 := cP_ok.bodies 25 (cx_bodies Tryz.func25 (by kernel_rfl))
theorem has26 : HasBody Tryz.prog 26 := cP_ok.bodies 26 (cx_bodies Tryz.func26 (by kernel_rfl))
theorem has27 : HasBody Tryz.prog 27 := cP_ok.bodies 27 (cx_bodies Tryz.func27 (by kernel_rfl))
theorem has28 : HasBody Tryz.prog 28 := cP_ok.bodies 28 (cx_bodies Tryz.func28 (by kernel_rfl))
theorem has29 : HasBody Tryz.prog 29 := cP_ok.bodies 29 (cx_bodies Tryz.func29 (by kernel_rfl))
theorem has30 : HasBody Tryz.prog 30 := cP_ok.bodies 30 (cx_bodies Tryz.func30 (by kernel_rfl))
theorem has31 : HasBody Tryz.prog 31 := cP_ok.bodies 31 (cx_bodies Tryz.func31 (by kernel_rfl))
theorem has32 : HasBody Tryz.prog 32 := cP_ok.bodies 32 (cx_bodies Tryz.func32 (by kernel_rfl))
theorem has33 : HasBody Tryz.prog 33 := cP_ok.bodies 33 (cx_bodies Tryz.func33 (by kernel_rfl))
theorem has34 : HasBody Tryz.prog 34 := cP_ok.bodies 34 (cx_bodies Tryz.func34 (by kernel_rfl))
theorem has35 : HasBody Tryz.prog 35 := cP_ok.bodies 35 (cx_bodies Tryz.func35 (by kernel_rfl))
theorem has36 : HasBody Tryz.prog 36 := cP_ok.bodies 36 (cx_bodies Tryz.func36 (by kernel_rfl))
theorem has37 : HasBody Tryz.prog 37 := cP_ok.bodies 37 (cx_bodies Tryz.func37 (by kernel_rfl))
theorem has44 : HasBody Tryz.prog 44 := cP_ok.bodies 44 (cx_bodies Tryz.func44 (by kernel_rfl))
theorem has45 : HasBody Tryz.prog 45 := cP_ok.bodies 45 (cx_bodies Tryz.func45 (by kernel_rfl))
theorem has46 : HasBody Tryz.prog 46 := cP_ok.bodies 46 (cx_bodies Tryz.func46 (by kernel_rfl))
theorem has47 : HasBody Tryz.prog 47 := cP_ok.bodies 47 (cx_bodies Tryz.func47 (by kernel_rfl))
theorem has48 : HasBody Tryz.prog 48 := cP_ok.bodies 48 (cx_bodies Tryz.func48 (by kernel_rfl))
theorem has49 : HasBody Tryz.prog 49 := cP_ok.bodies 49 (cx_bodies Tryz.func49 (by kernel_rfl))
theorem has50 : HasBody Tryz.prog 50 := cP_ok.bodies 50 (cx_bodies Tryz.func50 (by kernel_rfl))
theorem has51 : HasBody Tryz.prog 51 := cP_ok.bodies 51 (cx_bodies Tryz.func51 (by kernel_rfl))
theorem has52 : HasBody Tryz.prog 52 := cP_ok.bodies 52 (cx_bodies Tryz.func52 (by kernel_rfl))
theorem has53 : HasBody Tryz.prog 53 := cP_ok.bodies 53 (cx_bodies Tryz.func53 (by kernel_rfl))
theorem has54 : HasBody Tryz.prog 54 := cP_ok.bodies 54 (cx_bodies Tryz.func54 (by kernel_rfl))
theorem has55 : HasBody Tryz.prog 55 := cP_ok.bodies 55 (cx_bodies Tryz.func55 (by kernel_rfl))
theorem has56 : HasBody Tryz.prog 56 := cP_ok.bodies 56 (cx_bodies Tryz.func56 (by kernel_rfl))
theorem has57 : HasBody Tryz.prog 57 := cP_ok.bodies 57 (cx_bodies Tryz.func57 (by kernel_rfl))
theorem has58 : HasBody Tryz.prog 58 := cP_ok.bodies 58 (cx_bodies Tryz.func58 (by kernel_rfl))
theorem has59 : HasBody Tryz.prog 59 := cP_ok.bodies 59 (cx_bodies Tryz.func59 (by kernel_rfl))
theorem has60 : HasBody Tryz.prog 60 := cP_ok.bodies 60 (cx_bodies Tryz.func60 (by kernel_rfl))
theorem has61 : HasBody Tryz.prog 61 := cP_ok.bodies 61 (cx_bodies Tryz.func61 (by kernel_rfl))
theorem has62 : HasBody Tryz.prog 62 := cP_ok.bodies 62 (cx_bodies Tryz.func62 (by kernel_rfl))
theorem has63 : HasBody Tryz.prog 63 := cP_ok.bodies 63 (cx_bodies Tryz.func63 (by kernel_rfl))
theorem has64 : HasBody Tryz.prog 64 := cP_ok.bodies 64 (cx_bodies Tryz.func64 (by kernel_rfl))
theorem has65 : HasBody Tryz.prog 65 := cP_ok.bodies 65 (cx_bodies Tryz.func65 (by kernel_rfl))
theorem has66 : HasBody Tryz.prog 66 := cP_ok.bodies 66 (cx_bodies Tryz.func66 (by kernel_rfl))
theorem has70 : HasBody Tryz.prog 70 := cP_ok.bodies 70 (cx_bodies Tryz.func70 (by kernel_rfl))
theorem has71 : HasBody Tryz.prog 71 := cP_ok.bodies 71 (cx_bodies Tryz.func71 (by kernel_rfl))
theorem has72 : HasBody Tryz.prog 72 := cP_ok.bodies 72 (cx_bodies Tryz.func72 (by kernel_rfl))
theorem has73 : HasBody Tryz.prog 73 := cP_ok.bodies 73 (cx_bodies Tryz.func73 (by kernel_rfl))
theorem has74 : HasBody Tryz.prog 74 := cP_ok.bodies 74 (cx_bodies Tryz.func74 (by kernel_rfl))
theorem has75 : HasBody Tryz.prog 75 := cP_ok.bodies 75 (cx_bodies Tryz.func75 (by kernel_rfl))
theorem has76 : HasBody Tryz.prog 76 := cP_ok.bodies 76 (cx_bodies Tryz.func76 (by kernel_rfl))
theorem has77 : HasBody Tryz.prog 77 := cP_ok.bodies 77 (cx_bodies Tryz.func77 (by kernel_rfl))
theorem has78 : HasBody Tryz.prog 78 := cP_ok.bodies 78 (cx_bodies Tryz.func78 (by kernel_rfl))
theorem has79 : HasBody Tryz.prog 79 := cP_ok.bodies 79 (cx_bodies Tryz.func79 (by kernel_rfl))
theorem has80 : HasBody Tryz.prog 80 := cP_ok.bodies 80 (cx_bodies Tryz.func80 (by kernel_rfl))
theorem has81 : HasBody Tryz.prog 81 := cP_ok.bodies 81 (cx_bodies Tryz.func81 (by kernel_rfl))
theorem has82 : HasBody Tryz.prog 82 := cP_ok.bodies 82 (cx_bodies Tryz.func82 (by kernel_rfl))
theorem has83 : HasBody Tryz.prog 83 := cP_ok.bodies 83 (cx_bodies Tryz.func83 (by kernel_rfl))
theorem has84 : HasBody Tryz.prog 84 := cP_ok.bodies 84 (cx_bodies Tryz.func84 (by kernel_rfl))
theorem has85 : HasBody Tryz.prog 85 := cP_ok.bodies 85 (cx_bodies Tryz.func85 (by kernel_rfl))
theorem has86 : HasBody Tryz.prog 86 := cP_ok.bodies 86 (cx_bodies Tryz.func86 (by kernel_rfl))
theorem has87 : HasBody Tryz.prog 87 := cP_ok.bodies 87 (cx_bodies Tryz.func87 (by kernel_rfl))
theorem has88 : HasBody Tryz.prog 88 := cP_ok.bodies 88 (cx_bodies Tryz.func88 (by kernel_rfl))
theorem has89 : HasBody Tryz.prog 89 := cP_ok.bodies 89 (cx_bodies Tryz.func89 (by kernel_rfl))
theorem has90 : HasBody Tryz.prog 90 := cP_ok.bodies 90 (cx_bodies Tryz.func90 (by kernel_rfl))
theorem has93 : HasBody Tryz.prog 93 := cP_ok.bodies 93 (cx_bodies Tryz.func93 (by kernel_rfl))
theorem has94 : HasBody Tryz.prog 94 := cP_ok.bodies 94 (cx_bodies Tryz.func94 (by kernel_rfl))
theorem has95 : HasBody Tryz.prog 95 := cP_ok.bodies 95 (cx_bodies Tryz.func95 (by kernel_rfl))
theorem has96 : HasBody Tryz.prog 96 := cP_ok.bodies 96 (cx_bodies Tryz.func96 (by kernel_rfl))
theorem has99 : HasBody Tryz.prog 99 := cP_ok.bodies 99 (cx_bodies Tryz.func99 (by kernel_rfl))
theorem has100 : HasBody Tryz.prog 100 := cP_ok.bodies 100 (cx_bodies Tryz.func100 (by kernel_rfl))
theorem has101 : HasBody Tryz.prog 101 := cP_ok.bodies 101 (cx_bodies Tryz.func101 (by kernel_rfl))
theorem has102 : HasBody Tryz.prog 102 := cP_ok.bodies 102 (cx_bodies Tryz.func102 (by kernel_rfl))
theorem has103 : HasBody Tryz.prog 103 := cP_ok.bodies 103 (cx_bodies Tryz.func103 (by kernel_rfl))
theorem has105 : HasBody Tryz.prog 105 := cP_ok.bodies 105 (cx_bodies Tryz.func105 (by kernel_rfl))
theorem has106 : HasBody Tryz.prog 106 := cP_ok.bodies 106 (cx_bodies Tryz.func106 (by kernel_rfl))
theorem has107 : HasBody Tryz.prog 107 := cP_ok.bodies 107 (cx_bodies Tryz.func107 (by kernel_rfl))
theorem has108 : HasBody Tryz.prog 108 := cP_ok.bodies 108 (cx_bodies Tryz.func108 (by kernel_rfl))
theorem has109 : HasBody Tryz.prog 109 := cP_ok.bodies 109 (cx_bodies Tryz.func109 (by kernel_rfl))
theorem has118 : HasBody Tryz.prog 118 := cP_ok.bodies 118 (cx_bodies Tryz.func118 (by kernel_rfl))
theorem has119 : HasBody Tryz.prog 119 := cP_ok.bodies 119 (cx_bodies Tryz.func119 (by kernel_rfl))
theorem has120 : HasBody Tryz.prog 120 := cP_ok.bodies 120 (cx_bodies Tryz.func120 (by kernel_rfl))
theorem has122 : HasBody Tryz.prog 122 := cP_ok.bodies 122 (cx_bodies Tryz.func122 (by kernel_rfl))
noncomputable def row4 : FnRow Tryz.prog btAll := ⟨4, Tryz.f4, Tryz.f4.body.getD .skip, Tryz.func4, by kernel_rfl, stat4, has4⟩
noncomputable def row5 : FnRow Tryz.prog btAll := ⟨5, Tryz.f5, Tryz.f5.body.getD .skip, Tryz.func5, by kernel_rfl, stat5, has5⟩
noncomputable def row6 : FnRow Tryz.prog btAll := ⟨6, Tryz.f6, Tryz.f6.body.getD .skip, Tryz.func6, by kernel_rfl, stat6, has6⟩
noncomputable def row7 : FnRow Tryz.prog btAll := ⟨7, Tryz.f7, Tryz.f7.body.getD .skip, Tryz.func7, by kernel_rfl, stat7, has7⟩
noncomputable def row8 : FnRow Tryz.prog btAll := ⟨8, Tryz.f8, Tryz.f8.body.getD .skip, Tryz.func8, by kernel_rfl, stat8, has8⟩
noncomputable def row11 : FnRow Tryz.prog btAll := ⟨11, Tryz.f11, Tryz.f11.body.getD .skip, Tryz.func11, by kernel_rfl, stat11, has11⟩
noncomputable def row12 : FnRow Tryz.prog btAll := ⟨12, Tryz.f12, Tryz.f12.body.getD .skip, Tryz.func12, by kernel_rfl, stat12, has12⟩
noncomputable def row13 : FnRow Tryz.prog btAll := ⟨13, Tryz.f13, Tryz.f13.body.getD .skip, Tryz.func13, by kernel_rfl, stat13, has13⟩
noncomputable def row14 : FnRow Tryz.prog btAll := ⟨14, Tryz.f14, Tryz.f14.body.getD .skip, Tryz.func14, by kernel_rfl, stat14, has14⟩
noncomputable def row15 : FnRow Tryz.prog btAll := ⟨15, Tryz.f15, Tryz.f15.body.getD .skip, Tryz.func15, by kernel_rfl, stat15, has15⟩
noncomputable def row16 : FnRow Tryz.prog btAll := ⟨16, Tryz.f16, Tryz.f16.body.getD .skip, Tryz.func16, by kernel_rfl, stat16, has16⟩
noncomputable def row17 : FnRow Tryz.prog btAll := ⟨17, Tryz.f17, Tryz.f17.body.getD .skip, Tryz.func17, by kernel_rfl, stat17, has17⟩
noncomputable def row18 : FnRow Tryz.prog btAll := ⟨18, Tryz.f18, Tryz.f18.body.getD .skip, Tryz.func18, by kernel_rfl, stat18, has18⟩
noncomputable def row19 : FnRow Tryz.prog btAll := ⟨19, Tryz.f19, Tryz.f19.body.getD .skip, Tryz.func19, by kernel_rfl, stat19, has19⟩
noncomputable def row22 : FnRow Tryz.prog btAll := ⟨22, Tryz.f22, Tryz.f22.body.getD .skip, Tryz.func22, by kernel_rfl, stat22, has22⟩
noncomputable def row23 : FnRow Tryz.prog btAll := ⟨23, Tryz.f23, Tryz.f23.body.getD .skip, Tryz.func23, by kernel_rfl, stat23, has23⟩
noncomputable def row24 : FnRow Tryz.prog btAll := ⟨24, Tryz.f24, Tryz.f24.body.getD .skip, Tryz.func24, by kernel_rfl, stat24, has24⟩
noncomputable def row25 : FnRow Tryz.prog btAll := ⟨25, Tryz.f25, Tryz.f25.body.getD .skip, Tryz.func25, by kernel_rfl, stat25, has25⟩
noncomputable def row26 : FnRow Tryz.prog btAll := ⟨26, Tryz.f26, Tryz.f26.body.getD .skip, Tryz.func26, by kernel_rfl, stat26, has26⟩
noncomputable def row27 : FnRow Tryz.prog btAll := ⟨27, Tryz.f27, Tryz.f27.body.getD .skip, Tryz.func27, by kernel_rfl, stat27, has27⟩
noncomputable def row28 : FnRow Tryz.prog btAll := ⟨28, Tryz.f28, Tryz.f28.body.getD .skip, Tryz.func28, by kernel_rfl, stat28, has28⟩
noncomputable def row29 : FnRow Tryz.prog btAll := ⟨29, Tryz.f29, Tryz.f29.body.getD .skip, Tryz.func29, by kernel_rfl, stat29, has29⟩
noncomputable def row30 : FnRow Tryz.prog btAll := ⟨30, Tryz.f30, Tryz.f30.body.getD .skip, Tryz.func30, by kernel_rfl, stat30, has30⟩
noncomputable def row31 : FnRow Tryz.prog btAll := ⟨31, Tryz.f31, Tryz.f31.body.getD .skip, Tryz.func31, by kernel_rfl, stat31, has31⟩
noncomputable def row32 : FnRow Tryz.prog btAll := ⟨32, Tryz.f32, Tryz.f32.body.getD .skip, Tryz.func32, by kernel_rfl, stat32, has32⟩
noncomputable def row33 : FnRow Tryz.prog btAll := ⟨33, Tryz.f33, Tryz.f33.body.getD .skip, Tryz.func33, by kernel_rfl, stat33, has33⟩
noncomputable def row34 : FnRow Tryz.prog btAll := ⟨34, Tryz.f34, Tryz.f34.body.getD .skip, Tryz.func34, by kernel_rfl, stat34, has34⟩
noncomputable def row35 : FnRow Tryz.prog btAll := ⟨35, Tryz.f35, Tryz.f35.body.getD .skip, Tryz.func35, by kernel_rfl, stat35, has35⟩
noncomputable def row36 : FnRow Tryz.prog btAll := ⟨36, Tryz.f36, Tryz.f36.body.getD .skip, Tryz.func36, by kernel_rfl, stat36, has36⟩
noncomputable def row37 : FnRow Tryz.prog btAll := ⟨37, Tryz.f37, Tryz.f37.body.getD .skip, Tryz.func37, by kernel_rfl, stat37, has37⟩
noncomputable def row44 : FnRow Tryz.prog btAll := ⟨44, Tryz.f44, Tryz.f44.body.getD .skip, Tryz.func44, by kernel_rfl, stat44, has44⟩
noncomputable def row45 : FnRow Tryz.prog btAll := ⟨45, Tryz.f45, Tryz.f45.body.getD .skip, Tryz.func45, by kernel_rfl, stat45, has45⟩
noncomputable def row46 : FnRow Tryz.prog btAll := ⟨46, Tryz.f46, Tryz.f46.body.getD .skip, Tryz.func46, by kernel_rfl, stat46, has46⟩
noncomputable def row47 : FnRow Tryz.prog btAll := ⟨47, Tryz.f47, Tryz.f47.body.getD .skip, Tryz.func47, by kernel_rfl, stat47, has47⟩
noncomputable def row48 : FnRow Tryz.prog btAll := ⟨48, Tryz.f48, Tryz.f48.body.getD .skip, Tryz.func48, by kernel_rfl, stat48, has48⟩
noncomputable def row49 : FnRow Tryz.prog btAll := ⟨49, Tryz.f49, Tryz.f49.body.getD .skip, Tryz.func49, by kernel_rfl, stat49, has49⟩
noncomputable def row50 : FnRow Tryz.prog btAll := ⟨50, Tryz.f50, Tryz.f50.body.getD .skip, Tryz.func50, by kernel_rfl, stat50, has50⟩
noncomputable def row51 : FnRow Tryz.prog btAll := ⟨51, Tryz.f51, Tryz.f51.body.getD .skip, Tryz.func51, by kernel_rfl, stat51, has51⟩
noncomputable def row52 : FnRow Tryz.prog btAll := ⟨52, Tryz.f52, Tryz.f52.body.getD .skip, Tryz.func52, by kernel_rfl, stat52, has52⟩
noncomputable def row53 : FnRow Tryz.prog btAll := ⟨53, Tryz.f53, Tryz.f53.body.getD .skip, Tryz.func53, by kernel_rfl, stat53, has53⟩
noncomputable def row54 : FnRow Tryz.prog btAll := ⟨54, Tryz.f54, Tryz.f54.body.getD .skip, Tryz.func54, by kernel_rfl, stat54, has54⟩
noncomputable def row55 : FnRow Tryz.prog btAll := ⟨55, Tryz.f55, Tryz.f55.body.getD .skip, Tryz.func55, by kernel_rfl, stat55, has55⟩
noncomputable def row56 : FnRow Tryz.prog btAll := ⟨56, Tryz.f56, Tryz.f56.body.getD .skip, Tryz.func56, by kernel_rfl, stat56, has56⟩
noncomputable def row57 : FnRow Tryz.prog btAll := ⟨57, Tryz.f57, Tryz.f57.body.getD .skip, Tryz.func57, by kernel_rfl, stat57, has57⟩
noncomputable def row58 : FnRow Tryz.prog btAll := ⟨58, Tryz.f58, Tryz.f58.body.getD .skip, Tryz.func58, by kernel_rfl, stat58, has58⟩
noncomputable def row59 : FnRow Tryz.prog btAll := ⟨59, Tryz.f59, Tryz.f59.body.getD .skip, Tryz.func59, by kernel_rfl, stat59, has59⟩
noncomputable def row60 : FnRow Tryz.prog btAll := ⟨60, Tryz.f60, Tryz.f60.body.getD .skip, Tryz.func60, by kernel_rfl, stat60, has60⟩
noncomputable def row61 : FnRow Tryz.prog btAll := ⟨61, Tryz.f61, Tryz.f61.body.getD .skip, Tryz.func61, by kernel_rfl, stat61, has61⟩
noncomputable def row62 : FnRow Tryz.prog btAll := ⟨62, Tryz.f62, Tryz.f62.body.getD .skip, Tryz.func62, by kernel_rfl, stat62, has62⟩
noncomputable def row63 : FnRow Tryz.prog btAll := ⟨63, Tryz.f63, Tryz.f63.body.getD .skip, Tryz.func63, by kernel_rfl, stat63, has63⟩
noncomputable def row64 : FnRow Tryz.prog btAll := ⟨64, Tryz.f64, Tryz.f64.body.getD .skip, Tryz.func64, by kernel_rfl, stat64, has64⟩
noncomputable def row65 : FnRow Tryz.prog btAll := ⟨65, Tryz.f65, Tryz.f65.body.getD .skip, Tryz.func65, by kernel_rfl, stat65, has65⟩
noncomputable def row66 : FnRow Tryz.prog btAll := ⟨66, Tryz.f66, Tryz.f66.body.getD .skip, Tryz.func66, by kernel_rfl, stat66, has66⟩
noncomputable def row70 : FnRow Tryz.prog btAll := ⟨70, Tryz.f70, Tryz.f70.body.getD .skip, Tryz.func70, by kernel_rfl, stat70, has70⟩
noncomputable def row71 : FnRow Tryz.prog btAll := ⟨71, Tryz.f71, Tryz.f71.body.getD .skip, Tryz.func71, by kernel_rfl, stat71, has71⟩
noncomputable def row72 : FnRow Tryz.prog btAll := ⟨72, Tryz.f72, Tryz.f72.body.getD .skip, Tryz.func72, by kernel_rfl, stat72, has72⟩
noncomputable def row73 : FnRow Tryz.prog btAll := ⟨73, Tryz.f73, Tryz.f73.body.getD .skip, Tryz.func73, by kernel_rfl, stat73, has73⟩
noncomputable def row74 : FnRow Tryz.prog btAll := ⟨74, Tryz.f74, Tryz.f74.body.getD .skip, Tryz.func74, by kernel_rfl, stat74, has74⟩
noncomputable def row75 : FnRow Tryz.prog btAll := ⟨75, Tryz.f75, Tryz.f75.body.getD .skip, Tryz.func75, by kernel_rfl, stat75, has75⟩
noncomputable def row76 : FnRow Tryz.prog btAll := ⟨76, Tryz.f76, Tryz.f76.body.getD .skip, Tryz.func76, by kernel_rfl, stat76, has76⟩
noncomputable def row77 : FnRow Tryz.prog btAll := ⟨77, Tryz.f77, Tryz.f77.body.getD .skip, Tryz.func77, by kernel_rfl, stat77, has77⟩
noncomputable def row78 : FnRow Tryz.prog btAll := ⟨78, Tryz.f78, Tryz.f78.body.getD .skip, Tryz.func78, by kernel_rfl, stat78, has78⟩
noncomputable def row79 : FnRow Tryz.prog btAll := ⟨79, Tryz.f79, Tryz.f79.body.getD .skip, Tryz.func79, by kernel_rfl, stat79, has79⟩
noncomputable def row80 : FnRow Tryz.prog btAll := ⟨80, Tryz.f80, Tryz.f80.body.getD .skip, Tryz.func80, by kernel_rfl, stat80, has80⟩
noncomputable def row81 : FnRow Tryz.prog btAll := ⟨81, Tryz.f81, Tryz.f81.body.getD .skip, Tryz.func81, by kernel_rfl, stat81, has81⟩
noncomputable def row82 : FnRow Tryz.prog btAll := ⟨82, Tryz.f82, Tryz.f82.body.getD .skip, Tryz.func82, by kernel_rfl, stat82, has82⟩
noncomputable def row83 : FnRow Tryz.prog btAll := ⟨83, Tryz.f83, Tryz.f83.body.getD .skip, Tryz.func83, by kernel_rfl, stat83, has83⟩
noncomputable def row84 : FnRow Tryz.prog btAll := ⟨84, Tryz.f84, Tryz.f84.body.getD .skip, Tryz.func84, by kernel_rfl, stat84, has84⟩
noncomputable def row85 : FnRow Tryz.prog btAll := ⟨85, Tryz.f85, Tryz.f85.body.getD .skip, Tryz.func85, by kernel_rfl, stat85, has85⟩
noncomputable def row86 : FnRow Tryz.prog btAll := ⟨86, Tryz.f86, Tryz.f86.body.getD .skip, Tryz.func86, by kernel_rfl, stat86, has86⟩
noncomputable def row87 : FnRow Tryz.prog btAll := ⟨87, Tryz.f87, Tryz.f87.body.getD .skip, Tryz.func87, by kernel_rfl, stat87, has87⟩
noncomputable def row88 : FnRow Tryz.prog btAll := ⟨88, Tryz.f88, Tryz.f88.body.getD .skip, Tryz.func88, by kernel_rfl, stat88, has88⟩
noncomputable def row89 : FnRow Tryz.prog btAll := ⟨89, Tryz.f89, Tryz.f89.body.getD .skip, Tryz.func89, by kernel_rfl, stat89, has89⟩
noncomputable def row90 : FnRow Tryz.prog btAll := ⟨90, Tryz.f90, Tryz.f90.body.getD .skip, Tryz.func90, by kernel_rfl, stat90, has90⟩
noncomputable def row93 : FnRow Tryz.prog btAll := ⟨93, Tryz.f93, Tryz.f93.body.getD .skip, Tryz.func93, by kernel_rfl, stat93, has93⟩
noncomputable def row94 : FnRow Tryz.prog btAll := ⟨94, Tryz.f94, Tryz.f94.body.getD .skip, Tryz.func94, by kernel_rfl, stat94, has94⟩
noncomputable def row95 : FnRow Tryz.prog btAll := ⟨95, Tryz.f95, Tryz.f95.body.getD .skip, Tryz.func95, by kernel_rfl, stat95, has95⟩
noncomputable def row96 : FnRow Tryz.prog btAll := ⟨96, Tryz.f96, Tryz.f96.body.getD .skip, Tryz.func96, by kernel_rfl, stat96, has96⟩
noncomputable def row99 : FnRow Tryz.prog btAll := ⟨99, Tryz.f99, Tryz.f99.body.getD .skip, Tryz.func99, by kernel_rfl, stat99, has99⟩
noncomputable def row100 : FnRow Tryz.prog btAll := ⟨100, Tryz.f100, Tryz.f100.body.getD .skip, Tryz.func100, by kernel_rfl, stat100, has100⟩
noncomputable def row101 : FnRow Tryz.prog btAll := ⟨101, Tryz.f101, Tryz.f101.body.getD .skip, Tryz.func101, by kernel_rfl, stat101, has101⟩
noncomputable def row102 : FnRow Tryz.prog btAll := ⟨102, Tryz.f102, Tryz.f102.body.getD .skip, Tryz.func102, by kernel_rfl, stat102, has102⟩
noncomputable def row103 : FnRow Tryz.prog btAll := ⟨103, Tryz.f103, Tryz.f103.body.getD .skip, Tryz.func103, by kernel_rfl, stat103, has103⟩
noncomputable def row105 : FnRow Tryz.prog btAll := ⟨105, Tryz.f105, Tryz.f105.body.getD .skip, Tryz.func105, by kernel_rfl, stat105, has105⟩
noncomputable def row106 : FnRow Tryz.prog btAll := ⟨106, Tryz.f106, Tryz.f106.body.getD .skip, Tryz.func106, by kernel_rfl, stat106, has106⟩
noncomputable def row107 : FnRow Tryz.prog btAll := ⟨107, Tryz.f107, Tryz.f107.body.getD .skip, Tryz.func107, by kernel_rfl, stat107, has107⟩
noncomputable def row108 : FnRow Tryz.prog btAll := ⟨108, Tryz.f108, Tryz.f108.body.getD .skip, Tryz.func108, by kernel_rfl, stat108, has108⟩
noncomputable def row109 : FnRow Tryz.prog btAll := ⟨109, Tryz.f109, Tryz.f109.body.getD .skip, Tryz.func109, by kernel_rfl, stat109, has109⟩
noncomputable def row118 : FnRow Tryz.prog btAll := ⟨118, Tryz.f118, Tryz.f118.body.getD .skip, Tryz.func118, by kernel_rfl, stat118, has118⟩
noncomputable def row119 : FnRow Tryz.prog btAll := ⟨119, Tryz.f119, Tryz.f119.body.getD .skip, Tryz.func119, by kernel_rfl, stat119, has119⟩
noncomputable def row120 : FnRow Tryz.prog btAll := ⟨120, Tryz.f120, Tryz.f120.body.getD .skip, Tryz.func120, by kernel_rfl, stat120, has120⟩
noncomputable def row122 : FnRow Tryz.prog btAll := ⟨122, Tryz.f122, Tryz.f122.body.getD .skip, Tryz.func122, by kernel_rfl, stat122, has122⟩
noncomputable def fnTree : BT (FnRow Tryz.prog btAll) := (.node (.node (.node (.node (.node (.node (.node .leaf none (.node .leaf (some row64) .leaf)) none (.node .leaf (some row32) (.node .leaf (some row96) .leaf))) none (.node (.node .leaf none (.node .leaf (some row80) .leaf)) (some row16) (.node .leaf (some row48) .leaf))) none (.node (.node (.node .leaf none (.node .leaf (some row72) .leaf)) none .leaf) (some row8) (.node (.node .leaf none (.node .leaf (some row88) .leaf)) (some row24) (.node .leaf (some row56) (.node .leaf (some row120) .leaf))))) none (.node (.node (.node .leaf none (.node .leaf (some row36) (.node .leaf (some row100) .leaf))) none (.node (.node .leaf none (.node .leaf (some row84) .leaf)) none (.node .leaf (some row52) .leaf))) (some row4) (.node (.node (.node .leaf none (.node .leaf (some row76) .leaf)) none (.node .leaf (some row44) (.node .leaf (some row108) .leaf))) (some row12) (.node .leaf (some row28) (.node .leaf (some row60) .leaf))))) none (.node (.node (.node (.node (.node .leaf none (.node .leaf (some row66) .leaf)) none (.node .leaf (some row34) .leaf)) none (.node (.node .leaf none (.node .leaf (some row82) .leaf)) (some row18) (.node .leaf (some row50) .leaf))) none (.node (.node (.node .leaf none (.node .leaf (some row74) .leaf)) none (.node .leaf none (.node .leaf (some row106) .leaf))) none (.node (.node .leaf none (.node .leaf (some row90) .leaf)) (some row26) (.node .leaf (some row58) (.node .leaf (some row122) .leaf))))) none (.node (.node (.node (.node .leaf none (.node .leaf (some row70) .leaf)) none (.node .leaf none (.node .leaf (some row102) .leaf))) none (.node (.node .leaf none (.node .leaf (some row86) .leaf)) (some row22) (.node .leaf (some row54) (.node .leaf (some row118) .leaf)))) (some row6) (.node (.node (.node .leaf none (.node .leaf (some row78) .leaf)) none (.node .leaf (some row46) .leaf)) (some row14) (.node (.node .leaf none (.node .leaf (some row94) .leaf)) (some row30) (.node .leaf (some row62) .leaf)))))) none (.node (.node (.node (.node (.node (.node .leaf none (.node .leaf (some row65) .leaf)) none (.node .leaf (some row33) .leaf)) none (.node (.node .leaf none (.node .leaf (some row81) .leaf)) (some row17) (.node .leaf (some row49) .leaf))) none (.node (.node (.node .leaf none (.node .leaf (some row73) .leaf)) none (.node .leaf none (.node .leaf (some row105) .leaf))) none (.node (.node .leaf none (.node .leaf (some row89) .leaf)) (some row25) (.node .leaf (some row57) .leaf)))) none (.node (.node (.node .leaf none (.node .leaf (some row37) (.node .leaf (some row101) .leaf))) none (.node (.node .leaf none (.node .leaf (some row85) .leaf)) none (.node .leaf (some row53) .leaf))) (some row5) (.node (.node (.node .leaf none (.node .leaf (some row77) .leaf)) none (.node .leaf (some row45) (.node .leaf (some row109) .leaf))) (some row13) (.node (.node .leaf none (.node .leaf (some row93) .leaf)) (some row29) (.node .leaf (some row61) .leaf))))) none (.node (.node (.node (.node .leaf none (.node .leaf (some row35) (.node .leaf (some row99) .leaf))) none (.node (.node .leaf none (.node .leaf (some row83) .leaf)) (some row19) (.node .leaf (some row51) .leaf))) none (.node (.node (.node .leaf none (.node .leaf (some row75) .leaf)) none (.node .leaf none (.node .leaf (some row107) .leaf))) (some row11) (.node .leaf (some row27) (.node .leaf (some row59) .leaf)))) none (.node (.node (.node (.node .leaf none (.node .leaf (some row71) .leaf)) none (.node .leaf none (.node .leaf (some row103) .leaf))) none (.node (.node .leaf none (.node .leaf (some row87) .leaf)) (some row23) (.node .leaf (some row55) (.node .leaf (some row119) .leaf)))) (some row7) (.node (.node (.node .leaf none (.node .leaf (some row79) .leaf)) none (.node .leaf (some row47) .leaf)) (some row15) (.node (.node .leaf none (.node .leaf (some row95) .leaf)) (some row31) (.node .leaf (some row63) .leaf)))))))
noncomputable def fnAt (f : FuncId) : Option (FnRow Tryz.prog btAll) := fnTree.get (bits f f)
noncomputable def fnIs (f : FuncId) : Bool :=
 match fnAt f with
 | some r => Nat.beq r.num f
 | none => false
theorem fnIs_ok (f : FuncId) (h : fnIs f = true) : HasBody Tryz.prog f := by
 unfold fnIs at h
 split at h
 ·rename_i r _
  rw [← Nat.eq_of_beq_eq_true h]
  exact r.has
 ·cases h
theorem drawnMixed : Tryz.prog.follows .mixedOrders = true := by kernel_rfl
noncomputable def cT : Cx := { T := { info := tyAt, flat := flats Tryz.prog, ext := extAt }, bodies := fnIs }
theorem cT_ok : cT.Ok Tryz.prog := ⟨⟨tyAt_ok, cP_ok.T.flat, extAt_ok⟩, fnIs_ok⟩
noncomputable def whole (n d : Nat) (f : FuncId) (args : List Value) : Option (AE × St × Log) := (orcN cT btAll fnAt n d).call f args St.nil
def answers : Option (AE × St × Log) → Option Value
 | some (.ret v, _, _) => some v
 | _ => none
theorem whole_call {n d : Nat} {f : FuncId} {args : List Value} {v : Value} (h : answers (whole n d f args) = some v) (ha : plainL args = true) (hv : plain v = true) (σ : St) : DCall Tryz.prog f args σ (.ret v) σ [] := by
 unfold answers at h
 split at h
 ·rename_i v' σ' lg hw
  cases h
  exact ((orcN_ok cT_ok drawnMixed d).call f args St.nil _ σ' lg hw).alone ha hv σ
 ·cases h
end Go.Ab
namespace Go.Ab
theorem btAt6_3 : btAll 6 3 = [0, 1, 3, 7, 0, 0, 0, 0, 128, 384, 896, 2047, 4095] := by kernel_rfl
theorem btAt7_3 : btAll 7 3 = [0, 1, 0, 4, 12, 28, 63, 127] := by kernel_rfl
theorem btAt7_5 : btAll 7 5 = [0, 1, 3, 7, 0, 0, 32, 96, 224, 511, 1023, 1023, 4095, 8191] := by kernel_rfl
theorem btAt8_14 : btAll 8 14 = [0, 1, 3, 7, 0, 0, 48, 0, 128, 384, 896, 1920, 3968, 8064, 0, 32640, 112, 131071, 262143, 524287] := by kernel_rfl
theorem btAt8_16 : btAll 8 16 = [0, 1, 3, 7, 0, 16, 48, 112, 255, 511, 1023, 2047] := by kernel_rfl
theorem btAt9_3 : btAll 9 3 = [0, 1, 3, 7, 15, 31, 63, 127, 0, 256, 768, 1792, 3840, 7936, 16128, 255, 65535, 131071] := by kernel_rfl
theorem btAt10_10 : btAll 10 10 = [0, 1, 3, 7, 0, 31, 63] := by kernel_rfl
theorem btAt15_3 : btAll 15 3 = [0, 1, 0, 4, 12, 28, 63, 127] := by kernel_rfl
theorem btAt15_5 : btAll 15 5 = [0, 1, 3, 7, 0, 31, 63] := by kernel_rfl
theorem btAt17_9 : btAll 17 9 = [0, 1, 3, 7, 0, 0, 0, 0, 0, 256, 992, 2016, 4095] := by kernel_rfl
theorem btAt18_3 : btAll 18 3 = [0, 1, 3, 7, 0, 16, 63, 127] := by kernel_rfl
theorem btAt18_4 : btAll 18 4 = [0, 1, 3, 7, 0, 16, 63, 127, 255, 255, 0, 1535, 4095] := by kernel_rfl
theorem btAt18_11 : btAll 18 11 = [0, 1, 0, 4, 12, 28, 0, 64, 192, 448, 1020, 2047, 4095] := by kernel_rfl
theorem btAt18_15 : btAll 18 15 = [0, 1, 0, 4, 12, 28, 63, 127, 255, 511, 511, 0, 3071, 8191] := by kernel_rfl
theorem btAt18_16 : btAll 18 16 = [0, 1, 0, 4, 12, 28, 63, 127, 255, 255, 0, 1535, 4095] := by kernel_rfl
theorem btAt18_20 : btAll 18 20 = [0, 0, 0, 0, 8, 24, 56, 0, 128, 504, 125, 1149, 3197, 8191, 16383, 32767] := by kernel_rfl
theorem btAt18_21 : btAll 18 21 = [0, 1, 3, 7, 0, 16, 0, 127] := by kernel_rfl
theorem btAt18_22 : btAll 18 22 = [0, 1, 3, 7, 0, 16, 0, 127] := by kernel_rfl
theorem btAt21_15 : btAll 21 15 = [0, 1, 3, 7, 0, 16, 63] := by kernel_rfl
theorem btAt21_16 : btAll 21 16 = [0, 1, 3, 7, 0, 16, 63] := by kernel_rfl
theorem btAt22_5 : btAll 22 5 = [0, 1, 0, 4, 12, 28, 0, 64, 252, 511, 1023] := by kernel_rfl
theorem btAt22_7 : btAll 22 7 = [0, 1, 3, 7, 15, 0, 32, 127, 255, 511, 1023, 2047] := by kernel_rfl
theorem btAt22_9 : btAll 22 9 = [0, 1, 3, 7, 0, 16, 48, 112, 240, 511] := by kernel_rfl
theorem btAt22_10 : btAll 22 10 = [0, 0, 2, 6, 0, 16, 48, 112, 240, 511] := by kernel_rfl
theorem btAt22_11 : btAll 22 11 = [0, 1, 3, 7, 0, 0, 32, 96, 224, 496, 0, 2047, 4095] := by kernel_rfl
theorem btAt32_11 : btAll 32 11 = [0, 0, 2, 6, 14, 0, 0, 0, 128, 384, 896, 2016, 4064, 8190, 16383, 32767, 65535] := by kernel_rfl
theorem btAt35_4 : btAll 35 4 = [0, 1, 3, 7, 0, 16, 63, 0, 255] := by kernel_rfl
theorem btAt35_5 : btAll 35 5 = [0, 1, 3, 7, 0, 16, 63] := by kernel_rfl
theorem btAt35_6 : btAll 35 6 = [0, 1, 3, 7, 0, 16, 63, 127, 255, 511, 0, 1024, 4095, 8191, 16383, 32767] := by kernel_rfl
theorem btAt35_7 : btAll 35 7 = [0, 0, 2, 1, 15, 31] := by kernel_rfl
theorem btAt37_3 : btAll 37 3 = [0, 0, 0, 4, 0, 16, 48, 112, 240, 253, 765, 1789, 4095, 8191, 16383] := by kernel_rfl
theorem btAt41_1 : btAll 41 1 = [0, 1, 3, 7, 0, 16, 63, 127, 255, 255, 0, 1535, 4095] := by kernel_rfl
theorem btAt48_5 : btAll 48 5 = [0, 0, 2, 6, 14, 0, 0, 96, 254, 510, 1022, 2047, 4095] := by kernel_rfl
theorem btAt49_1 : btAll 49 1 = [0, 1, 3, 7, 0, 31, 0, 64, 192, 448, 960, 2047, 4095] := by kernel_rfl
theorem btAt52_5 : btAll 52 5 = [0, 1, 3, 0, 8, 24, 63, 0, 128, 511, 0, 1024, 3072, 8191, 0, 0, 65535, 131071] := by kernel_rfl
theorem btAt52_8 : btAll 52 8 = [0, 0, 3, 0, 8, 24, 63, 127] := by kernel_rfl
theorem btAt54_2 : btAll 54 2 = [0, 1, 0, 4, 0, 16, 60, 127, 255, 511, 1023, 0, 2303, 8191, 16383] := by kernel_rfl
theorem btAt56_2 : btAll 56 2 = [0, 0, 3, 0, 0, 0, 48, 127, 255] := by kernel_rfl
theorem btAt59_2 : btAll 59 2 = [0, 1, 3, 0, 8, 24, 0, 120, 255, 0, 512, 2047, 0, 4096, 12288, 0, 61440, 131071, 0, 0, 1048575, 2097151] := by kernel_rfl
theorem btAt59_3 : btAll 59 3 = [0, 0, 3, 0, 8, 24, 0, 71, 255] := by kernel_rfl
theorem btAt59_7 : btAll 59 7 = [0, 0, 3, 0, 8, 24, 7, 127] := by kernel_rfl
theorem btAt59_10 : btAll 59 10 = [0, 1, 3, 0, 15, 0, 32, 96, 0, 480, 1023, 0, 4095] := by kernel_rfl
theorem btAt61_1 : btAll 61 1 = [0, 1, 3, 7, 15, 31, 63, 127, 255, 511, 1023, 2047, 511, 4607, 12799, 32767, 65535, 131071] := by kernel_rfl
theorem btAt62_0 : btAll 62 0 = [0, 1, 3, 7, 15, 0, 32, 96, 224, 0, 992, 2016, 4064, 0, 16383] := by kernel_rfl
theorem btAt63_2 : btAll 63 2 = [0, 1, 3, 7, 0, 31, 63, 0, 128, 384, 896, 0, 3968, 8064, 16383, 32767] := by kernel_rfl
theorem btAt66_3 : btAll 66 3 = [0, 1, 3, 7, 0, 16, 48, 112, 255, 511, 1023, 2047] := by kernel_rfl
theorem btAt69_1 : btAll 69 1 = [0, 0, 3, 0, 0, 31, 63, 127] := by kernel_rfl
theorem btAt71_1 : btAll 71 1 = [0, 1, 3, 7, 0, 31, 63, 0, 128, 384, 896, 1920, 3968, 0, 8319, 32767] := by kernel_rfl
theorem btAt71_4 : btAll 71 4 = [0, 1, 3, 7, 15, 0, 32, 127] := by kernel_rfl
theorem btAt72_4 : btAll 72 4 = [0, 0, 0, 6, 15, 31] := by kernel_rfl
theorem btAt80_8 : btAll 80 8 = [0, 0, 2, 1, 15] := by kernel_rfl
theorem btAt81_2 : btAll 81 2 = [0, 0, 0, 6, 3, 31] := by kernel_rfl
theorem btAt100_6 : btAll 100 6 = [0, 0, 3, 0, 0, 24, 7, 127] := by kernel_rfl
theorem btAt103_0 : btAll 103 0 = [0, 0, 0, 0, 0, 0, 48, 112, 0, 0, 768, 1792, 4083, 8179, 16383, 32767] := by kernel_rfl
theorem btAt104_17 : btAll 104 17 = [0, 1, 3, 7, 7, 7, 39, 119, 247, 7, 7, 1543, 3591, 8191, 16383, 32767, 65535] := by kernel_rfl
theorem btAt106_4 : btAll 106 4 = [0, 0, 2, 6, 14, 30, 63, 127, 255, 511, 1023, 2047, 255, 8191, 16383, 255, 33023, 98559, 229631, 255, 1016063, 2064639, 4194303, 8388607, 16777215] := by kernel_rfl
theorem btAt110_4 : btAll 110 4 = [0, 0, 3, 7, 15, 15, 15, 111, 239, 15, 15, 1039, 3599, 7695, 16383, 32767, 65535] := by kernel_rfl
theorem btAt110_6 : btAll 110 6 = [0, 0, 0, 0, 8, 0, 0, 64, 224, 480, 0, 0, 3072, 7168, 16355, 32739, 65535, 131071] := by kernel_rfl
theorem btAt111_10 : btAll 111 10 = [0, 0, 0, 0, 0, 24, 0, 0, 0, 384, 960, 1984, 0, 0, 12288, 28672, 65475, 131011, 262143, 524287] := by kernel_rfl
theorem btAt112_10 : btAll 112 10 = [0, 0, 0, 0, 0, 24, 0, 0, 0, 384, 960, 1984, 0, 0, 12288, 28672, 65475, 131011, 262143, 524287] := by kernel_rfl
theorem btAt114_3 : btAll 114 3 = [0, 0, 0, 0, 0, 0, 48, 112, 0, 0, 768, 1792, 4083, 8179, 16383, 32767] := by kernel_rfl
theorem btAt115_5 : btAll 115 5 = [0, 0, 3, 7, 15, 15, 15, 111, 239, 15, 15, 1039, 3599, 7695, 16383, 32767, 65535, 131071] := by kernel_rfl
theorem btAt115_11 : btAll 115 11 = [0, 0, 0, 0, 8, 0, 0, 64, 224, 480, 0, 0, 3072, 7168, 16355, 32739, 65535, 131071] := by kernel_rfl
theorem btAt115_16 : btAll 115 16 = [0, 0, 0, 6, 14, 0, 0, 64, 224, 480, 1023, 2047, 4095] := by kernel_rfl
theorem btAt115_17 : btAll 115 17 = [0, 0, 0, 0, 8, 0, 0, 64, 224, 480, 0, 0, 3072, 7168, 16355, 32739, 65535, 131071] := by kernel_rfl
theorem btAt115_22 : btAll 115 22 = [0, 0, 0, 6, 14, 0, 0, 64, 224, 480, 1023, 2047, 4095] := by kernel_rfl
theorem btAt115_23 : btAll 115 23 = [0, 0, 0, 0, 8, 0, 0, 64, 224, 480, 0, 0, 3072, 7168, 16355, 32739, 65535, 131071] := by kernel_rfl
theorem btAt116_1 : btAll 116 1 = [0, 0, 0, 0, 0, 0, 48, 112, 0, 0, 768, 1792, 4083, 8179, 16383, 32767] := by kernel_rfl
theorem btAt116_3 : btAll 116 3 = [0, 0, 3, 7, 15, 15, 15, 111, 239, 15, 15, 1551, 3599, 8191, 16383, 32767, 65535] := by kernel_rfl
theorem btAt116_5 : btAll 116 5 = [0, 0, 3, 7, 15, 15, 15, 111, 239, 15, 15, 1551, 3599, 8191, 16383, 32767] := by kernel_rfl
theorem btAt116_8 : btAll 116 8 = [0, 0, 0, 0, 0, 0, 48, 112, 0, 0, 768, 1792, 4083, 8179, 16383, 32767] := by kernel_rfl
theorem btAt117_1 : btAll 117 1 = [0, 0, 0, 0, 0, 0, 48, 112, 0, 0, 768, 1792, 4083, 8179, 16383, 32767] := by kernel_rfl
theorem btAt117_3 : btAll 117 3 = [0, 0, 3, 7, 15, 15, 15, 111, 239, 15, 15, 1551, 3599, 8191, 16383, 32767] := by kernel_rfl
theorem btAt117_5 : btAll 117 5 = [0, 0, 3, 7, 15, 15, 15, 111, 239, 15, 15, 1551, 3599, 8191, 16383, 32767, 65535] := by kernel_rfl
theorem btAt117_8 : btAll 117 8 = [0, 0, 0, 0, 0, 0, 48, 112, 0, 0, 768, 1792, 4083, 8179, 16383, 32767] := by kernel_rfl
theorem btAt117_10 : btAll 117 10 = [0, 0, 0, 0, 0, 0, 48, 112, 0, 0, 768, 1792, 4083, 8179, 16383, 32767] := by kernel_rfl
theorem btAt117_13 : btAll 117 13 = [0, 0, 3, 7, 15, 15, 15, 111, 239, 15, 15, 1551, 3599, 8191, 16383, 32767] := by kernel_rfl
theorem btAt117_15 : btAll 117 15 = [0, 0, 3, 7, 15, 15, 15, 111, 239, 15, 15, 1551, 3599, 8191, 16383, 32767, 65535] := by kernel_rfl
theorem btAt117_18 : btAll 117 18 = [0, 0, 0, 0, 0, 0, 48, 112, 0, 0, 768, 1792, 4083, 8179, 16383, 32767] := by kernel_rfl
theorem btAt117_21 : btAll 117 21 = [0, 0, 0, 0, 0, 0, 48, 112, 0, 0, 768, 1792, 4083, 8179, 16383, 32767] := by kernel_rfl
theorem btAt120_8 : btAll 120 8 = [0, 0, 2, 1, 15] := by kernel_rfl
theorem btAt121_3 : btAll 121 3 = [0, 1, 0, 7, 15, 31, 31, 31, 31, 415, 991, 2015, 31, 31, 31, 24607, 57375, 127007, 258079, 524287, 1048575, 2097151] := by kernel_rfl
theorem btAt121_5 : btAll 121 5 = [0, 0, 0, 0, 12, 30, 62, 0, 0, 0, 768, 1920, 3968, 8191, 16383, 32767] := by kernel_rfl
theorem btAt121_6 : btAll 121 6 = [0, 0, 0, 6, 0, 0, 0, 96, 0, 0, 0, 1536, 3840, 7936, 0, 0, 0, 98304, 245760, 507904, 1048335, 2096911, 4194303, 8388607] := by kernel_rfl
theorem btAt123_1 : btAll 123 1 = [0, 1, 3, 0, 8, 24, 56, 127, 255, 511] := by kernel_rfl
theorem btAt123_2 : btAll 123 2 = [0, 1, 3, 0, 8, 24, 56, 127, 255, 511] := by kernel_rfl
theorem btAt123_3 : btAll 123 3 = [0, 1, 3, 0, 8, 24, 56, 127, 255, 511] := by kernel_rfl
theorem btAt126_1 : btAll 126 1 = [0, 0, 0, 6, 14, 0, 0, 96, 224, 511, 1023] := by kernel_rfl
attribute [go_sem] btAt6_3 btAt7_3 btAt7_5 btAt8_14 btAt8_16 btAt9_3 btAt10_10 btAt15_3 btAt15_5 btAt17_9 btAt18_3 btAt18_4 btAt18_11 btAt18_15 btAt18_16 btAt18_20 btAt18_21 btAt18_22 btAt21_15 btAt21_16 btAt22_5 btAt22_7 btAt22_9 btAt22_10 btAt22_11 btAt32_11 btAt35_4 btAt35_5 btAt35_6 btAt35_7 btAt37_3 btAt41_1 btAt48_5 btAt49_1 btAt52_5 btAt52_8 btAt54_2 btAt56_2 btAt59_2 btAt59_3 btAt59_7 btAt59_10 btAt61_1 btAt62_0 btAt63_2 btAt66_3 btAt69_1 btAt71_1 btAt71_4 btAt72_4 btAt80_8 btAt81_2 btAt100_6 btAt103_0 btAt104_17 btAt106_4 btAt110_4 btAt110_6 btAt111_10 btAt112_10 btAt114_3 btAt115_5 btAt115_11 btAt115_16 btAt115_17 btAt115_22 btAt115_23 btAt116_1 btAt116_3 btAt116_5 btAt116_8 btAt117_1 btAt117_3 btAt117_5 btAt117_8 btAt117_10 btAt117_13 btAt117_15 btAt117_18 btAt117_21 btAt120_8 btAt121_3 btAt121_5 btAt121_6 btAt123_1 btAt123_2 btAt123_3 btAt126_1
end Go.Ab
namespace Go.Ab
open Go.Proofs
attribute [go_sem] info0 info1 info2 info3 info4 info5 info6 info7 info8 info9 info10 info11 info12 info13 info14 info15 info16 info17 info18 info19 info20 info21 info22 info23 info24 info25 info26 info27 info28 info29 info30 info31 info33 info34 info35 info36 info38 info40 info41 info44 info45 info47 info48 info51 info53 info54 info55 info59
attribute [go_sem] Tryz.underlying0 Tryz.underlying1 Tryz.underlying2 Tryz.underlying3 Tryz.underlying4 Tryz.underlying5 Tryz.underlying6 Tryz.underlying7 Tryz.underlying8 Tryz.underlying9 Tryz.underlying10 Tryz.underlying11 Tryz.underlying12 Tryz.underlying13 Tryz.underlying14 Tryz.underlying15 Tryz.underlying16 Tryz.underlying17 Tryz.underlying18 Tryz.underlying19 Tryz.underlying20 Tryz.underlying21 Tryz.underlying22 Tryz.underlying23 Tryz.underlying24 Tryz.underlying25 Tryz.underlying26 Tryz.underlying27 Tryz.underlying28 Tryz.underlying29 Tryz.underlying30 Tryz.underlying31 Tryz.underlying33 Tryz.underlying34 Tryz.underlying35 Tryz.underlying36 Tryz.underlying38 Tryz.underlying40 Tryz.underlying41 Tryz.underlying44 Tryz.underlying45 Tryz.underlying47 Tryz.underlying48 Tryz.underlying51 Tryz.underlying53 Tryz.underlying54 Tryz.underlying55 Tryz.underlying59
attribute [go_sem] Tryz.t0 Tryz.t1 Tryz.t2 Tryz.t3 Tryz.t4 Tryz.t5 Tryz.t6 Tryz.t7 Tryz.t8 Tryz.t9 Tryz.t10 Tryz.t11 Tryz.t12 Tryz.t13 Tryz.t14 Tryz.t15 Tryz.t16 Tryz.t17 Tryz.t18 Tryz.t19 Tryz.t20 Tryz.t21 Tryz.t22 Tryz.t23 Tryz.t24 Tryz.t25 Tryz.t26 Tryz.t27 Tryz.t28 Tryz.t29 Tryz.t30 Tryz.t31 Tryz.t33 Tryz.t34 Tryz.t35 Tryz.t36 Tryz.t38 Tryz.t40 Tryz.t41 Tryz.t44 Tryz.t45 Tryz.t47 Tryz.t48 Tryz.t51 Tryz.t53 Tryz.t54 Tryz.t55 Tryz.t59
attribute [go_sem] info60 info61 info62 info64 info66 info67 info68 info69 info70 info72 info73 info74 info75 info76 info78 info79 info80 info86 info89 info91 info94 info95 info96 info98 info102 info103 info105 info106 info107 info108 info109 info110 info111 info112 info115 info119
attribute [go_sem] Tryz.underlying60 Tryz.underlying61 Tryz.underlying62 Tryz.underlying64 Tryz.underlying66 Tryz.underlying67 Tryz.underlying68 Tryz.underlying69 Tryz.underlying70 Tryz.underlying72 Tryz.underlying73 Tryz.underlying74 Tryz.underlying75 Tryz.underlying76 Tryz.underlying78 Tryz.underlying79 Tryz.underlying80 Tryz.underlying86 Tryz.underlying89 Tryz.underlying91 Tryz.underlying94 Tryz.underlying95 Tryz.underlying96 Tryz.underlying98 Tryz.underlying102 Tryz.underlying103 Tryz.underlying105 Tryz.underlying106 Tryz.underlying107 Tryz.underlying108 Tryz.underlying109 Tryz.underlying110 Tryz.underlying111 Tryz.underlying112 Tryz.underlying115 Tryz.underlying119
attribute [go_sem] Tryz.t60 Tryz.t61 Tryz.t62 Tryz.t64 Tryz.t66 Tryz.t67 Tryz.t68 Tryz.t69 Tryz.t70 Tryz.t72 Tryz.t73 Tryz.t74 Tryz.t75 Tryz.t76 Tryz.t78 Tryz.t79 Tryz.t80 Tryz.t86 Tryz.t89 Tryz.t91 Tryz.t94 Tryz.t95 Tryz.t96 Tryz.t98 Tryz.t102 Tryz.t103 Tryz.t105 Tryz.t106 Tryz.t107 Tryz.t108 Tryz.t109 Tryz.t110 Tryz.t111 Tryz.t112 Tryz.t115 Tryz.t119
attribute [go_sem] info121 info123 info124 info127 info128 info133 info137 info139 info140 info143 info144 info148 info158 info164 info165 info166 info167 info170 info172 info173 info179
attribute [go_sem] Tryz.underlying121 Tryz.underlying123 Tryz.underlying124 Tryz.underlying127 Tryz.underlying128 Tryz.underlying133 Tryz.underlying137 Tryz.underlying139 Tryz.underlying140 Tryz.underlying143 Tryz.underlying144 Tryz.underlying148 Tryz.underlying158 Tryz.underlying164 Tryz.underlying165 Tryz.underlying166 Tryz.underlying167 Tryz.underlying170 Tryz.underlying172 Tryz.underlying173 Tryz.underlying179
attribute [go_sem] Tryz.t121 Tryz.t123 Tryz.t124 Tryz.t127 Tryz.t128 Tryz.t133 Tryz.t137 Tryz.t139 Tryz.t140 Tryz.t143 Tryz.t144 Tryz.t148 Tryz.t158 Tryz.t164 Tryz.t165 Tryz.t166 Tryz.t167 Tryz.t170 Tryz.t172 Tryz.t173 Tryz.t179
attribute [go_sem] info180 info184 info186 info187
attribute [go_sem] Tryz.underlying180 Tryz.underlying184 Tryz.underlying186 Tryz.underlying187
attribute [go_sem] Tryz.t180 Tryz.t184 Tryz.t186 Tryz.t187
attribute [go_sem] body3 body4 body5 body6 body7 body8 body9 body10 body11 body12 body13 body14 body15 body16 body17 body18 body19 body20 body21 body22 body23 body24 body25 body26 body27 body28 body29 body30 body31 body32 body33 body34 body35 body36 body37 body38 body39 body40 body41 body42 body43 body44 body45 body46 body47 body48 body49 body50 body51 body52 body53 body54 body55 body56 body57 body58 body59 body60 body61 body62 body63 body64 body65 body66 body67 body68 body69 body70 body71 body72 body73 body74 body75 body76 body77 body78 body79 body80 body81
attribute [go_sem] body82 body83 body84 body85 body86 body87 body88 body89 body90 body91 body92 body93 body94 body95 body96 body99 body100 body101 body102 body103 body104 body105 body106 body107 body108 body109 body110 body111 body112 body113 body114 body115 body116 body117 body118 body119 body120 body121 body122 body123 body124 body125 body126
end Go.Ab
namespace Go.Ab
open Go.Proofs
attribute [go_sem] wp_skip wp_label wp_exit wp_goto wp_ret wp_seq wp_cond wp_block wp_ops wp_drawn wp_loop wp_scope wp_range wOps_nil wOps_cons wDrawn_nil wDrawn_cons condW_true condW_false condW_dec thenW_norm thenW_exit thenW_goto thenW_ret thenW_panic retW_ret retW_panic opsW_val opsW_new opsW_eff opsW_panic opsW_enter opsW_round opsW_defer retD_ret drawnW_val drawnW_new drawnW_eff drawnW_enter loudOne_quiet loudOne_pure callO_some callO_none dynL pairOk preW_mk blockW_mk preK_eq scopeW_goto scopeW_norm scopeW_ret scopeW_exit scopeW_panic List.isEmpty_toArray Array.isEmpty_empty endW_mk endK_some endD_ret endD_norm endD_panic leaveK_ret leaveK_done recoverA List.mem_cons List.mem_append List.not_mem_nil false_implies implies_true forall_const List.singleton_append List.mem_singleton false_or or_false forall_eq forall_eq_or_imp
section near
variable {p n k : Nat}
theorem lt_ne (h : p < n) : (n = p) = False := eq_false (by omega)
theorem lt_ne' (h : p < n) : (p = n) = False := eq_false (by omega)
theorem lt_ne_add (h : p < n) : (n + k = p) = False := eq_false (by omega)
theorem lt_ne_add' (h : p < n) : (p = n + k) = False := eq_false (by omega)
theorem lt_le (h : p < n) : (n ≤ p) = False := eq_false (by omega)
theorem lt_le_add (h : p < n) : (n + k ≤ p) = False := eq_false (by omega)
theorem lt_lt_add (h : p < n) : (p < n + k) = True := eq_true (by omega)
theorem lt_le' (h : p < n) : (p ≤ n) = True := eq_true (by omega)
theorem lt_le_add' (h : p < n) : (p ≤ n + k) = True := eq_true (by omega)
theorem lt_beq (h : p < n) : (n == p) = false := by simp; omega
theorem lt_beq' (h : p < n) : (p == n) = false := by simp; omega
theorem lt_beq_add (h : p < n) : (n + k == p) = false := by simp; omega
theorem lt_beq_add' (h : p < n) : (p == n + k) = false := by simp; omega
theorem beq_ne (h : ¬ p = n) : (p == n) = false := by simp; omega
end near
attribute [go_sem] lt_ne lt_ne' lt_ne_add lt_ne_add' lt_le lt_le_add lt_lt_add lt_le' lt_le_add' lt_beq lt_beq' lt_beq_add lt_beq_add' beq_ne
theorem wrapI {n : Int} (h1 : -9223372036854775808 ≤ n) (h2 : n < 9223372036854775808) : IntKind.i64.wrap n = n := by rw [IntKind.wrap_i64]; omega
theorem wrapU {n : Int} (h1 : 0 ≤ n) (h2 : n < 18446744073709551616) : IntKind.u64.wrap n = n := by rw [IntKind.wrap_u64]; omega
theorem wrapIN {k : Nat} (h : k < 9223372036854775808) : IntKind.i64.wrap (k : Int) = k := wrapI (by omega) (by omega)
theorem wrapUN {k : Nat} (h : k < 18446744073709551616) : IntKind.u64.wrap (k : Int) = k := wrapU (by omega) (by omega)
theorem toNat_one : Int.toNat 1 = 1 := rfl
theorem toNat_zero : Int.toNat 0 = 0 := rfl
theorem sbA_none {len cap : Nat} : sbA len cap none none none = some (0, len, cap) := rfl
theorem sbA_lo {len cap : Nat} {k : IntKind} {n : Int} : sbA len cap (some (.int k n)) none none = if 0 ≤ n ∧ n ≤ len then some (n.toNat, len, cap) else none := by
 delta sbA
 simp only [bnd]
 by_cases h : 0 ≤ n ∧ n ≤ (len : Int) <;> simp [h]
theorem sbA_hi {len cap : Nat} {k : IntKind} {n : Int} : sbA len cap none (some (.int k n)) none = if 0 ≤ n ∧ n ≤ cap then some (0, n.toNat, cap) else none := by
 delta sbA
 simp only [bnd]
 by_cases h : 0 ≤ n ∧ n ≤ (cap : Int) <;> simp [h]
theorem sbA_both {len cap : Nat} {k k' : IntKind} {a n : Int} : sbA len cap (some (.int k a)) (some (.int k' n)) none = if 0 ≤ n ∧ n ≤ cap then (if 0 ≤ a ∧ a ≤ n.toNat then some (a.toNat, n.toNat, cap) else none) else none := by
 delta sbA
 simp only [bnd]
 by_cases h : 0 ≤ n ∧ n ≤ (cap : Int)
 ·simp only [h, and_self, if_true]
  by_cases h2 : 0 ≤ a ∧ a ≤ (n.toNat : Int)
  ·simp only [h2, and_self, if_true]
  ·simp only [h2, if_false]
 ·simp [h]
attribute [go_sem] wrapIN wrapUN wrapI wrapU toNat_one toNat_zero sbA_none sbA_lo sbA_hi sbA_both opSlice opLookup opMapUpdate opDelete keyOk opMakeMap isMapD
attribute [congr] endK_congr leaveX_congr thenW_congr retW_congr retD_congr callW_congr wp_congr wOps_congr opsW_congr wDrawn_congr drawnW_congr condW_congr callX_congr callO_congr loopX_congr scopeX_congr rangeX_congr
theorem enter {p : PureTab Tryz.prog} {f : FuncId} {fn : Func} {c : Code} {args : List Value} {σ : St} {K : AE → St → Log → Prop} (hf : Tryz.prog.funcs[f]? = some fn) (hb : fn.body = some c) (hs : statAll (btAll f) c = true)
  (h : wp (cP Tryz.prog) p (btAll f) false c (start args fn.ntmps) σ (endW (cP Tryz.prog) fn.results.toList K)) : callX Tryz.prog f args σ K :=
 callX.enter cP_ok mixed hf hb hs h
theorem turn (p : PureTab Tryz.prog) (f : FuncId) {rnd : Bool} {b : Code} {fr : Fr} {σ : St} {Q : RR → Prop} (hs : statAll (btAll f) b = true)
  (h : wp (cP Tryz.prog) p (btAll f) rnd b fr σ (thenW (loopX Tryz.prog rnd b) Q)) : loopX Tryz.prog rnd b fr σ Q := loopX.step cP_ok mixed hs h
theorem enscope (p : PureTab Tryz.prog) (f : FuncId) {rnd : Bool} {body c : Code} {fr : Fr} {σ : St} {Q : RR → Prop} (hs : statAll (btAll f) c = true)
  (h : wp (cP Tryz.prog) p (btAll f) rnd c fr σ (scopeW Tryz.prog rnd body Q)) : scopeX Tryz.prog rnd body c fr σ Q := scopeX.step cP_ok mixed hs h
def q0 : PureTab Tryz.prog := ⟨fun _ _ => none, fun _ _ _ h => by cases h⟩
theorem pure_call {f : FuncId} {args : List Value} {σ : St} {v : Value} (h : callX Tryz.prog f args σ fun e σ' l => e = .ret v ∧ ∀ c ∈ l, σ.next ≤ c) (hv : plain v = true) : DCall Tryz.prog f args σ (.ret v) σ [] := by
 obtain ⟨e, σ', l, d, rfl, hl⟩ := h
 have h2 : DCall Tryz.prog f args σ (.ret v) σ' [] := ⟨⟨d.1.1, fun c hc _ => d.1.2 c hc fun hm => by have := hl c hm; omega⟩, d.2⟩
 exact DCall.forget h2 hv
end Go.Ab
namespace Go.Ab
open Go.Proofs
def stepW (I : Nat → Fr → St → Prop) (E : AX → Fr → St → Prop) (B : Nat → Prop) (n : Nat) (r : RR) : Prop :=
 (∀ c ∈ r.lg, B c) ∧ match r.x with
  | .norm => ∃ m, m < n ∧ I m r.fr r.σ
  | x => E x r.fr r.σ
def endL (E : AX → Fr → St → Prop) (B : Nat → Prop) (r : RR) : Prop := (∀ c ∈ r.lg, B c) ∧ E r.x r.fr r.σ
section eqs
variable {I : Nat → Fr → St → Prop} {E : AX → Fr → St → Prop} {B : Nat → Prop} {n : Nat} {fr : Fr} {σ : St} {lg : Log}
theorem stepW_norm : stepW I E B n ⟨.norm, fr, σ, lg⟩ = ((∀ c ∈ lg, B c) ∧ ∃ m, m < n ∧ I m fr σ) := (rfl)
theorem stepW_exit {i : Nat} : stepW I E B n ⟨.exit i, fr, σ, lg⟩ = ((∀ c ∈ lg, B c) ∧ E (.exit i) fr σ) := (rfl)
theorem stepW_ret : stepW I E B n ⟨.ret, fr, σ, lg⟩ = ((∀ c ∈ lg, B c) ∧ E .ret fr σ) := (rfl)
end eqs
theorem loop_ind (p : PureTab Tryz.prog) (f : FuncId) {rnd : Bool} {b : Code} (hs : statAll (btAll f) b = true) (I : Nat → Fr → St → Prop) (E : AX → Fr → St → Prop) (B : Nat → Prop)
  (step : ∀ n fr σ, I n fr σ → wp (cP Tryz.prog) p (btAll f) rnd b fr σ (stepW I E B n)) : ∀ n fr σ, I n fr σ → loopX Tryz.prog rnd b fr σ (endL E B) := by
 intro n
 induction n using Nat.strongRecOn with
 | _ n ih =>
  intro fr σ hI
  obtain ⟨r, h1, h2, h3⟩ := wp_sound cP_ok mixed b fr σ _ hs (step n fr σ hI)
  cases hx : r.x with
  | norm =>
   rw [hx] at h3
   obtain ⟨m, hm, hI'⟩ := h3
   obtain ⟨r', h4, h5, h6⟩ := ih m hm _ _ hI'
   refine ⟨_, DL.next h1 hx h4, fun c hc => ?_, h6⟩
   rcases List.mem_append.1 hc with h | h
   ·exact h2 c h
   ·exact h5 c h
  | exit i => rw [hx] at h3; exact ⟨_, DL.out h1 (by rw [hx]; rfl), h2, by rw [hx]; exact h3⟩
  | goto i => rw [hx] at h3; exact ⟨_, DL.out h1 (by rw [hx]; rfl), h2, by rw [hx]; exact h3⟩
  | ret => rw [hx] at h3; exact ⟨_, DL.out h1 (by rw [hx]; rfl), h2, by rw [hx]; exact h3⟩
  | panic ch => rw [hx] at h3; exact ⟨_, DL.out h1 (by rw [hx]; rfl), h2, by rw [hx]; exact h3⟩
theorem loop_then {rnd : Bool} {b : Code} {fr : Fr} {σ : St} {E : AX → Fr → St → Prop} {B : Nat → Prop} {Q : RR → Prop} (h : loopX Tryz.prog rnd b fr σ (endL E B))
  (k : ∀ x fr' σ' lg, Logged σ σ' lg → (∀ c ∈ lg, B c) → E x fr' σ' → Q ⟨x, fr', σ', lg⟩) : loopX Tryz.prog rnd b fr σ Q :=
 h.mono fun r hl ⟨h1, h2⟩ => k r.x r.fr r.σ r.lg hl h1 h2
attribute [go_sem] stepW_norm stepW_exit stepW_ret
end Go.Ab
namespace Go.Ab
open Go.Proofs
def q8 : PureTab Tryz.prog := ⟨p8, p8_is⟩
def Ans (σ : St) (v : Value) (e : AE) (σ' : St) (l : Log) : Prop := e = .ret v ∧ (∀ c ∈ l, σ.next ≤ c) ∧ σ.next ≤ σ'.next ∧ ∀ c, c < σ.next → σ'.get c = σ.get c
theorem Ans.of {f : FuncId} {args : List Value} {σ : St} {v : Value} (h : callX Tryz.prog f args σ fun e _ l => e = .ret v ∧ ∀ c ∈ l, σ.next ≤ c) : callX Tryz.prog f args σ (Ans σ v) :=
 h.use fun _ _ _ hl ⟨a, b⟩ => ⟨a, b, hl.1, fun c hc => hl.2 c hc fun hm => by have := b c hm; omega⟩
theorem callX.ret {f : FuncId} {args : List Value} {σ : St} {v : Value} {R : St → Log → Prop} {K : AE → St → Log → Prop} (h : callX Tryz.prog f args σ fun e σ' l => e = .ret v ∧ R σ' l) (k : ∀ σ' l, Logged σ σ' l → R σ' l → K (.ret v) σ' l) : callX Tryz.prog f args σ K :=
 h.use fun _ σ' l hl ⟨a, b⟩ => a ▸ k σ' l hl b
theorem within_call (n a b : Int) (σ : St) : DCall Tryz.prog 27 [.int .i64 n, .int .i64 a, .int .i64 b] σ (.ret (.bool (decide (a ≤ n) && decide (n ≤ b)))) σ [] := by
 refine pure_call (enter (p := q8) Tryz.func27 rfl stat27 ?_) rfl
 by_cases h : a ≤ n
 ·simp only [go_sem, seval, if_pos rfl, opLen, Tryz.f27, Tryz.underlying2, info2, Tryz.t2, h]
 ·simp only [go_sem, seval, if_pos rfl, opLen, Tryz.f27, Tryz.underlying2, info2, Tryz.t2, h]
theorem whole_call' (n : Int) (σ : St) : DCall Tryz.prog 28 [.int .i64 n] σ (.ret (.agg ⟨[.int .i64 n, .int .i64 1]⟩)) σ [] := by
 refine pure_call (enter (p := q8) Tryz.func28 rfl stat28 ?_) rfl
 simp only [go_sem, seval, if_pos rfl, opLen, Tryz.f28, Tryz.underlying2, info2, Tryz.t2, Tryz.underlying30, info30, Tryz.t30]
theorem told_call (n d : Int) (b : Bool) (σ : St) (h1 : 0 ≤ n) (h2 : n ≤ 9223372036854775807) (h3 : 0 ≤ d) (h4 : d ≤ 9223372036854775807) : DCall Tryz.prog 82 [.int .u64 n, .bool b, .int .u64 d] σ (.ret (.agg ⟨[.int .i64 (if b then -n else n), .int .i64 d]⟩)) σ [] := by
 have w1 : IntKind.i64.wrap n = n := by rw [IntKind.wrap_i64]; omega
 have w2 : IntKind.i64.wrap d = d := by rw [IntKind.wrap_i64]; omega
 have w3 : IntKind.i64.wrap (0 - n) = -n := by rw [IntKind.wrap_i64]; omega
 refine pure_call (enter (p := q8) Tryz.func82 rfl stat82 ?_) rfl
 simp only [go_sem, seval, if_pos rfl, opLen, callW, q8, p8, p7, p6, p5, p4, p3, p2, p1, Tryz.f82, h2, h4, Tryz.underlying2, info2, Tryz.t2, Tryz.underlying30, info30, Tryz.t30, Tryz.underlying24, info24, Tryz.t24, Tryz.underlying119, info119, Tryz.t119, body55, body96]
 refine enter (p := q8) Tryz.func96 rfl stat96 ?_
 cases b
 ·simp only [go_sem, seval, if_pos rfl, opLen, callW, q8, p8, p7, p6, p5, p4, p3, p2, p1, Tryz.f96, h2, h4, w1, w2, w3, Tryz.underlying2, info2, Tryz.t2, Tryz.underlying4, info4, Tryz.t4, Tryz.underlying30, info30, Tryz.t30, Tryz.underlying24, info24, Tryz.t24, Tryz.underlying119, info119, Tryz.t119, body55, body96]
 ·simp only [go_sem, seval, if_pos rfl, opLen, callW, q8, p8, p7, p6, p5, p4, p3, p2, p1, Tryz.f96, h2, h4, w1, w2, w3, Tryz.underlying2, info2, Tryz.t2, Tryz.underlying4, info4, Tryz.t4, Tryz.underlying30, info30, Tryz.t30, Tryz.underlying24, info24, Tryz.t24, Tryz.underlying119, info119, Tryz.t119, body55, body96]
theorem gcd_div {n d : Int} (hn : 0 ≤ n) (hd : 0 < d) : 0 < (Int.gcd n d : Int) ∧ 0 ≤ n / (Int.gcd n d : Int) ∧ n / (Int.gcd n d : Int) ≤ n ∧ 0 ≤ d / (Int.gcd n d : Int) ∧ d / (Int.gcd n d : Int) ≤ d := by
 have hg : 0 < (Int.gcd n d : Int) := by
  have := Int.gcd_pos_of_ne_zero_right n (show d ≠ 0 by omega)
  omega
 refine ⟨hg, Int.ediv_nonneg hn (by omega), Int.ediv_le_self _ hn, Int.ediv_nonneg (by omega) (by omega), Int.ediv_le_self _ (by omega)⟩
theorem made_call (n d : Int) (b : Bool) (σ : St) (h1 : 0 ≤ n) (h2 : n ≤ 9223372036854775807) (h3 : 0 < d) (h4 : d ≤ 9223372036854775807) :
  DCall Tryz.prog 56 [.int .u64 n, .bool b, .int .u64 d] σ (.ret (.agg ⟨[.int .i64 (if b then -(n / (Int.gcd n d : Int)) else n / (Int.gcd n d : Int)), .int .i64 (d / (Int.gcd n d : Int))]⟩)) σ [] := by
 obtain ⟨g0, a1, a2, a3, a4⟩ := gcd_div h1 h3
 have o1 : okU n = true := by simp [okU]; omega
 have o2 : okU d = true := by simp [okU]; omega
 have gne : ¬ (Int.gcd n d : Int) = 0 := by omega
 have t1 : n.tdiv (Int.gcd n d : Int) = n / (Int.gcd n d : Int) := Int.tdiv_eq_ediv_of_nonneg h1
 have t2 : d.tdiv (Int.gcd n d : Int) = d / (Int.gcd n d : Int) := Int.tdiv_eq_ediv_of_nonneg (by omega)
 have w1 : IntKind.u64.wrap (n / (Int.gcd n d : Int)) = n / (Int.gcd n d : Int) := by rw [IntKind.wrap_u64]; omega
 have w2 : IntKind.u64.wrap (d / (Int.gcd n d : Int)) = d / (Int.gcd n d : Int) := by rw [IntKind.wrap_u64]; omega
 refine pure_call (enter (p := q8) Tryz.func56 rfl stat56 ?_) rfl
 simp only [go_sem, seval, if_pos rfl, opLen, callW, q8, p8, p7, p6, p5, p4, p3, p2, p1, Tryz.f56, o1, o2, gne, t1, t2, w1, w2, Tryz.underlying2, info2, Tryz.t2, Tryz.underlying4, info4, Tryz.t4, Tryz.underlying30, info30, Tryz.t30, Tryz.underlying24, info24, Tryz.t24, Tryz.underlying119, info119, Tryz.t119, body81, body82]
 refine .of (told_call _ _ _ _ a1 (by omega) a3 (by omega)) ?_
 simp only [go_sem, seval, if_pos rfl, opLen, Tryz.f56, Tryz.underlying2, info2, Tryz.t2, Tryz.underlying4, info4, Tryz.t4, Tryz.underlying30, info30, Tryz.t30, Tryz.underlying24, info24, Tryz.t24, Tryz.underlying119, info119, Tryz.t119]
theorem try_rat {g : FuncId} {ys : List Value} {n d : Int} {σ : St} (hg : (cP Tryz.prog).bodies g = true)
  (H : callX Tryz.prog g ys ((σ.new (.cells [.int .i64 0, .int .i64 0] false)).new (.cells [.int .i64 0] false)) (Ans ((σ.new (.cells [.int .i64 0, .int .i64 0] false)).new (.cells [.int .i64 0] false)) (.agg ⟨[.int .i64 n, .int .i64 d]⟩))) :
  DCall Tryz.prog 53 [.func (.func g) ⟨[]⟩ ⟨ys⟩] σ (.ret (.tuple ⟨[.agg ⟨[.int .i64 n, .int .i64 d]⟩, .int .i64 0]⟩)) σ [] := by
 refine pure_call (callX.enterD (p := q0) cP_ok mixed Tryz.func53 rfl stat53 ?_) rfl
 simp only [go_sem, seval, if_pos rfl, opLen, callW, q0, Tryz.f53, hg, Tryz.underlying1, info1, Tryz.t1, Tryz.underlying3, info3, Tryz.t3, Tryz.underlying30, info30, Tryz.t30, Tryz.underlying24, info24, Tryz.t24, Tryz.underlying121, info121, Tryz.t121, body80]
 refine callX.ret H ?_
 intro σ' l hl ⟨h1, h2, h3⟩
 simp only [St.next_new] at h1 h2 h3
 have g0 := h3 σ.next (by omega)
 have g1 := h3 (σ.next + 1) (by omega)
 simp only [go_sem, seval, if_pos rfl, opLen, Tryz.f53, Tryz.underlying1, info1, Tryz.t1, Tryz.underlying3, info3, Tryz.t3, Tryz.underlying30, info30, Tryz.t30, Tryz.underlying24, info24, Tryz.t24, Tryz.underlying121, info121, Tryz.t121] at g0 g1
 simp only [go_sem, seval, if_pos rfl, opLen, Tryz.f53, g0, g1, Tryz.underlying1, info1, Tryz.t1, Tryz.underlying3, info3, Tryz.t3, Tryz.underlying30, info30, Tryz.t30, Tryz.underlying24, info24, Tryz.t24, Tryz.underlying121, info121, Tryz.t121]
 refine .cons has80 (.recover (p := q0) (bt := btAll 80) cP_ok mixed Tryz.func80 rfl rfl rfl (by kernel_rfl) ?_)
 simp only [go_sem, seval, if_pos rfl, opLen, Tryz.f80, Tryz.underlying1, info1, Tryz.t1, Tryz.underlying3, info3, Tryz.t3, Tryz.underlying20, info20, Tryz.t20, Tryz.underlying30, info30, Tryz.t30, Tryz.underlying24, info24, Tryz.t24, Tryz.underlying121, info121, Tryz.t121]
 refine .ret cP_ok (by simp only [go_sem, seval, if_pos rfl, opLen, Tryz.underlying1, info1, Tryz.t1, Tryz.underlying3, info3, Tryz.t3, Tryz.underlying20, info20, Tryz.t20, Tryz.underlying30, info30, Tryz.t30, Tryz.underlying24, info24, Tryz.t24, Tryz.underlying121, info121, Tryz.t121] <;> rfl) ?_
 simp only [go_sem, seval, if_pos rfl, opLen]
 intro c hc
 rcases hc with (hc | hc) | hc
 ·have := h1 c hc; omega
 ·omega
 ·omega
end Go.Ab
namespace Go.Ab
open Go.Proofs
variable {P : Program}
def blockOf : Code → Code
 | .block _ b => b
 | c => c
def dropC : Nat → Code → Code
 | n + 1, .seq _ b => dropC n b
 | _, c => c
def loopOb (st : LoopState) (j : Option Code) (ts : List Value) (ps : Array Tmp) (a b : Code) (d : Nat) : AObj := .loop { state := st, pending := j, fn := 0, tmps := ⟨ts⟩, params := ps, assign := a, body := b, defers := d }
def endRW (l : Nat) (ts : List Value) (ps : Array Tmp) (a b : Code) (d : Nat) (K : AE → St → Log → Prop) (lg : Log) (r : RR) : Prop :=
 r.σ.get l = some (loopOb .busy none ts ps a b d) ∧ match jumpOf r.x with
  | some j => K (.ret (.bool j.isNone)) (r.σ.set l (loopOb (readyIf j) j ts ps a b d)) (lg ++ ([l] ++ (r.lg ++ [l])))
  | none => False
def midRW (C : Cx) (p : PureTab P) (bt : Nat → List Nat) (l : Nat) (ts : List Value) (ps : Array Tmp) (a b : Code) (d : Nat) (K : AE → St → Log → Prop) (r : RR) : Prop :=
 match r.x with
 | .norm => r.σ.get l = some (loopOb .ready none ts ps a b d) ∧ wp C p bt true b r.fr (r.σ.set l (loopOb .busy none ts ps a b d)) (endRW l ts ps a b d K r.lg)
 | _ => False
theorem roundX.enter {C : Cx} {p : PureTab P} (hC : C.Ok P) (hm : P.follows .mixedOrders = true) {bt : Nat → List Nat} {l : Nat} {ts : List Value} {ps : Array Tmp} {a b : Code} {d : Nat} {args : List Value} {σ : St} {K : AE → St → Log → Prop}
  (hg : σ.get l = some (loopOb .ready none ts ps a b d)) (hn : args.length = ps.size) (ha : statAll bt a = true) (hb : statAll bt b = true)
  (h : wp C p bt true a ⟨roundTs ts ps.toList args, []⟩ σ (midRW C p bt l ts ps a b d K)) : roundX P l args σ K := by
 obtain ⟨r, h1, h2⟩ := wp_sound hC hm a _ _ _ ha h
 unfold midRW at h2
 split at h2
 ·rename_i hx
  obtain ⟨h3, h4⟩ := h2
  obtain ⟨r', h5, h6, h7⟩ := wp_sound hC hm b _ _ _ hb h4
  split at h7
  ·rename_i j hj
   obtain ⟨x, fr₁, σ₁, lg₁⟩ := r
   obtain ⟨x', fr₃, σ₃, lg₃⟩ := r'
   simp only at hx h3 h5 h6 h7 hj
   subst hx
   exact ⟨_, _, _, DRound.of_code hg hn h1 h3 rfl h5 h6 hj, h7⟩
  ·exact h7.elim
 ·exact h2.elim
theorem midRW.mk {C : Cx} {p : PureTab P} {bt : Nat → List Nat} {l : Nat} {ts : List Value} {ps : Array Tmp} {a b : Code} {d : Nat} {K : AE → St → Log → Prop} {fr : Fr} {σ : St} {lg : Log} (h1 : σ.get l = some (loopOb .ready none ts ps a b d))
  (h2 : wp C p bt true b fr (σ.set l (loopOb .busy none ts ps a b d)) (endRW l ts ps a b d K lg)) : midRW C p bt l ts ps a b d K ⟨.norm, fr, σ, lg⟩ := ⟨h1, h2⟩
theorem endRW_norm {l : Nat} {ts : List Value} {ps : Array Tmp} {a b : Code} {d : Nat} {K : AE → St → Log → Prop} {fr : Fr} {σ : St} {lg lg' : Log} :
  endRW l ts ps a b d K lg ⟨.norm, fr, σ, lg'⟩ = (σ.get l = some (loopOb .busy none ts ps a b d) ∧ K (.ret (.bool true)) (σ.set l (loopOb .ready none ts ps a b d)) (lg ++ ([l] ++ (lg' ++ [l])))) := (rfl)
def rangeK (fr : Fr) (m : Nat) (ps : Array Tmp) (a b : Code) (Q : RR → Prop) (e : AE) (σ' : St) (lg : Log) : Prop :=
 match e with
 | .ret _ => ∃ st j x, σ'.get (m + 1) = some (loopOb st j fr.ts ps a b m) ∧ isBusy st = false ∧ pendingX j = some x ∧ Q ⟨x, { fr with ds := markOf m :: fr.ds }, σ'.set (m + 1) (loopOb .exhausted j fr.ts ps a b m), lg ++ [m + 1]⟩
 | .panic c => Q ⟨.panic c, { fr with ds := markOf m :: fr.ds }, σ', lg⟩
theorem rangeX.of {C : Cx} (hC : C.Ok P) {g : Operand} {ps : Array Tmp} {a b : Code} {fr : Fr} {σ : St} {Q : RR → Prop} {f : FuncId} {xs ys : List Value} (hev : ev fr.ts g = some (.func (.func f) ⟨xs⟩ ⟨ys⟩)) (hb : C.bodies f = true)
  (h : callX P f (xs ++ [.func (.yield (σ.next + 1)) #[] #[]] ++ ys) ((σ.new (.deferred false)).new (loopOb .ready none fr.ts ps a b σ.next)) (rangeK fr σ.next ps a b Q)) : rangeX P false g ps a b fr σ Q := by
 obtain ⟨e, σ', lg, hd, hk⟩ := h
 have hone := Orc.one_call Orc.none f (xs ++ [.func (.yield (σ.next + 1)) #[] #[]] ++ ys) (rangeSt 0 ps a b fr.ts σ) (e, σ', lg)
 have hok : (Orc.none.one f (xs ++ [.func (.yield (σ.next + 1)) #[] #[]] ++ ys) (rangeSt 0 ps a b fr.ts σ) (e, σ', lg)).Ok P := Orc.one_ok Orc.none_ok hd
 cases e with
 | ret v =>
  obtain ⟨st, j, x, h1, h2, h3, h4⟩ := hk
  refine ⟨_, DC.rangeFunc hC hok (me := 0) (r := _) ?_, h4⟩
  unfold rangeR
  rw [hev]
  simp only [hb, hone, rangeEnd, h1, loopOb, rangeFin, h2, h3]
 | panic c =>
  refine ⟨_, DC.rangeFunc hC hok (me := 0) (r := _) ?_, hk⟩
  unfold rangeR
  rw [hev]
  simp only [hb, hone, rangeEnd]
theorem leaveX.collected {fn : Func} {ts : List Value} {ds : List Deferred} {r : Nat} {u : AM} {σ : St} {K : AE → St → Log → Prop} (hr : σ.get r = some (.deferred false)) (h : leaveX P fn ts ds u (σ.set r (.deferred true)) (preK [r] K)) : leaveX P fn ts (markOf r :: ds) u σ K := by
 obtain ⟨e, σ', l, h1, h2⟩ := h
 exact ⟨_, _, _, DLeave.collected hr h1, h2⟩
structure Hide (p : Prop) : Prop where
 out : p
theorem callX.hid {f : FuncId} {args : List Value} {σ : St} {v : Value} {R : St → Log → Prop} {K : AE → St → Log → Prop} (h : callX Tryz.prog f args σ fun e σ' l => e = .ret v ∧ R σ' l) (k : ∀ σ' l, Logged σ σ' l → R σ' l → Hide (K (.ret v) σ' l)) : callX Tryz.prog f args σ K :=
 callX.ret h fun σ' l h1 h2 => (k σ' l h1 h2).out
theorem roundX.hid {y : Nat} {args : List Value} {σ : St} {v : Value} {R : St → Log → Prop} {K : AE → St → Log → Prop} (h : roundX Tryz.prog y args σ fun e σ' l => e = .ret v ∧ R σ' l) (k : ∀ σ' l, Logged σ σ' l → R σ' l → Hide (K (.ret v) σ' l)) : roundX Tryz.prog y args σ K := by
 obtain ⟨e, σ', l, d, rfl, hr⟩ := h
 exact ⟨_, _, _, d, (k σ' l d.1 hr).out⟩
theorem callX.hidE {f : FuncId} {args : List Value} {σ : St} {R : AE → St → Log → Prop} {K : AE → St → Log → Prop} (h : callX Tryz.prog f args σ R) (k : ∀ e σ' l, Logged σ σ' l → R e σ' l → Hide (K e σ' l)) : callX Tryz.prog f args σ K :=
 callX.use h fun e σ' l h1 h2 => (k e σ' l h1 h2).out
attribute [go_sem] endRW_norm
end Go.Ab
namespace Go.Ab
open Go.Proofs
def lkV : List MapEntry → Int → Option Value
 | [], _ => none
 | e :: es, k => match e.key with
  | .int .i64 k' => if k' = k then some e.val else lkV es k
  | _ => lkV es k
structure KI (es : List MapEntry) : Prop where
 ints : ∀ e ∈ es, ∃ k, e.key = .int .i64 k
 nodup : es.Pairwise fun a b => a.key ≠ b.key
theorem KI.nil : KI [] := ⟨fun _ h => by simp at h, List.Pairwise.nil⟩
theorem KI.tail {e : MapEntry} {es : List MapEntry} (h : KI (e :: es)) : KI es := ⟨fun x hx => h.ints x (by simp [hx]), (List.pairwise_cons.1 h.nodup).2⟩
theorem findV_none {T : TT} {kt : TypeId} {kk : IntKind} (hu : T.und kt = some (.int kk)) {k : Int} : ∀ {es : List MapEntry} {i : Nat}, KI es → lkV es k = none → findA T kt (.int .i64 k) es i = some none
 | [], _, _, _ => rfl
 | e :: es, i, h, hk => by
  obtain ⟨k', h1⟩ := h.ints e (by simp)
  simp only [lkV, h1] at hk
  split at hk
  ·cases hk
  ·rename_i hne
   have : (k == k') = false := by
    simp only [beq_eq_false_iff_ne]; rintro rfl; exact hne rfl
   simp only [findA, keyEq, h1, hu, if_true, this]
   exact findV_none hu h.tail hk
theorem findV_some {T : TT} {kt : TypeId} {kk : IntKind} (hu : T.und kt = some (.int kk)) {k : Int} {v : Value} : ∀ {es : List MapEntry} {i : Nat}, KI es → lkV es k = some v → ∃ j e, findA T kt (.int .i64 k) es i = some (some (i + j, e)) ∧ e.val = v ∧ es[j]? = some e ∧ e.key = .int .i64 k
 | [], _, _, h => by cases h
 | e :: es, i, h, hk => by
  obtain ⟨k', h1⟩ := h.ints e (by simp)
  simp only [lkV, h1] at hk
  split at hk
  ·rename_i he
   subst he
   cases hk
   refine ⟨0, e, ?_, rfl, rfl, h1⟩
   simp [findA, keyEq, h1, hu]
  ·rename_i hne
   have : (k == k') = false := by
    simp only [beq_eq_false_iff_ne]; rintro rfl; exact hne rfl
   obtain ⟨j, e', a1, a2, a3, a4⟩ := findV_some hu (i := i + 1) h.tail hk
   refine ⟨j + 1, e', ?_, a2, by simpa using a3, a4⟩
   simp only [findA, keyEq, h1, hu, if_true, this, a1]
   congr 3
   omega
theorem lkV_none_key {k : Int} : ∀ {es : List MapEntry}, KI es → lkV es k = none → ∀ e ∈ es, e.key ≠ .int .i64 k
 | [], _, _, _, h => by cases h
 | x :: es, h, hk, e, he => by
  obtain ⟨k', h1⟩ := h.ints x (by simp)
  simp only [lkV, h1] at hk
  split at hk
  ·cases hk
  ·rename_i hne
   rcases List.mem_cons.1 he with rfl | he
   ·rw [h1]; intro e'; simp only [Value.int.injEq, true_and] at e'; exact hne e'
   ·exact lkV_none_key h.tail hk e he
theorem lkV_of_key {k : Int} : ∀ {es : List MapEntry}, KI es → ∀ e ∈ es, e.key = .int .i64 k → lkV es k = some e.val
 | [], _, _, h, _ => by cases h
 | x :: es, h, e, he, hk => by
  obtain ⟨k', h1⟩ := h.ints x (by simp)
  simp only [lkV, h1]
  rcases List.mem_cons.1 he with rfl | he
  ·rw [h1] at hk; cases hk; rw [if_pos rfl]
  ·have hne : k' ≠ k := fun e' => (List.pairwise_cons.1 h.nodup).1 e he (by rw [h1, hk, e'])
   rw [if_neg hne]
   exact lkV_of_key h.tail e he hk
theorem pushV_KI {es : List MapEntry} {k : Int} {v : Value} {c : Nat} (h : KI es) (hk : lkV es k = none) : KI (pushE es ⟨.int .i64 k, v, c⟩) := by
 rw [pushE_eq]
 refine ⟨fun e he => ?_, ?_⟩
 ·rcases List.mem_append.1 he with he | he
  ·exact h.ints e he
  ·simp only [List.mem_singleton] at he; subst he; exact ⟨k, rfl⟩
 ·rw [List.pairwise_append]
  exact ⟨h.nodup, by simp, fun a ha b hb => by simp only [List.mem_singleton] at hb; subst hb; exact lkV_none_key h hk a ha⟩
theorem pushV_lk {k : Int} {v : Value} {c : Nat} : ∀ {es : List MapEntry}, KI es → lkV es k = none → ∀ k', lkV (pushE es ⟨.int .i64 k, v, c⟩) k' = if k' = k then some v else lkV es k'
 | [], _, _, k' => by
  simp only [pushE, lkV]
  by_cases e : k = k'
  ·subst e; simp
  ·rw [if_neg e, if_neg (Ne.symm e)]
 | x :: es, h, hk, k' => by
  obtain ⟨kx, h1⟩ := h.ints x (by simp)
  have hne : kx ≠ k := fun e => lkV_none_key h hk x (by simp) (by rw [h1, e])
  have hk' : lkV es k = none := by
   simp only [lkV, h1, if_neg hne] at hk; exact hk
  simp only [pushE, lkV, h1]
  rw [pushV_lk h.tail hk' k']
  by_cases e : kx = k'
  ·subst e; rw [if_pos rfl, if_neg hne, if_pos rfl]
  ·rw [if_neg e, if_neg e]
theorem pushV_length {es : List MapEntry} {x : MapEntry} : (pushE es x).length = es.length + 1 := by rw [pushE_eq]; simp
theorem modV_keys {k : Int} {v : Value} {l : List MapEntry} : ∀ {i : Nat} {z : MapEntry}, l[i]? = some z → z.key = .int .i64 k → ∀ y ∈ modE l i (.int .i64 k) v, ∃ z ∈ l, z.key = y.key := by
 induction l with
 | nil => intro i z h; simp at h
 | cons w l ih =>
  intro i z hz hzk y hy
  cases i with
  | zero =>
   simp only [List.getElem?_cons_zero, Option.some.injEq] at hz
   subst hz
   simp only [modE, List.mem_cons] at hy
   rcases hy with rfl | hy
   ·exact ⟨w, by simp, hzk⟩
   ·exact ⟨y, by simp [hy], rfl⟩
  | succ i =>
   simp only [List.getElem?_cons_succ] at hz
   simp only [modE, List.mem_cons] at hy
   rcases hy with rfl | hy
   ·exact ⟨y, by simp, rfl⟩
   ·obtain ⟨z', a1, a2⟩ := ih hz hzk y hy
    exact ⟨z', by simp [a1], a2⟩
theorem modV_KI {k : Int} {v : Value} : ∀ {es : List MapEntry} {j : Nat} {e : MapEntry}, KI es → es[j]? = some e → e.key = .int .i64 k →
  KI (modE es j (.int .i64 k) v) ∧ ∀ k', lkV (modE es j (.int .i64 k) v) k' = if k' = k then some v else lkV es k'
 | [], _, _, _, h, _ => by simp at h
 | x :: es, 0, e, h, he, hk => by
  simp only [List.getElem?_cons_zero, Option.some.injEq] at he
  subst he
  simp only [modE]
  refine ⟨⟨fun y hy => ?_, ?_⟩, fun k' => ?_⟩
  ·rcases List.mem_cons.1 hy with rfl | hy
   ·exact ⟨k, rfl⟩
   ·exact h.ints y (by simp [hy])
  ·have := List.pairwise_cons.1 h.nodup
   refine List.pairwise_cons.2 ⟨fun y hy => ?_, this.2⟩
   have := this.1 y hy
   rw [hk] at this; exact this
  ·simp only [lkV, hk]
   by_cases e : k = k'
   ·subst e; simp
   ·rw [if_neg e, if_neg (Ne.symm e), if_neg e]
 | x :: es, j + 1, e, h, he, hk => by
  simp only [List.getElem?_cons_succ] at he
  obtain ⟨a, b⟩ := modV_KI h.tail he hk (v := v)
  obtain ⟨kx, h1⟩ := h.ints x (by simp)
  have hm : e ∈ es := List.mem_of_getElem? he
  have hne : kx ≠ k := fun e' => (List.pairwise_cons.1 h.nodup).1 e hm (by rw [h1, hk, e'])
  simp only [modE]
  refine ⟨⟨fun y hy => ?_, List.pairwise_cons.2 ⟨fun y hy hkey => ?_, a.nodup⟩⟩, fun k' => ?_⟩
  ·rcases List.mem_cons.1 hy with rfl | hy
   ·exact ⟨kx, h1⟩
   ·exact a.ints y hy
  ·obtain ⟨z, hz, hzk⟩ := modV_keys he hk y hy
   exact (List.pairwise_cons.1 h.nodup).1 z hz (by rw [hzk]; exact hkey)
  ·simp only [lkV, h1, b k']
   by_cases e : kx = k'
   ·subst e; rw [if_pos rfl, if_neg hne, if_pos rfl]
   ·rw [if_neg e, if_neg e]
theorem delE_sub : ∀ {l : List MapEntry} {i : Nat}, ∀ y ∈ delE l i, y ∈ l := by
 intro l
 induction l with
 | nil => intro i y hy; cases hy
 | cons w l ih =>
  intro i y hy
  cases i with
  | zero => simp only [delE] at hy; simp [hy]
  | succ i =>
   simp only [delE, List.mem_cons] at hy
   rcases hy with rfl | hy
   ·simp
   ·simp [ih y hy]
theorem delV_KI {k : Int} : ∀ {es : List MapEntry} {j : Nat} {e : MapEntry}, KI es → es[j]? = some e → e.key = .int .i64 k →
  KI (delE es j) ∧ ∀ k', lkV (delE es j) k' = if k' = k then none else lkV es k'
 | [], _, _, _, h, _ => by simp at h
 | x :: es, 0, e, h, he, hk => by
  simp only [List.getElem?_cons_zero, Option.some.injEq] at he
  subst he
  simp only [delE]
  refine ⟨h.tail, fun k' => ?_⟩
  simp only [lkV, hk]
  by_cases e : k = k'
  ·subst e
   rw [if_pos rfl]
   cases hl : lkV es k with
   | none => rfl
   | some v =>
    obtain ⟨j, y, _, _, hy, hyk⟩ := findV_some (T := ⟨fun _ => some { (default : TypeInfo) with desc := .int .i64 }, fun _ => none, fun _ => none⟩) (kt := 0) (kk := .i64) rfl (i := 0) h.tail hl
    exact absurd (hk.trans hyk.symm) ((List.pairwise_cons.1 h.nodup).1 y (List.mem_of_getElem? hy))
  ·rw [if_neg (Ne.symm e), if_neg e]
 | x :: es, j + 1, e, h, he, hk => by
  simp only [List.getElem?_cons_succ] at he
  obtain ⟨a, b⟩ := delV_KI h.tail he hk
  obtain ⟨kx, h1⟩ := h.ints x (by simp)
  have hm : e ∈ es := List.mem_of_getElem? he
  have hne : kx ≠ k := fun e' => (List.pairwise_cons.1 h.nodup).1 e hm (by rw [h1, hk, e'])
  simp only [delE]
  refine ⟨⟨fun y hy => ?_, List.pairwise_cons.2 ⟨fun y hy => (List.pairwise_cons.1 h.nodup).1 y (delE_sub y hy), a.nodup⟩⟩, fun k' => ?_⟩
  ·rcases List.mem_cons.1 hy with rfl | hy
   ·exact ⟨kx, h1⟩
   ·exact a.ints y hy
  ·simp only [lkV, h1, b k']
   by_cases e : kx = k'
   ·subst e; rw [if_pos rfl, if_neg hne, if_pos rfl]
   ·rw [if_neg e, if_neg e]
theorem delV_length {es : List MapEntry} : ∀ {j : Nat} {e : MapEntry}, es[j]? = some e → (delE es j).length + 1 = es.length := by
 induction es with
 | nil => intro j e h; simp at h
 | cons x es ih =>
  intro j e h
  cases j with
  | zero => simp [delE]
  | succ j => simp only [List.getElem?_cons_succ] at h; simp [delE, ih h]
def Br (es : List MapEntry) (ck : Nat) : Prop := es.Pairwise (fun a b => a.born < b.born) ∧ ∀ e ∈ es, e.born < ck
theorem Br.nil (ck : Nat) : Br [] ck := ⟨List.Pairwise.nil, fun _ h => by simp at h⟩
theorem Br.push {es : List MapEntry} {ck : Nat} (h : Br es ck) (k v : Value) : Br (pushE es ⟨k, v, ck⟩) (ck + 1) := by
 rw [pushE_eq]
 refine ⟨List.pairwise_append.2 ⟨h.1, by simp, fun a ha b hb => ?_⟩, fun e he => ?_⟩
 ·simp only [List.mem_singleton] at hb; subst hb; exact h.2 a ha
 ·rcases List.mem_append.1 he with he | he
  ·have := h.2 e he; omega
  ·simp only [List.mem_singleton] at he; subst he; exact Nat.lt_succ_self _
theorem Br.delP : ∀ {es : List MapEntry} {j : Nat}, es.Pairwise (fun a b => a.born < b.born) → (delE es j).Pairwise fun a b => a.born < b.born
 | [], _, _ => List.Pairwise.nil
 | _ :: _, 0, h => (List.pairwise_cons.1 h).2
 | _ :: _, _ + 1, h => List.pairwise_cons.2 ⟨fun y hy => (List.pairwise_cons.1 h).1 y (delE_sub y hy), Br.delP (List.pairwise_cons.1 h).2⟩
theorem Br.del {es : List MapEntry} {ck j : Nat} (h : Br es ck) : Br (delE es j) ck := ⟨Br.delP h.1, fun e he => h.2 e (delE_sub e he)⟩
def MapAt (σ : St) (m : Nat) (f : Int → Option Value) (n : Nat) : Prop := ∃ es ck, σ.get m = some (.map es ck) ∧ KI es ∧ (∀ k, lkV es k = f k) ∧ es.length = n ∧ Br es ck
theorem MapAt.keep {σ σ' : St} {m : Nat} {f : Int → Option Value} {n : Nat} (h : MapAt σ m f n) (hg : σ'.get m = σ.get m) : MapAt σ' m f n :=
 let ⟨es, ck, a, b⟩ := h
 ⟨es, ck, hg.trans a, b⟩
end Go.Ab
namespace Go.Ab
open Go.Proofs
theorem make1_call {p q : Nat} {n d : Int} {σ : St} (hp : p < σ.next) (hq : q < σ.next) (gp : σ.get p = some (.cells [.int .i64 d] false)) (gq : σ.get q = some (.cells [.int .i64 n] false)) (h1 : 0 ≤ n) (h2 : n ≤ 9223372036854775807) (h3 : 0 < d) (h4 : d ≤ 9223372036854775807) :
  callX Tryz.prog 54 [.pointer (some ⟨p, 0, none⟩), .pointer (some ⟨q, 0, none⟩)] σ (Ans σ (.agg ⟨[.int .i64 (n / (Int.gcd n d : Int)), .int .i64 (d / (Int.gcd n d : Int))]⟩)) := by
 have o1 : okI n = true := by simp [okI]; omega
 have o2 : okI d = true := by simp [okI]; omega
 have n1 : (n.natAbs : Int) = n := by omega
 have n2 : (d.natAbs : Int) = d := by omega
 have e1 : (d != 0) = true := by simp; omega
 have e2 : ¬ n < 0 := by omega
 have e3 : ¬ d < 0 := by omega
 refine Ans.of (enter (p := q8) Tryz.func54 rfl stat54 ?_)
 simp only [go_sem, seval, if_pos rfl, opLen, callW, q8, p8, p7, p6, p5, p4, p3, p2, p1, Tryz.f54, gp, gq, hp, hq, o1, o2, n1, n2, e1, e2, e3, Tryz.underlying2, info2, Tryz.t2, Tryz.underlying4, info4, Tryz.t4, Tryz.underlying30, info30, Tryz.t30, Tryz.underlying24, info24, Tryz.t24, Tryz.underlying119, info119, Tryz.t119, body57, body55, body56]
 refine .of (made_call n d false _ h1 h2 h3 h4) ?_
 simp only [go_sem, seval, if_pos rfl, opLen, hp, hq, Tryz.underlying2, info2, Tryz.t2, Tryz.underlying4, info4, Tryz.t4, Tryz.underlying30, info30, Tryz.t30, Tryz.underlying24, info24, Tryz.t24, Tryz.underlying119, info119, Tryz.t119]
theorem make_call (n d : Int) (σ : St) (h1 : 0 ≤ n) (h2 : n ≤ 9223372036854775807) (h3 : 0 < d) (h4 : d ≤ 9223372036854775807) :
  DCall Tryz.prog 30 [.int .i64 n, .int .i64 d] σ (.ret (.tuple ⟨[.agg ⟨[.int .i64 (n / (Int.gcd n d : Int)), .int .i64 (d / (Int.gcd n d : Int))]⟩, .int .i64 0]⟩)) σ [] := by
 refine pure_call (enter (p := q8) Tryz.func30 rfl stat30 ?_) rfl
 simp only [go_sem, seval, if_pos rfl, opLen, callW, q8, p8, p7, p6, p5, p4, p3, p2, p1, Tryz.f30, Tryz.underlying2, info2, Tryz.t2, Tryz.underlying4, info4, Tryz.t4, Tryz.underlying30, info30, Tryz.t30, Tryz.underlying24, info24, Tryz.t24, Tryz.underlying31, info31, Tryz.t31, Tryz.underlying119, info119, Tryz.t119, Tryz.underlying121, info121, Tryz.t121, body53, body54]
 refine .of (try_rat body54 (make1_call (n := n) (d := d) ?_ ?_ ?_ ?_ h1 h2 h3 h4)) ?_
 ·simp only [go_sem, seval, if_pos rfl, opLen]
 ·simp only [go_sem, seval, if_pos rfl, opLen]
 ·simp only [go_sem, seval, if_pos rfl, opLen]
 ·simp only [go_sem, seval, if_pos rfl, opLen]
 ·simp only [go_sem, seval, if_pos rfl, opLen, Tryz.underlying2, info2, Tryz.t2, Tryz.underlying4, info4, Tryz.t4, Tryz.underlying30, info30, Tryz.t30, Tryz.underlying24, info24, Tryz.t24, Tryz.underlying31, info31, Tryz.t31, Tryz.underlying119, info119, Tryz.t119, Tryz.underlying121, info121, Tryz.t121]
set_option maxRecDepth 20000 in
theorem first1_call {p q b : Nat} {n₁ d₁ n₂ d₂ : Int} {σ : St} (hp : p < σ.next) (hq : q < σ.next) (hb : b < σ.next) (gp : σ.get p = some (.cells [.slice (some ⟨b, 0, some 0⟩) 2 2] false)) (gq : σ.get q = some (.cells [.func (.func 51) ⟨[]⟩ ⟨[]⟩] false))
  (gb : σ.get b = some (.cells [.int .i64 n₁, .int .i64 d₁, .int .i64 n₂, .int .i64 d₂] false)) (h1 : okR n₁ d₁ = true) (h2 : okR n₂ d₂ = true) :
  callX Tryz.prog 76 [.pointer (some ⟨p, 0, none⟩), .pointer (some ⟨q, 0, none⟩)] σ (Ans σ (.agg ⟨if 0 < cmpR n₂ d₂ n₁ d₁ then [.int .i64 n₂, .int .i64 d₂] else [.int .i64 n₁, .int .i64 d₁]⟩)) := by
 have k1 := h1
 have k2 := h2
 simp only [okR, Bool.and_eq_true, decide_eq_true_eq] at k1 k2
 refine Ans.of (enter (p := q8) Tryz.func76 rfl stat76 ?_)
 simp only [go_sem, seval, if_pos rfl, opLen, callW, q8, p8, p7, p6, p5, p4, p3, p2, p1, opLen, Tryz.f76, gp, gq, gb, hp, hq, hb, h1, h2, Tryz.underlying2, info2, Tryz.t2, Tryz.underlying3, info3, Tryz.t3, Tryz.underlying4, info4, Tryz.t4, Tryz.underlying112, info112, Tryz.t112, Tryz.underlying30, info30, Tryz.t30, Tryz.underlying24, info24, Tryz.t24, Tryz.underlying115, info115, Tryz.t115, body57, body55, body56, body77]
 refine .of (both_call b n₁ d₁ n₂ d₂ _ ?_ ?_ k1.1.1 k1.1.2 k2.1.1 k2.1.2 k1.2 k2.2) ?_
 ·simp only [go_sem, seval, if_pos rfl, opLen, hb]
 ·simp only [go_sem, seval, if_pos rfl, opLen, gb, hb]
 simp only [go_sem, seval, if_pos rfl, opLen, callW, q8, p8, p7, p6, p5, p4, p3, p2, p1, gp, gq, gb, hp, hq, hb, h1, h2, Tryz.underlying2, info2, Tryz.t2, Tryz.underlying3, info3, Tryz.t3, Tryz.underlying4, info4, Tryz.t4, Tryz.underlying112, info112, Tryz.t112, Tryz.underlying30, info30, Tryz.t30, Tryz.underlying24, info24, Tryz.t24, Tryz.underlying115, info115, Tryz.t115, body57, body55, body56, body77]
 refine turn q8 76 (by kernel_rfl) ?_
 have n1 : Int.toNat 1 = 1 := rfl
 have n2 : Int.toNat 0 = 0 := rfl
 simp only [go_sem, seval, if_pos rfl, opLen, callW, q8, p8, p7, p6, p5, p4, p3, p2, p1, n1, n2, gp, gq, gb, hp, hq, hb, h1, h2, Tryz.underlying2, info2, Tryz.t2, Tryz.underlying3, info3, Tryz.t3, Tryz.underlying4, info4, Tryz.t4, Tryz.underlying112, info112, Tryz.t112, Tryz.underlying30, info30, Tryz.t30, Tryz.underlying24, info24, Tryz.t24, Tryz.underlying115, info115, Tryz.t115, body51, body55, body56, body77]
 refine enter (p := q8) Tryz.func51 rfl stat51 ?_
 simp only [go_sem, seval, if_pos rfl, opLen, callW, q8, p8, p7, p6, p5, p4, p3, p2, p1, Tryz.f51, gp, gq, gb, hp, hq, hb, h1, h2, Tryz.underlying2, info2, Tryz.t2, Tryz.underlying3, info3, Tryz.t3, Tryz.underlying4, info4, Tryz.t4, Tryz.underlying112, info112, Tryz.t112, Tryz.underlying30, info30, Tryz.t30, Tryz.underlying24, info24, Tryz.t24, Tryz.underlying115, info115, Tryz.t115, body51, body52, body55, body56, body77]
 split <;> rename_i hc
 ·refine turn q8 76 (by kernel_rfl) ?_
  simp only [go_sem, seval, if_pos rfl, opLen, callW, q8, p8, p7, p6, p5, p4, p3, p2, p1, gp, gq, gb, hp, hq, hb, h1, h2, hc, Tryz.underlying2, info2, Tryz.t2, Tryz.underlying3, info3, Tryz.t3, Tryz.underlying4, info4, Tryz.t4, Tryz.underlying112, info112, Tryz.t112, Tryz.underlying30, info30, Tryz.t30, Tryz.underlying24, info24, Tryz.t24, Tryz.underlying115, info115, Tryz.t115, body51, body55, body56, body77]
 ·refine turn q8 76 (by kernel_rfl) ?_
  simp only [go_sem, seval, if_pos rfl, opLen, callW, q8, p8, p7, p6, p5, p4, p3, p2, p1, gp, gq, gb, hp, hq, hb, h1, h2, hc, Tryz.underlying2, info2, Tryz.t2, Tryz.underlying3, info3, Tryz.t3, Tryz.underlying4, info4, Tryz.t4, Tryz.underlying112, info112, Tryz.t112, Tryz.underlying30, info30, Tryz.t30, Tryz.underlying24, info24, Tryz.t24, Tryz.underlying115, info115, Tryz.t115, body51, body55, body56, body77]
theorem greatest_call {b : Nat} {n₁ d₁ n₂ d₂ : Int} {σ : St} (hb : b < σ.next) (gb : σ.get b = some (.cells [.int .i64 n₁, .int .i64 d₁, .int .i64 n₂, .int .i64 d₂] false)) (h1 : okR n₁ d₁ = true) (h2 : okR n₂ d₂ = true) :
  DCall Tryz.prog 29 [.slice (some ⟨b, 0, some 0⟩) 2 2] σ (.ret (.tuple ⟨[if 0 < cmpR n₂ d₂ n₁ d₁ then .agg ⟨[.int .i64 n₂, .int .i64 d₂]⟩ else .agg ⟨[.int .i64 n₁, .int .i64 d₁]⟩, .int .i64 0]⟩)) σ [] := by
 refine pure_call (enter (p := q8) Tryz.func29 rfl stat29 ?_) (by split <;> rfl)
 simp only [go_sem, seval, if_pos rfl, opLen, callW, q8, p8, p7, p6, p5, p4, p3, p2, p1, Tryz.f29, gb, hb, Tryz.underlying2, info2, Tryz.t2, Tryz.underlying4, info4, Tryz.t4, Tryz.underlying112, info112, Tryz.t112, Tryz.underlying30, info30, Tryz.t30, Tryz.underlying24, info24, Tryz.t24, Tryz.underlying31, info31, Tryz.t31, Tryz.underlying119, info119, Tryz.t119, Tryz.underlying115, info115, Tryz.t115, body50, body51]
 refine enter (p := q8) Tryz.func50 rfl stat50 ?_
 simp only [go_sem, seval, if_pos rfl, opLen, callW, q8, p8, p7, p6, p5, p4, p3, p2, p1, Tryz.f50, gb, hb, Tryz.underlying2, info2, Tryz.t2, Tryz.underlying4, info4, Tryz.t4, Tryz.underlying112, info112, Tryz.t112, Tryz.underlying30, info30, Tryz.t30, Tryz.underlying24, info24, Tryz.t24, Tryz.underlying31, info31, Tryz.t31, Tryz.underlying119, info119, Tryz.t119, Tryz.underlying115, info115, Tryz.t115, Tryz.underlying121, info121, Tryz.t121, body53, body76]
 by_cases hc : 0 < cmpR n₂ d₂ n₁ d₁
 ·refine .of (try_rat (n := n₂) (d := d₂) body76 ?_) ?_
  ·have key := first1_call (σ := ((((((σ.new (.cells [.int .i64 0, .int .i64 0] false)).new (.cells [.slice (some ⟨b, 0, some 0⟩) 2 2] false)).new (.cells [.func (.func 51) ⟨[]⟩ ⟨[]⟩] false)).new (.cells [.int .i64 0, .int .i64 0] false)).new (.cells [.int .i64 0, .int .i64 0] false)).new (.cells [.int .i64 0] false))) (p := σ.next + 1) (q := σ.next + 2) (b := b)
    (by simp only [go_sem, seval, if_pos rfl, opLen]) (by simp only [go_sem, seval, if_pos rfl, opLen]) (by simp only [go_sem, seval, if_pos rfl, opLen, hb]) (by simp only [go_sem, seval, if_pos rfl, opLen]) (by simp only [go_sem, seval, if_pos rfl, opLen]) (by simp only [go_sem, seval, if_pos rfl, opLen, hb, gb]) h1 h2
   rw [if_pos hc] at key
   exact key
  ·simp only [go_sem, seval, if_pos rfl, opLen, hc, Tryz.underlying2, info2, Tryz.t2, Tryz.underlying4, info4, Tryz.t4, Tryz.underlying112, info112, Tryz.t112, Tryz.underlying30, info30, Tryz.t30, Tryz.underlying24, info24, Tryz.t24, Tryz.underlying31, info31, Tryz.t31, Tryz.underlying119, info119, Tryz.t119, Tryz.underlying115, info115, Tryz.t115, Tryz.underlying121, info121, Tryz.t121]
 ·refine .of (try_rat (n := n₁) (d := d₁) body76 ?_) ?_
  ·have key := first1_call (σ := ((((((σ.new (.cells [.int .i64 0, .int .i64 0] false)).new (.cells [.slice (some ⟨b, 0, some 0⟩) 2 2] false)).new (.cells [.func (.func 51) ⟨[]⟩ ⟨[]⟩] false)).new (.cells [.int .i64 0, .int .i64 0] false)).new (.cells [.int .i64 0, .int .i64 0] false)).new (.cells [.int .i64 0] false))) (p := σ.next + 1) (q := σ.next + 2) (b := b)
    (by simp only [go_sem, seval, if_pos rfl, opLen]) (by simp only [go_sem, seval, if_pos rfl, opLen]) (by simp only [go_sem, seval, if_pos rfl, opLen, hb]) (by simp only [go_sem, seval, if_pos rfl, opLen]) (by simp only [go_sem, seval, if_pos rfl, opLen]) (by simp only [go_sem, seval, if_pos rfl, opLen, hb, gb]) h1 h2
   rw [if_neg hc] at key
   exact key
  ·simp only [go_sem, seval, if_pos rfl, opLen, hc, Tryz.underlying2, info2, Tryz.t2, Tryz.underlying4, info4, Tryz.t4, Tryz.underlying112, info112, Tryz.t112, Tryz.underlying30, info30, Tryz.t30, Tryz.underlying24, info24, Tryz.t24, Tryz.underlying31, info31, Tryz.t31, Tryz.underlying119, info119, Tryz.t119, Tryz.underlying115, info115, Tryz.t115, Tryz.underlying121, info121, Tryz.t121]
end Go.Ab
namespace Go.Ab
open Go.Proofs
def HX (σ : St) (h m : Nat) (A : List Nat) (L : List Item) (t : Int) : Prop :=
 (L = [] ∧ A = [] ∧ HE σ h m t) ∨ ∃ a cap, A = [a] ∧ HI σ h a m L cap t
theorem HX.keep {σ σ' : St} {h m : Nat} {A : List Nat} {L : List Item} {t : Int} (H : HX σ h m A L t) (hn : σ.next ≤ σ'.next) (hg : ∀ c ∈ h :: m :: A, σ'.get c = σ.get c) : HX σ' h m A L t := by
 rcases H with ⟨rfl, rfl, H⟩ | ⟨a, cap, rfl, H⟩
 ·obtain ⟨ck, gm⟩ := H.gm
  exact .inl ⟨rfl, rfl, ⟨(hg _ (by simp)).trans H.gh, ⟨ck, (hg _ (by simp)).trans gm⟩, H.ne, by have := H.lt; omega⟩⟩
 ·obtain ⟨f, H1, hi⟩ := H.hs
  obtain ⟨G, ga, hG⟩ := H1.ga
  obtain ⟨es, ck, gm, hkv⟩ := H1.gm
  exact .inr ⟨a, cap, rfl, ⟨⟨f, ⟨(hg _ (by simp)).trans H1.gh, ⟨G, (hg _ (by simp)).trans ga, hG⟩, ⟨es, ck, (hg _ (by simp)).trans gm, hkv⟩, H1.ne, by have := H1.lt; omega⟩, hi⟩, H.ok, H.small⟩⟩
theorem HX.toV {σ : St} {h m : Nat} {A : List Nat} {L : List Item} {t : Int} (H : HX σ h m A L t) : HV σ 0 h m L t := by
 refine ⟨Nat.zero_le _, Nat.zero_le _, Nat.zero_le _, ?_⟩
 rcases H with ⟨rfl, rfl, H⟩ | ⟨a, cap, rfl, H⟩
 ·exact .inl ⟨rfl, H⟩
 ·exact .inr ⟨a, cap, Nat.zero_le _, H⟩
theorem HX.lt {σ : St} {h m : Nat} {A : List Nat} {L : List Item} {t : Int} (H : HX σ h m A L t) : ∀ c ∈ h :: m :: A, c < σ.next := by
 rcases H with ⟨rfl, rfl, H⟩ | ⟨a, cap, rfl, H⟩
 ·have := H.lt
  intro c hc; simp at hc; omega
 ·obtain ⟨f, H1, hi⟩ := H.hs
  have := H1.lt
  intro c hc; simp at hc; omega
theorem HX.nodup {σ : St} {h m : Nat} {A : List Nat} {L : List Item} {t : Int} (H : HX σ h m A L t) : A.Nodup := by
 rcases H with ⟨_, rfl, _⟩ | ⟨a, cap, rfl, _⟩ <;> simp
theorem HX.put {σ : St} {h m : Nat} {A : List Nat} {L : List Item} {t : Int} (H : HX σ h m A L t) (id kn kd : Int) (h0 : 0 ≤ id) (h1 : id ≤ 4611686018427387904) (hk : okR kn kd = true) (ht : 0 ≤ t) (ht1 : t < 1000000) (hnew : ∀ y ∈ L, y.id ≠ id) (hsm : L.length < 1000) :
  callX Tryz.prog 32 [.pointer (some ⟨h, 0, none⟩), .int .i64 id, .agg ⟨[.int .i64 kn, .int .i64 kd]⟩] σ fun e σ' l => e = .ret (.int .i64 0) ∧ ((∀ c ∈ l, c ∈ h :: m :: A ∨ σ.next ≤ c) ∧
   ∃ A', (∀ c ∈ A', c ∈ A ∨ σ.next ≤ c) ∧ HX σ' h m A' (riseL (L.length + 1) (L ++ [⟨id, kn, kd, t + 1⟩]) L.length) (t + 1)) := by
 rcases H with ⟨rfl, rfl, H⟩ | ⟨a, cap, rfl, H⟩
 ·obtain ⟨σ', a, d, H', ha⟩ := put_first H id kn kd h0 h1 hk ht ht1
  exact .of d ⟨rfl, fun c hc => .inl hc, [a], fun c hc => by simp at hc; omega, .inr ⟨a, 1, rfl, by simpa [riseL] using H'⟩⟩
 ·have hcap : L.length ≤ cap := by
   obtain ⟨f, H1, _⟩ := H.hs
   obtain ⟨G, _, hG⟩ := H1.ga
   omega
  by_cases hc : L.length + 1 ≤ cap
  ·obtain ⟨σ', d, H', nx, _⟩ := put_in H id kn kd h0 h1 hk ht ht1 hnew hsm hc
   exact .of d ⟨rfl, fun c hc => .inl (by simp at hc ⊢; omega), [a], fun c hc => .inl hc, .inr ⟨a, cap, rfl, H'⟩⟩
  ·obtain ⟨σ', d, H', nx, _⟩ := put_move H id kn kd h0 h1 hk ht ht1 hnew hsm (by omega)
   exact .of d ⟨rfl, fun c hc => .inl (by simp at hc ⊢; omega), [σ.next + 2], fun c hc => by simp at hc; omega, .inr ⟨_, _, rfl, H'⟩⟩
theorem HX.take {σ : St} {h m : Nat} {A : List Nat} {L : List Item} {t : Int} (H : HX σ h m A L t) {x : Item} (hx : L[0]? = some x) :
  callX Tryz.prog 65 [.pointer (some ⟨h, 0, none⟩)] σ fun e σ' l => e = .ret (.tuple ⟨[.agg ⟨[.int .i64 x.id, .int .i64 x.n, .int .i64 x.d, .int .i64 x.turn]⟩, .bool true]⟩) ∧ ((∀ c ∈ l, c ∈ h :: m :: A ∨ σ.next ≤ c) ∧ HX σ' h m A (outL L 0) t) := by
 rcases H with ⟨rfl, rfl, H⟩ | ⟨a, cap, rfl, H⟩
 ·simp at hx
 ·obtain ⟨σ', d, b3, b4, _⟩ := take_call H hx
  exact .of d ⟨rfl, fun c hc => .inl (by simp at hc ⊢; omega), .inr ⟨a, cap, rfl, b3⟩⟩
structure FlowV where
 blk : Nat
 rate : Int
 room : Int
 bytes : Int
 n : Int
 d : Int
def FlowV.cells (x : FlowV) (k : Int) : List Value := [.int .i64 k, .int .i64 x.rate, .int .i64 x.room, .int .i64 x.bytes, .int .i64 x.n, .int .i64 x.d]
def ptrOf (x : FlowV) : Value := .pointer (some ⟨x.blk, 0, none⟩)
def packOf (k : Int) (x : Int × Int) : Value := .agg ⟨[.int .i64 k, .int .i64 x.1, .int .i64 x.2]⟩
def updF {α : Type} (F : Int → Option α) (k : Int) (x : Option α) : Int → Option α := fun k' => if k' = k then x else F k'
structure QB where
 q : Nat
 fm : Nat
 pm : Nat
 h : Nat
 m : Nat
 A : List Nat
def QB.core (b : QB) : List Nat := b.q :: b.fm :: b.pm :: b.h :: b.m :: b.A
structure QV where
 F : Int → Option FlowV
 nf : Nat
 P : Int → Option (Int × Int)
 np : Nat
 L : List Item
 t : Int
structure QAt (σ : St) (b : QB) (Q : QV) : Prop where
 gq : σ.get b.q = some (.cells [.pointer (some ⟨b.h, 0, none⟩), .map (some b.fm), .map (some b.pm)] false)
 hx : HX σ b.h b.m b.A Q.L Q.t
 mf : MapAt σ b.fm (fun k => (Q.F k).map ptrOf) Q.nf
 mp : MapAt σ b.pm (fun k => (Q.P k).map (packOf k)) Q.np
 fl : ∀ k x, Q.F k = some x → σ.get x.blk = some (.cells (x.cells k) false) ∧ x.blk < σ.next ∧ x.blk ∉ b.core
 inj : ∀ k k' x x', Q.F k = some x → Q.F k' = some x' → x.blk = x'.blk → k = k'
 nodup : b.core.Nodup
 lt : ∀ c ∈ b.core, c < σ.next
def Foot (b : QB) (Q : QV) (c : Nat) : Prop := c ∈ b.core ∨ ∃ k x, Q.F k = some x ∧ x.blk = c
theorem QAt.keep {σ σ' : St} {b : QB} {Q : QV} (h : QAt σ b Q) (hn : σ.next ≤ σ'.next) (hg : ∀ c, Foot b Q c → σ'.get c = σ.get c) : QAt σ' b Q := by
  have hc : ∀ c ∈ b.core, σ'.get c = σ.get c := fun c hc => hg c (.inl hc)
  exact { gq := (hc _ (by simp [QB.core])).trans h.gq
          hx := h.hx.keep hn fun c hm => hc c (by simp [QB.core] at hm ⊢; rcases hm with h | h | h <;> simp [h])
          mf := h.mf.keep (hc _ (by simp [QB.core]))
          mp := h.mp.keep (hc _ (by simp [QB.core]))
          fl := fun k x hx => ⟨(hg _ (.inr ⟨k, x, hx, rfl⟩)).trans (h.fl k x hx).1, by have := (h.fl k x hx).2.1; omega, (h.fl k x hx).2.2⟩
          inj := h.inj
          nodup := h.nodup
          lt := fun c hc => by have := h.lt c hc; omega }
structure QNe (b : QB) : Prop where
 q_fm : b.q ≠ b.fm
 q_pm : b.q ≠ b.pm
 q_h : b.q ≠ b.h
 q_m : b.q ≠ b.m
 fm_pm : b.fm ≠ b.pm
 fm_h : b.fm ≠ b.h
 fm_m : b.fm ≠ b.m
 pm_h : b.pm ≠ b.h
 pm_m : b.pm ≠ b.m
 h_m : b.h ≠ b.m
 A : ∀ c ∈ b.A, c ≠ b.q ∧ c ≠ b.fm ∧ c ≠ b.pm ∧ c ≠ b.h ∧ c ≠ b.m
theorem QAt.ne {σ : St} {b : QB} {Q : QV} (H : QAt σ b Q) : QNe b := by
 have n := H.nodup
 simp only [QB.core, List.nodup_cons, List.mem_cons, not_or] at n
 obtain ⟨⟨a1, a2, a3, a4, a5⟩, ⟨b1, b2, b3, b4⟩, ⟨c1, c2, c3⟩, ⟨d1, d2⟩, e1, _⟩ := n
 exact ⟨a1, a2, a3, a4, b1, b2, b3, c1, c2, d1, fun c hc => ⟨fun e => a5 (e ▸ hc), fun e => b4 (e ▸ hc), fun e => c3 (e ▸ hc), fun e => d2 (e ▸ hc), fun e => e1 (e ▸ hc)⟩⟩
theorem QNe.core {b : QB} (h : QNe b) {A : List Nat} {n : Nat} (hA : ∀ c ∈ A, c ∈ b.A ∨ n ≤ c) (hlt : ∀ c ∈ b.core, c < n) (hn : A.Nodup) : ({ b with A := A } : QB).core.Nodup := by
 have l1 := hlt b.q (by simp [QB.core])
 have l2 := hlt b.fm (by simp [QB.core])
 have l3 := hlt b.pm (by simp [QB.core])
 have l4 := hlt b.h (by simp [QB.core])
 have l5 := hlt b.m (by simp [QB.core])
 have nA : ∀ c ∈ A, c ≠ b.q ∧ c ≠ b.fm ∧ c ≠ b.pm ∧ c ≠ b.h ∧ c ≠ b.m := fun c hc => by
  rcases hA c hc with h1 | h1
  ·exact h.A c h1
  ·omega
 simp only [QB.core, List.nodup_cons, List.mem_cons, not_or]
 exact ⟨⟨h.q_fm, h.q_pm, h.q_h, h.q_m, fun hm => (nA _ hm).1 rfl⟩, ⟨h.fm_pm, h.fm_h, h.fm_m, fun hm => (nA _ hm).2.1 rfl⟩, ⟨h.pm_h, h.pm_m, fun hm => (nA _ hm).2.2.1 rfl⟩, ⟨h.h_m, fun hm => (nA _ hm).2.2.2.1 rfl⟩, fun hm => (nA _ hm).2.2.2.2 rfl, hn⟩
theorem updF_same {α : Type} (F : Int → Option α) (k : Int) (x : Option α) : updF F k x k = x := by simp [updF]
theorem updF_other {α : Type} (F : Int → Option α) {k k' : Int} (x : Option α) (h : k' ≠ k) : updF F k x k' = F k' := by simp [updF, h]
end Go.Ab
namespace Go.Ab
open Go.Proofs
noncomputable def cE : Cx := withExt (cP Tryz.prog) extAt
theorem cE_ok : cE.Ok Tryz.prog := withExt_ok cP_ok extAt_ok
theorem cE_und (t : TypeId) : cE.T.und t = (cP Tryz.prog).T.und t := withExt_und _ _ t
theorem cE_info (t : TypeId) : cE.T.info t = (cP Tryz.prog).T.info t := withExt_info _ _ t
theorem cE_flat (t : TypeId) : cE.T.flat t = (cP Tryz.prog).T.flat t := withExt_flat _ _ t
theorem cE_bodies (g : FuncId) : cE.bodies g = (cP Tryz.prog).bodies g := withExt_bodies _ _ g
theorem ext142is : extAt 97 = some .add64 := by kernel_rfl
theorem cE_ext142 : cE.T.ext 97 = some .add64 := (withExt_ext _ _ 97).trans ext142is
theorem nobody142 : (cP Tryz.prog).bodies 97 = false := by kernel_rfl
theorem plus_call (a b : Nat) (σ : St) (h : a + b < 18446744073709551616) : DCall Tryz.prog 84 [.agg ⟨[.int .u64 0, .int .u64 a]⟩, .agg ⟨[.int .u64 0, .int .u64 b]⟩] σ (.ret (.agg ⟨[.int .u64 0, .int .u64 ((a + b : Nat) : Int)]⟩)) σ [] := by
 have e6 : ((a + b : Nat) : Int) = (a : Int) + b := by omega
 have e7 : ((a : Int) + b) / 18446744073709551616 = 0 := by omega
 have e8 : ((a : Int) + b) % 18446744073709551616 = (a : Int) + b := by omega
 have a0 : (0 : Int) ≤ a := by omega
 have b0 : (0 : Int) ≤ b := by omega
 rw [e6]
 refine pure_call (callX.enter (p := q8) (bt := btAll 84) cE_ok mixed Tryz.func84 rfl stat84 ?_) rfl
 simp only [go_sem, seval, if_pos rfl, opLen, cE_und, cE_info, cE_flat, cE_bodies, cE_ext142, nobody142, extA, a0, b0, e7, e8, Int.add_zero, Int.zero_add, Int.zero_emod, Tryz.f84, Tryz.underlying4, info4, Tryz.t4, Tryz.underlying119, info119, Tryz.t119, Tryz.underlying139, info139, Tryz.t139, Tryz.underlying140, info140, Tryz.t140, Tryz.underlying148, info148, Tryz.t148]
theorem div64_call (lo y : Nat) (σ : St) (h1 : lo < 18446744073709551616) (h2 : 0 < y) (h3 : y < 18446744073709551616) : DCall Tryz.prog 100 [.int .u64 0, .int .u64 lo, .int .u64 y] σ (.ret (.tuple ⟨[.int .u64 ((lo / y : Nat) : Int), .int .u64 ((lo % y : Nat) : Int)]⟩)) σ [] := by
 have e0 : ((y : Int) == 0) = false := by simp; omega
 have e1 : ¬ (y : Int) ≤ 0 := by omega
 have e2 : ¬ (y : Int) = 0 := by omega
 have t1 : (lo : Int).tdiv y = ((lo / y : Nat) : Int) := by rw [Int.tdiv_eq_ediv_of_nonneg (by omega)]; rfl
 have t2 : (lo : Int).tmod y = ((lo % y : Nat) : Int) := by rw [Int.tmod_eq_emod_of_nonneg (by omega)]; rfl
 have l1 : lo / y ≤ lo := Nat.div_le_self _ _
 have w1 : IntKind.u64.wrap ((lo / y : Nat) : Int) = ((lo / y : Nat) : Int) := wrapUN (by omega)
 have w2 : IntKind.u64.wrap ((lo % y : Nat) : Int) = ((lo % y : Nat) : Int) := wrapUN (by have := Nat.mod_le lo y; omega)
 refine pure_call (enter (p := q8) Tryz.func100 rfl stat100 ?_) rfl
 simp only [go_sem, seval, if_pos rfl, opLen, e0, e1, e2, t1, t2, w1, w2, Tryz.f100, Tryz.underlying4, info4, Tryz.t4, Tryz.underlying119, info119, Tryz.t119, Tryz.underlying139, info139, Tryz.t139, Tryz.underlying140, info140, Tryz.t140, Tryz.underlying148, info148, Tryz.t148, Tryz.underlying164, info164, Tryz.t164, Tryz.underlying167, info167, Tryz.t167]
theorem left_call (n y : Nat) (σ : St) (h1 : n < 18446744073709551616) (h2 : 0 < y) (h3 : y < 18446744073709551616) : DCall Tryz.prog 86 [.agg ⟨[.int .u64 0, .int .u64 n]⟩, .int .u64 y] σ (.ret (.int .u64 ((n % y : Nat) : Int))) σ [] := by
 have e0 : ¬ (y : Int) = 0 := by omega
 have z : Int.tmod 0 (y : Int) = 0 := Int.zero_tmod _
 refine pure_call (enter (p := q8) Tryz.func86 rfl stat86 ?_) rfl
 simp only [go_sem, seval, if_pos rfl, opLen, callW, q8, p8, p7, p6, p5, p4, p3, p2, p1, Tryz.f86, Tryz.underlying4, info4, Tryz.t4, Tryz.underlying119, info119, Tryz.t119, Tryz.underlying139, info139, Tryz.t139, Tryz.underlying140, info140, Tryz.t140, Tryz.underlying148, info148, Tryz.t148, body99]
 refine enter (p := q8) Tryz.func99 rfl stat99 ?_
 simp only [go_sem, seval, if_pos rfl, opLen, callW, q8, p8, p7, p6, p5, p4, p3, p2, p1, e0, z, Tryz.f99, Tryz.underlying4, info4, Tryz.t4, Tryz.underlying119, info119, Tryz.t119, Tryz.underlying139, info139, Tryz.t139, Tryz.underlying140, info140, Tryz.t140, Tryz.underlying148, info148, Tryz.t148, body100]
 refine .of (div64_call _ _ _ h1 h2 h3) ?_
 simp only [go_sem, seval, if_pos rfl, opLen, Tryz.underlying4, info4, Tryz.t4, Tryz.underlying119, info119, Tryz.t119, Tryz.underlying139, info139, Tryz.t139, Tryz.underlying140, info140, Tryz.t140, Tryz.underlying148, info148, Tryz.t148]
theorem by_call (n y : Nat) (σ : St) (h1 : n < 18446744073709551616) (h2 : 0 < y) (h3 : y < 18446744073709551616) : DCall Tryz.prog 87 [.agg ⟨[.int .u64 0, .int .u64 n]⟩, .int .u64 y] σ (.ret (.tuple ⟨[.int .u64 ((n / y : Nat) : Int), .int .u64 ((n % y : Nat) : Int)]⟩)) σ [] := by
 have e0 : (0 : Int) < y := by omega
 refine pure_call (enter (p := q8) Tryz.func87 rfl stat87 ?_) rfl
 simp only [go_sem, seval, if_pos rfl, opLen, callW, q8, p8, p7, p6, p5, p4, p3, p2, p1, e0, Tryz.f87, Tryz.underlying4, info4, Tryz.t4, Tryz.underlying119, info119, Tryz.t119, Tryz.underlying139, info139, Tryz.t139, Tryz.underlying140, info140, Tryz.t140, Tryz.underlying148, info148, Tryz.t148, body55, body100]
 refine .of (div64_call _ _ _ h1 h2 h3) ?_
 simp only [go_sem, seval, if_pos rfl, opLen, Tryz.underlying4, info4, Tryz.t4, Tryz.underlying119, info119, Tryz.t119, Tryz.underlying139, info139, Tryz.t139, Tryz.underlying140, info140, Tryz.t140, Tryz.underlying148, info148, Tryz.t148]
theorem wide_low {n : Nat} (h : n < 18446744073709551616) : wideV n = .agg ⟨[.int .u64 0, .int .u64 n]⟩ := by
 have e1 : (n : Int) / 18446744073709551616 = 0 := by omega
 have e3 : (n : Int) % 18446744073709551616 = n := by omega
 unfold wideV
 rw [e1, e3]
set_option maxRecDepth 20000 in
theorem added_walk (an ad bn bd G X Y H T Z : Nat) (σ : St) (hT : (X + Y) / H = T) (hZ : ad / G * (bd / H) = Z) (hG : Nat.gcd ad bd = G) (hX : an * (bd / G) = X) (hY : bn * (ad / G) = Y) (hH : Nat.gcd G (X + Y) = H) (h1 : an < 9223372036854775808) (h2 : 0 < ad) (h3 : ad < 9223372036854775808) (h4 : bn < 9223372036854775808) (h5 : 0 < bd) (h6 : bd < 9223372036854775808)
  (h7 : X + Y < 9223372036854775808) (h8 : Z < 9223372036854775808) (h9 : X + Y = 0 → Z = 1) :
  callX Tryz.prog 59 [.agg ⟨[.int .i64 an, .int .i64 ad]⟩, .agg ⟨[.int .i64 bn, .int .i64 bd]⟩] σ (Ans σ (.agg ⟨[.int .i64 T, .int .i64 Z]⟩)) := by
 have g0 : 0 < G := hG ▸ Nat.gcd_pos_of_pos_left _ h2
 have g1 : G ≤ ad := hG ▸ Nat.gcd_le_left _ h2
 have g2 : ¬ (G : Int) = 0 := by omega
 have k0 : 0 < H := hH ▸ Nat.gcd_pos_of_pos_left _ g0
 have k1 : H ≤ G := hH ▸ Nat.gcd_le_left _ g0
 have k2 : ¬ (H : Int) = 0 := by omega
 have f1 : ¬ (an : Int) < 0 := by omega
 have f2 : ¬ (bn : Int) < 0 := by omega
 have w1 : an < 18446744073709551616 := by omega
 have w2 : bn < 18446744073709551616 := by omega
 have w3 : ad < 18446744073709551616 := by omega
 have w4 : bd < 18446744073709551616 := by omega
 have d1 : (bd : Int).tdiv G = ((bd / G : Nat) : Int) := by rw [Int.tdiv_eq_ediv_of_nonneg (by omega)]; rfl
 have d2 : (ad : Int).tdiv G = ((ad / G : Nat) : Int) := by rw [Int.tdiv_eq_ediv_of_nonneg (by omega)]; rfl
 have l1 : bd / G ≤ bd := Nat.div_le_self _ _
 have l2 : ad / G ≤ ad := Nat.div_le_self _ _
 have w5 : bd / G < 18446744073709551616 := by omega
 have w6 : ad / G < 18446744073709551616 := by omega
 have oN : ∀ k : Nat, k < 18446744073709551616 → okU (k : Int) = true := fun k hk => by simp [okU]; omega
 have oI : ∀ k : Nat, k < 9223372036854775808 → okI (k : Int) = true := fun k hk => by simp [okI]; omega
 have u1 := oN _ w1
 have u2 := oN _ w2
 have u3 := oN _ w3
 have u4 := oN _ w4
 have u5 := oN _ w5
 have u6 := oN _ w6
 have i1 := oI _ h1
 have i2 := oI _ h4
 have c1 : (Int.gcd (ad : Int) (bd : Int) : Int) = (G : Int) := by rw [Int.gcd_natCast_natCast, hG]
 have n1 : ((an : Int).natAbs : Int) = an := by omega
 have n2 : ((bn : Int).natAbs : Int) = bn := by omega
 have x1 : (an : Int) * ((bd / G : Nat) : Int) = (X : Int) := by rw [← Int.natCast_mul, hX]
 have y1 : (bn : Int) * ((ad / G : Nat) : Int) = (Y : Int) := by rw [← Int.natCast_mul, hY]
 have vx := wide_low (n := X) (by omega)
 have vy := wide_low (n := Y) (by omega)
 refine Ans.of (enter (p := q8) Tryz.func59 rfl stat59 ?_)
 simp only [go_sem, seval, if_pos rfl, opLen, callW, q8, p8, p7, p6, p5, p4, p3, p2, p1, Tryz.f59, vx, vy, n1, n2, c1, d1, d2, x1, y1, g2, f1, f2, w1, w2, w3, w4, w5, w6, u1, u2, u3, u4, u5, u6, i1, i2, Tryz.underlying2, info2, Tryz.t2, Tryz.underlying4, info4, Tryz.t4, Tryz.underlying30, info30, Tryz.t30, Tryz.underlying24, info24, Tryz.t24, Tryz.underlying119, info119, Tryz.t119, Tryz.underlying139, info139, Tryz.t139, Tryz.underlying140, info140, Tryz.t140, Tryz.underlying148, info148, Tryz.t148, body81, body57, body55, body78, body79, body82, body84, body85, body86, body87]
 have m1 : (X + Y) % G ≤ X + Y := Nat.mod_le _ _
 have u7 := oN _ (show (X + Y) % G < 18446744073709551616 by omega)
 have u8 := oN _ (show G < 18446744073709551616 by omega)
 have c2 : (Int.gcd (G : Int) (((X + Y) % G : Nat) : Int) : Int) = (H : Int) := by
  rw [Int.gcd_natCast_natCast, ← hH, Nat.gcd_comm G, ← Nat.gcd_rec, Nat.gcd_comm]
 have d3 : (bd : Int).tdiv H = ((bd / H : Nat) : Int) := by rw [Int.tdiv_eq_ediv_of_nonneg (by omega)]; rfl
 have l3 : bd / H ≤ bd := Nat.div_le_self _ _
 have w7 : bd / H < 18446744073709551616 := by omega
 have u9 := oN _ w7
 have z1 : ((ad / G : Nat) : Int) * ((bd / H : Nat) : Int) = (Z : Int) := by rw [← Int.natCast_mul, hZ]
 have vz := wide_low (n := Z) (by omega)
 have l4 : T ≤ X + Y := hT ▸ Nat.div_le_self _ _
 refine .of (plus_call X Y _ (by omega)) ?_
 simp only [go_sem, seval, if_pos rfl, opLen, callW, q8, p8, p7, p6, p5, p4, p3, p2, p1, f1, f2, Tryz.underlying2, info2, Tryz.t2, Tryz.underlying4, info4, Tryz.t4, Tryz.underlying30, info30, Tryz.t30, Tryz.underlying24, info24, Tryz.t24, Tryz.underlying119, info119, Tryz.t119, Tryz.underlying139, info139, Tryz.t139, Tryz.underlying140, info140, Tryz.t140, Tryz.underlying148, info148, Tryz.t148, body81, body57, body55, body78, body79, body82, body84, body85, body86, body87]
 refine .of (left_call (X + Y) G _ (by omega) g0 (by omega)) ?_
 simp only [go_sem, seval, if_pos rfl, opLen, callW, q8, p8, p7, p6, p5, p4, p3, p2, p1, u7, u8, c2, Tryz.underlying2, info2, Tryz.t2, Tryz.underlying4, info4, Tryz.t4, Tryz.underlying30, info30, Tryz.t30, Tryz.underlying24, info24, Tryz.t24, Tryz.underlying119, info119, Tryz.t119, Tryz.underlying139, info139, Tryz.t139, Tryz.underlying140, info140, Tryz.t140, Tryz.underlying148, info148, Tryz.t148, body81, body57, body55, body78, body79, body82, body84, body85, body86, body87]
 refine .of (by_call (X + Y) H _ (by omega) k0 (by omega)) ?_
 simp only [go_sem, seval, if_pos rfl, opLen, callW, q8, p8, p7, p6, p5, p4, p3, p2, p1, d2, d3, g2, k2, w3, w4, w6, w7, u6, u9, z1, vz, Tryz.underlying2, info2, Tryz.t2, Tryz.underlying4, info4, Tryz.t4, Tryz.underlying30, info30, Tryz.t30, Tryz.underlying24, info24, Tryz.t24, Tryz.underlying119, info119, Tryz.t119, Tryz.underlying139, info139, Tryz.t139, Tryz.underlying140, info140, Tryz.t140, Tryz.underlying148, info148, Tryz.t148, body81, body57, body55, body78, body79, body82, body84, body85, body86, body87]
 have fl := flat191
 by_cases hz : X + Y = 0
 ·have hT0 : T = 0 := by rw [← hT, hz, Nat.zero_div]
  simp only [go_sem, seval, if_pos rfl, opLen, callW, q8, p8, p7, p6, p5, p4, p3, p2, p1, eqCells, fl, hz, h9 hz, hT0, Nat.zero_div, Int.natCast_zero, Int.natCast_one, Tryz.underlying2, info2, Tryz.t2, Tryz.underlying4, info4, Tryz.t4, Tryz.underlying30, info30, Tryz.t30, Tryz.underlying24, info24, Tryz.t24, Tryz.underlying119, info119, Tryz.t119, Tryz.underlying139, info139, Tryz.t139, Tryz.underlying140, info140, Tryz.t140, Tryz.underlying148, info148, Tryz.t148, body81, body57, body55, body78, body79, body82, body84, body85, body86, body87]
 ·have ez : (((X + Y : Nat) : Int) == 0) = false := by simp; omega
  simp only [go_sem, seval, if_pos rfl, opLen, callW, q8, p8, p7, p6, p5, p4, p3, p2, p1, eqCells, fl, ez, hT, Tryz.underlying2, info2, Tryz.t2, Tryz.underlying4, info4, Tryz.t4, Tryz.underlying30, info30, Tryz.t30, Tryz.underlying24, info24, Tryz.t24, Tryz.underlying119, info119, Tryz.t119, Tryz.underlying139, info139, Tryz.t139, Tryz.underlying140, info140, Tryz.t140, Tryz.underlying148, info148, Tryz.t148, body81, body57, body55, body78, body79, body82, body84, body85, body86, body87]
  refine .of (told_call _ _ false _ (by omega) (by omega) (by omega) (by omega)) ?_
  simp only [go_sem, seval, if_pos rfl, opLen, Tryz.underlying2, info2, Tryz.t2, Tryz.underlying4, info4, Tryz.t4, Tryz.underlying30, info30, Tryz.t30, Tryz.underlying24, info24, Tryz.t24, Tryz.underlying119, info119, Tryz.t119, Tryz.underlying139, info139, Tryz.t139, Tryz.underlying140, info140, Tryz.t140, Tryz.underlying148, info148, Tryz.t148]
def fracV (a r : Nat) : Value := .agg ⟨[.int .i64 (fN a r : Int), .int .i64 (fD a r : Int)]⟩
theorem okR_frac {a r : Nat} (hr : 0 < r) (ha : a < 9223372036854775808) (hr2 : r < 9223372036854775808) : okR (fN a r : Int) (fD a r : Int) = true := by
 have h1 := fN_le a r
 have h2 := fD_le a r
 have h3 := fD_pos (a := a) hr
 have h4 := f_coprime (a := a) hr
 simp only [okR, okI, Bool.and_eq_true, decide_eq_true_eq, chk, Int.gcd_natCast_natCast]
 refine ⟨⟨⟨?_, ?_⟩, ⟨?_, ?_⟩⟩, ?_, ?_, h4⟩ <;> omega
theorem added_call (a b r : Nat) (σ : St) (hr : 0 < r) (hr2 : r < 9223372036854775808) (hab : a + b < 9223372036854775808) :
  callX Tryz.prog 59 [fracV a r, fracV b r] σ (Ans σ (fracV (a + b) r)) := by
 obtain ⟨s1, s2⟩ := sum_is (a := a) (b := b) hr
 have b1 := fN_le a r
 have b2 := fN_le b r
 have b3 := fD_le a r
 have b4 := fD_le b r
 have b5 := fD_le (a + b) r
 have b6 := sX_le (a := a) (b := b) hr
 have b7 := sY_le (a := a) (b := b) hr
 have h9 : sX a b r + sY a b r = 0 → fD a r / sG a b r * (fD b r / sH a b r) = 1 := fun h => by
  rw [s2]
  rw [h, Nat.zero_div] at s1
  have h0 : a + b = 0 := by have := fN_mul (a + b) r; rw [← s1, Nat.zero_mul] at this; exact this.symm
  rw [h0]
  unfold fD
  rw [Nat.gcd_zero_left]
  exact Nat.div_self hr
 have := added_walk (fN a r) (fD a r) (fN b r) (fD b r) (sG a b r) (sX a b r) (sY a b r) (sH a b r) _ _ σ rfl rfl rfl rfl rfl rfl (by omega) (fD_pos hr) (by omega) (by omega) (fD_pos hr) (by omega) (by omega) (by rw [s2]; omega) h9
 rw [s1, s2] at this
 exact this
theorem two1_call {p q s : Nat} {a b r : Nat} {σ : St} (hp : p < σ.next) (hq : q < σ.next) (hs : s < σ.next) (gp : σ.get p = some (.cells [.int .i64 (fN a r : Int), .int .i64 (fD a r : Int)] false)) (gq : σ.get q = some (.cells [.int .i64 (fN b r : Int), .int .i64 (fD b r : Int)] false))
  (gs : σ.get s = some (.cells [.func (.func 59) ⟨[]⟩ ⟨[]⟩] false)) (hr : 0 < r) (hr2 : r < 9223372036854775808) (hab : a + b < 9223372036854775808) :
  callX Tryz.prog 83 [.pointer (some ⟨p, 0, none⟩), .pointer (some ⟨q, 0, none⟩), .pointer (some ⟨s, 0, none⟩)] σ (Ans σ (.agg ⟨[.int .i64 (fN (a + b) r : Int), .int .i64 (fD (a + b) r : Int)]⟩)) := by
 have k1 := okR_frac (a := a) hr (by omega) hr2
 have k2 := okR_frac (a := b) hr (by omega) hr2
 simp only [okR, Bool.and_eq_true, decide_eq_true_eq] at k1 k2
 have ha := (added_call a b r · hr hr2 hab)
 simp only [fracV] at ha
 refine Ans.of (enter (p := q8) Tryz.func83 rfl stat83 ?_)
 simp only [go_sem, seval, if_pos rfl, opLen, callW, q8, p8, p7, p6, p5, p4, p3, p2, p1, Tryz.f83, zerosN, gp, gq, gs, hp, hq, hs, Tryz.underlying2, info2, Tryz.t2, Tryz.underlying4, info4, Tryz.t4, Tryz.underlying112, info112, Tryz.t112, Tryz.underlying29, info29, Tryz.t29, Tryz.underlying30, info30, Tryz.t30, Tryz.underlying24, info24, Tryz.t24, Tryz.underlying119, info119, Tryz.t119, Tryz.underlying123, info123, Tryz.t123, body59, body77]
 refine .of (both_call _ _ _ _ _ _ (by simp only [go_sem, seval, if_pos rfl, opLen]) (by simp only [go_sem, seval, if_pos rfl, opLen]) k1.1.1 k1.1.2 k2.1.1 k2.1.2 k1.2 k2.2) ?_
 simp only [go_sem, seval, if_pos rfl, opLen, callW, q8, p8, p7, p6, p5, p4, p3, p2, p1, gp, gq, gs, hp, hq, hs, Tryz.underlying2, info2, Tryz.t2, Tryz.underlying4, info4, Tryz.t4, Tryz.underlying112, info112, Tryz.t112, Tryz.underlying30, info30, Tryz.t30, Tryz.underlying24, info24, Tryz.t24, Tryz.underlying119, info119, Tryz.t119, Tryz.underlying123, info123, Tryz.t123, body59, body77]
 refine callX.ret (ha _) ?_
 intro σ' l hl ⟨h1, h2, h3⟩
 simp only [St.next_new] at h1 h2 h3
 have g0 := h3 σ.next (by omega)
 simp only [go_sem, seval, if_pos rfl, opLen] at g0
 simp only [go_sem, seval, if_pos rfl, opLen, g0, Tryz.underlying2, info2, Tryz.t2, Tryz.underlying4, info4, Tryz.t4, Tryz.underlying112, info112, Tryz.t112, Tryz.underlying30, info30, Tryz.t30, Tryz.underlying24, info24, Tryz.t24, Tryz.underlying119, info119, Tryz.t119, Tryz.underlying123, info123, Tryz.t123]
 intro c hc
 rcases hc with hc | hc
 ·have := h1 c hc; omega
 ·omega
theorem addF_call (a b r : Nat) (σ : St) (hr : 0 < r) (hr2 : r < 9223372036854775808) (hab : a + b < 9223372036854775808) :
  DCall Tryz.prog 31 [.agg ⟨[.int .i64 (fN a r : Int), .int .i64 (fD a r : Int)]⟩, .agg ⟨[.int .i64 (fN b r : Int), .int .i64 (fD b r : Int)]⟩] σ (.ret (.tuple ⟨[.agg ⟨[.int .i64 (fN (a + b) r : Int), .int .i64 (fD (a + b) r : Int)]⟩, .int .i64 0]⟩)) σ [] := by
 refine pure_call (enter (p := q8) Tryz.func31 rfl stat31 ?_) rfl
 simp only [go_sem, seval, if_pos rfl, opLen, callW, q8, p8, p7, p6, p5, p4, p3, p2, p1, Tryz.f31, Tryz.underlying2, info2, Tryz.t2, Tryz.underlying4, info4, Tryz.t4, Tryz.underlying112, info112, Tryz.t112, Tryz.underlying30, info30, Tryz.t30, Tryz.underlying24, info24, Tryz.t24, Tryz.underlying31, info31, Tryz.t31, Tryz.underlying119, info119, Tryz.t119, Tryz.underlying115, info115, Tryz.t115, Tryz.underlying123, info123, Tryz.t123, body58, body59]
 refine enter (p := q8) Tryz.func58 rfl stat58 ?_
 simp only [go_sem, seval, if_pos rfl, opLen, callW, q8, p8, p7, p6, p5, p4, p3, p2, p1, Tryz.f58, Tryz.underlying2, info2, Tryz.t2, Tryz.underlying4, info4, Tryz.t4, Tryz.underlying112, info112, Tryz.t112, Tryz.underlying30, info30, Tryz.t30, Tryz.underlying24, info24, Tryz.t24, Tryz.underlying31, info31, Tryz.t31, Tryz.underlying119, info119, Tryz.t119, Tryz.underlying115, info115, Tryz.t115, Tryz.underlying121, info121, Tryz.t121, Tryz.underlying123, info123, Tryz.t123, body53, body83]
 refine .of (try_rat body83 (two1_call (a := a) (b := b) (r := r) ?_ ?_ ?_ ?_ ?_ ?_ hr hr2 hab)) ?_
 ·simp only [go_sem, seval, if_pos rfl, opLen]
 ·simp only [go_sem, seval, if_pos rfl, opLen]
 ·simp only [go_sem, seval, if_pos rfl, opLen]
 ·simp only [go_sem, seval, if_pos rfl, opLen]
 ·simp only [go_sem, seval, if_pos rfl, opLen]
 ·simp only [go_sem, seval, if_pos rfl, opLen]
 ·simp only [go_sem, seval, if_pos rfl, opLen, Tryz.underlying2, info2, Tryz.t2, Tryz.underlying4, info4, Tryz.t4, Tryz.underlying112, info112, Tryz.t112, Tryz.underlying30, info30, Tryz.t30, Tryz.underlying24, info24, Tryz.t24, Tryz.underlying31, info31, Tryz.t31, Tryz.underlying119, info119, Tryz.t119, Tryz.underlying115, info115, Tryz.t115, Tryz.underlying121, info121, Tryz.t121, Tryz.underlying123, info123, Tryz.t123]
end Go.Ab
namespace Go.Ab
open Go.Proofs
def Q0 : QV := ⟨fun _ => none, 0, fun _ => none, 0, [], 0⟩
theorem und2' : (cP Tryz.prog).T.und 2 = some (.int .i64) := (cx_und 2).trans Tryz.underlying2
theorem may_call (f r m : Int) (σ : St) (h : (0 ≤ f ∧ f ≤ 2147483647) ∧ (1 ≤ r ∧ r ≤ 1000000) ∧ (0 ≤ m ∧ m ≤ 1000000000)) : DCall Tryz.prog 26 [.int .i64 f, .int .i64 r, .int .i64 m] σ (.ret (.bool true)) σ [] := by
 obtain ⟨⟨h1, h2⟩, ⟨h3, h4⟩, h5, h6⟩ := h
 refine pure_call (enter (p := q8) Tryz.func26 rfl stat26 ?_) rfl
 simp only [go_sem, seval, if_pos rfl, opLen, callW, q8, p8, p7, p6, p5, p4, p3, p2, p1, Tryz.f26, Tryz.underlying2, info2, Tryz.t2, Tryz.underlying4, info4, Tryz.t4, body27]
 refine .of (within_call _ _ _ _) ?_
 simp only [go_sem, seval, if_pos rfl, opLen, callW, q8, p8, p7, p6, p5, p4, p3, p2, p1, h1, h2, Tryz.underlying2, info2, Tryz.t2, Tryz.underlying4, info4, Tryz.t4, body27]
 refine .of (within_call _ _ _ _) ?_
 simp only [go_sem, seval, if_pos rfl, opLen, callW, q8, p8, p7, p6, p5, p4, p3, p2, p1, h3, h4, Tryz.underlying2, info2, Tryz.t2, Tryz.underlying4, info4, Tryz.t4, body27]
 refine .of (within_call _ _ _ _) ?_
 simp only [go_sem, seval, if_pos rfl, opLen, callW, q8, p8, p7, p6, p5, p4, p3, p2, p1, h5, h6, Tryz.underlying2, info2, Tryz.t2, Tryz.underlying4, info4, Tryz.t4, body27]
theorem qnone_call {σ : St} {q fm pm h : Nat} (gq : σ.get q = some (.cells [.pointer (some ⟨h, 0, none⟩), .map (some fm), .map (some pm)] false)) : DCall Tryz.prog 25 [.pointer (some ⟨q, 0, none⟩)] σ (.ret (.bool false)) σ [] := by
 refine pure_call (enter (p := q8) Tryz.func25 rfl stat25 ?_) rfl
 simp only [go_sem, seval, if_pos rfl, opLen, callW, q8, p8, p7, p6, p5, p4, p3, p2, p1, gq, Option.isNone_some, Tryz.f25, Tryz.underlying4, info4, Tryz.t4, Tryz.underlying70, info70, Tryz.t70, Tryz.underlying51, info51, Tryz.t51, Tryz.underlying72, info72, Tryz.t72, Tryz.underlying73, info73, Tryz.t73, Tryz.underlying74, info74, Tryz.t74, Tryz.underlying75, info75, Tryz.t75]
def AddR (σ : St) (b : QB) (Q : QV) (flow rate room now : Int) (σ' : St) (l : Log) : Prop :=
 (∀ c ∈ l, c ∈ b.core ∨ σ.next ≤ c) ∧ ∃ blk, σ.next ≤ blk ∧ QAt σ' b { Q with F := updF Q.F flow (some ⟨blk, rate, room, 0, now, 1⟩), nf := Q.nf + 1 }
theorem qadd_state {σ : St} {b : QB} {Q : QV} (H : QAt σ b Q) {flow rate room now : Int} {es : List MapEntry} {ck : Nat} (gf : σ.get b.fm = some (.map es ck)) (hki : KI es) (hlk : ∀ k, lkV es k = (Q.F k).map ptrOf) (hlen : es.length = Q.nf) (hbr : Br es ck) (hF : Q.F flow = none) :
    AddR σ b Q flow rate room now ((σ.new (.cells [.int .i64 flow, .int .i64 rate, .int .i64 room, .int .i64 0, .int .i64 now, .int .i64 1] false)).set b.fm (.map (pushE es ⟨.int .i64 flow, .pointer (some ⟨σ.next, 0, none⟩), ck⟩) (ck + 1))) [b.fm] := by
  have hfm : b.fm < σ.next := H.lt _ (by simp [QB.core])
  have ne := H.ne
  have hno : lkV es flow = none := by rw [hlk, hF]; rfl
  refine ⟨fun c hc => .inl (by simp at hc; simp [QB.core, hc]), σ.next, Nat.le_refl _, ?_⟩
  generalize hσ : (σ.new (.cells [.int .i64 flow, .int .i64 rate, .int .i64 room, .int .i64 0, .int .i64 now, .int .i64 1] false)).set b.fm (.map (pushE es ⟨.int .i64 flow, .pointer (some ⟨σ.next, 0, none⟩), ck⟩) (ck + 1)) = σ'
  have nx : σ'.next = σ.next + 1 := by rw [← hσ]; rfl
  have g : ∀ c, c < σ.next → c ≠ b.fm → σ'.get c = σ.get c := fun c h1 h2 => by rw [← hσ, St.get_set, if_neg (Ne.symm h2), St.get_new, if_neg (by omega)]
  have gn : σ'.get σ.next = some (.cells [.int .i64 flow, .int .i64 rate, .int .i64 room, .int .i64 0, .int .i64 now, .int .i64 1] false) := by rw [← hσ, St.get_set, if_neg (by omega), St.get_new, if_pos rfl]
  have gm : σ'.get b.fm = some (.map (pushE es ⟨.int .i64 flow, .pointer (some ⟨σ.next, 0, none⟩), ck⟩) (ck + 1)) := by rw [← hσ, St.get_set, if_pos rfl]
  have lt := H.lt
  exact { gq := (g _ (lt _ (by simp [QB.core])) ne.q_fm).trans H.gq
          hx := H.hx.keep (by omega) fun c hc => g c (H.hx.lt c hc) (by
            simp only [List.mem_cons] at hc
            rcases hc with rfl | rfl | hc
            · exact ne.fm_h.symm
            · exact ne.fm_m.symm
            · exact (ne.A c hc).2.1)
          mf := ⟨_, _, gm, pushV_KI hki hno, fun k => by
            rw [pushV_lk hki hno]
            show _ = (updF Q.F flow _ k).map ptrOf
            by_cases e : k = flow
            · subst e; rw [if_pos rfl, updF_same]; rfl
            · rw [if_neg e, updF_other _ _ e, hlk], by rw [pushV_length, hlen], hbr.push _ _⟩
          mp := H.mp.keep (g _ (lt _ (by simp [QB.core])) ne.fm_pm.symm)
          fl := fun k x hx => by
            have hx : updF Q.F flow _ k = some x := hx
            by_cases e : k = flow
            · subst e
              rw [updF_same] at hx
              cases hx
              exact ⟨gn, by show σ.next < σ'.next; omega, fun hm => by have := lt _ hm; exact absurd this (Nat.lt_irrefl _)⟩
            · rw [updF_other _ _ e] at hx
              obtain ⟨a1, a2, a3⟩ := H.fl k x hx
              exact ⟨(g _ a2 fun e' => a3 (by simp [QB.core, e'])).trans a1, by omega, a3⟩
          inj := fun k k' x x' hx hx' hb => by
            have h1 : updF Q.F flow _ k = some x := hx
            have h2 : updF Q.F flow _ k' = some x' := hx'
            clear hx hx'
            by_cases e : k = flow <;> by_cases e' : k' = flow
            · rw [e, e']
            · rw [e, updF_same] at h1
              rw [updF_other _ _ e'] at h2
              cases h1
              have := (H.fl k' x' h2).2.1
              have hb : σ.next = x'.blk := hb
              omega
            · rw [e', updF_same] at h2
              rw [updF_other _ _ e] at h1
              cases h2
              have := (H.fl k x h1).2.1
              have hb : x.blk = σ.next := hb
              omega
            · rw [updF_other _ _ e] at h1
              rw [updF_other _ _ e'] at h2
              exact H.inj k k' x x' h1 h2 hb
          nodup := H.nodup
          lt := fun c hc => by have := lt c hc; omega }
set_option maxRecDepth 20000 in
theorem qadd_call {σ : St} {b : QB} {Q : QV} (H : QAt σ b Q) (flow rate room now : Int) (h : (0 ≤ flow ∧ flow ≤ 2147483647) ∧ (1 ≤ rate ∧ rate ≤ 1000000) ∧ (0 ≤ room ∧ room ≤ 1000000000)) (hnow : 0 ≤ now ∧ now ≤ 2147483647) (hF : Q.F flow = none) (hn : Q.nf < 32) :
  callX Tryz.prog 17 [.pointer (some ⟨b.q, 0, none⟩), .int .i64 flow, .int .i64 rate, .int .i64 room, .int .i64 now] σ fun e σ' l => e = .ret (.int .i64 0) ∧ AddR σ b Q flow rate room now σ' l := by
 have gq := H.gq
 obtain ⟨es, ck, gf, hki, hlk, hlen, hbr⟩ := H.mf
 have hq : b.q < σ.next := H.lt _ (by simp [QB.core])
 have hfm : b.fm < σ.next := H.lt _ (by simp [QB.core])
 have hfind := findV_none und2' (i := 0) hki ((hlk flow).trans (by show (Q.F flow).map ptrOf = none; rw [hF]; rfl))
 have hn' : ¬ (32 : Int) ≤ es.length := by omega
 refine enter (p := q8) Tryz.func17 rfl stat17 ?_
 simp only [go_sem, seval, if_pos rfl, opLen, callW, q8, p8, p7, p6, p5, p4, p3, p2, p1, Tryz.f17, Tryz.underlying2, info2, Tryz.t2, Tryz.underlying3, info3, Tryz.t3, Tryz.underlying4, info4, Tryz.t4, Tryz.underlying30, info30, Tryz.t30, Tryz.underlying24, info24, Tryz.t24, Tryz.underlying51, info51, Tryz.t51, Tryz.underlying72, info72, Tryz.t72, Tryz.underlying75, info75, Tryz.t75, Tryz.underlying76, info76, Tryz.t76, body25, body26, body27, body28]
 refine enscope q8 17 (by kernel_rfl) ?_
 simp only [go_sem, seval, if_pos rfl, opLen, callW, q8, p8, p7, p6, p5, p4, p3, p2, p1, Tryz.underlying2, info2, Tryz.t2, Tryz.underlying3, info3, Tryz.t3, Tryz.underlying4, info4, Tryz.t4, Tryz.underlying30, info30, Tryz.t30, Tryz.underlying24, info24, Tryz.t24, Tryz.underlying51, info51, Tryz.t51, Tryz.underlying72, info72, Tryz.t72, Tryz.underlying75, info75, Tryz.t75, Tryz.underlying76, info76, Tryz.t76, body25, body26, body27, body28]
 refine .of (qnone_call gq) ?_
 simp only [go_sem, seval, if_pos rfl, opLen, callW, q8, p8, p7, p6, p5, p4, p3, p2, p1, Tryz.underlying2, info2, Tryz.t2, Tryz.underlying3, info3, Tryz.t3, Tryz.underlying4, info4, Tryz.t4, Tryz.underlying30, info30, Tryz.t30, Tryz.underlying24, info24, Tryz.t24, Tryz.underlying51, info51, Tryz.t51, Tryz.underlying72, info72, Tryz.t72, Tryz.underlying75, info75, Tryz.t75, Tryz.underlying76, info76, Tryz.t76, body25, body26, body27, body28]
 refine .of (may_call _ _ _ _ h) ?_
 simp only [go_sem, seval, if_pos rfl, opLen, callW, q8, p8, p7, p6, p5, p4, p3, p2, p1, Tryz.underlying2, info2, Tryz.t2, Tryz.underlying3, info3, Tryz.t3, Tryz.underlying4, info4, Tryz.t4, Tryz.underlying30, info30, Tryz.t30, Tryz.underlying24, info24, Tryz.t24, Tryz.underlying51, info51, Tryz.t51, Tryz.underlying72, info72, Tryz.t72, Tryz.underlying75, info75, Tryz.t75, Tryz.underlying76, info76, Tryz.t76, body25, body26, body27, body28]
 refine .of (within_call _ _ _ _) ?_
 simp only [go_sem, seval, if_pos rfl, opLen, callW, q8, p8, p7, p6, p5, p4, p3, p2, p1, hnow.1, hnow.2, gq, gf, hfind, hn', und2', Tryz.underlying2, info2, Tryz.t2, Tryz.underlying3, info3, Tryz.t3, Tryz.underlying4, info4, Tryz.t4, Tryz.underlying30, info30, Tryz.t30, Tryz.underlying24, info24, Tryz.t24, Tryz.underlying51, info51, Tryz.t51, Tryz.underlying72, info72, Tryz.t72, Tryz.underlying75, info75, Tryz.t75, Tryz.underlying76, info76, Tryz.t76, Tryz.underlying79, info79, Tryz.t79, body25, body26, body27, body28]
 refine .of (whole_call' _ _) ?_
 simp only [go_sem, seval, if_pos rfl, opLen, callW, q8, p8, p7, p6, p5, p4, p3, p2, p1, hnow.1, hnow.2, gq, gf, hq, hfm, hfind, hn', und2', Tryz.underlying2, info2, Tryz.t2, Tryz.underlying3, info3, Tryz.t3, Tryz.underlying4, info4, Tryz.t4, Tryz.underlying30, info30, Tryz.t30, Tryz.underlying24, info24, Tryz.t24, Tryz.underlying51, info51, Tryz.t51, Tryz.underlying72, info72, Tryz.t72, Tryz.underlying75, info75, Tryz.t75, Tryz.underlying76, info76, Tryz.t76, Tryz.underlying79, info79, Tryz.t79, body25, body26, body27, body28]
 exact qadd_state H gf hki hlk hlen hbr hF
def NewR (σ : St) (σ' : St) (l : Log) : Prop := (∀ c ∈ l, σ.next ≤ c) ∧ QAt σ' ⟨σ.next + 4, σ.next + 2, σ.next + 3, σ.next + 1, σ.next, []⟩ Q0
theorem qnew_call (σ : St) : callX Tryz.prog 14 [] σ fun e σ' l => e = .ret (.pointer (some ⟨σ.next + 4, 0, none⟩)) ∧ NewR σ σ' l := by
  refine enter (p := q8) Tryz.func14 rfl stat14 ?_
  simp only [go_sem, seval, if_pos rfl, opLen, callW, q8, p8, p7, p6, p5, p4, p3, p2, p1, Tryz.f14, Tryz.underlying2, info2, Tryz.t2, Tryz.underlying3, info3, Tryz.t3, Tryz.underlying4, info4, Tryz.t4, Tryz.underlying30, info30, Tryz.t30, Tryz.underlying24, info24, Tryz.t24, Tryz.underlying51, info51, Tryz.t51, Tryz.underlying72, info72, Tryz.t72, Tryz.underlying75, info75, Tryz.t75, Tryz.underlying76, info76, Tryz.t76, body24]
  refine .of (new_call σ) ?_
  simp only [go_sem, seval, if_pos rfl, opLen, callW, q8, p8, p7, p6, p5, p4, p3, p2, p1, Tryz.f14, Tryz.underlying2, info2, Tryz.t2, Tryz.underlying3, info3, Tryz.t3, Tryz.underlying4, info4, Tryz.t4, Tryz.underlying30, info30, Tryz.t30, Tryz.underlying70, info70, Tryz.t70, Tryz.underlying24, info24, Tryz.t24, Tryz.underlying51, info51, Tryz.t51, Tryz.underlying72, info72, Tryz.t72, Tryz.underlying73, info73, Tryz.t73, Tryz.underlying74, info74, Tryz.t74, Tryz.underlying75, info75, Tryz.t75, Tryz.underlying76, info76, Tryz.t76, body24]
  refine ⟨fun c hc => by simp at hc, ?_⟩
  generalize hσ : (((((σ.new (.map [] 0)).new (.cells [.map (some σ.next), .slice none 0 0, .int .i64 0] false)).new (.map [] 0)).new (.map [] 0)).new (.cells [.pointer (some ⟨σ.next + 1, 0, none⟩), .map (some (σ.next + 2)), .map (some (σ.next + 3))] false)) = σ'
  have nx : σ'.next = σ.next + 5 := by rw [← hσ]; rfl
  have g0 : σ'.get σ.next = some (.map [] 0) := by rw [← hσ]; simp only [go_sem, seval, if_pos rfl, opLen]
  have g1 : σ'.get (σ.next + 1) = some (.cells [.map (some σ.next), .slice none 0 0, .int .i64 0] false) := by rw [← hσ]; simp only [go_sem, seval, if_pos rfl, opLen]
  have g2 : σ'.get (σ.next + 2) = some (.map [] 0) := by rw [← hσ]; simp only [go_sem, seval, if_pos rfl, opLen]
  have g3 : σ'.get (σ.next + 3) = some (.map [] 0) := by rw [← hσ]; simp only [go_sem, seval, if_pos rfl, opLen]
  have g4 : σ'.get (σ.next + 4) = some (.cells [.pointer (some ⟨σ.next + 1, 0, none⟩), .map (some (σ.next + 2)), .map (some (σ.next + 3))] false) := by rw [← hσ]; simp only [go_sem, seval, if_pos rfl, opLen]
  exact { gq := g4
          hx := .inl ⟨rfl, rfl, ⟨g1, ⟨0, g0⟩, by show σ.next + 1 ≠ σ.next; omega, by show σ.next + 1 < σ'.next ∧ σ.next < σ'.next; omega⟩⟩
          mf := ⟨[], 0, g2, KI.nil, fun k => rfl, rfl, Br.nil 0⟩
          mp := ⟨[], 0, g3, KI.nil, fun k => rfl, rfl, Br.nil 0⟩
          fl := fun k x hx => by cases hx
          inj := fun k k' x x' hx => by cases hx
          nodup := by simp only [QB.core, List.nodup_cons, List.mem_cons, List.not_mem_nil, or_false]; refine ⟨?_, ?_, ?_, ?_, ?_⟩ <;> first | omega | (refine ⟨?_, ?_⟩ <;> simp)
          lt := fun c hc => by simp only [QB.core, List.mem_cons, List.not_mem_nil, or_false] at hc; omega }
end Go.Ab
namespace Go.Ab
open Go.Proofs
theorem makeN_call (s r : Nat) (σ : St) (hs : s < 9223372036854775808) (hr : 0 < r) (hr2 : r < 9223372036854775808) :
  DCall Tryz.prog 30 [.int .i64 (s : Int), .int .i64 (r : Int)] σ (.ret (.tuple ⟨[.agg ⟨[.int .i64 (fN s r : Int), .int .i64 (fD s r : Int)]⟩, .int .i64 0]⟩)) σ [] := by
 have := make_call (s : Int) (r : Int) σ (by omega) (by omega) (by omega) (by omega)
 rw [Int.gcd_natCast_natCast] at this
 exact this
theorem greater_frac {S R now : Nat} (hR : 0 < R) : (if 0 < cmpR (fN S R : Int) (fD S R : Int) (now : Int) 1 then Value.agg ⟨[.int .i64 (fN S R : Int), .int .i64 (fD S R : Int)]⟩ else Value.agg ⟨[.int .i64 (now : Int), .int .i64 1]⟩) = .agg ⟨[.int .i64 (fN (max (now * R) S) R : Int), .int .i64 (fD (max (now * R) S) R : Int)]⟩ := by
 have hc := f_cross S R
 have hd := fD_pos (a := S) hR
 have key : 0 < cmpR (fN S R : Int) (fD S R : Int) (now : Int) 1 ↔ now * R < S := by
  unfold cmpR
  have e1 : (fN S R : Int) * 1 = ((fN S R : Nat) : Int) := by omega
  have e2 : (now : Int) * (fD S R : Int) = ((now * fD S R : Nat) : Int) := (Int.natCast_mul _ _).symm
  rw [e1, e2]
  have m1 : now * fD S R < fN S R ↔ now * R < S := by
   constructor
   ·intro h
    have h2 : now * fD S R * R < fN S R * R := Nat.mul_lt_mul_of_pos_right h hR
    rw [hc] at h2
    have h3 : now * R * fD S R < S * fD S R := by
     have : now * R * fD S R = now * fD S R * R := by rw [Nat.mul_assoc, Nat.mul_comm R, ← Nat.mul_assoc]
     omega
    exact Nat.lt_of_mul_lt_mul_right h3
   ·intro h
    have h2 : now * R * fD S R < S * fD S R := Nat.mul_lt_mul_of_pos_right h hd
    rw [← hc] at h2
    have h3 : now * fD S R * R < fN S R * R := by
     have : now * R * fD S R = now * fD S R * R := by rw [Nat.mul_assoc, Nat.mul_comm R, ← Nat.mul_assoc]
     omega
    exact Nat.lt_of_mul_lt_mul_right h3
  rw [← m1]
  split
  ·omega
  ·split <;> omega
 by_cases h : now * R < S
 ·rw [if_pos (key.2 h), Nat.max_eq_right (by omega)]
 ·rw [if_neg (fun k => h (key.1 k)), Nat.max_eq_left (by omega), (f_whole hR).1, (f_whole hR).2]
  rfl
def PutR (σ : St) (b : QB) (Q : QV) (id flow size : Int) (x : FlowV) (n d : Int) (σ' : St) (l : Log) : Prop :=
 (∀ c ∈ l, Foot b Q c ∨ σ.next ≤ c) ∧ ∃ A', (∀ c ∈ A', c ∈ b.A ∨ σ.next ≤ c) ∧
  QAt σ' { b with A := A' } { Q with F := updF Q.F flow (some { x with bytes := x.bytes + size, n := n, d := d }), P := updF Q.P id (some (flow, size)), np := Q.np + 1, L := riseL (Q.L.length + 1) (Q.L ++ [⟨id, n, d, Q.t + 1⟩]) Q.L.length, t := Q.t + 1 }
theorem qput_state {σ σ' : St} {b : QB} {Q : QV} (H : QAt σ b Q) {id flow size n d : Int} {x : FlowV} {A' : List Nat} {l : Log} {ep : List MapEntry} {cp K : Nat} {v : AObj} (hF : Q.F flow = some x) (hK : 1 < K)
    (hkp : KI ep) (hlp : ∀ k, lkV ep k = (Q.P k).map (packOf k)) (hlen : ep.length = Q.np) (hbp : Br ep cp) (hP : Q.P id = none)
    (hx' : HX σ' b.h b.m A' (riseL (Q.L.length + 1) (Q.L ++ [⟨id, n, d, Q.t + 1⟩]) Q.L.length) (Q.t + 1)) (hA : ∀ c ∈ A', c ∈ b.A ∨ σ.next + K ≤ c) (hl : ∀ c ∈ l, Foot b Q c ∨ σ.next ≤ c)
    (kc : ∀ c, c < σ.next → ¬ x.blk = c → ¬ b.pm = c → c ∉ b.h :: b.m :: b.A → σ'.get c = σ.get c) (nx : σ.next + K ≤ σ'.next)
    (kx : σ'.get x.blk = some (.cells [.int .i64 flow, .int .i64 x.rate, .int .i64 x.room, .int .i64 (x.bytes + size), .int .i64 n, .int .i64 d] false))
    (kpm : σ'.get b.pm = some (.map (pushE ep ⟨.int .i64 id, .agg ⟨[.int .i64 id, .int .i64 flow, .int .i64 size]⟩, cp⟩) (cp + 1))) :
    PutR σ b Q id flow size x n d (σ'.set (σ.next + 1) v) l := by
  have ne := H.ne
  have lt := H.lt
  obtain ⟨gx, hxl, hxc⟩ := H.fl flow x hF
  have hno : lkV ep id = none := by rw [hlp, hP]; rfl
  have sf : ∀ c, c ≠ σ.next + 1 → (σ'.set (σ.next + 1) v).get c = σ'.get c := fun c hc => by rw [St.get_set, if_neg (Ne.symm hc)]
  have core : ∀ c ∈ b.core, c < σ.next := lt
  have lo : ∀ c, c < σ.next → (σ'.set (σ.next + 1) v).get c = σ'.get c := fun c hc => sf c (by omega)
  have inh : ∀ c ∈ b.h :: b.m :: b.A, c ∈ b.core := fun c hc => by simp only [QB.core, List.mem_cons] at hc ⊢; rcases hc with h | h | h <;> simp [h]
  have xq : ¬ x.blk = b.q := fun e => hxc (by simp [QB.core, e])
  have xf : ¬ x.blk = b.fm := fun e => hxc (by simp [QB.core, e])
  have nq : b.q ∉ b.h :: b.m :: b.A := fun hm => by
    simp only [List.mem_cons] at hm
    rcases hm with h | h | h
    · exact ne.q_h h
    · exact ne.q_m h
    · exact (ne.A _ h).1 rfl
  have nf : b.fm ∉ b.h :: b.m :: b.A := fun hm => by
    simp only [List.mem_cons] at hm
    rcases hm with h | h | h
    · exact ne.fm_h h
    · exact ne.fm_m h
    · exact (ne.A _ h).2.1 rfl
  refine ⟨hl, A', fun c hc => by rcases hA c hc with h | h; exact .inl h; exact .inr (by omega), ?_⟩
  have newcore : ∀ c, c ∈ ({ b with A := A' } : QB).core → c ∈ b.core ∨ σ.next + K ≤ c := fun c hc => by
    simp only [QB.core, List.mem_cons] at hc ⊢
    rcases hc with h | h | h | h | h | h
    · simp [h]
    · simp [h]
    · simp [h]
    · simp [h]
    · simp [h]
    · rcases hA c h with h | h
      · simp [h]
      · exact .inr h
  exact { gq := (lo _ (lt _ (by simp [QB.core]))).trans ((kc _ (lt _ (by simp [QB.core])) xq ne.q_pm.symm nq).trans H.gq)
          hx := hx'.keep (Nat.le_refl _) fun c hc => sf c (by
            rcases newcore c (by simp only [QB.core, List.mem_cons] at hc ⊢; rcases hc with h | h | h <;> simp [h]) with h | h
            · have := lt c h; omega
            · omega)
          mf := by
            obtain ⟨es, ck, gf, a, f, g⟩ := H.mf
            refine ⟨es, ck, (lo _ (lt _ (by simp [QB.core]))).trans ((kc _ (lt _ (by simp [QB.core])) xf ne.fm_pm.symm nf).trans gf), a, fun k => ?_, g⟩
            rw [f]
            show (Q.F k).map ptrOf = (updF Q.F flow _ k).map ptrOf
            by_cases e : k = flow
            · subst e; rw [updF_same, hF]; rfl
            · rw [updF_other _ _ e]
          mp := ⟨_, _, (lo _ (lt _ (by simp [QB.core]))).trans kpm, pushV_KI hkp hno, fun k => by
            rw [pushV_lk hkp hno]
            show _ = (updF Q.P id _ k).map (packOf k)
            by_cases e : k = id
            · subst e; rw [if_pos rfl, updF_same]; rfl
            · rw [if_neg e, updF_other _ _ e, hlp], by rw [pushV_length, hlen], hbp.push _ _⟩
          fl := fun k y hy => by
            have h1 : updF Q.F flow _ k = some y := hy
            clear hy
            by_cases e : k = flow
            · subst e
              rw [updF_same] at h1
              cases h1
              refine ⟨(lo _ hxl).trans kx, by show x.blk < σ'.next; omega, fun hm => ?_⟩
              rcases newcore _ hm with h | h
              · exact hxc h
              · have h : σ.next + K ≤ x.blk := h
                omega
            · rw [updF_other _ _ e] at h1
              obtain ⟨a1, a2, a3⟩ := H.fl k y h1
              refine ⟨(lo _ a2).trans ((kc _ a2 (fun e' => e (H.inj _ _ _ _ h1 hF e'.symm)) (fun e' => a3 (by simp [QB.core, e'])) (fun hm => a3 (inh _ hm))).trans a1), by show y.blk < σ'.next; omega, fun hm => ?_⟩
              rcases newcore _ hm with h | h
              · exact a3 h
              · omega
          inj := fun k k' y y' hy hy' hb => by
            have h1 : updF Q.F flow _ k = some y := hy
            have h2 : updF Q.F flow _ k' = some y' := hy'
            clear hy hy'
            by_cases e : k = flow <;> by_cases e' : k' = flow
            · rw [e, e']
            · rw [e, updF_same] at h1
              rw [updF_other _ _ e'] at h2
              cases h1
              rw [e]
              exact H.inj _ _ _ _ hF h2 hb
            · rw [e', updF_same] at h2
              rw [updF_other _ _ e] at h1
              cases h2
              rw [e']
              exact H.inj _ _ _ _ h1 hF hb
            · rw [updF_other _ _ e] at h1
              rw [updF_other _ _ e'] at h2
              exact H.inj k k' y y' h1 h2 hb
          nodup := ne.core (n := σ.next) (fun c hc => by rcases hA c hc with h | h; exact .inl h; exact .inr (by omega)) lt hx'.nodup
          lt := fun c hc => by
            rcases newcore c hc with h | h
            · have := lt c h; show c < σ'.next; omega
            · have h3 := hx'.lt
              simp only [QB.core, List.mem_cons] at hc
              rcases hc with h | h | h | h | h | h
              · have := lt b.q (by simp [QB.core]); show c < σ'.next; omega
              · have := lt b.fm (by simp [QB.core]); show c < σ'.next; omega
              · have := lt b.pm (by simp [QB.core]); show c < σ'.next; omega
              · exact h3 c (by simp [h])
              · exact h3 c (by simp [h])
              · exact h3 c (by simp [h]) }
theorem keep_log {σ σ' : St} {l : Log} {B : List Nat} (hl : Logged σ σ' l) (h : ∀ c ∈ l, c ∈ B ∨ σ.next ≤ c) : ∀ c, c < σ.next → c ∉ B → σ'.get c = σ.get c := fun c hc hn =>
 hl.2 c hc fun hm => by
  rcases h c hm with h | h
  ·exact hn h
  ·omega
set_option maxRecDepth 20000 in
theorem qput_call {σ : St} {b : QB} {Q : QV} (H : QAt σ b Q) (id flow : Int) (size now S R : Nat) {x : FlowV} (hF : Q.F flow = some x) (hP : Q.P id = none) (hid : 0 ≤ id ∧ id ≤ 4611686018427387904) (hfl : 0 ≤ flow ∧ flow ≤ 2147483647) (hsz : 1 ≤ size ∧ size ≤ 2000) (hnow : now ≤ 2147483647)
  (hx1 : x.rate = R) (hx2 : x.n = fN S R) (hx3 : x.d = fD S R) (hR : 1 ≤ R ∧ R ≤ 1000000) (hS : S < 1000000000000000000) (hb : -100000000 ≤ x.bytes ∧ x.bytes ≤ 100000000) (hr : 0 ≤ x.room ∧ x.room ≤ 1000000000) (hroom : x.bytes + size ≤ x.room) (hnp : Q.np < 50000) (hnew : ∀ y ∈ Q.L, y.id ≠ id) (hL : Q.L.length < 1000) (ht : 0 ≤ Q.t ∧ Q.t < 1000000) :
  callX Tryz.prog 18 [.pointer (some ⟨b.q, 0, none⟩), .agg ⟨[.int .i64 id, .int .i64 flow, .int .i64 size]⟩, .int .i64 now] σ fun e σ' l =>
   e = .ret (.tuple ⟨[.agg ⟨[.int .i64 (fN (max (now * R) S + size) R : Int), .int .i64 (fD (max (now * R) S + size) R : Int)]⟩, .int .i64 0]⟩) ∧ PutR σ b Q id flow size x (fN (max (now * R) S + size) R) (fD (max (now * R) S + size) R) σ' l := by
 have gq := H.gq
 obtain ⟨es, ck, gf, hki, hlk, hlen, hbr⟩ := H.mf
 obtain ⟨ep, cp, gp, hkp, hlp, hlenp, hbp⟩ := H.mp
 obtain ⟨gx, hxl, hxc⟩ := H.fl flow x hF
 have hq : b.q < σ.next := H.lt _ (by simp [QB.core])
 have hfm : b.fm < σ.next := H.lt _ (by simp [QB.core])
 have hpm : b.pm < σ.next := H.lt _ (by simp [QB.core])
 obtain ⟨j, e, hfind, hev, _, _⟩ := findV_some und2' (i := 0) (v := ptrOf x) hki ((hlk flow).trans (by show (Q.F flow).map ptrOf = _; rw [hF]; rfl))
 have hfindp := findV_none und2' (i := 0) hkp ((hlp id).trans (by show (Q.P id).map (packOf id) = none; rw [hP]; rfl))
 have hn' : ¬ (50000 : Int) ≤ ep.length := by omega
 have hM : max (now * R) S + size < 2000000000000000000 := by
  have : now * R ≤ 2147483647 * 1000000 := Nat.mul_le_mul hnow hR.2
  omega
 obtain ⟨M, hMe⟩ : ∃ M, max (now * R) S = M := ⟨_, rfl⟩
 have hgr := greater_frac (S := S) (R := R) (now := now) (by omega)
 rw [hMe] at hM hgr ⊢
 rw [← hx2, ← hx3] at hgr
 have s1 : (1 : Int) ≤ (size : Int) := by omega
 have s2 : (size : Int) ≤ 2000 := by omega
 have w1 : IntKind.i64.wrap (x.room - x.bytes) = x.room - x.bytes := wrapI (by omega) (by omega)
 have w2 : IntKind.i64.wrap (x.bytes + size) = x.bytes + size := wrapI (by omega) (by omega)
 have l1 : ¬ x.room - x.bytes < size := by omega
 have l2 : (0 : Int) ≤ now := by omega
 have l3 : (now : Int) ≤ 2147483647 := by omega
 have k1 : okR (now : Int) 1 = true := by simp [okR, okI, chk]; omega
 have k2 : okR x.n x.d = true := by rw [hx2, hx3]; exact okR_frac (by omega) (by omega) (by omega)
 simp only [FlowV.cells] at gx
 have ne := H.ne
 have n1 : ¬ x.blk = b.q := fun e' => hxc (by simp [QB.core, e'])
 have n2 : ¬ x.blk = b.pm := fun e' => hxc (by simp [QB.core, e'])
 have n3 : ¬ b.q = b.pm := ne.q_pm
 have n4 : ¬ b.pm = b.q := ne.q_pm.symm
 have n5 : ¬ b.q = x.blk := fun e' => n1 e'.symm
 have n6 : ¬ b.pm = x.blk := fun e' => n2 e'.symm
 refine enter (p := q8) Tryz.func18 rfl stat18 ?_
 simp only [go_sem, seval, if_pos rfl, opLen, callW, q8, p8, p7, p6, p5, p4, p3, p2, p1, Tryz.f18]
 refine .of (qnone_call (q := b.q) (by simp only [go_sem, seval, if_pos rfl, opLen, hq, gq]; rfl)) ?_
 simp only [go_sem, seval, if_pos rfl, opLen, callW, q8, p8, p7, p6, p5, p4, p3, p2, p1, ptrOf, gq, gf, gp, hq, hfm, hpm, hfind, hev, hfindp, und2']
 refine .of (within_call _ _ _ _) ?_
 simp only [go_sem, seval, if_pos rfl, opLen, callW, q8, p8, p7, p6, p5, p4, p3, p2, p1, hid.1, hid.2]
 refine .of (within_call _ _ _ _) ?_
 simp only [go_sem, seval, if_pos rfl, opLen, callW, q8, p8, p7, p6, p5, p4, p3, p2, p1, hfl.1, hfl.2]
 refine .of (within_call _ _ _ _) ?_
 simp only [go_sem, seval, if_pos rfl, opLen, callW, q8, p8, p7, p6, p5, p4, p3, p2, p1, s1, s2]
 refine .of (within_call _ _ _ _) ?_
 simp only [go_sem, seval, if_pos rfl, opLen, callW, q8, p8, p7, p6, p5, p4, p3, p2, p1, l2, l3, l1, w1, gx, hxl, gq, gp, hq, hpm, hn']
 refine .of (whole_call' _ _) ?_
 simp only [go_sem, seval, if_pos rfl, opLen, callW, q8, p8, p7, p6, p5, p4, p3, p2, p1, zerosN, gx, hxl]
 refine .of (greatest_call (by simp only [go_sem, seval, if_pos rfl, opLen]) (by simp only [go_sem, seval, if_pos rfl, opLen]) k1 k2) ?_
 simp only [go_sem, seval, if_pos rfl, opLen, callW, q8, p8, p7, p6, p5, p4, p3, p2, p1, hgr, gx, hxl, hx1]
 refine .of (makeN_call size R _ (by omega) (by omega) (by omega)) ?_
 simp only [go_sem, seval, if_pos rfl, opLen, callW, q8, p8, p7, p6, p5, p4, p3, p2, p1, gx, hxl]
 refine .of (addF_call M size R _ (by omega) (by omega) (by omega)) ?_
 simp only [go_sem, seval, if_pos rfl, opLen, callW, q8, p8, p7, p6, p5, p4, p3, p2, p1, gx, hxl, w2, gq, gp, hq, hpm, hfindp, und2', n1, n2, n3, n4, n5, n6]
 have hx := H.hx
 have hA := H.hx.lt
 refine callX.ret (HX.put (hx.keep ?_ ?_) id _ _ hid.1 hid.2 (okR_frac (by omega) (by omega) (by omega)) ht.1 ht.2 hnew hL) ?_
 ·simp only [go_sem, seval, if_pos rfl, opLen]
 ·intro c hc
  have hlt := hA c hc
  have m1 : ¬ x.blk = c := fun e' => hxc (by rw [e']; simp only [QB.core, List.mem_cons] at hc ⊢; rcases hc with h | h | h <;> simp [h])
  have m2 : ¬ b.pm = c := fun e' => by
   simp only [List.mem_cons] at hc
   rcases hc with h | h | h
   ·exact ne.pm_h (e'.trans h)
   ·exact ne.pm_m (e'.trans h)
   ·exact (ne.A c h).2.2.1 e'.symm
  simp only [go_sem, seval, if_pos rfl, opLen, hlt, m1, m2]
 intro σ' l hl ⟨hlg, A', hA', hx'⟩
 have nx := hl.1
 have kp := keep_log hl hlg
 have hA2 : ∀ c ∈ A', c ∈ b.A ∨ σ.next + 7 ≤ c := fun c hc => by
  have := hA' c hc
  simp only [go_sem, seval, if_pos rfl, opLen] at this
  exact this
 have hl2 : ∀ c ∈ l, c ∈ b.h :: b.m :: b.A ∨ σ.next + 7 ≤ c := fun c hc => by
  rcases hlg c hc with h | h
  ·exact .inl h
  ·simp only [go_sem, seval, if_pos rfl, opLen] at h
   exact .inr h
 have k6 := kp (σ.next + 6) (by simp only [go_sem, seval, if_pos rfl, opLen]) fun hm => by have := hA _ hm; omega
 have k1 := kp (σ.next + 1) (by simp only [go_sem, seval, if_pos rfl, opLen]) fun hm => by have := hA _ hm; omega
 have kx := kp x.blk (by simp only [go_sem, seval, if_pos rfl, opLen, hxl]) fun hm => hxc (by simp only [QB.core, List.mem_cons] at hm ⊢; rcases hm with h | h | h <;> simp [h])
 have kpm := kp b.pm (by simp only [go_sem, seval, if_pos rfl, opLen, hpm]) fun hm => by
  simp only [List.mem_cons] at hm
  rcases hm with h | h | h
  ·exact ne.pm_h h
  ·exact ne.pm_m h
  ·exact (ne.A _ h).2.2.1 rfl
 have kc : ∀ c, c < σ.next → ¬ x.blk = c → ¬ b.pm = c → c ∉ b.h :: b.m :: b.A → σ'.get c = σ.get c := fun c c1 c2 c3 c4 => by
  have := kp c (by simp only [go_sem, seval, if_pos rfl, opLen, c1]) c4
  simp only [go_sem, seval, if_pos rfl, opLen, c1, c2, c3] at this
  exact this
 simp only [go_sem, seval, if_pos rfl, opLen, hxl, hpm, n1, n2, n3, n4, n5, n6] at nx k6 k1 kx kpm
 clear kp hl hlg hA'
 simp only [go_sem, seval, if_pos rfl, opLen, k6, k1, Nat.add_eq]
 refine qput_state H (K := 7) hF (by omega) hkp hlp hlenp hbp hP hx' hA2 (fun c hc => ?_) kc nx kx kpm
 simp only [List.mem_cons, List.mem_append, List.not_mem_nil, or_false] at hc
 have fx : Foot b Q x.blk := .inr ⟨flow, x, hF, rfl⟩
 rcases hc with h | h | h | h | h | h | h | h | h
 ·exact .inr (by omega)
 ·exact .inr (by omega)
 ·exact .inr (by omega)
 ·exact .inr (by omega)
 ·exact .inl (h ▸ fx)
 ·exact .inl (h ▸ fx)
 ·exact .inl (.inl (by simp [QB.core, h]))
 ·rcases hl2 c h with h | h
  ·exact .inl (.inl (by simp only [QB.core, List.mem_cons] at h ⊢; rcases h with h | h | h <;> simp [h]))
  ·exact .inr (by omega)
 ·exact .inr (by omega)
end Go.Ab
namespace Go.Ab
open Go.Proofs
theorem qlen_call {σ : St} {b : QB} {Q : QV} (H : QAt σ b Q) : DCall Tryz.prog 64 [.pointer (some ⟨b.q, 0, none⟩)] σ (.ret (.int .i64 Q.L.length)) σ [] := by
 have gq := H.gq
 refine pure_call (enter (p := q8) Tryz.func64 rfl stat64 ?_) rfl
 simp only [go_sem, seval, if_pos rfl, opLen, callW, q8, p8, p7, p6, p5, p4, p3, p2, p1, Tryz.f64]
 refine .of (qnone_call gq) ?_
 simp only [go_sem, seval, if_pos rfl, opLen, callW, q8, p8, p7, p6, p5, p4, p3, p2, p1, gq]
 refine .of (len_hv H.hx.toV) ?_
 simp only [go_sem, seval, if_pos rfl, opLen]
theorem QAt.change {σ σ' : St} {b : QB} {Q : QV} (H : QAt σ b Q) {flow : Int} {x x' : FlowV} {A' : List Nat} {P' : Int → Option (Int × Int)} {np' : Nat} {L' : List Item} {t' : Int} (hF : Q.F flow = some x) (hblk : x'.blk = x.blk)
    (hx' : HX σ' b.h b.m A' L' t') (hA : ∀ c ∈ A', c ∈ b.A ∨ σ.next ≤ c)
    (kc : ∀ c, c < σ.next → ¬ x.blk = c → ¬ b.pm = c → c ∉ b.h :: b.m :: b.A → σ'.get c = σ.get c) (nx : σ.next ≤ σ'.next)
    (kx : σ'.get x.blk = some (.cells (x'.cells flow) false)) (mp' : MapAt σ' b.pm (fun k => (P' k).map (packOf k)) np') :
    QAt σ' { b with A := A' } { Q with F := updF Q.F flow (some x'), P := P', np := np', L := L', t := t' } := by
  have ne := H.ne
  have lt := H.lt
  obtain ⟨gx, hxl, hxc⟩ := H.fl flow x hF
  have inh : ∀ c ∈ b.h :: b.m :: b.A, c ∈ b.core := fun c hc => by simp only [QB.core, List.mem_cons] at hc ⊢; rcases hc with h | h | h <;> simp [h]
  have xq : ¬ x.blk = b.q := fun e => hxc (by simp [QB.core, e])
  have xf : ¬ x.blk = b.fm := fun e => hxc (by simp [QB.core, e])
  have nq : b.q ∉ b.h :: b.m :: b.A := fun hm => by
    simp only [List.mem_cons] at hm
    rcases hm with h | h | h
    · exact ne.q_h h
    · exact ne.q_m h
    · exact (ne.A _ h).1 rfl
  have nf : b.fm ∉ b.h :: b.m :: b.A := fun hm => by
    simp only [List.mem_cons] at hm
    rcases hm with h | h | h
    · exact ne.fm_h h
    · exact ne.fm_m h
    · exact (ne.A _ h).2.1 rfl
  have newcore : ∀ c, c ∈ ({ b with A := A' } : QB).core → c ∈ b.core ∨ σ.next ≤ c := fun c hc => by
    simp only [QB.core, List.mem_cons] at hc ⊢
    rcases hc with h | h | h | h | h | h
    · simp [h]
    · simp [h]
    · simp [h]
    · simp [h]
    · simp [h]
    · rcases hA c h with h | h
      · simp [h]
      · exact .inr h
  exact { gq := (kc _ (lt _ (by simp [QB.core])) xq ne.q_pm.symm nq).trans H.gq
          hx := hx'
          mf := by
            obtain ⟨es, ck, gf, a, f, g⟩ := H.mf
            refine ⟨es, ck, (kc _ (lt _ (by simp [QB.core])) xf ne.fm_pm.symm nf).trans gf, a, fun k => ?_, g⟩
            rw [f]
            show (Q.F k).map ptrOf = (updF Q.F flow _ k).map ptrOf
            by_cases e : k = flow
            · subst e; rw [updF_same, hF]; simp only [Option.map, ptrOf, hblk]
            · rw [updF_other _ _ e]
          mp := mp'
          fl := fun k y hy => by
            have h1 : updF Q.F flow _ k = some y := hy
            clear hy
            by_cases e : k = flow
            · subst e
              rw [updF_same] at h1
              cases h1
              rw [hblk]
              refine ⟨kx, by omega, fun hm => ?_⟩
              rcases newcore _ hm with h | h
              · exact hxc h
              · omega
            · rw [updF_other _ _ e] at h1
              obtain ⟨a1, a2, a3⟩ := H.fl k y h1
              refine ⟨(kc _ a2 (fun e' => e (H.inj _ _ _ _ h1 hF e'.symm)) (fun e' => a3 (by simp [QB.core, e'])) (fun hm => a3 (inh _ hm))).trans a1, by omega, fun hm => ?_⟩
              rcases newcore _ hm with h | h
              · exact a3 h
              · omega
          inj := fun k k' y y' hy hy' hb => by
            have h1 : updF Q.F flow _ k = some y := hy
            have h2 : updF Q.F flow _ k' = some y' := hy'
            clear hy hy'
            by_cases e : k = flow <;> by_cases e' : k' = flow
            · rw [e, e']
            · rw [e, updF_same] at h1
              rw [updF_other _ _ e'] at h2
              cases h1
              rw [e]
              exact H.inj _ _ _ _ hF h2 (hblk.symm.trans hb)
            · rw [e', updF_same] at h2
              rw [updF_other _ _ e] at h1
              cases h2
              rw [e']
              exact H.inj _ _ _ _ h1 hF (hb.trans hblk)
            · rw [updF_other _ _ e] at h1
              rw [updF_other _ _ e'] at h2
              exact H.inj k k' y y' h1 h2 hb
          nodup := ne.core (n := σ.next) hA lt hx'.nodup
          lt := fun c hc => by
            have h3 := hx'.lt
            simp only [QB.core, List.mem_cons] at hc
            rcases hc with h | h | h | h | h | h
            · have := lt b.q (by simp [QB.core]); omega
            · have := lt b.fm (by simp [QB.core]); omega
            · have := lt b.pm (by simp [QB.core]); omega
            · exact h3 c (by simp [h])
            · exact h3 c (by simp [h])
            · exact h3 c (by simp [h]) }
def TakeR (σ : St) (b : QB) (Q : QV) (id flow size : Int) (x : FlowV) (σ' : St) (l : Log) : Prop :=
 (∀ c ∈ l, Foot b Q c ∨ σ.next ≤ c) ∧ QAt σ' b { Q with F := updF Q.F flow (some { x with bytes := x.bytes - size }), P := updF Q.P id none, np := Q.np - 1, L := outL Q.L 0 }
set_option maxRecDepth 20000 in
theorem qtake_call {σ : St} {b : QB} {Q : QV} (H : QAt σ b Q) {y : Item} (hy : Q.L[0]? = some y) {flow size : Int} (hP : Q.P y.id = some (flow, size)) {x : FlowV} (hF : Q.F flow = some x) (hsz : 0 ≤ size ∧ size ≤ 2000) (hb : -100000000 ≤ x.bytes ∧ x.bytes ≤ 100000000) :
  callX Tryz.prog 35 [.pointer (some ⟨b.q, 0, none⟩)] σ fun e σ' l =>
   e = .ret (.tuple ⟨[.agg ⟨[.int .i64 y.id, .int .i64 flow, .int .i64 size]⟩, .agg ⟨[.int .i64 y.n, .int .i64 y.d]⟩, .bool true]⟩) ∧ TakeR σ b Q y.id flow size x σ' l := by
 have gq := H.gq
 obtain ⟨es, ck, gf, hki, hlk, hlen, hbr⟩ := H.mf
 obtain ⟨ep, cp, gp, hkp, hlp, hlenp, hbp⟩ := H.mp
 obtain ⟨gx, hxl, hxc⟩ := H.fl flow x hF
 have hq : b.q < σ.next := H.lt _ (by simp [QB.core])
 have hfm : b.fm < σ.next := H.lt _ (by simp [QB.core])
 have hpm : b.pm < σ.next := H.lt _ (by simp [QB.core])
 obtain ⟨j, e, hfind, hev, _, _⟩ := findV_some und2' (i := 0) (v := ptrOf x) hki ((hlk flow).trans (by show (Q.F flow).map ptrOf = _; rw [hF]; rfl))
 obtain ⟨jp, ep', hfindp, hevp, hjp, hkeyp⟩ := findV_some und2' (i := 0) (v := packOf y.id (flow, size)) hkp ((hlp y.id).trans (by show (Q.P y.id).map (packOf y.id) = _; rw [hP]; rfl))
 have w2 : IntKind.i64.wrap (x.bytes - size) = x.bytes - size := wrapI (by omega) (by omega)
 have l0 : ((Q.L.length : Int) == 0) = false := by
  have := (List.getElem?_eq_some_iff.1 hy).1
  rw [beq_eq_false_iff_ne]; omega
 have ne := H.ne
 have hx := H.hx
 have hA := H.hx.lt
 have n1 : ¬ x.blk = b.q := fun e' => hxc (by simp [QB.core, e'])
 have n2 : ¬ x.blk = b.pm := fun e' => hxc (by simp [QB.core, e'])
 have n3 : ¬ b.q = b.pm := ne.q_pm
 have n4 : ¬ b.pm = b.q := ne.q_pm.symm
 have n5 : ¬ b.q = x.blk := fun e' => n1 e'.symm
 have n6 : ¬ b.pm = x.blk := fun e' => n2 e'.symm
 have n7 : ¬ b.pm = b.fm := ne.fm_pm.symm
 have n8 : ¬ x.blk = b.fm := fun e' => hxc (by simp [QB.core, e'])
 simp only [FlowV.cells] at gx
 have inh : ∀ c ∈ b.h :: b.m :: b.A, c ∈ b.core := fun c hc => by simp only [QB.core, List.mem_cons] at hc ⊢; rcases hc with h | h | h <;> simp [h]
 have nq : b.q ∉ b.h :: b.m :: b.A := fun hm => by
  simp only [List.mem_cons] at hm
  rcases hm with h | h | h
  ·exact ne.q_h h
  ·exact ne.q_m h
  ·exact (ne.A _ h).1 rfl
 have nf : b.fm ∉ b.h :: b.m :: b.A := fun hm => by
  simp only [List.mem_cons] at hm
  rcases hm with h | h | h
  ·exact ne.fm_h h
  ·exact ne.fm_m h
  ·exact (ne.A _ h).2.1 rfl
 have np : b.pm ∉ b.h :: b.m :: b.A := fun hm => by
  simp only [List.mem_cons] at hm
  rcases hm with h | h | h
  ·exact ne.pm_h h
  ·exact ne.pm_m h
  ·exact (ne.A _ h).2.2.1 rfl
 refine enter (p := q8) Tryz.func35 rfl stat35 ?_
 simp only [go_sem, seval, if_pos rfl, opLen, callW, q8, p8, p7, p6, p5, p4, p3, p2, p1, Tryz.f35]
 refine .of (qnone_call (q := b.q) (by simp only [go_sem, seval, if_pos rfl, opLen, hq, gq]; rfl)) ?_
 simp only [go_sem, seval, if_pos rfl, opLen, callW, q8, p8, p7, p6, p5, p4, p3, p2, p1]
 refine .of (qlen_call (H.keep ?_ ?_)) ?_
 ·simp only [go_sem, seval, if_pos rfl, opLen]
 ·intro c hc
  have : c < σ.next := by
   rcases hc with hc | ⟨k, z, hz, rfl⟩
   ·exact H.lt c hc
   ·exact (H.fl k z hz).2.1
  simp only [go_sem, seval, if_pos rfl, opLen, this]
 simp only [go_sem, seval, if_pos rfl, opLen, callW, q8, p8, p7, p6, p5, p4, p3, p2, p1, l0, gq, hq]
 refine callX.ret (HX.take (hx.keep ?_ ?_) hy) ?_
 ·simp only [go_sem, seval, if_pos rfl, opLen]
 ·intro c hc
  have := hA c hc
  simp only [go_sem, seval, if_pos rfl, opLen, this]
 intro σ' l hl ⟨hlg, hx'⟩
 have nx := hl.1
 have kp := keep_log hl hlg
 have hl2 : ∀ c ∈ l, c ∈ b.h :: b.m :: b.A ∨ σ.next + 2 ≤ c := fun c hc => by
  rcases hlg c hc with h | h
  ·exact .inl h
  ·simp only [go_sem, seval, if_pos rfl, opLen] at h
   exact .inr h
 have k0 := kp σ.next (by simp only [go_sem, seval, if_pos rfl, opLen]) fun hm => by have := hA _ hm; omega
 have k1 := kp (σ.next + 1) (by simp only [go_sem, seval, if_pos rfl, opLen]) fun hm => by have := hA _ hm; omega
 have kc : ∀ c, c < σ.next → c ∉ b.h :: b.m :: b.A → σ'.get c = σ.get c := fun c c1 c4 => by
  have := kp c (by simp only [go_sem, seval, if_pos rfl, opLen, c1]) c4
  simp only [go_sem, seval, if_pos rfl, opLen, c1] at this
  exact this
 have gq' := (kc b.q hq nq).trans gq
 have gf' := (kc b.fm hfm nf).trans gf
 have gp' := (kc b.pm hpm np).trans gp
 have gx' := (kc x.blk hxl fun hm => hxc (inh _ hm)).trans gx
 simp only [go_sem, seval, if_pos rfl, opLen] at nx k0 k1
 clear kp hl hlg
 have hq' : b.q < σ'.next := by omega
 have hfm' : b.fm < σ'.next := by omega
 have hpm' : b.pm < σ'.next := by omega
 have hxl' : x.blk < σ'.next := by omega
 have h0' : σ.next < σ'.next := by omega
 have h1' : σ.next + 1 < σ'.next := by omega
 simp only [go_sem, seval, if_pos rfl, opLen, callW, q8, p8, p7, p6, p5, p4, p3, p2, p1, packOf, ptrOf, k0, k1, gq', gf', gp', gx', hq', hfm', hpm', hxl', h0', h1', hfind, hev, hfindp, hevp, und2', w2, n1, n2, n3, n4, n5, n6, n7, n8, hq, hfm, hpm, hxl]
 obtain ⟨kd1, kd2⟩ := delV_KI hkp hjp hkeyp
 have kd3 := delV_length hjp
 have fx : Foot b Q x.blk := .inr ⟨flow, x, hF, rfl⟩
 refine ⟨fun c hc => ?_, H.change (x' := { x with bytes := x.bytes - size }) (A' := b.A) hF rfl ?_ (fun c hc => .inl hc) ?_ ?_ ?_ ?_⟩
 ·simp only [List.mem_cons, List.mem_append, List.not_mem_nil, or_false] at hc
  rcases hc with (h | h) | h | h | h | h | h
  ·rcases hl2 c h with h | h
   ·exact .inl (.inl (inh c h))
   ·exact .inr (by omega)
  ·exact .inr (by omega)
  ·exact .inr (by omega)
  ·exact .inl (.inl (by simp [QB.core, h]))
  ·exact .inl (h ▸ fx)
  ·exact .inr (by omega)
  ·exact .inr (by omega)
 ·refine hx'.keep (by simp only [go_sem, seval, if_pos rfl, opLen]) fun c hc => ?_
  have c1 := hA c hc
  have c2 : c < σ'.next := by omega
  have c3 : ¬ b.pm = c := fun e' => np (e' ▸ hc)
  have c4 : ¬ x.blk = c := fun e' => hxc (e' ▸ inh c hc)
  simp only [go_sem, seval, if_pos rfl, opLen, c1, c2, c3, c4]
 ·intro c c1 c2 c3 c4
  have c5 : c < σ'.next := by omega
  simp only [go_sem, seval, if_pos rfl, opLen, c1, c2, c3, c5]
  exact kc c c1 c4
 ·simp only [go_sem, seval, if_pos rfl, opLen]; omega
 ·simp only [go_sem, seval, if_pos rfl, opLen, FlowV.cells, hxl, hxl', n1, n2]
 ·refine ⟨delE ep jp, cp, by simp only [go_sem, seval, if_pos rfl, opLen, hpm, hpm', n2], kd1, fun k => ?_, by omega, hbp.del⟩
  rw [kd2]
  show _ = (updF Q.P y.id none k).map (packOf k)
  by_cases e' : k = y.id
  ·subst e'; rw [if_pos rfl, updF_same]; rfl
  ·rw [if_neg e', updF_other _ _ e', hlp]
end Go.Ab
namespace Go.Ab
open Go.Proofs
set_option maxHeartbeats 1000000 in
set_option maxRecDepth 20000 in
theorem qtake_empty {σ : St} {b : QB} {Q : QV} (H : QAt σ b Q) (hL : Q.L = []) :
  callX Tryz.prog 35 [.pointer (some ⟨b.q, 0, none⟩)] σ fun e σ' l => e = .ret (.tuple ⟨[.agg ⟨[.int .i64 0, .int .i64 0, .int .i64 0]⟩, .agg ⟨[.int .i64 0, .int .i64 0]⟩, .bool false]⟩) ∧ ∀ c ∈ l, σ.next ≤ c := by
 have gq := H.gq
 have hq : b.q < σ.next := H.lt _ (by simp [QB.core])
 refine enter (p := q8) Tryz.func35 rfl stat35 ?_
 simp only [go_sem, seval, if_pos rfl, opLen, callW, q8, p8, p7, p6, p5, p4, p3, p2, p1, Tryz.f35]
 refine .of (qnone_call (q := b.q) (by simp only [go_sem, seval, if_pos rfl, opLen, hq, gq]; rfl)) ?_
 simp only [go_sem, seval, if_pos rfl, opLen, callW, q8, p8, p7, p6, p5, p4, p3, p2, p1]
 refine .of (qlen_call (H.keep ?_ ?_)) ?_
 ·simp only [go_sem, seval, if_pos rfl, opLen]
 ·intro c hc
  have : c < σ.next := by
   rcases hc with hc | ⟨k, z, hz, rfl⟩
   ·exact H.lt c hc
   ·exact (H.fl k z hz).2.1
  simp only [go_sem, seval, if_pos rfl, opLen, this]
 have l0 : ((([] : List Item).length : Int) == 0) = true := rfl
 rw [hL]
 simp only [go_sem, seval, if_pos rfl, opLen, callW, q8, p8, p7, p6, p5, p4, p3, p2, p1, zerosN, l0, undef]
end Go.Ab
namespace Go.Ab
open Go.Proofs
theorem HX.drop {σ : St} {h m : Nat} {A : List Nat} {L : List Item} {t : Int} (H : HX σ h m A L t) {n : Nat} {x : Item} (hx : L[n]? = some x) :
  callX Tryz.prog 43 [.pointer (some ⟨h, 0, none⟩), .int .i64 x.id] σ fun e σ' l => e = .ret (.int .i64 0) ∧ ((∀ c ∈ l, c ∈ h :: m :: A) ∧ HX σ' h m A (outL L n) t) := by
 rcases H with ⟨rfl, rfl, H⟩ | ⟨a, cap, rfl, H⟩
 ·simp at hx
 ·obtain ⟨σ', d, b3⟩ := H.drop hx
  refine .of d ⟨rfl, fun c hc => ?_, .inr ⟨a, cap, rfl, b3⟩⟩
  simp at hc ⊢; omega
theorem HX.get {σ : St} {h m : Nat} {A : List Nat} {L : List Item} {t : Int} (H : HX σ h m A L t) {n : Nat} {x : Item} (hx : L[n]? = some x) :
  DCall Tryz.prog 42 [.pointer (some ⟨h, 0, none⟩), .int .i64 x.id] σ (.ret (.tuple ⟨[.agg ⟨x.cells⟩, .bool true]⟩)) σ [] := by
 rcases H with ⟨rfl, _, H⟩ | ⟨a, cap, _, H⟩
 ·simp at hx
 ·exact H.get hx
end Go.Ab
