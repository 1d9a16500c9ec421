/- A region that draws its order: whatever order is drawn. -/
import Derived.StillTail
import Derived.Test.YtljahbpkhienkaaPvFm
namespace Go.Pv
open Go.Vc
open Go.RowKit (Below)

/-- What is asked of the operations of a region that draws, the first n in whatever order, the others one behind the other. -/
def waitsL (o : Oper) (i : Nat) : Bool := o.after.toList.any fun e => Region.binds .any e && e.on == i

def pairsB (ops : Array Oper) (oi : Oper) (i : Nat) : List Oper → Bool
  | [] => true
  | oj :: r => (waitsL oj i || oi.apart ops oj) && pairsB ops oi i r

def headB (ops : Array Oper) : List Oper → Nat → Nat → Bool
  | _, _, 0 => true
  | [], _, _ => true
  | o :: r, i, n + 1 => (o.after.toList.all fun e => !Region.binds .any e || decide (e.on < i)) && pairsB ops o i r && headB ops r (i + 1) n

def headL (n m : Nat) : Array Bool := ((List.range m).map fun i => decide (i < n)).toArray

/-- An operation that only looks at a slot: it may come late. -/
def isFl (mv : Bool) (o : Oper) : Bool := match o.op with
  | .extract _ _ => match o.guard, o.dst with
    | none, some _ => true
    | _, _ => false
  | .move _ => match o.guard, o.dst with
    | none, some _ => mv
    | _, _ => false
  | _ => false

def flAt (mv : Bool) (all : List Oper) (i : Nat) : Bool := match all[i]? with
  | some o => isFl mv o
  | none => false

def sinkF (mv : Bool) (all : List Oper) (n : Nat) : Bool :=
  (List.range n).all fun i => flAt mv all i || (List.range (n + 1)).any fun j => decide (i < j) && (decide (j = n) || !flAt mv all j) && Region.waitsFor .any all.toArray j i

def pairF (all : List Oper) (i j : Nat) : Bool := match all[i]? with
  | some oi => match all[j]? with
    | some oj => waitsL oj i || oi.apart all.toArray oj
    | none => true
  | none => true

def apartF (mv : Bool) (all : List Oper) (n : Nat) : Bool :=
  (List.range n).all fun i => !flAt mv all i || (List.range all.length).all fun j => decide (j = i) || (decide (j < n) && !flAt mv all j) || pairF all i j

def floatOk (mv : Bool) (all : List Oper) (n : Nat) : Bool :=
  decide (n < all.length) && (Region.noSelect all.toArray && (sinkF mv all n && (Region.chainB .any all.toArray n && (apartF mv all n && Region.seqB .any all.toArray (all.length - n) n (headL n all.length)))))

def drawB (all : List Oper) : Bool :=
  headB all.toArray all 0 (cut2 all) &&
  ((floatOk false all (cut2 all) || floatOk true all (cut2 all)) || cut2 all == all.length || (Region.sinkB .any all.toArray (cut2 all) && Region.chainB .any all.toArray (cut2 all) && Region.seqB .any all.toArray (all.length - cut2 all) (cut2 all) (headL (cut2 all) all.length)))

theorem pairsB_spec {ops : Array Oper} {oi : Oper} {i : Nat} : ∀ {l : List Oper}, pairsB ops oi i l = true → ∀ oj ∈ l, waitsL oj i = true ∨ oi.apart ops oj = true
  | [], _, _, h => by cases h
  | o :: r, hb, oj, h => by
    simp only [pairsB, Bool.and_eq_true, Bool.or_eq_true] at hb
    rcases List.mem_cons.1 h with rfl | h
    · exact hb.1
    · exact pairsB_spec hb.2 oj h

theorem headB_spec {ops : Array Oper} : ∀ {l : List Oper} {k n : Nat}, headB ops l k n = true → ∀ i oi, i < n → l[i]? = some oi →
    (∀ e ∈ oi.after, Region.binds .any e = true → e.on < k + i) ∧ ∀ j oj, i < j → l[j]? = some oj → waitsL oj (k + i) = true ∨ oi.apart ops oj = true
  | [], _, _, _, i, oi, _, hi => by simp at hi
  | o :: r, k, 0, _, i, oi, hn, _ => by omega
  | o :: r, k, n + 1, hb, i, oi, hn, hi => by
    simp only [headB, Bool.and_eq_true] at hb
    obtain ⟨⟨h1, h2⟩, h3⟩ := hb
    cases i with
    | zero =>
      simp only [List.getElem?_cons_zero, Option.some.injEq] at hi
      subst hi
      refine ⟨fun e he hbd => ?_, fun j oj hj hoj => ?_⟩
      · have := List.all_eq_true.1 h1 e (Array.mem_toList_iff.2 he)
        simpa [hbd] using this
      · cases j with
        | zero => omega
        | succ j => exact pairsB_spec h2 oj (List.mem_of_getElem? (by simpa using hoj))
    | succ i =>
      simp only [List.getElem?_cons_succ] at hi
      have := headB_spec h3 i oi (by omega) hi
      rw [show k + (i + 1) = k + 1 + i by omega]
      refine ⟨this.1, fun j oj hj hoj => ?_⟩
      cases j with
      | zero => omega
      | succ j => exact this.2 j oj (by omega) (by simpa using hoj)

/-- What one operation of the head comes to, whatever has been done before it. -/
def OpFact (w0 : World) (S0 : Fr) (P : Program) (N : Nat) (all : List Oper) (obs : Obs) (o : Oper) (g : Nat → SV) (sv : SV) (ob : Option Ob) : Prop :=
  ∀ (B : Nat → Prop) (ρ : Nat → Value) (S : Nat → Prop) (a : Act) (w : World), (∀ i, i < obs.length → B i) → (∀ i, B i → Plain (ρ i)) → a.tmps.size = N → a.defers = [] → (∀ t ∈ o.looksAt all.toArray, Den ρ B w S (g t) (a.tmps.getD t undef)) → SatW w0 S0 obs ρ S w →
    (Region.wanted o (yielded all.toArray a.tmps) = false ∧ sv = .p (.v undef) ∧ ob = none) ∨
    (Region.wanted o (yielded all.toArray a.tmps) = true ∧ ∀ (K : Act → World → Prop) (Q : Exit → Act → World → Prop),
      (∀ v w' S', Le w w' → (∀ b, S b → S' b) → (∀ b, S' b → S b ∨ w.heap.size ≤ b) → SatW w0 S0 obs ρ S' w' → (match ob with | none => Den ρ B w' S' sv v | some ob => ob.live = true ∧ flatOb ob = true ∧ ObOk ρ B w' S' ob v ∧ Plain v ∧ ∃ b, blk v = some b ∧ w.heap.size ≤ b ∧ ¬ S' b) → K (a.put o.dst v) w') → o.wp P a w K Q)

def Same (x y : SV) : Prop := ∀ ρ B w S v, Den ρ B w S x v ↔ Den ρ B w S y v

section
variable {w0 : World} {S0 : Fr} {P : Program} {F : Nat} {T : Tab} {N : Nat} {obs : Obs}

theorem looks_operand {all : List Oper} {o : Oper} {x : Operand} {t : Nat} (hx : x ∈ o.op.operands) (ht : x = .tmp t) : t ∈ o.looksAt all.toArray := by
  subst ht
  exact List.mem_append_left _ (List.mem_filterMap.2 ⟨.tmp t, by simpa using hx, rfl⟩)

theorem looks_guard {all : List Oper} {o : Oper} {j t : Nat} {want : Bool} (hg : o.guard = some (j, want)) (hd : dstOf all j = some t) : t ∈ o.looksAt all.toArray := by
  rw [dstOf_eq] at hd
  refine List.mem_append_right _ ?_
  simp [hg, hd]

theorem guard_fix {all : List Oper} {o : Oper} {sl : Slots} {run skip : Slots → Prop} (h : vcGuard all o.guard sl run skip) :
    ∃ sl', (∀ t, Same (sl'.get t) (sl.get t)) ∧
      ((run sl' ∧ ∀ (B : Nat → Prop) (ρ : Nat → Value) (S : Nat → Prop) (w : World) (a : Act), (∀ t ∈ o.looksAt all.toArray, Den ρ B w S (sl.get t) (a.tmps.getD t undef)) → Region.wanted o (yielded all.toArray a.tmps) = true) ∨
       (skip sl' ∧ ∀ (B : Nat → Prop) (ρ : Nat → Value) (S : Nat → Prop) (w : World) (a : Act), (∀ t ∈ o.looksAt all.toArray, Den ρ B w S (sl.get t) (a.tmps.getD t undef)) → Region.wanted o (yielded all.toArray a.tmps) = false)) := by
  unfold vcGuard at h
  cases hg : o.guard with
  | none => simp only [hg] at h; exact ⟨sl, fun t _ _ _ _ _ => Iff.rfl, .inl ⟨h, fun _ _ _ _ a _ => by simp [Region.wanted, hg]⟩⟩
  | some p =>
    obtain ⟨j, want⟩ := p
    simp only [hg] at h
    cases hd : dstOf all j with
    | none => simp [hd] at h
    | some t =>
      simp only [hd, fSV_iff] at h
      have hlook := looks_guard (all := all) hg hd
      have dec : ∀ (b : Bool), (∀ (B : Nat → Prop) (ρ : Nat → Value) (S : Nat → Prop) (w : World) (v : Value), Den ρ B w S (sl.get t) v → v = .bool b) → ∀ (B : Nat → Prop) (ρ : Nat → Value) (S : Nat → Prop) (w : World) (a : Act), (∀ t ∈ o.looksAt all.toArray, Den ρ B w S (sl.get t) (a.tmps.getD t undef)) → Region.wanted o (yielded all.toArray a.tmps) = (b == want) := by
        intro b hb B ρ S w a ha
        have hv := hb B ρ S w _ (ha t hlook)
        have hy := yielded_eq all a.tmps j t hd
        rw [hv] at hy
        unfold Region.wanted
        simp only [hg, hy]
        cases b <;> cases want <;> rfl
      have same : ∀ b, sl.get t = .p (.v (.bool b)) → ∀ t', Same (Slots.get ((t, .kb b) :: sl) t') (sl.get t') := by
        intro b hb t' ρ B w S v
        rw [get_cons]
        split
        · rename_i e
          subst e
          rw [hb]
          exact ⟨fun h => by rw [den_kb h]; exact .p (.v _), fun h => by rw [den_pv h]; exact .kb _⟩
        · exact Iff.rfl
      split at h
      · rename_i b hget
        have hdec := dec b fun B ρ S w v hv => by rw [hget] at hv; exact den_kb hv
        refine ⟨sl, fun t _ _ _ _ _ => Iff.rfl, ?_⟩
        cases b <;> cases want <;> simp only at h <;> first | exact .inl ⟨h, fun B ρ S w a ha => by rw [hdec B ρ S w a ha]; rfl⟩ | exact .inr ⟨h, fun B ρ S w a ha => by rw [hdec B ρ S w a ha]; rfl⟩
      · rename_i q hget
        have hdec := dec q fun B ρ S w v hv => by rw [hget] at hv; exact den_pv hv
        have s1 := same q hget
        refine ⟨_, s1, ?_⟩
        cases q <;> cases want <;> simp only at h
        · exact .inl ⟨h.1 (by trivial), fun B ρ S w a ha => by rw [hdec B ρ S w a ha]; rfl⟩
        · exact .inr ⟨h.2 (by trivial), fun B ρ S w a ha => by rw [hdec B ρ S w a ha]; rfl⟩
        · exact .inr ⟨h.2 (by trivial), fun B ρ S w a ha => by rw [hdec B ρ S w a ha]; rfl⟩
        · exact .inl ⟨h.1 (by trivial), fun B ρ S w a ha => by rw [hdec B ρ S w a ha]; rfl⟩
      · rename_i vs hget
        refine ⟨sl, fun t _ _ _ _ _ => Iff.rfl, .inr ⟨h, fun B ρ S w a ha => ?_⟩⟩
        have hv := ha t hlook
        rw [hget] at hv
        have hv := den_pv hv
        have hy := yielded_eq all a.tmps j t hd
        rw [hv] at hy
        unfold Region.wanted
        simp [hg, hy]
      · exact h.elim

/-- The slots that an operation looks at, in a state. -/
theorem satA_keep {all : List Oper} {o : Oper} {sl : Slots} {B : Nat → Prop} {ρ : Nat → Value} {S : Nat → Prop} {w : World} {a : Act} (hs : a.tmps.size = N) (hd : a.defers = []) (hl : ∀ t ∈ o.looksAt all.toArray, Den ρ B w S (sl.get t) (a.tmps.getD t undef)) :
    SatA N (keep (o.looksAt all.toArray) sl) B ρ S w a := by
  refine ⟨hs, hd, fun t => ?_⟩
  rw [get_keep]
  split
  · exact hl t ‹_›
  · exact .any _

theorem keep_agree {all : List Oper} {o : Oper} {sl : Slots} : ∀ x ∈ o.op.operands, ∀ t, x = .tmp t → (keep (o.looksAt all.toArray) sl).get t = sl.get t := by
  intro x hx t ht
  rw [get_keep, if_pos (looks_operand hx ht)]

theorem refsA_none : ∀ {l : List SV}, noRefs l = true → refsA l = []
  | [], _ => rfl
  | x :: r, h => by
    unfold noRefs at h
    cases hp : pures (x :: r) with
    | none => simp [hp] at h
    | some lp =>
      cases x <;> simp only [pures, Option.map_eq_some_iff] at hp <;> first | (cases hp; done) | skip
      all_goals
        obtain ⟨lp', h3, _⟩ := hp
        have := refsA_none (l := r) (by simp [noRefs, h3])
        simp [refsA, refsOf, this]

theorem app_none {t e : TypeId} {te : Ty} (ty : TypeId) (hu : P.underlying t = some (.slice e)) (hteo : TyOk P e te) {S : Nat → Prop} {w : World} {n : Nat} {l0 l : List PV} {ex : Bool} {vs vx : Value} (hs : Rep w S (.sl true n l0) vs) (hx : Rep w S (.sl ex 0 l) vx) (hl : l.length = 0) :
    (Builtin.append_ #[t, t] ty #[vs, vx]).run P w = .ok vs w := by
  obtain ⟨i, z, hi, hsz, hby, hzz, hzc⟩ := hteo.info
  have key : ∀ (a0 : Option Addr) (n0 : Nat), (a0 = none → n0 = 0) → ∀ (ad : Option Addr) (c : Nat), (Builtin.append_ #[t, t] ty #[.slice a0 n0 n0, .slice ad 0 c]).run P w = .ok (.slice a0 n0 n0) w := by
    intro a0 n0 h0 ad c
    cases a0 with
    | none =>
      cases h0 rfl
      cases ad with
      | none => simp [Builtin.append_, run_underlying hu, sizeOf, typeInfo, hi, Builtin.lenOf, Builtin.firstCells]
      | some ad => simp [Builtin.append_, run_underlying hu, sizeOf, typeInfo, hi, Builtin.lenOf, Builtin.firstCells, loadCells, loadCellsFrom]
    | some ad0 =>
      cases ad with
      | none => simp [Builtin.append_, run_underlying hu, sizeOf, typeInfo, hi, Builtin.lenOf, Builtin.firstCells, storeCells]
      | some ad => simp [Builtin.append_, run_underlying hu, sizeOf, typeInfo, hi, Builtin.lenOf, Builtin.firstCells, loadCells, loadCellsFrom, storeCells]
  have e1 : ∃ a0 n0, vs = .slice a0 n0 n0 ∧ (a0 = none → n0 = 0) := by
    cases hs with
    | nil _ a0 cap0 hex hn => have := hex rfl; subst this; exact ⟨a0, 0, rfl, fun _ => rfl⟩
    | sl hS hn hex hl h1 hc hh => have := hex rfl; subst this; exact ⟨_, _, rfl, fun h => by cases h⟩
  have e2 : ∃ ad c, vx = .slice ad 0 c := by
    cases hx with
    | nil _ a0 cap0 hex hn => exact ⟨_, _, rfl⟩
    | sl hS hn hex hl h1 hc hh => exact ⟨_, _, rfl⟩
  obtain ⟨a0, n0, rfl, h0⟩ := e1
  obtain ⟨ad, c, rfl⟩ := e2
  exact key a0 n0 h0 ad c

theorem app_new {t e : TypeId} {te : Ty} (ty : TypeId) (hu : P.underlying t = some (.slice e)) (hteo : TyOk P e te) (hz : te.zero.length = te.size) {ρ : Nat → Value} {B S : Nat → Prop} {w : World} {n m : Nat} {l0 l : List PV} {ex : Bool} {vs vx : Value} (hs : Rep w S (.sl true n l0) vs) (hx : Rep w S (.sl ex m l) vx)
    (hl0 : l0.length = n * te.size) (hl : l.length = m * te.size) (hroom : room n m te.bytes) (hm : 1 ≤ m) (hkp : ∀ w', Le w w' → Keeps S w w') :
    ∃ v' w', (Builtin.append_ #[t, t] ty #[vs, vx]).run P w = .ok v' w' ∧ Le w w' ∧ ObOk ρ B w' S (.row e te.size (n + m) false (l0 ++ l)) v' ∧ blk v' = some w.heap.size ∧ Plain v' := by
  cases hx with
  | nil => omega
  | sl hS hn hex hll h1 hc hh =>
    rename_i c ys ad
    have hyl : ys.length = m * te.size := by rw [← hll]; exact hl
    have fin : ∀ (xs : List Value) (v' : Value) (w' : World), RowOk w' e te.size (n + m) (xs ++ ys) false v' → Le w w' → (blk v' = none ∨ blk v' = some w.heap.size) → RepL (Rep w S) l0 xs → Ones xs → Le w w' ∧ ObOk ρ B w' S (.row e te.size (n + m) false (l0 ++ l)) v' ∧ blk v' = some w.heap.size ∧ Plain v' := by
      intro xs v' w' hrow hle hbl hr hx1
      refine ⟨hle, ⟨xs ++ ys, hrow, (repL_app hr ⟨hll, hh⟩).mono (hkp w' hle) (fun _ h => h), ?_⟩, ?_, plain_row hrow⟩
      · intro x hx
        rcases List.mem_append.1 hx with hx | hx
        · exact hx1 x hx
        · exact h1 x hx
      · rcases hbl with hb | hb
        · rcases hrow.2 with ⟨_, h0⟩ | ⟨g, cap, cur, rfl, _⟩
          · omega
          · cases hb
        · exact hb
    cases hs with
    | nil _ a0 cap0 hex0 hn0 =>
      have hcap0 := hex0 rfl
      subst hcap0
      cases a0 with
      | some ad0 =>
        obtain ⟨v', w', hr, hrow, hle, hbl⟩ := run_append_full (P := P) ty hu hteo hz w ad0 0 [] (by simp) (fun j u h => by simp at h) ad m c ys hyl hc hm hroom.1 hroom.2
        exact ⟨v', w', hr, fin [] v' w' hrow hle hbl repL_nil (fun _ h => by simp at h)⟩
      | none =>
        obtain ⟨v', w', hr, hrow, hfr⟩ := run_append_row (P := P) ty hu hteo hz w (.slice none 0 0) 0 [] true ⟨by simp, .inl ⟨rfl, rfl⟩⟩ (some ad) m c ys hyl ((oneCells_iff ys).2 h1) (.inr ⟨_, rfl, fun j c hj => by rw [Nat.zero_add]; exact hc j c hj⟩) hroom.1 hroom.2
        have hle : Le w w' ∧ (blk v' = none ∨ blk v' = some w.heap.size) := by
          rcases hfr with h | ⟨_, g, hg, _⟩
          · exact h
          · cases hg
        exact ⟨v', w', hr, fin [] v' w' hrow hle.1 hle.2 repL_nil (fun _ h => by simp at h)⟩
    | sl hS0 hn0 hex0 hll0 hx1 hc0 hh0 =>
      rename_i cap xs ad0
      have hcap := hex0 rfl
      subst hcap
      obtain ⟨v', w', hr, hrow, hle, hbl⟩ := run_append_full (P := P) ty hu hteo hz w ad0 _ xs (by rw [← hll0]; exact hl0) hc0 ad m c ys hyl hc hm hroom.1 hroom.2
      exact ⟨v', w', hr, fin xs v' w' hrow hle hbl ⟨hll0, hh0⟩ hx1⟩

/-- From the VC of one operation of the head. -/
theorem opFact_of (hT : TabOk P T) (hF : ∀ f, 2 < f → f < F → FnOk P f) {all : List Oper} {o : Oper} {sl : Slots} {kv : SV → Prop} {kn : Ob → Prop}
    {fz oc : Bool} (h : vcOpD P F T fz oc o.op sl obs kv kn) {g : Nat → SV} (hg : ∀ t, Same (sl.get t) (g t)) (hw : ∀ (B : Nat → Prop) (ρ : Nat → Value) (S : Nat → Prop) (w : World) (a : Act), (∀ t ∈ o.looksAt all.toArray, Den ρ B w S (g t) (a.tmps.getD t undef)) → Region.wanted o (yielded all.toArray a.tmps) = true) :
    (∃ sv, kv sv ∧ OpFact w0 S0 P N all obs o g sv none) ∨ (∃ ob, kn ob ∧ ∀ sv, OpFact w0 S0 P N all obs o g sv (some ob)) := by
  unfold vcOpD at h
  split at h
  · -- pure
    obtain ⟨sv, hk, hall⟩ := SL.pure T o.op sl obs _ h
    refine .inl ⟨sv, hk, fun B ρ S a w hB hpl hs hd hl hW => .inr ⟨hw B ρ S w a hl, fun K Q H => ?_⟩⟩
    have hl' : ∀ t ∈ o.looksAt all.toArray, Den ρ B w S (sl.get t) (a.tmps.getD t undef) := fun t ht => (hg t _ _ _ _ _).2 (hl t ht)
    have hA := satA_keep (N := N) hs hd hl'
    have hp : vcPure T o.op (keep (o.looksAt all.toArray) sl) obs (fun s => s = sv) := by rw [vcPure_congr (keep_agree (all := all))]; exact hall _ rfl
    obtain ⟨sv', v, rfl, hrun, hden⟩ := vcPure_spec hT hA hW hB hpl o hp
    unfold Oper.wp
    rw [hrun]
    exact H v w S (Le.refl _) (fun _ h => h) (fun _ h => .inl h) hW hden
  · -- a new object
    have mkP : ∀ (e : TypeId) (sz m : Nat) (ex : Bool) (cs : List PV), (∀ k' : Ob → Prop, k' (.row e sz m ex cs) → vcNew T o.op sl k') → OpFact w0 S0 P N all obs o g (.p (.sl ex m cs)) none := by
      intro e sz m ex cs hall B ρ S a w hB hpl hs hd hl hW
      refine .inr ⟨hw B ρ S w a hl, fun K Q H => ?_⟩
      have hl' : ∀ t ∈ o.looksAt all.toArray, Den ρ B w S (sl.get t) (a.tmps.getD t undef) := fun t ht => (hg t _ _ _ _ _).2 (hl t ht)
      have hA := satA_keep (N := N) hs hd hl'
      have hp : vcNew T o.op (keep (o.looksAt all.toArray) sl) (fun s => s = .row e sz m ex cs) := by rw [vcNew_congr (keep_agree (all := all))]; exact hall _ rfl
      obtain ⟨ob'', v, w', rfl, hrun, hle, hlive, hob, hbl, hplv, hfl⟩ := vcNew_spec hT hA hW.lt hpl o hp
      unfold Oper.wp
      rw [hrun]
      obtain ⟨y, hy, hrep⟩ := frozen_spec (ob := .row e sz m ex cs) (k := fun y => y = .sl ex m cs) rfl hob
      subst hy
      have hown : ∀ b, Owns w' (.row e sz m ex cs) v b → w.heap.size ≤ b ∧ b < w'.heap.size := fun b hb => by
        refine ⟨?_, hob.lt rfl hb⟩
        have := hb.flat rfl
        rw [hbl] at this
        cases this
        exact Nat.le_refl _
      refine H v w' (fun b => S b ∨ Owns w' (.row e sz m ex cs) v b) hle (fun _ h => .inl h) (fun b hb => hb.imp id fun h => (hown b h).1) ?_ (.p hrep)
      refine hW.grow hle (fun _ h => .inl h) (fun b hb => hb.imp id fun h => (hown b h).1) fun b hb => ?_
      rcases hb with hb | hb
      · exact Nat.lt_of_lt_of_le (hW.lt b hb) (Below.size hle)
      · exact (hown b hb).2
    have hmain : (∃ e sz m ex cs, kv (.p (.sl ex m cs)) ∧ ∀ k' : Ob → Prop, k' (.row e sz m ex cs) → vcNew T o.op sl k') ∨ ∃ ob, kn ob ∧ ∀ k' : Ob → Prop, k' ob → vcNew T o.op sl k' := by
      cases fz with
      | false => exact .inr (SL.new T o.op sl _ h)
      | true =>
        obtain ⟨ob, hk, hall⟩ := SL.new T o.op sl _ h
        cases ob with
        | row e sz m ex cs => exact .inl ⟨e, sz, m, ex, cs, hk, hall⟩
        | box t cs => exact .inr ⟨_, hk, hall⟩
        | arr t cs => exact .inr ⟨_, hk, hall⟩
        | nest a b c d e => exact .inr ⟨_, hk, hall⟩
        | dead => exact .inr ⟨_, hk, hall⟩
    rcases hmain with ⟨e, sz, m, ex, cs, hk, hall⟩ | ⟨ob, hk, hall⟩
    · exact .inl ⟨_, hk, mkP e sz m ex cs hall⟩
    refine .inr ⟨ob, hk, fun sv B ρ S a w hB hpl hs hd hl hW => .inr ⟨hw B ρ S w a hl, fun K Q H => ?_⟩⟩
    have hl' : ∀ t ∈ o.looksAt all.toArray, Den ρ B w S (sl.get t) (a.tmps.getD t undef) := fun t ht => (hg t _ _ _ _ _).2 (hl t ht)
    have hA := satA_keep (N := N) hs hd hl'
    have hp : vcNew T o.op (keep (o.looksAt all.toArray) sl) (fun s => s = ob) := by rw [vcNew_congr (keep_agree (all := all))]; exact hall _ rfl
    obtain ⟨ob'', v, w', rfl, hrun, hle, hlive, hob, hbl, hplv, hfl⟩ := vcNew_spec hT hA hW.lt hpl o hp
    unfold Oper.wp
    rw [hrun]
    exact H v w' S hle (fun _ h => h) (fun _ h => .inl h) (hW.mono hle) ⟨hlive, hfl, hob, hplv, _, hbl, Nat.le_refl _, fun hS => by have := hW.lt _ hS; omega⟩
  · -- append to a full slice
    rename_i hk0
    obtain ⟨dst, op, type, pos, after, guard⟩ := o
    simp only at h hk0
    cases op <;> simp only at h
    case call c =>
      obtain ⟨callee, args, ts⟩ := c
      simp only at h
      split at h
      · rename_i os ox t t' hargs hts
        rw [cond_false_iff] at h
        have ht : t = t' := Nat.eq_of_beq_eq_true h.1
        subst ht
        have hcal : callee = .builtin .append := by
          unfold opK at hk0
          cases callee with
          | builtin b => cases b <;> simp at hk0 ⊢
          | _ => simp at hk0
        subst hcal
        have hargs' : args = #[os, ox] := by rw [← Array.toArray_toList (xs := args), hargs]
        have hts' : ts = #[t, t] := by rw [← Array.toArray_toList (xs := ts), hts]
        subst hargs' hts'
        obtain ⟨s0, h, hs0⟩ := SL.evP sl os _ h.2
        obtain ⟨x0, h, hx0⟩ := SL.evP sl ox _ h
        unfold vcAppD at h
        rw [find_iff] at h
        obtain ⟨ty, hty, h⟩ := h
        have htyo := hT t ty hty
        split at h
        · rename_i e hk
          have hu := kd_slice htyo hk
          rw [find_iff] at h
          obtain ⟨te, hte, h⟩ := h
          have hteo := hT e te hte
          rw [cond_false_iff, Bool.and_eq_true, Nat.ble_eq, len_eq] at h
          obtain ⟨⟨hsz, hz⟩, h⟩ := h
          have hz : te.zero.length = te.size := Nat.eq_of_beq_eq_true hz
          cases s0 with
          | sl ex0 n l0 =>
            cases ex0 with
            | false => exact h.elim
            | true =>
            cases x0 with
            | sl ex m l =>
              obtain ⟨hl, hroom, hl0, z, hz1, hz2, h⟩ := h
              have ops : ∀ (B : Nat → Prop) (ρ : Nat → Value) (S : Nat → Prop) (a : Act) (w : World), a.tmps.size = N → a.defers = [] → (∀ t' ∈ Oper.looksAt all.toArray { dst := dst, op := Op.call { callee := .builtin .append, args := #[os, ox], argTypes := #[t, t] }, type := type, pos := pos, after := after, guard := guard }, Den ρ B w S (g t') (a.tmps.getD t' undef)) →
                  Rep w S (.sl true n l0) (a.eval os) ∧ Rep w S (.sl ex m l) (a.eval ox) ∧ ∀ v' w', (Builtin.append_ #[t, t] type #[a.eval os, a.eval ox]).run P w = .ok v' w' → (execOp a.eval { dst := dst, op := Op.call { callee := .builtin .append, args := #[os, ox], argTypes := #[t, t] }, type := type, pos := pos, after := after, guard := guard }).run P w = .ok (.value v') w' := by
                intro B ρ S a w hs hd hl
                have hl' := fun t' ht => (hg t' _ _ _ _ _).2 (hl t' ht)
                have hA := satA_keep (N := N) (sl := sl) hs hd hl'
                have hag := keep_agree (all := all) (o := { dst := dst, op := Op.call { callee := .builtin .append, args := #[os, ox], argTypes := #[t, t] }, type := type, pos := pos, after := after, guard := guard }) (sl := sl)
                have e1 := evP_congr (sl := keep (Oper.looksAt all.toArray { dst := dst, op := Op.call { callee := .builtin .append, args := #[os, ox], argTypes := #[t, t] }, type := type, pos := pos, after := after, guard := guard }) sl) (sl' := sl) (hag os (by simp [Op.operands, Call.operands]))
                have e2 := evP_congr (sl := keep (Oper.looksAt all.toArray { dst := dst, op := Op.call { callee := .builtin .append, args := #[os, ox], argTypes := #[t, t] }, type := type, pos := pos, after := after, guard := guard }) sl) (sl' := sl) (hag ox (by simp [Op.operands, Call.operands]))
                obtain ⟨y1, rfl, r1⟩ := evP_spec hA (x := os) (k := fun y => y = .sl true n l0) (by rw [e1]; exact hs0 _ rfl)
                obtain ⟨y2, rfl, r2⟩ := evP_spec hA (x := ox) (k := fun y => y = .sl ex m l) (by rw [e2]; exact hx0 _ rfl)
                refine ⟨r1, r2, fun v' w' hr => ?_⟩
                simp only [execOp, resolve, invoke, builtin, Sem.run_bind, Sem.run_pure, Result.andThen_ok, List.map_toArray, List.map_cons, List.map_nil, hr]
              cases z with
              | true =>
                have hm0 := hz1 rfl
                subst hm0
                refine .inl ⟨_, h, fun B ρ S a w hB hpl hs hd hlk hW => .inr ⟨hw B ρ S w a hlk, fun K Q H => ?_⟩⟩
                obtain ⟨r1, r2, hrun⟩ := ops B ρ S a w hs hd hlk
                unfold Oper.wp
                rw [hrun _ _ (app_none type hu hteo r1 r2 (by simpa using hl))]
                exact H _ w S (Le.refl _) (fun _ h => h) (fun _ h => .inl h) hW (.p r1)
              | false =>
                refine .inr ⟨_, h, fun sv B ρ S a w hB hpl hs hd hlk hW => .inr ⟨hw B ρ S w a hlk, fun K Q H => ?_⟩⟩
                obtain ⟨r1, r2, hrun⟩ := ops B ρ S a w hs hd hlk
                obtain ⟨v', w', hr, hle, hob, hbl, hplv⟩ := app_new (ρ := ρ) (B := B) type hu hteo hz r1 r2 hl0 hl hroom (hz2 rfl) (fun w' hle => hW.keeps hle)
                unfold Oper.wp
                rw [hrun _ _ hr]
                exact H v' w' S hle (fun _ h => h) (fun _ h => .inl h) (hW.mono hle) ⟨rfl, rfl, hob, hplv, _, hbl, Nat.le_refl _, fun hS => by have := hW.lt _ hS; omega⟩
            | _ => exact h.elim
          | _ => exact h.elim
        · exact h.elim
      · exact h.elim
  · -- a call
    obtain ⟨dst, op, type, pos, after, guard⟩ := o
    rename_i hk0
    clear hk0
    simp only at h
    cases op <;> simp only at h
    case call c =>
      obtain ⟨callee, args, ts⟩ := c
      cases callee <;> simp only at h
      case value f =>
        obtain ⟨⟨fi, svs⟩, hk, hall⟩ := SL.fn F f args.toList sl (fun p => (match peekFL obs p.2 with
          | some l => fun k : List PV → Prop => fWs l k
          | none => fun _ => False) fun l => (match oc with
            | false => fun kv _ => ∃ r, Ret P p.1 l [] r ∧ (plainS r || noRefs p.2) = true ∧ fSV r kv
            | true => fun (_ : SV → Prop) (kn : Ob → Prop) => ∃ (e : TypeId) (sz n : Nat) (cs : List PV), Ret P p.1 l [.row e sz n false cs] (.ob 0) ∧ 1 ≤ n ∧ noRefs p.2 = true ∧ kn (.row e sz n false cs)) kv kn) h
        cases hpk : peekFL obs svs with
        | none => simp only [hpk] at hk
        | some l =>
        cases oc with
        | true =>
          simp only [hpk, fWs_iff] at hk
          obtain ⟨e, sz, n, cs, hret, hn1, hno, hk⟩ := hk
          refine .inr ⟨_, hk, fun sv B ρ S a w hB hpl hs hd hl hW => .inr ⟨hw B ρ S w a hl, fun K Q H => ?_⟩⟩
          have hl' : ∀ t ∈ Oper.looksAt all.toArray { dst := dst, op := Op.call { callee := .value f, args := args, argTypes := ts }, type := type, pos := pos, after := after, guard := guard }, Den ρ B w S (sl.get t) (a.tmps.getD t undef) := fun t ht => (hg t _ _ _ _ _).2 (hl t ht)
          have hA := satA_keep (N := N) hs hd hl'
          have hag := keep_agree (all := all) (o := { dst := dst, op := Op.call { callee := .value f, args := args, argTypes := ts }, type := type, pos := pos, after := after, guard := guard }) (sl := sl)
          have hp : vcFn F f args.toList (keep (Oper.looksAt all.toArray { dst := dst, op := Op.call { callee := .value f, args := args, argTypes := ts }, type := type, pos := pos, after := after, guard := guard }) sl) (fun f' l' => (f', l') = (fi, svs)) := by
            rw [vcFn_congr (hag f (by simp [Op.operands, Call.operands])) (fun x hx => hag x (by simp at hx; simp [Op.operands, Call.operands, hx]))]
            exact hall (fun p => p = (fi, svs)) rfl
          obtain ⟨fi', l', xs, he, hlx, hrun⟩ := vcFn_spec (P := P) hF hA hp ts type
          simp only [Prod.mk.injEq] at he
          obtain ⟨rfl, rfl⟩ := he
          simp only [Array.toArray_toList] at hrun
          have hx : (execOp a.eval { dst := dst, op := Op.call { callee := .value f, args := args, argTypes := ts }, type := type, pos := pos, after := after, guard := guard }).run P w = .ok (.enter fi' xs.toArray) w := hrun
          unfold Oper.wp
          rw [hx]
          have hrep := weakAll_rep (peekFL_rep hW (R := S) (fun _ h => h) hlx hpk fun i hi ob b ho hlv hb => by
            rw [refsA_none hno] at hi
            rcases hi with hi | ⟨j, hj, _⟩
            · cases hi
            · cases hj)
          refine Calls.mono (hret w S xs hW.lt hrep) ?_
          rintro e' w' ⟨v, ρR, S', rfl, hWR, hdR⟩
          have hv : v = ρR 0 := by cases hdR; rfl
          subst hv
          have hob := hWR.objs 0 _ rfl
          have hnew : ∀ b, S' b → S b ∨ w.heap.size ≤ b := fun b hb => (hWR.new b hb).imp id (fun h => h.elim id False.elim)
          obtain ⟨b, hb⟩ : ∃ b, blk (ρR 0) = some b := by
            obtain ⟨ys, hrow, _, _⟩ := hob
            rcases hrow.2 with ⟨_, h0⟩ | ⟨g, cap, cur, hx, _⟩
            · omega
            · exact ⟨g, by rw [hx]; rfl⟩
          obtain ⟨ho1, ho2⟩ := hWR.own 0 _ b rfl rfl (.inl hb)
          exact H (ρR 0) w' S' hWR.toLe hWR.sub hnew (hW.grow hWR.toLe hWR.sub hnew hWR.lt) ⟨rfl, rfl, hob, hWR.plain 0 Nat.one_pos, b, hb, ho1.elim id False.elim, ho2⟩
        | false =>
        simp only [hpk, fWs_iff, fSV_iff] at hk
        obtain ⟨r, hret, hplain, hk⟩ := hk
        refine .inl ⟨r, hk, fun B ρ S a w hB hpl hs hd hl hW => .inr ⟨hw B ρ S w a hl, fun K Q H => ?_⟩⟩
        have hl' : ∀ t ∈ Oper.looksAt all.toArray { dst := dst, op := Op.call { callee := .value f, args := args, argTypes := ts }, type := type, pos := pos, after := after, guard := guard }, Den ρ B w S (sl.get t) (a.tmps.getD t undef) := fun t ht => (hg t _ _ _ _ _).2 (hl t ht)
        have hA := satA_keep (N := N) hs hd hl'
        have hag := keep_agree (all := all) (o := { dst := dst, op := Op.call { callee := .value f, args := args, argTypes := ts }, type := type, pos := pos, after := after, guard := guard }) (sl := sl)
        have hp : vcFn F f args.toList (keep (Oper.looksAt all.toArray { dst := dst, op := Op.call { callee := .value f, args := args, argTypes := ts }, type := type, pos := pos, after := after, guard := guard }) sl) (fun f' l' => (f', l') = (fi, svs)) := by
          rw [vcFn_congr (hag f (by simp [Op.operands, Call.operands])) (fun x hx => hag x (by simp at hx; simp [Op.operands, Call.operands, hx]))]
          exact hall (fun p => p = (fi, svs)) rfl
        obtain ⟨fi', l', xs, he, hlx, hrun⟩ := vcFn_spec (P := P) hF hA hp ts type
        simp only [Prod.mk.injEq] at he
        obtain ⟨rfl, rfl⟩ := he
        simp only [Array.toArray_toList] at hrun
        have hx : (execOp a.eval { dst := dst, op := Op.call { callee := .value f, args := args, argTypes := ts }, type := type, pos := pos, after := after, guard := guard }).run P w = .ok (.enter fi' xs.toArray) w := hrun
        unfold Oper.wp
        rw [hx]
        rw [Bool.or_eq_true] at hplain
        rcases hplain with hplain | hno
        · have hrep := weakAll_rep (peekFL_rep hW (R := withOwn w obs ρ S) (fun _ h => .inl h) hlx hpk fun i _ ob b ho hlv hb => .inr ⟨i, ob, ho, hlv, hb⟩)
          refine Calls.mono (hret w _ xs (withOwn_lt hW) hrep) ?_
          rintro e w' ⟨v, ρR, S', rfl, hWR, hdR⟩
          exact H v w' S hWR.toLe (fun _ h => h) (fun _ h => .inl h) (hW.mono hWR.toLe) (plainS_den hplain hdR)
        · have hrep := weakAll_rep (peekFL_rep hW (R := S) (fun _ h => h) hlx hpk fun i hi ob b ho hlv hb => by
            rw [refsA_none hno] at hi
            rcases hi with hi | ⟨j, hj, _⟩
            · cases hi
            · cases hj)
          refine Calls.mono (hret w S xs hW.lt hrep) ?_
          rintro e w' ⟨v, ρR, S', rfl, hWR, hdR⟩
          have hm := hW.merge hWR rfl
          rw [List.append_nil] at hm
          have hW' : SatW w0 S0 obs ρ S' w' := by
            refine ⟨fun i ob hi => ?_, fun i j oi oj b hi hj li lj bi bj => ?_, fun i ob b hi hl hb => ?_, hm.sub, hm.lt, hm.new, hm.le, hW.plain, hW.pins⟩
            · have hi' := (List.getElem?_eq_some_iff.1 hi).1
              have := hm.objs i ob hi
              rw [mrg_lt hi'] at this
              exact this.mono (fun _ _ _ => rfl) (fun _ _ => rfl) (fun _ h => h) (fun _ h => h) (fun j hj => (mrg_lt hj).symm)
            · refine hm.dist i j oi oj b hi hj li lj ?_ ?_
              · rw [mrg_lt (List.getElem?_eq_some_iff.1 hi).1]; exact bi
              · rw [mrg_lt (List.getElem?_eq_some_iff.1 hj).1]; exact bj
            · refine hm.own i ob b hi hl ?_
              rw [mrg_lt (List.getElem?_eq_some_iff.1 hi).1]; exact hb
          exact H v w' S' hWR.toLe hWR.sub (fun b hb => (hWR.new b hb).imp id (fun h => h.elim id False.elim)) hW' (hdR.mono (fun _ _ => rfl) (fun _ h => h) (fun i hi => absurd hi (Nat.not_lt_zero i)) (fun i hi => absurd hi (Nat.not_lt_zero i)))
  · exact h.elim

/-- The slots after some operations of the head. -/
def updS (g : Nat → SV) (d : Option Nat) (sv : SV) : Nat → SV := fun t => if d = some t then sv else g t

/-- A variable that holds nothing of the call's own. -/
structure FreeOb (ob : Ob) : Prop where
  live : ob.live = true
  flat : flatOb ob = true
  free : ∀ (ρ ρ' : Nat → Value) (n n' : Nat → Prop) (w : World) (S : Nat → Prop) (x : Value), ObOk ρ n w S ob x → ObOk ρ' n' w S ob x

/-- What a store of the head into a variable comes to, whatever has been done before it. -/
def StFact (w0 : World) (S0 : Fr) (P : Program) (N : Nat) (all : List Oper) (tot : Obs) (o : Oper) (g : Nat → SV) (i : Nat) (ob' : Ob) : Prop :=
  o.dst = none ∧ ∃ obA, tot[i]? = some obA ∧ FreeOb obA ∧ FreeOb ob' ∧
  ∀ (B : Nat → Prop) (ρ : Nat → Value) (S : Nat → Prop) (a : Act) (w : World), (∀ i, B i → Plain (ρ i)) → a.tmps.size = N → a.defers = [] → (∀ t ∈ o.looksAt all.toArray, Den ρ B w S (g t) (a.tmps.getD t undef)) →
    B i ∧ Region.wanted o (yielded all.toArray a.tmps) = true ∧ ∀ (obs1 : Obs) (ρ1 : Nat → Value) (i1 : Nat), obs1[i1]? = some obA → ρ1 i1 = ρ i → SatW w0 S0 obs1 ρ1 S w → ∀ (K : Act → World → Prop) (Q : Exit → Act → World → Prop),
      (∀ w' gb, blk (ρ i) = some gb → Ch gb w w' → Keeps S w w' → SatW w0 S0 (obs1.set i1 ob') ρ1 S w' → K (a.put o.dst undef) w') → o.wp P a w K Q

/-- What an append of the head to a row of the call's own comes to, whatever has been done before it. -/
def AppFact (w0 : World) (S0 : Fr) (P : Program) (N : Nat) (all : List Oper) (tot : Obs) (o : Oper) (g : Nat → SV) (i : Nat) (row : Ob) : Prop :=
  ∃ obA, tot[i]? = some obA ∧ obA.live = true ∧ row.live = true ∧ flatOb row = true ∧ (∀ (ρ ρ' : Nat → Value) (n n' : Nat → Prop) (w : World) (S : Nat → Prop) (x : Value), ObOk ρ n w S row x → ObOk ρ' n' w S row x) ∧
  ∀ (B : Nat → Prop) (ρ : Nat → Value) (S : Nat → Prop) (a : Act) (w : World), a.tmps.size = N → a.defers = [] → (∀ t ∈ o.looksAt all.toArray, Den ρ B w S (g t) (a.tmps.getD t undef)) →
    B i ∧ Region.wanted o (yielded all.toArray a.tmps) = true ∧ ∀ (obs1 : Obs), obs1[i]? = some obA → SatW w0 S0 obs1 ρ S w → ∀ (K : Act → World → Prop) (Q : Exit → Act → World → Prop),
      (∀ v w', SatW w0 S0 (obs1.set i .dead) ρ S w' → Keeps S w w' → w.heap.size ≤ w'.heap.size → (∀ gb, gb < w.heap.size → blk (ρ i) ≠ some gb → w'.heap[gb]? = w.heap[gb]?) →
        (∃ b, blk v = some b ∧ (w0.heap.size ≤ b ∨ S0.m b) ∧ b < w'.heap.size ∧ ¬ S b ∧ (blk (ρ i) = some b ∨ w.heap.size ≤ b)) → ObOk ρ B w' S row v → Plain v → K (a.put o.dst v) w') → o.wp P a w K Q

def HeadOk (w0 : World) (S0 : Fr) (P : Program) (N : Nat) (all : List Oper) (tot obs : Obs) : List Oper → (Nat → SV) → Nat → List (SV × Option Ob) → List (Option (Nat × Ob)) → Prop
  | [], _, _, [], [] => True
  | o :: r, g, c, (sv, ob) :: rs, s :: ss => (match s with | none => OpFact w0 S0 P N all obs o g sv ob | some (i, ob') => (StFact w0 S0 P N all tot o g i ob' ∧ sv = .p (.v undef) ∧ ob = none) ∨ (ob' = .dead ∧ i < obs.length ∧ ∃ row, ob = some row ∧ AppFact w0 S0 P N all tot o g i row)) ∧ (∀ d, o.dst = some d → d < N) ∧
      (match ob with | none => True | some _ => sv = .ob (obs.length + c)) ∧
      HeadOk w0 S0 P N all tot obs r (updS g o.dst sv) (c + if ob.isSome then 1 else 0) rs ss
  | _, _, _, _, _ => False

/-- The store of operation j. -/
def stF (ss : List (Option (Nat × Ob))) (j : Nat) : Option (Nat × Ob) := (ss[j]?).join

def endG : List Oper → (Nat → SV) → List (SV × Option Ob) → Nat → SV
  | o :: r, g, (sv, _) :: rs => endG r (updS g o.dst sv) rs
  | _, g, _ => g

theorem put_iff {d : Option Nat} {x : SV} {sl : Slots} {k : Slots → Prop} (h : put N d x sl k) : ∃ sl', k sl' ∧ (∀ t, sl'.get t = updS sl.get d x t) ∧ ∀ d', d = some d' → d' < N := by
  cases d with
  | none => exact ⟨sl, h, fun t => by simp [updS], fun d' h => by cases h⟩
  | some d =>
    simp only [put, cond_false_iff] at h
    refine ⟨_, h.2, fun t => ?_, fun d' hd => by cases hd; simpa [Nat.blt_eq] using h.1⟩
    rw [get_cons]
    simp [updS]

theorem memS_iff (i : Nat) : ∀ l : List (Nat × Ob), memS i l = true ↔ ∃ ob, (i, ob) ∈ l
  | [] => by simp [memS]
  | (j, o) :: r => by
    have ih := memS_iff i r
    by_cases h : j = i
    · subst h
      simp only [memS, Nat.beq_refl, cond_true, List.mem_cons, true_iff]
      exact ⟨o, .inl rfl⟩
    · have hb : Nat.beq j i = false := by rw [Bool.eq_false_iff]; intro h'; exact h (Nat.eq_of_beq_eq_true h')
      simp only [memS, hb, cond_false, ih, List.mem_cons, Prod.mk.injEq]
      constructor
      · rintro ⟨ob, h1⟩; exact ⟨ob, .inr h1⟩
      · rintro ⟨ob, h1 | h1⟩
        · exact absurd h1.1.symm h
        · exact ⟨ob, h1⟩

theorem cellsS_pure {y : PV} {k : List SV → Prop} (h : cellsS (.p y) k) : ∃ l : List PV, k (mapP l) := by
  cases y with
  | agg l => simp only [cellsS, fL_iff] at h; exact ⟨l, h⟩
  | v x => simp only [cellsS, cond_false_iff] at h; exact ⟨[.v x], h.2⟩
  | sl e n l => exact ⟨[.sl e n l], h⟩
  | fp b l => exact ⟨[.fp b l], h⟩
  | fn f a b => exact ⟨[.fn f a b], h⟩

theorem noRefs_refs {B : Nat → Prop} : ∀ {cs : List SV} {q : Nat} {p : SV}, noRefs cs = true → cs[q]? = some p → RefsIn B p
  | [], _, _, _, h => by simp at h
  | x :: r, q, p, hn, h => by
    unfold noRefs at hn
    cases hp : pures (x :: r) with
    | none => simp [hp] at hn
    | some lp =>
      have hr : noRefs r = true ∧ RefsIn B x := by
        cases x <;> simp only [pures, Option.map_eq_some_iff] at hp <;> first | (cases hp; done) | skip
        all_goals
          obtain ⟨lp', h3, _⟩ := hp
          exact ⟨by simp [noRefs, h3], by first | exact .p _ | exact .kb _ | exact .nil⟩
      cases q with
      | zero => simp at h; subst h; exact hr.2
      | succ q => exact noRefs_refs hr.1 (by simpa using h)

theorem free_box {tb : TypeId} {cs : List SV} (h : noRefs cs = true) : FreeOb (.box tb cs) where
  live := rfl
  flat := rfl
  free := by
    rintro ρ ρ' n n' w S x ⟨b, xs, h1, h2, h3, h4⟩
    refine ⟨b, xs, h1, h2, ⟨h3.1, fun j p v hp hv => ?_⟩, h4⟩
    have hr : RefsIn (fun _ => False) p := noRefs_refs h hp
    exact ((h3.2 j p v hp hv).restrict hr).mono (fun _ _ => rfl) (fun _ h => h) (fun _ h => h.elim) (fun _ h => h.elim)

theorem free_mapP (tb : TypeId) (l : List PV) : FreeOb (.box tb (mapP l)) where
  live := rfl
  flat := rfl
  free := by
    rintro ρa ρb na nb wa S x ⟨b', xs, h1, h2, h3, h4⟩
    exact ⟨b', xs, h1, h2, mapP_den ⟨by rw [mapP_eq] at h3; simpa using h3.1, fun q p y hp hy => by
      have := h3.2 q (.p p) y (by rw [mapP_eq, List.getElem?_map, hp]; rfl) hy
      exact den_p this⟩, h4⟩

theorem free_arr (tb : TypeId) (l : List PV) : FreeOb (.arr tb l) where
  live := rfl
  flat := rfl
  free := fun _ _ _ _ _ _ _ h => h

/-- From the VC of a store of the head. -/
theorem stFact_of (hT : TabOk P T) {all : List Oper} {o : Oper} {sl : Slots} {obs0 cr : Obs} {tg : List Nat} {ss : List (Nat × Ob)} {t : Nat} {x y : Operand} {k : Nat → Ob → Prop} (ho : o.op = .store t x y) (hgd : o.guard = none) (hdst : o.dst = none)
    (h : vcStD T sl obs0 cr tg ss t x y k) {g : Nat → SV} (hg : ∀ t, Same (sl.get t) (g t)) : ∃ i ob', k i ob' ∧ (∀ more, StFact w0 S0 P N all (obs0 ++ (cr ++ more)) o g i ob') ∧ (memN i tg = true ∨ obs0.length ≤ i) ∧ memS i ss = false := by
  unfold vcStD at h
  obtain ⟨sx, h1, hallx⟩ := SL.ev sl x _ h
  cases sx <;> simp only at h1 <;> first | exact h1.elim | skip
  rename_i i
  rw [cond_false_iff, Bool.and_eq_true, Bool.not_eq_true', Bool.or_eq_true, len_eq, Nat.ble_eq] at h1
  obtain ⟨⟨htg, hss⟩, h1⟩ := h1
  obtain ⟨py, h1, hally⟩ := SL.evP sl y _ h1
  rw [at_iff] at h1
  obtain ⟨ob, hob, h1⟩ := h1
  cases ob <;> simp only at h1 <;> first | exact h1.elim | skip
  case box tb cs =>
    rw [find_iff] at h1
    obtain ⟨ty, hty, h1⟩ := h1
    obtain ⟨l, h1, halll⟩ := SL.cellsS (.p py) _ h1
    rw [cond_false_iff, Bool.and_eq_true, Bool.and_eq_true, len_eq, len_eq] at h1
    obtain ⟨⟨⟨hnr, hl1⟩, hl2⟩, hk⟩ := h1
    have hl1 : l.length = ty.size := Nat.eq_of_beq_eq_true hl1
    have hl2 : l.length = cs.length := Nat.eq_of_beq_eq_true hl2
    obtain ⟨lp, hlp⟩ : ∃ lp : List PV, l = mapP lp := by
      obtain ⟨lp, h⟩ := cellsS_pure (halll (fun s => s = l) rfl)
      exact ⟨lp, h.symm⟩
    refine ⟨i, .box tb l, hk, fun more => ⟨hdst, .box tb cs, ?_, free_box hnr, by rw [hlp]; exact free_mapP tb lp, ?_⟩, htg, hss⟩
    · rw [← List.append_assoc, List.getElem?_append_left (List.getElem?_eq_some_iff.1 hob).1]
      exact hob
    intro B ρ S a w hpl hs hd hlook
    have hl' : ∀ t ∈ o.looksAt all.toArray, Den ρ B w S (sl.get t) (a.tmps.getD t undef) := fun t ht => (hg t _ _ _ _ _).2 (hlook t ht)
    have hA := satA_keep (N := N) hs hd hl'
    have hag := keep_agree (all := all) (o := o) (sl := sl)
    have hxo : x ∈ o.op.operands := by rw [ho]; simp [Op.operands]
    have hyo : y ∈ o.op.operands := by rw [ho]; simp [Op.operands]
    have hx : Pv.ev (keep (o.looksAt all.toArray) sl) x (fun s => s = .ob i) := by rw [ev_congr (hag x hxo)]; exact hallx _ rfl
    have hy : Pv.evP (keep (o.looksAt all.toArray) sl) y (fun s => s = py) := by rw [evP_congr (hag y hyo)]; exact hally _ rfl
    obtain ⟨sx, rfl, hdx⟩ := ev_spec hA hx
    obtain ⟨sy, rfl, hry⟩ := evP_spec hA hy
    have hvx := den_ob hdx
    have hBi : B i := den_obB hdx
    refine ⟨hBi, by simp [Region.wanted, hgd], fun obs1 ρ1 i1 hob1 hρ1 hW K Q H => ?_⟩
    obtain ⟨hlv, b, hρ, hb⟩ := isVar_blk (hW.objs i1 _ hob1) rfl
    obtain ⟨l', hl0, hdl, h1c, _⟩ := cellsS_spec (ρ := ρ1) (n := Lt obs1.length) (w := w) (S := S) (fun j hj => hW.plain j hj) (.p hry) (halll (fun s => s = l) rfl)
    subst hl0
    have hn : (a.eval y).cells.toList.length = ty.size := by rw [← hdl.1]; exact hl1
    have hspl : spl cs 0 l' = l' := by
      unfold spl
      simp [List.drop_eq_nil_of_le, hl2]
    obtain ⟨w', hrun, hW', hk', hch⟩ := write_ob hW hob1 rfl hb (hT _ _ hty) hn h1c (o := 0) (ob' := .box tb l') (show _ ∧ _ ∧ _ from ⟨rfl, by omega, l', hspl.symm, hdl⟩)
    have hrun' : (execOp a.eval o).run P w = .ok .skip w' := by
      simp only [execOp, ho, hvx, ← hρ1, hρ, Sem.run_bind, hrun, Result.andThen_ok]
      rfl
    unfold Oper.wp
    rw [hrun']
    exact H w' b (by rw [← hρ1]; exact hb) hch hk' hW'
  case arr tb cs =>
    rw [find_iff] at h1
    obtain ⟨ty, hty, h1⟩ := h1
    obtain ⟨l, h1, halll⟩ := SL.cellsP py _ h1
    rw [cond_false_iff, Bool.and_eq_true, len_eq, len_eq] at h1
    obtain ⟨⟨hl1, hl2⟩, hk⟩ := h1
    have hl1 : l.length = ty.size := Nat.eq_of_beq_eq_true hl1
    have hl2 : l.length = cs.length := Nat.eq_of_beq_eq_true hl2
    refine ⟨i, .arr tb l, hk, fun more => ⟨hdst, .arr tb cs, ?_, free_arr tb cs, free_arr tb l, ?_⟩, htg, hss⟩
    · rw [← List.append_assoc, List.getElem?_append_left (List.getElem?_eq_some_iff.1 hob).1]
      exact hob
    intro B ρ S a w hpl hs hd hlook
    have hl' : ∀ t ∈ o.looksAt all.toArray, Den ρ B w S (sl.get t) (a.tmps.getD t undef) := fun t ht => (hg t _ _ _ _ _).2 (hlook t ht)
    have hA := satA_keep (N := N) hs hd hl'
    have hag := keep_agree (all := all) (o := o) (sl := sl)
    have hxo : x ∈ o.op.operands := by rw [ho]; simp [Op.operands]
    have hyo : y ∈ o.op.operands := by rw [ho]; simp [Op.operands]
    have hx : Pv.ev (keep (o.looksAt all.toArray) sl) x (fun s => s = .ob i) := by rw [ev_congr (hag x hxo)]; exact hallx _ rfl
    have hy : Pv.evP (keep (o.looksAt all.toArray) sl) y (fun s => s = py) := by rw [evP_congr (hag y hyo)]; exact hally _ rfl
    obtain ⟨sx, rfl, hdx⟩ := ev_spec hA hx
    obtain ⟨sy, rfl, hry⟩ := evP_spec hA hy
    have hvx := den_ob hdx
    have hBi : B i := den_obB hdx
    refine ⟨hBi, by simp [Region.wanted, hgd], fun obs1 ρ1 i1 hob1 hρ1 hW K Q H => ?_⟩
    obtain ⟨hlv, b, hρ, hb⟩ := isVar_blk (hW.objs i1 _ hob1) rfl
    obtain ⟨l', hl0, hdl, h1c, _⟩ := cellsP_spec hry (halll (fun s => s = l) rfl)
    subst hl0
    have hn : (a.eval y).cells.toList.length = ty.size := by rw [← hdl.1]; exact hl1
    have hspl : spl cs 0 l' = l' := by
      unfold spl
      simp [List.drop_eq_nil_of_le, hl2]
    obtain ⟨w', hrun, hW', hk', hch⟩ := write_ob hW hob1 rfl hb (hT _ _ hty) hn h1c (o := 0) (ob' := .arr tb l') (show _ ∧ _ ∧ _ from ⟨rfl, by omega, l', hspl.symm, hdl⟩)
    have hrun' : (execOp a.eval o).run P w = .ok .skip w' := by
      simp only [execOp, ho, hvx, ← hρ1, hρ, Sem.run_bind, hrun, Result.andThen_ok]
      rfl
    unfold Oper.wp
    rw [hrun']
    exact H w' b (by rw [← hρ1]; exact hb) hch hk' hW'

/-- From the VC of an append of the head to a row of the call's own. -/
theorem appFact_of (hT : TabOk P T) {all : List Oper} {o : Oper} {sl : Slots} {obs0 cr : Obs} {tg : List Nat} {ss : List (Nat × Ob)} {i : Nat} {k : Ob → Prop} (hoa : ownApp sl o = some i) (hgd : o.guard = none)
    (h : vcAppH T sl obs0 tg ss i o.op k) {g : Nat → SV} (hg : ∀ t, Same (sl.get t) (g t)) : ∃ row, k row ∧ (∀ more, AppFact w0 S0 P N all (obs0 ++ (cr ++ more)) o g i row) ∧ memN i tg = true ∧ i < obs0.length ∧ memS i ss = false := by
  obtain ⟨dst, op, type, pos, after, guard⟩ := o
  unfold ownApp at hoa
  simp only at hoa hgd h
  cases op <;> simp only at hoa <;> first | (cases hoa; done) | skip
  rename_i c
  obtain ⟨callee, args, ts⟩ := c
  cases callee <;> simp only at hoa <;> first | (cases hoa; done) | skip
  rename_i bi
  cases bi <;> simp only at hoa <;> first | (cases hoa; done) | skip
  simp only [vcAppH] at h
  split at h
  · rename_i os ox t t' hargs hts
    rw [hargs] at hoa
    cases os <;> simp only at hoa <;> first | (cases hoa; done) | skip
    rename_i s
    have hsl : sl.get s = .ob i := by
      generalize sl.get s = z at hoa
      cases z <;> simp only at hoa <;> first | (cases hoa; done) | skip
      cases hoa; rfl
    rw [cond_false_iff, Bool.and_eq_true, Bool.and_eq_true, Bool.and_eq_true, Bool.not_eq_true', len_eq, Nat.blt_eq] at h
    obtain ⟨⟨⟨ht, hmem, hilt⟩, hss⟩, h⟩ := h
    have ht : t = t' := Nat.eq_of_beq_eq_true ht
    subst ht
    have hargs' : args = #[.tmp s, ox] := by rw [← Array.toArray_toList (xs := args), hargs]
    have hts' : ts = #[t, t] := by rw [← Array.toArray_toList (xs := ts), hts]
    subst hargs' hts'
    obtain ⟨x0, h, hx0⟩ := SL.evP sl ox _ h
    rw [at_iff] at h
    obtain ⟨obA, hobA, h⟩ := h
    rw [find_iff] at h
    obtain ⟨ty, hty, h⟩ := h
    have htyo := hT t ty hty
    split at h
    · rename_i e hk
      have hu := kd_slice htyo hk
      rw [find_iff] at h
      obtain ⟨te, hte, h⟩ := h
      have hteo := hT e te hte
      cases obA <;> simp only at h <;> first | exact h.elim | skip
      rename_i e' sz n ex cs
      cases x0 <;> simp only at h <;> first | exact h.elim | skip
      rename_i exx m l
      rw [cond_false_iff, Bool.and_eq_true, Bool.and_eq_true, Bool.and_eq_true, len_eq] at h
      obtain ⟨⟨⟨⟨hsz, het⟩, _⟩, hz⟩, hl, hm, hroom, h⟩ := h
      have hsz : sz = te.size := Nat.eq_of_beq_eq_true hsz
      have het : e' = e := Nat.eq_of_beq_eq_true het
      have hz : te.zero.length = te.size := Nat.eq_of_beq_eq_true hz
      subst hsz het
      refine ⟨_, h, fun more => ⟨.row e' te.size n ex cs, ?_, rfl, rfl, rfl, fun _ _ _ _ _ _ _ h => h, ?_⟩, hmem, hilt, hss⟩
      · rw [List.getElem?_append_left hilt]; exact hobA
      intro B ρ S a w hs hd hlook
      have hls : s ∈ Oper.looksAt all.toArray { dst := dst, op := Op.call { callee := .builtin .append, args := #[.tmp s, ox], argTypes := #[t, t] }, type := type, pos := pos, after := after, guard := guard } :=
        looks_operand (x := .tmp s) (by simp [Op.operands, Call.operands]) rfl
      have hds := hlook s hls
      have hds' : Den ρ B w S (.ob i) (a.tmps.getD s undef) := by
        have := (hg s ρ B w S _).2 hds
        rwa [hsl] at this
      have hvs := den_ob hds'
      have hBi := den_obB hds'
      have hl' : ∀ t' ∈ Oper.looksAt all.toArray { dst := dst, op := Op.call { callee := .builtin .append, args := #[.tmp s, ox], argTypes := #[t, t] }, type := type, pos := pos, after := after, guard := guard }, Den ρ B w S (sl.get t') (a.tmps.getD t' undef) := fun t' ht' => (hg t' _ _ _ _ _).2 (hlook t' ht')
      have hA := satA_keep (N := N) (sl := sl) hs hd hl'
      have hag := keep_agree (all := all) (o := { dst := dst, op := Op.call { callee := .builtin .append, args := #[.tmp s, ox], argTypes := #[t, t] }, type := type, pos := pos, after := after, guard := guard }) (sl := sl)
      have e2 := evP_congr (sl := keep (Oper.looksAt all.toArray { dst := dst, op := Op.call { callee := .builtin .append, args := #[.tmp s, ox], argTypes := #[t, t] }, type := type, pos := pos, after := after, guard := guard }) sl) (sl' := sl) (hag ox (by simp [Op.operands, Call.operands]))
      obtain ⟨y2, rfl, r2⟩ := evP_spec hA (x := ox) (k := fun y => y = .sl exx m l) (by rw [e2]; exact hx0 _ rfl)
      refine ⟨hBi, by simp [Region.wanted, hgd], fun obs1 hob1 hW K Q H => ?_⟩
      generalize hvx : a.eval ox = vx at r2
      cases r2 with
      | nil => omega
      | sl hS hn hex hll h1 hc hh =>
        rename_i c ys ad
        have hyl : ys.length = m * te.size := by rw [← hll]; exact hl
        obtain ⟨xs, hrow, hrx, hx1⟩ := hW.objs i _ hob1
        obtain ⟨v', w', hr, hrow', hfr⟩ := run_append_row (P := P) type hu hteo hz w (ρ i) n xs ex hrow (some ad) m c ys hyl ((oneCells_iff ys).2 h1) (.inr ⟨_, rfl, fun j c hj => by rw [Nat.zero_add]; exact hc j c hj⟩) hroom.1 hroom.2
        have hxy : Ones (xs ++ ys) := by
          intro x hx
          rcases List.mem_append.1 hx with hx | hx
          · exact hx1 x hx
          · exact h1 x hx
        have hlr : RepL (Rep w S) l ys := ⟨hll, hh⟩
        have hrun : (execOp a.eval { dst := dst, op := Op.call { callee := .builtin .append, args := #[.tmp s, ox], argTypes := #[t, t] }, type := type, pos := pos, after := after, guard := guard }).run P w = .ok (.value v') w' := by
          have e1 : a.eval (.tmp s) = ρ i := hvs
          have e3 : a.eval ox = .slice (some ad) m c := hvx
          simp only [execOp, resolve, invoke, builtin, Sem.run_bind, Sem.run_pure, Result.andThen_ok, List.map_toArray, List.map_cons, List.map_nil, e1, e3, hr]
        unfold Oper.wp
        rw [hrun]
        obtain ⟨gv, hgv⟩ : ∃ b, blk v' = some b := by
          rcases hrow'.2 with ⟨_, h0⟩ | ⟨g2, cap, cur, hx, _⟩
          · omega
          · exact ⟨g2, by rw [hx]; rfl⟩
        have hlt' : gv < w'.heap.size := by
          have : ObOk ρ B w' S (.row e' te.size (n + m) false (cs ++ l)) v' := ⟨xs ++ ys, hrow', ?_, hxy⟩
          · exact this.lt rfl (.inl hgv)
          · rcases hfr with ⟨hle, _⟩ | ⟨_, g2, hg2, _, hch⟩
            · exact (repL_app hrx hlr).mono (hW.keeps hle) (fun _ h => h)
            · exact (repL_app hrx hlr).mono (fun b hb => hch.block b (hW.lt b hb) fun e => by subst e; exact (hW.own i _ b hob1 rfl (.inl hg2)).2 hb) (fun _ h => h)
        rcases hfr with ⟨hle, hbl⟩ | ⟨_, g2, hg2, hg2', hch⟩
        · have hgs : gv = w.heap.size := by
            rcases hbl with hb | hb <;> rw [hgv] at hb <;> simp at hb; exact hb
          subst hgs
          exact H v' w' ((hW.kill i).mono hle) (hW.keeps hle) (Below.size hle) (fun gb hgb _ => Below.block hle gb hgb) ⟨_, hgv, .inl hW.le.size, hlt', fun hS => by have := hW.lt _ hS; omega, .inr (Nat.le_refl _)⟩
            ⟨xs ++ ys, hrow', (repL_app hrx hlr).mono (hW.keeps hle) (fun _ h => h), hxy⟩ (plain_row hrow')
        · have hkp : Keeps S w w' := fun b hb => hch.block b (hW.lt b hb) fun e => by subst e; exact (hW.own i _ b hob1 rfl (.inl hg2)).2 hb
          have hst := hW.store hob1 rfl (.inl hg2) hch (ob' := .dead) trivial (fun b h => by cases h)
          rw [hgv] at hg2'
          cases hg2'
          obtain ⟨o1, o2⟩ := hW.own i _ gv hob1 rfl (.inl hg2)
          exact H v' w' hst hkp hch.size (fun gb hgb hne => hch.block gb hgb fun e => hne (by rw [e]; exact hg2)) ⟨gv, hgv, o1, hlt', o2, .inl hg2⟩
            ⟨xs ++ ys, hrow', (repL_app hrx hlr).mono hkp (fun _ h => h), hxy⟩ (plain_row hrow')
    · exact h.elim
  · exact h.elim

theorem head_spec (hT : TabOk P T) (hF : ∀ f, 2 < f → f < F → FnOk P f) {all : List Oper} {obs0 : Obs} (hlen : obs.length = obs0.length) {tg : List Nat} {k : Slots → Obs → List (Nat × Ob) → Prop} : ∀ (l : List Oper) (cr : Obs) (st : List (Nat × Ob)) (sl : Slots) (g : Nat → SV), vcHead P F T N all obs0 obs tg k l cr st sl → (∀ t, Same (sl.get t) (g t)) →
    ∃ rs ss slF, HeadOk w0 S0 P N all (obs0 ++ (cr ++ rs.filterMap (·.2))) obs l g cr.length rs ss ∧ k slF (cr ++ rs.filterMap (·.2)) ((ss.filterMap id).reverse ++ st) ∧ (∀ t, Same (slF.get t) (endG l g rs t)) ∧
      (∀ j i ob, stF ss j = some (i, ob) → (memN i tg = true ∨ obs0.length ≤ i) ∧ memS i st = false) ∧ (∀ j j' i ob ob', stF ss j = some (i, ob) → stF ss j' = some (i, ob') → j = j')
  | [], cr, st, sl, g, h, hg => ⟨[], [], sl, trivial, by simpa [vcHead] using h, hg, fun j i ob hj => by simp [stF] at hj, fun j j' i ob ob' hj => by simp [stF] at hj⟩
  | o :: r, cr, st, sl, g, h, hg => by
    replace h : stepD P F T N all obs0 obs tg o (vcHead P F T N all obs0 obs tg k r) cr st sl := h
    have cons_none : ∀ ss : List (Option (Nat × Ob)), (∀ j i ob, stF ss j = some (i, ob) → (memN i tg = true ∨ obs0.length ≤ i) ∧ memS i st = false) → (∀ j j' i ob ob', stF ss j = some (i, ob) → stF ss j' = some (i, ob') → j = j') →
        (∀ j i ob, stF (none :: ss) j = some (i, ob) → (memN i tg = true ∨ obs0.length ≤ i) ∧ memS i st = false) ∧ (∀ j j' i ob ob', stF (none :: ss) j = some (i, ob) → stF (none :: ss) j' = some (i, ob') → j = j') := by
      intro ss h1 h2
      have sh : ∀ j i ob, stF (none :: ss) j = some (i, ob) → ∃ j0, j = j0 + 1 ∧ stF ss j0 = some (i, ob) := by
        intro j i ob hj
        cases j with
        | zero => simp [stF] at hj
        | succ j => exact ⟨j, rfl, by simpa [stF] using hj⟩
      refine ⟨fun j i ob hj => ?_, fun j j' i ob ob' hj hj' => ?_⟩
      · obtain ⟨j0, rfl, hj⟩ := sh j i ob hj
        exact h1 j0 i ob hj
      · obtain ⟨j0, rfl, hj⟩ := sh j i ob hj
        obtain ⟨j1, rfl, hj'⟩ := sh j' i ob' hj'
        rw [h2 j0 j1 i ob ob' hj hj']
    have cons_some : ∀ (i : Nat) (ob' : Ob) (ss : List (Option (Nat × Ob))), ((memN i tg = true ∨ obs0.length ≤ i) ∧ memS i st = false) → (∀ j i2 ob, stF ss j = some (i2, ob) → (memN i2 tg = true ∨ obs0.length ≤ i2) ∧ memS i2 ((i, ob') :: st) = false) → (∀ j j' i ob ob', stF ss j = some (i, ob) → stF ss j' = some (i, ob') → j = j') →
        (∀ j i2 ob, stF (some (i, ob') :: ss) j = some (i2, ob) → (memN i2 tg = true ∨ obs0.length ≤ i2) ∧ memS i2 st = false) ∧ (∀ j j' i2 ob ob2, stF (some (i, ob') :: ss) j = some (i2, ob) → stF (some (i, ob') :: ss) j' = some (i2, ob2) → j = j') := by
      intro i ob' ss htg h4 h5
      refine ⟨fun j i2 ob hj => ?_, fun j j' i2 ob ob2 hj hj' => ?_⟩
      · cases j with
        | zero =>
          simp [stF] at hj
          rw [← hj.1]
          exact htg
        | succ j =>
          obtain ⟨a1, a2⟩ := h4 j i2 ob (by simpa [stF] using hj)
          refine ⟨a1, ?_⟩
          rw [Bool.eq_false_iff] at a2 ⊢
          intro hm
          obtain ⟨o1, ho1⟩ := (memS_iff i2 st).1 hm
          exact a2 ((memS_iff i2 _).2 ⟨o1, by simp [ho1]⟩)
      · have zero_no : ∀ j ob, stF ss j = some (i, ob) → False := by
          intro j ob hj
          have := (h4 j i ob hj).2
          rw [Bool.eq_false_iff] at this
          exact this ((memS_iff i _).2 ⟨ob', by simp⟩)
        cases j with
        | zero =>
          cases j' with
          | zero => rfl
          | succ j' =>
            simp [stF] at hj
            rw [← hj.1] at hj'
            exact (zero_no j' ob2 (by simpa [stF] using hj')).elim
        | succ j =>
          cases j' with
          | zero =>
            simp [stF] at hj'
            rw [← hj'.1] at hj
            exact (zero_no j ob (by simpa [stF] using hj)).elim
          | succ j' => rw [h5 j j' i2 ob ob2 (by simpa [stF] using hj) (by simpa [stF] using hj')]
    unfold stepD at h
    split at h
    · rename_i t x y hop
      split at h
      · rename_i hgd hdst
        obtain ⟨i, ob', hk, hfact, htg, hss⟩ := stFact_of (w0 := w0) (S0 := S0) (N := N) (all := all) hT hop hgd hdst h hg
        have hupd : ∀ t, Same (sl.get t) (updS g o.dst (.p (.v undef)) t) := by
          intro t
          rw [hdst]
          simpa [updS] using hg t
        obtain ⟨rs, ss, slF, h1, h2, h3, h4, h5⟩ := head_spec hT hF hlen r cr ((i, ob') :: st) sl _ hk hupd
        obtain ⟨c4, c5⟩ := cons_some i ob' ss ⟨htg, hss⟩ h4 h5
        exact ⟨(.p (.v undef), none) :: rs, some (i, ob') :: ss, slF, ⟨.inl ⟨hfact _, rfl, rfl⟩, fun d hd => (by rw [hdst] at hd; cases hd), trivial, by simpa using h1⟩, by simpa using h2, h3, c4, c5⟩
      · exact h.elim
    · have hcase : (∃ i, ownApp sl o = some i) ∨ ownApp sl o = none := by cases ownApp sl o <;> simp
      rcases hcase with ⟨i, hoa⟩ | hoa
      · simp only [hoa] at h
        split at h
        · rename_i d hgd hdst
          obtain ⟨row, hk, hfact, htg, hilt, hss⟩ := appFact_of (w0 := w0) (S0 := S0) (N := N) (all := all) (cr := cr) hT hoa hgd h hg
          rw [snoc_iff, fN_iff] at hk
          obtain ⟨sl'', hk, hget, hN⟩ := put_iff hk
          rw [len_eq, len_eq] at hget
          have hupd : ∀ t, Same (sl''.get t) (updS g o.dst (.ob (obs.length + cr.length)) t) := by
            intro t ρ B w S v
            rw [hget]
            unfold updS
            split
            · exact Iff.rfl
            · exact hg t ρ B w S v
          obtain ⟨rs, ss, slF, h1, h2, h3, h4, h5⟩ := head_spec hT hF hlen r (cr ++ [row]) ((i, .dead) :: st) sl'' (updS g o.dst (.ob (obs.length + cr.length))) hk hupd
          obtain ⟨c4, c5⟩ := cons_some i .dead ss ⟨.inl htg, hss⟩ h4 h5
          refine ⟨(.ob (obs.length + cr.length), some row) :: rs, some (i, .dead) :: ss, slF, ⟨.inr ⟨rfl, by omega, row, rfl, ?_⟩, hN, rfl, by simpa using h1⟩, by simpa using h2, h3, c4, c5⟩
          have := hfact (row :: rs.filterMap (·.2))
          simpa using this
        · exact h.elim
      simp only [hoa] at h
      obtain ⟨sl', hsame, h⟩ := guard_fix h
      have hg' : ∀ t, Same (sl'.get t) (g t) := fun t ρ B w S v => (hsame t ρ B w S v).trans (hg t ρ B w S v)
      have upd_same : ∀ (sl'' : Slots) (sv : SV), (∀ t, sl''.get t = updS sl'.get o.dst sv t) → ∀ t, Same (sl''.get t) (updS g o.dst sv t) := by
        intro sl'' sv hh t ρ B w S v
        rw [hh]
        unfold updS
        split
        · exact Iff.rfl
        · exact hg' t ρ B w S v
      rcases h with ⟨h, hw⟩ | ⟨h, hw⟩
      · have hw' : ∀ (B : Nat → Prop) (ρ : Nat → Value) (S : Nat → Prop) (w : World) (a : Act), (∀ t ∈ o.looksAt all.toArray, Den ρ B w S (g t) (a.tmps.getD t undef)) → Region.wanted o (yielded all.toArray a.tmps) = true :=
          fun B ρ S w a hl => hw B ρ S w a fun t ht => (hg t ρ B w S _).2 (hl t ht)
        rcases opFact_of (N := N) (all := all) (w0 := w0) (S0 := S0) hT hF h hg' hw' with ⟨sv, hk, hfact⟩ | ⟨ob, hk, hfact⟩
        · obtain ⟨sl'', hk, hget, hN⟩ := put_iff hk
          obtain ⟨rs, ss, slF, h1, h2, h3, h4, h5⟩ := head_spec hT hF hlen r cr st sl'' (updS g o.dst sv) hk (upd_same _ _ hget)
          exact ⟨(sv, none) :: rs, none :: ss, slF, ⟨hfact, hN, trivial, by simpa using h1⟩, by simpa using h2, h3, cons_none ss h4 h5⟩
        · rw [snoc_iff, fN_iff] at hk
          obtain ⟨sl'', hk, hget, hN⟩ := put_iff hk
          rw [len_eq, len_eq] at hget
          obtain ⟨rs, ss, slF, h1, h2, h3, h4, h5⟩ := head_spec hT hF hlen r (cr ++ [ob]) st sl'' (updS g o.dst (.ob (obs.length + cr.length))) hk (upd_same _ _ hget)
          exact ⟨(.ob (obs.length + cr.length), some ob) :: rs, none :: ss, slF, ⟨hfact _, hN, rfl, by simpa using h1⟩, by simpa using h2, h3, cons_none ss h4 h5⟩
      · obtain ⟨sl'', hk, hget, hN⟩ := put_iff h
        obtain ⟨rs, ss, slF, h1, h2, h3, h4, h5⟩ := head_spec hT hF hlen r cr st sl'' (updS g o.dst (.p (.v undef))) hk (upd_same _ _ hget)
        exact ⟨(.p (.v undef), none) :: rs, none :: ss, slF, ⟨fun B ρ S a w hB hpl hs hd hl hW => .inl ⟨hw B ρ S w a fun t ht => (hg t ρ B w S _).2 (hl t ht), rfl, rfl⟩, hN, trivial, by simpa using h1⟩, by simpa using h2, h3, cons_none ss h4 h5⟩

end

def dstF (l : List Oper) (i : Nat) : Option Nat := (l[i]?).bind (·.dst)
def svF (rs : List (SV × Option Ob)) (i : Nat) : SV := ((rs[i]?).map (·.1)).getD .any
def obF (rs : List (SV × Option Ob)) (i : Nat) : Option Ob := (rs[i]?).bind (·.2)
def rank (rs : List (SV × Option Ob)) (i : Nat) : Nat := ((rs.take i).filterMap (·.2)).length

/-- The slots after those of the first i operations that are listed. -/
def gLl (l : List Oper) (rs : List (SV × Option Ob)) (g : Nat → SV) (L : Nat → Bool) : Nat → Nat → SV
  | 0, t => g t
  | i + 1, t => if L i = true ∧ dstF l i = some t then svF rs i else gLl l rs g L i t

theorem gLl_shift (o : Oper) (r : List Oper) (p : SV × Option Ob) (rs : List (SV × Option Ob)) (g : Nat → SV) (i t : Nat) :
    gLl (o :: r) (p :: rs) g (fun _ => true) (i + 1) t = gLl r rs (updS g o.dst p.1) (fun _ => true) i t := by
  induction i with
  | zero => simp [gLl, dstF, svF, updS]
  | succ i ih =>
    rw [gLl, ih, gLl]
    simp [dstF, svF]

section
variable {w0 : World} {S0 : Fr} {P : Program} {N : Nat} {all : List Oper} {obs : Obs}

theorem headOk_get {tot : Obs} : ∀ {l : List Oper} {g : Nat → SV} {c : Nat} {rs : List (SV × Option Ob)} {ss : List (Option (Nat × Ob))}, HeadOk w0 S0 P N all tot obs l g c rs ss → rs.length = l.length ∧ ∀ j o, l[j]? = some o →
    (match stF ss j with | none => OpFact w0 S0 P N all obs o (gLl l rs g (fun _ => true) j) (svF rs j) (obF rs j) | some (i, ob') => (StFact w0 S0 P N all tot o (gLl l rs g (fun _ => true) j) i ob' ∧ svF rs j = .p (.v undef) ∧ obF rs j = none) ∨ (ob' = .dead ∧ i < obs.length ∧ ∃ row, obF rs j = some row ∧ AppFact w0 S0 P N all tot o (gLl l rs g (fun _ => true) j) i row)) ∧ (∀ d, o.dst = some d → d < N) ∧
      (match obF rs j with | none => True | some _ => svF rs j = .ob (obs.length + c + rank rs j))
  | [], g, c, [], [], _ => ⟨rfl, fun j o h => by simp at h⟩
  | [], g, c, _ :: _, _, h => by cases h
  | [], g, c, [], _ :: _, h => by cases h
  | _ :: _, g, c, [], _, h => by cases h
  | _ :: _, g, c, _ :: _, [], h => by cases h
  | o :: r, g, c, (sv, ob) :: rs, s :: ss, h => by
    obtain ⟨h1, h2, h3, h4⟩ := h
    obtain ⟨hl, ih⟩ := headOk_get h4
    refine ⟨by simp [hl], fun j o' hj => ?_⟩
    cases j with
    | zero =>
      simp only [List.getElem?_cons_zero, Option.some.injEq] at hj
      subst hj
      refine ⟨?_, h2, ?_⟩
      · cases s with
        | none => simpa [svF, obF, gLl, stF] using h1
        | some p => simpa [svF, obF, gLl, stF] using h1
      · cases ob with
        | none => simp [obF]
        | some ob => simpa [svF, obF, rank] using h3
    | succ j =>
      simp only [List.getElem?_cons_succ] at hj
      obtain ⟨i1, i2, i3⟩ := ih j o' hj
      have e1 : svF ((sv, ob) :: rs) (j + 1) = svF rs j := by simp [svF]
      have e2 : obF ((sv, ob) :: rs) (j + 1) = obF rs j := by simp [obF]
      have e0 : stF (s :: ss) (j + 1) = stF ss j := by simp [stF]
      rw [e0, e1, e2, funext fun t => gLl_shift o r (sv, ob) rs g j t]
      refine ⟨i1, i2, ?_⟩
      have e3 : obs.length + c + rank ((sv, ob) :: rs) (j + 1) = obs.length + (c + if ob.isSome then 1 else 0) + rank rs j := by
        cases ob <;> simp [rank]; omega
      rw [e3]
      exact i3

theorem endG_eq : ∀ (l : List Oper) (g : Nat → SV) (rs : List (SV × Option Ob)), rs.length = l.length → ∀ t, endG l g rs t = gLl l rs g (fun _ => true) l.length t
  | [], g, rs, _, t => by cases rs <;> rfl
  | o :: r, g, [], h, t => by simp at h
  | o :: r, g, p :: rs, h, t => by
    rw [List.length_cons, gLl_shift, ← endG_eq r (updS g o.dst p.1) rs (by simpa using h) t]
    rfl

theorem rank_lt {rs : List (SV × Option Ob)} {i j : Nat} {ob : Ob} (hi : obF rs i = some ob) (hij : i < j) : rank rs i < rank rs j := by
  unfold obF at hi
  cases hr : rs[i]? with
  | none => simp [hr] at hi
  | some p =>
    simp only [hr, Option.bind_some] at hi
    have hil : i < rs.length := (List.getElem?_eq_some_iff.1 hr).1
    have : rs.take j = rs.take i ++ p :: (rs.drop (i + 1)).take (j - i - 1) := by
      have h1 : rs.drop i = p :: rs.drop (i + 1) := by
        rw [List.drop_eq_getElem_cons hil]
        congr 1
        rw [List.getElem?_eq_getElem hil] at hr
        exact Option.some.inj hr
      conv => lhs; rw [← List.take_append_drop i rs]
      rw [List.take_append, List.take_of_length_le (by simp; omega)]
      have h2 : j - (rs.take i).length = (j - i - 1) + 1 := by simp; omega
      rw [h2, h1, List.take_succ_cons]
    unfold rank
    rw [this, List.filterMap_append, List.filterMap_cons, hi]
    simp

theorem rank_bound {rs : List (SV × Option Ob)} {i : Nat} {ob : Ob} (hi : obF rs i = some ob) : rank rs i < (rs.filterMap (·.2)).length := by
  have hil : i < rs.length := by
    unfold obF at hi
    cases hr : rs[i]? with
    | none => simp [hr] at hi
    | some p => exact (List.getElem?_eq_some_iff.1 hr).1
  have := rank_lt hi hil
  unfold rank at this ⊢
  simpa using this

/-- The created objects, by their rank. -/
theorem cr_get {rs : List (SV × Option Ob)} {m : Nat} {ob : Ob} (h : (rs.filterMap (·.2))[m]? = some ob) : ∃ i, obF rs i = some ob ∧ rank rs i = m := by
  induction rs generalizing m with
  | nil => simp at h
  | cons p rs ih =>
    obtain ⟨sv, o⟩ := p
    cases o with
    | none =>
      simp only [List.filterMap_cons] at h
      obtain ⟨i, h1, h2⟩ := ih h
      exact ⟨i + 1, by simpa [obF] using h1, by simpa [rank] using h2⟩
    | some o =>
      simp only [List.filterMap_cons] at h
      cases m with
      | zero =>
        simp at h
        exact ⟨0, by simp [obF, h], by simp [rank]⟩
      | succ m =>
        simp only [List.getElem?_cons_succ] at h
        obtain ⟨i, h1, h2⟩ := ih h
        exact ⟨i + 1, by simpa [obF] using h1, by simpa [rank] using h2⟩


def Lf (listed : Array Bool) (i : Nat) : Bool := listed.getD i false

/-- The objects that are there. -/
def Bl (obs : Obs) (rs : List (SV × Option Ob)) (listed : Array Bool) : Nat → Prop := fun i => i < obs.length ∨ ∃ k ob, obF rs k = some ob ∧ Lf listed k = true ∧ i = obs.length + rank rs k

/-- The objects, with the stores of the listed operations. -/
def RelL (obs0 : Obs) (ss : List (Option (Nat × Ob))) (listed : Array Bool) (obsL : Obs) : Prop :=
  obsL.length = obs0.length ∧ (∀ i, (∀ j ob', stF ss j ≠ some (i, ob')) → obsL[i]? = obs0[i]?) ∧ (∀ j i ob', i < obs0.length → stF ss j = some (i, ob') → obsL[i]? = if Lf listed j = true then some ob' else obs0[i]?)

/-- What a new object holds, with the stores of the listed operations. -/
def Now (ss : List (Option (Nat × Ob))) (listed : Array Bool) (i : Nat) (ob obk : Ob) : Prop :=
  ((∀ j ob', stF ss j ≠ some (i, ob')) → obk = ob) ∧ (∀ j ob', stF ss j = some (i, ob') → obk = if Lf listed j = true then ob' else ob)

/-- What holds after the listed ones of the first n operations. -/
def DInv (w0 : World) (S0 : Fr) (N : Nat) (obs0 obs : Obs) (l : List Oper) (rs : List (SV × Option Ob)) (ss : List (Option (Nat × Ob))) (g : Nat → SV) (wr : World) (listed : Array Bool) (a : Act) (w : World) : Prop :=
  ∃ ρ S obsL, SatW w0 S0 obsL ρ S w ∧ RelL obs0 ss listed obsL ∧ wr.heap.size ≤ w.heap.size ∧ a.tmps.size = N ∧ a.defers = [] ∧ (∀ t, Den ρ (Bl obs rs listed) w S (gLl l rs g (Lf listed) l.length t) (a.tmps.getD t undef)) ∧ (∀ i, Bl obs rs listed i → Plain (ρ i)) ∧
    (∀ j ob, j < l.length → Lf listed j = true → obF rs j = some ob → (∃ obk, Now ss listed (obs.length + rank rs j) ob obk ∧ obk.live = true ∧ flatOb obk = true ∧ ObOk ρ (Bl obs rs listed) w S obk (ρ (obs.length + rank rs j))) ∧ ∃ b, blk (ρ (obs.length + rank rs j)) = some b ∧ (w0.heap.size ≤ b ∨ S0.m b) ∧ b < w.heap.size ∧ ¬ S b) ∧
    (∀ j j' ob ob' b, j < l.length → j' < l.length → Lf listed j = true → Lf listed j' = true → obF rs j = some ob → obF rs j' = some ob' → blk (ρ (obs.length + rank rs j)) = some b → blk (ρ (obs.length + rank rs j')) = some b → j = j') ∧
    (∀ i ob b, obsL[i]? = some ob → ob.live = true → Owns w ob (ρ i) b → ∀ j obj, j < l.length → Lf listed j = true → obF rs j = some obj → blk (ρ (obs.length + rank rs j)) ≠ some b) ∧
    (∀ s i ob', Lf listed s = true → stF ss s = some (i, ob') → Bl obs rs listed i)

theorem gLl_congr {l : List Oper} {rs : List (SV × Option Ob)} {g : Nat → SV} {L L' : Nat → Bool} {t : Nat} : ∀ n, (∀ i, i < n → dstF l i = some t → L i = L' i) → gLl l rs g L n t = gLl l rs g L' n t
  | 0, _ => rfl
  | n + 1, h => by
    rw [gLl, gLl, gLl_congr n fun i hi => h i (by omega)]
    by_cases hd : dstF l n = some t
    · rw [h n (by omega) hd]
    · simp [hd]

theorem gLl_skip {l : List Oper} {rs : List (SV × Option Ob)} {g : Nat → SV} {L : Nat → Bool} {t j : Nat} : ∀ n, j ≤ n → (∀ i, j ≤ i → i < n → L i = true → dstF l i ≠ some t) → gLl l rs g L n t = gLl l rs g L j t
  | 0, h, _ => by have : j = 0 := by omega
                  subst this; rfl
  | n + 1, h, hh => by
    by_cases hj : j = n + 1
    · subst hj; rfl
    · rw [gLl, if_neg (fun hc => hh n (by omega) (by omega) hc.1 hc.2), gLl_skip n (by omega) fun i h1 h2 => hh i h1 (by omega)]

theorem Lf_set {listed : Array Bool} {j i : Nat} (hj : j < listed.size) : Lf (listed.setIfInBounds j true) i = if i = j then true else Lf listed i := by
  unfold Lf
  by_cases h : i = j
  · subst h; simp [hj]
  · rw [if_neg h, getD_set_ne false (fun e => h e.symm)]

end

section
variable {w0 : World} {S0 : Fr} {P : Program} {F : Nat} {T : Tab} {N : Nat} {all : List Oper} {obs : Obs}

theorem take_get' {l : List Oper} {n i : Nat} (hi : i < n) : (l.take n)[i]? = l[i]? := by rw [List.getElem?_take_of_lt hi]

/-- One operation of the head, in whatever order. -/
theorem draw_step {n : Nat} {rs : List (SV × Option Ob)} {g : Nat → SV} {Q : Exit → Act → World → Prop} {wr : World} (hB : headB all.toArray all 0 n = true) (hn : n ≤ all.length)
    {obs0 : Obs} {ss : List (Option (Nat × Ob))} (hH : HeadOk w0 S0 P N all (obs0 ++ rs.filterMap (·.2)) obs (all.take n) g 0 rs ss) (hlen0 : obs.length = obs0.length) (htg : ∀ i o, obs[i]? = some o → o.live = true → obs0[i]? = some o ∧ ∀ j ob', stF ss j ≠ some (i, ob')) (hinj : ∀ j j' i ob ob', stF ss j = some (i, ob) → stF ss j' = some (i, ob') → j = j') (hwr : w0.heap.size ≤ wr.heap.size)
    {listed : Array Bool} (inv : HeadInv .any all.toArray n listed) {j : Nat} (hj : j ∈ Region.ready .any all.toArray listed) (hjn : j < n) {a : Act} {w : World}
    (h : DInv w0 S0 N obs0 obs (all.take n) rs ss g wr listed a w) : wpOp P all.toArray Q j (DInv w0 S0 N obs0 obs (all.take n) rs ss g wr (listed.setIfInBounds j true)) a w := by
  obtain ⟨ρ, S, obsL, hWL, hrel, hle0, hsz, hdf, hslots, hplain, hobj, hdist, hold, hstored⟩ := h
  have hlenL : obsL.length = obs.length := by rw [hrel.1, hlen0]
  have hW : SatW w0 S0 obs ρ S w := by
    have hsub : ∀ (i : Nat) (o : Ob), obs[i]? = some o → o.live = true → obsL[i]? = some o := by
      intro i o hi hl
      obtain ⟨h1, h2⟩ := htg i o hi hl
      rw [hrel.2.1 i h2]; exact h1
    refine hWL.shrink (by omega) hsub (fun i o hi => ?_) (fun i v hp => by rw [← hlenL]; exact (hWL.pins i v hp).2)
    cases hl : o.live with
    | false => cases o <;> first | (cases hl; done) | trivial
    | true => rw [← hlenL]; exact (hWL.objs i o (hsub i o hi hl)).refs
  obtain ⟨hlen, hget⟩ := headOk_get hH
  have hln : (all.take n).length = n := by simp; omega
  rw [hln] at hslots hobj hdist hold hlen
  obtain ⟨hun, oj, hoj, hall⟩ := mem_ready.1 hj
  have hoj' : all[j]? = some oj := by simpa using hoj
  have hjl : (all.take n)[j]? = some oj := by rw [take_get' hjn]; exact hoj'
  obtain ⟨hfact, hdN, hsv⟩ := hget j oj hjl
  have hunf : Lf listed j = false := getD_both hun
  have hjs : j < listed.size := by rw [inv.size]; simpa using (List.getElem?_eq_some_iff.1 hoj').1
  -- an operation that waits for j is not listed; one for which j waits is
  have later : ∀ i oi, j < i → all[i]? = some oi → waitsL oi j = true → Lf listed i = false := by
    intro i oi _ hoi hw
    cases hl : Lf listed i with
    | false => rfl
    | true =>
      obtain ⟨e, he, hb⟩ := List.any_eq_true.1 hw
      simp only [Bool.and_eq_true, beq_iff_eq] at hb
      have := inv.closed i oi (by simpa using hoi) hl e (Array.mem_toList_iff.1 he) hb.1
      rw [hb.2] at this
      unfold Lf at hunf
      rw [hunf] at this
      cases this
  have earlier : ∀ i, waitsL oj i = true → Lf listed i = true := by
    intro i hw
    obtain ⟨e, he, hb⟩ := List.any_eq_true.1 hw
    simp only [Bool.and_eq_true, beq_iff_eq] at hb
    have := hall e (Array.mem_toList_iff.1 he) hb.1
    rw [hb.2] at this
    exact this
  have hspec := headB_spec hB
  have dst_get : ∀ i, i < n → ∀ t, dstF (all.take n) i = some t → ∃ oi, all[i]? = some oi ∧ oi.dst = some t := by
    intro i hi t hd
    unfold dstF at hd
    rw [take_get' hi] at hd
    cases ho : all[i]? with
    | none => simp [ho] at hd
    | some oi => exact ⟨oi, rfl, by simpa [ho] using hd⟩
  -- what j looks at is as in the text's order
  have hlook : ∀ t ∈ oj.looksAt all.toArray, gLl (all.take n) rs g (Lf listed) n t = gLl (all.take n) rs g (fun _ => true) j t := by
    intro t ht
    rw [gLl_skip (j := j) n (by omega) ?_]
    · refine gLl_congr j fun i hi hd => ?_
      obtain ⟨oi, hoi, hdi⟩ := dst_get i (by omega) t hd
      rcases (hspec i oi (by omega) hoi).2 j oj hi hoj' with hw | hap
      · rw [Nat.zero_add] at hw; exact earlier i hw
      · exact absurd ht ((Oper.apart_spec hap).1 t hdi)
    · intro i hji hin hL hd
      by_cases hij : i = j
      · subst hij; rw [hunf] at hL; cases hL
      · obtain ⟨oi, hoi, hdi⟩ := dst_get i hin t hd
        rcases (hspec j oj hjn hoj').2 i oi (by omega) hoi with hw | hap
        · rw [Nat.zero_add] at hw
          rw [later i oi (by omega) hoi hw] at hL; cases hL
        · exact (Oper.apart_spec hap).2.2 t hdi ht
  -- the slots behind j
  have hslot' : ∀ t, gLl (all.take n) rs g (Lf (listed.setIfInBounds j true)) n t = if oj.dst = some t then svF rs j else gLl (all.take n) rs g (Lf listed) n t := by
    intro t
    by_cases hd : oj.dst = some t
    · rw [if_pos hd]
      rw [gLl_skip (j := j + 1) n (by omega) ?_]
      · rw [gLl, if_pos ⟨by rw [Lf_set hjs, if_pos rfl], by simp [dstF, hjl, hd]⟩]
      · intro i h1 h2 hL hdi
        rw [Lf_set hjs, if_neg (by omega)] at hL
        obtain ⟨oi, hoi, hdi⟩ := dst_get i h2 t hdi
        rcases (hspec j oj hjn hoj').2 i oi (by omega) hoi with hw | hap
        · rw [Nat.zero_add] at hw
          rw [later i oi (by omega) hoi hw] at hL; cases hL
        · exact (Oper.apart_spec hap).2.1 t hd hdi
    · rw [if_neg hd]
      refine gLl_congr n fun i hi hdi => ?_
      rw [Lf_set hjs]
      split
      · rename_i e
        subst e
        simp only [dstF, hjl, Option.bind_some] at hdi
        exact absurd hdi hd
      · rfl
  have hBl : ∀ i, Bl obs rs listed i → Bl obs rs (listed.setIfInBounds j true) i := by
    intro i hi
    rcases hi with h | ⟨k, ob, h1, h2, h3⟩
    · exact .inl h
    · exact .inr ⟨k, ob, h1, by rw [Lf_set hjs]; split <;> first | rfl | exact h2, h3⟩
  have stored_set : (∀ i ob', stF ss j = some (i, ob') → Bl obs rs (listed.setIfInBounds j true) i) → ∀ s i ob', Lf (listed.setIfInBounds j true) s = true → stF ss s = some (i, ob') → Bl obs rs (listed.setIfInBounds j true) i := by
    intro hown s i ob' hs hst'
    by_cases hsj : s = j
    · subst hsj; exact hown i ob' hst'
    · rw [Lf_set hjs, if_neg hsj] at hs
      exact hBl i (hstored s i ob' hs hst')
  have rel_set : (∀ i ob', stF ss j ≠ some (i, ob')) → RelL obs0 ss (listed.setIfInBounds j true) obsL := by
    intro hno
    refine ⟨hrel.1, hrel.2.1, fun j' i ob' hi hj' => ?_⟩
    have hne : j' ≠ j := by rintro rfl; exact hno i ob' hj'
    rw [Lf_set hjs, if_neg hne]
    exact hrel.2.2 j' i ob' hi hj'
  have now_set : (∀ i ob', stF ss j ≠ some (i, ob')) → ∀ i ob obk, Now ss listed i ob obk → Now ss (listed.setIfInBounds j true) i ob obk := by
    intro hno i ob obk hnow
    refine ⟨hnow.1, fun j' ob' hj' => ?_⟩
    have hne : j' ≠ j := by rintro rfl; exact hno i ob' hj'
    rw [Lf_set hjs, if_neg hne]
    exact hnow.2 j' ob' hj'
  have hput : ∀ (ρ' : Nat → Value) (B' : Nat → Prop) (w' : World) (S' : Nat → Prop) (v : Value), (∀ t, Den ρ' B' w' S' (gLl (all.take n) rs g (Lf listed) n t) (a.tmps.getD t undef)) → Den ρ' B' w' S' (svF rs j) v → ∀ t, Den ρ' B' w' S' (gLl (all.take n) rs g (Lf (listed.setIfInBounds j true)) n t) ((a.put oj.dst v).tmps.getD t undef) := by
    intro ρ' B' w' S' v hs hv t
    rw [hslot']
    cases hd : oj.dst with
    | none => simp only [Act.put]; rw [if_neg (by simp)]; exact hs t
    | some d =>
      by_cases hdt : d = t
      · subst hdt
        rw [if_pos rfl]
        have : (a.put (some d) v).tmps.getD d undef = v := by simp [Act.put, hsz, hdN d hd]
        rw [this]; exact hv
      · rw [if_neg (by simpa using hdt)]
        have : (a.put (some d) v).tmps.getD t undef = a.tmps.getD t undef := by simp [Act.put, Array.getElem?_setIfInBounds_ne hdt]
        rw [this]; exact hs t
  have hsz' : ∀ v, (a.put oj.dst v).tmps.size = N := by intro v; cases oj.dst <;> simp [Act.put, hsz]
  have hdf' : ∀ v, (a.put oj.dst v).defers = [] := by intro v; cases oj.dst <;> simp [Act.put, hdf]
  have hk : ∀ w', Le w w' → Keeps S w w' := fun w' hl => hW.keeps hl
  -- the objects that are there, later
  have later_obj : (∀ i ob', stF ss j ≠ some (i, ob')) → ∀ (ρ' : Nat → Value) (w' : World) (S' : Nat → Prop), Le w w' → (∀ b, S b → S' b) → (∀ b, S' b → S b ∨ w.heap.size ≤ b) → (∀ i, Bl obs rs listed i → ρ' i = ρ i) → ∀ i ob, i < n → Lf listed i = true → obF rs i = some ob →
      (∃ obk, Now ss (listed.setIfInBounds j true) (obs.length + rank rs i) ob obk ∧ obk.live = true ∧ flatOb obk = true ∧ ObOk ρ' (Bl obs rs (listed.setIfInBounds j true)) w' S' obk (ρ' (obs.length + rank rs i))) ∧ ∃ b, blk (ρ' (obs.length + rank rs i)) = some b ∧ (w0.heap.size ≤ b ∨ S0.m b) ∧ b < w'.heap.size ∧ ¬ S' b := by
    intro hno ρ' w' S' hle hs hsn hρ i ob hi hL ho
    obtain ⟨⟨obk, hnow, hlv, hfl, h1⟩, b, h2, h3, h4, h5⟩ := hobj i ob hi hL ho
    have e : ρ' (obs.length + rank rs i) = ρ (obs.length + rank rs i) := hρ _ (.inr ⟨i, ob, ho, hL, rfl⟩)
    rw [e]
    refine ⟨⟨obk, now_set hno _ _ _ hnow, hlv, hfl, h1.mono (fun g hl hg => Below.block hle g (h1.lt hl hg)) (hk w' hle) hs hBl hρ⟩, b, h2, h3, Nat.lt_of_lt_of_le h4 (Below.size hle), fun hS => ?_⟩
    rcases hsn b hS with h | h
    · exact h5 h
    · omega
  -- the older objects' blocks, later
  have hold' : ∀ (w' : World), Le w w' → ∀ i ob b, obsL[i]? = some ob → ob.live = true → Owns w' ob (ρ i) b → ∀ k obj, k < n → Lf listed k = true → obF rs k = some obj → blk (ρ (obs.length + rank rs k)) ≠ some b := by
    intro w' hle i ob b hi hl hb
    exact hold i ob b hi hl (hWL.same hi hl (fun g hg => Below.block hle g (hWL.owned hi hl hg)) hb)
  -- an operation that makes no object leaves the same ones listed
  have unl : obF rs j = none → ∀ k obj, Lf (listed.setIfInBounds j true) k = true → obF rs k = some obj → Lf listed k = true := by
    intro hno k obj hL ho
    rw [Lf_set hjs] at hL
    split at hL
    · rename_i e; subst e; rw [hno] at ho; cases ho
    · exact hL
  -- an operation that makes no object
  have plain : ∀ v w' S', Le w w' → (∀ b, S b → S' b) → (∀ b, S' b → S b ∨ w.heap.size ≤ b) → SatW w0 S0 obs ρ S' w' → (∀ i ob', stF ss j ≠ some (i, ob')) → obF rs j = none → Den ρ (Bl obs rs listed) w' S' (svF rs j) v → DInv w0 S0 N obs0 obs (all.take n) rs ss g wr (listed.setIfInBounds j true) (a.put oj.dst v) w' := by
    intro v w' S' hle hs hsn hW' hno hob hv
    have hBl' : ∀ i, Bl obs rs (listed.setIfInBounds j true) i → Bl obs rs listed i := by
      intro i hi
      rcases hi with h | ⟨k, ob, h1, h2, h3⟩
      · exact .inl h
      · refine .inr ⟨k, ob, h1, ?_, h3⟩
        rw [Lf_set hjs] at h2
        split at h2
        · rename_i e; subst e; rw [hob] at h1; cases h1
        · exact h2
    refine ⟨ρ, S', obsL, hWL.grow hle hs hsn hW'.lt, rel_set hno, Nat.le_trans hle0 (Below.size hle), hsz' v, hdf' v, by rw [hln]; exact hput ρ _ w' S' v (fun t => (hslots t).mono (hk w' hle) hs hBl (fun _ _ => rfl)) (hv.mono (fun _ _ => rfl) (fun _ h => h) hBl (fun _ _ => rfl)), fun i hi => hplain i (hBl' i hi), ?_, ?_, fun i o b hi hl hb k obj hk hL ho => hold' w' hle i o b hi hl hb k obj (by rw [hln] at hk; exact hk) (unl hob k obj hL ho) ho, stored_set fun i ob' h => absurd h (hno i ob')⟩
    · rw [hln]
      intro i ob hi hL hobi
      have hne : i ≠ j := by intro e; subst e; rw [hob] at hobi; cases hobi
      rw [Lf_set hjs, if_neg hne] at hL
      exact later_obj hno ρ w' S' hle hs hsn (fun _ _ => rfl) i ob hi hL hobi
    · rw [hln]
      intro i i' ob ob' b hi hi' hL hL' ho ho' hb hb'
      have hne : i ≠ j := by intro e; subst e; rw [hob] at ho; cases ho
      have hne' : i' ≠ j := by intro e; subst e; rw [hob] at ho'; cases ho'
      rw [Lf_set hjs, if_neg hne] at hL
      rw [Lf_set hjs, if_neg hne'] at hL'
      exact hdist i i' ob ob' b hi hi' hL hL' ho ho' hb hb'
  unfold wpOp
  simp only [hoj]
  cases hst : stF ss j with
  | some q =>
    obtain ⟨i, obB⟩ := q
    simp only [hst] at hfact
    rcases hfact with hfact | ⟨rfl, hio, row, hobr, obA, hob0, lA, lR, fR, freeR, hrun⟩
    rotate_left
    · -- an append to an older row
      have hi0 : i < obs0.length := by omega
      have hob0 : obs0[i]? = some obA := by rwa [List.getElem?_append_left hi0] at hob0
      have hLb : obsL[i]? = some obA := by rw [hrel.2.2 j i _ hi0 hst, hunf]; simpa using hob0
      rw [hobr] at hsv
      simp only at hsv
      rw [Nat.add_zero] at hsv
      obtain ⟨hBi, hw, hwp⟩ := hrun (Bl obs rs listed) ρ S a w hsz hdf (fun t ht => by rw [← hlook t ht]; exact hslots t)
      rw [if_pos hw]
      refine .inl (hwp obsL hLb hWL _ Q fun v w' hWs hkp hsize hblk ⟨b, hb, hbo, hbl, hbS, hsrc⟩ hok hplv => ?_)
      have hrk : ∀ i ob', obF rs i = some ob' → i ≠ j → rank rs i ≠ rank rs j := by
        intro i ob' hi hne e
        rcases Nat.lt_or_gt_of_ne hne with hlt | hlt
        · have := rank_lt hi hlt; omega
        · have := rank_lt hobr hlt; omega
      have hself : updρ ρ (obs.length + rank rs j) v (obs.length + rank rs j) = v := by rw [updρ, if_pos rfl]
      have hne : ∀ i, Bl obs rs listed i → i ≠ obs.length + rank rs j := by
        intro i hi e
        rcases hi with h | ⟨k, ob', h1, h2, h3⟩
        · omega
        · by_cases hkj : k = j
          · subst hkj; rw [hunf] at h2; cases h2
          · exact hrk k ob' h1 hkj (by omega)
      have hρ : ∀ i, Bl obs rs listed i → updρ ρ (obs.length + rank rs j) v i = ρ i := fun i hi => by rw [updρ, if_neg (hne i hi)]
      have hB' : ∀ i, Bl obs rs (listed.setIfInBounds j true) i → Bl obs rs listed i ∨ i = obs.length + rank rs j := by
        intro i hi
        rcases hi with h | ⟨k, ob', h1, h2, h3⟩
        · exact .inl (.inl h)
        · rw [Lf_set hjs] at h2
          split at h2
          · rename_i e; subst e; exact .inr h3
          · exact .inl (.inr ⟨k, ob', h1, h2, h3⟩)
      have hBj : Bl obs rs (listed.setIfInBounds j true) (obs.length + rank rs j) := .inr ⟨j, row, hobr, by rw [Lf_set hjs, if_pos rfl], rfl⟩
      have hlenS : (obsL.set i .dead).length = obsL.length := by simp
      have hWn : SatW w0 S0 (obsL.set i .dead) (updρ ρ (obs.length + rank rs j) v) S w' := by
        have hlt : ∀ i', i' < (obsL.set i .dead).length → updρ ρ (obs.length + rank rs j) v i' = ρ i' := fun i' hi' => hρ i' (.inl (by omega))
        refine ⟨fun q o hq => ?_, fun q q' oq oq' b hq hq' lq lq' bq bq' => ?_, fun q o b hq hl hb => ?_, hWs.sub, hWs.lt, hWs.new, hWs.le, fun q hq => by rw [hlt q hq]; exact hWs.plain q hq, fun q v hp => ⟨(hlt q (hWs.pins q v hp).2).trans (hWs.pins q v hp).1, (hWs.pins q v hp).2⟩⟩
        · rw [hlt q (List.getElem?_eq_some_iff.1 hq).1]
          exact (hWs.objs q o hq).mono (fun _ _ _ => rfl) (fun _ _ => rfl) (fun _ h => h) (fun _ h => h) (fun q hq => hlt q hq)
        · rw [hlt q (List.getElem?_eq_some_iff.1 hq).1] at bq
          rw [hlt q' (List.getElem?_eq_some_iff.1 hq').1] at bq'
          exact hWs.dist q q' oq oq' b hq hq' lq lq' bq bq'
        · rw [hlt q (List.getElem?_eq_some_iff.1 hq).1] at hb
          exact hWs.own q o b hq hl hb
      -- the row's block is that of no object that is made here
      have hapart : ∀ k obj, k < n → Lf listed k = true → obF rs k = some obj → blk (ρ (obs.length + rank rs k)) ≠ blk (ρ i) := by
        intro k obj hk hL ho e
        obtain ⟨_, b2, h2, _⟩ := hobj k obj hk hL ho
        exact hold i obA b2 hLb lA (.inl (by rw [← e]; exact h2)) k obj hk hL ho h2
      have hoth : ∀ k obj, k < n → k ≠ j → Lf (listed.setIfInBounds j true) k = true → obF rs k = some obj → Lf listed k = true ∧ updρ ρ (obs.length + rank rs j) v (obs.length + rank rs k) = ρ (obs.length + rank rs k) := by
        intro k obj hk hkj hL ho
        rw [Lf_set hjs, if_neg hkj] at hL
        exact ⟨hL, hρ _ (.inr ⟨k, obj, ho, hL, rfl⟩)⟩
      have hownL : ∀ q o b2, (obsL.set i .dead)[q]? = some o → o.live = true → Owns w' o (ρ q) b2 → q ≠ i ∧ obsL[q]? = some o ∧ Owns w o (ρ q) b2 ∧ blk (ρ i) ≠ some b2 := by
        intro q o b2 hq hl hb2
        rcases get_set hq with ⟨h1, h2⟩ | ⟨rfl, _, rfl⟩
        · have hsame := hWL.same h2 hl (fun g hg => hblk g (hWL.owned h2 hl hg) fun e => h1 (hWL.dist i q obA o g hLb h2 lA hl (.inl e) hg)) hb2
          exact ⟨Ne.symm h1, h2, hsame, fun e => h1 (hWL.dist i q obA o b2 hLb h2 lA hl (.inl e) hsame)⟩
        · cases hl
      refine ⟨updρ ρ (obs.length + rank rs j) v, S, obsL.set i .dead, hWn, ⟨by simpa using hrel.1, fun k hk => ?_, fun j' k ob2 hk0 hj' => ?_⟩, Nat.le_trans hle0 hsize, hsz' v, hdf' v, ?_, ?_, ?_, ?_, ?_, stored_set fun i2 ob2 h2 => by rw [hst] at h2; cases h2; exact hBl _ hBi⟩
      · have hki : i ≠ k := by rintro rfl; exact hk j _ hst
        rw [List.getElem?_set_ne hki]
        exact hrel.2.1 k hk
      · by_cases hkj : j' = j
        · subst hkj
          rw [hst] at hj'
          cases hj'
          rw [Lf_set hjs, if_pos rfl, if_pos rfl, List.getElem?_set_self (List.getElem?_eq_some_iff.1 hLb).1]
        · have hki : i ≠ k := by rintro rfl; exact hkj (hinj j' j i _ _ hj' hst)
          rw [List.getElem?_set_ne hki, Lf_set hjs, if_neg hkj]
          exact hrel.2.2 j' k ob2 hk0 hj'
      · rw [hln]
        refine hput _ _ w' S v (fun t => (hslots t).mono hkp (fun _ h => h) hBl hρ) ?_
        rw [hsv]
        have : Den (updρ ρ (obs.length + rank rs j) v) (Bl obs rs (listed.setIfInBounds j true)) w' S (.ob (obs.length + rank rs j)) (updρ ρ (obs.length + rank rs j) v (obs.length + rank rs j)) := .ob hBj
        rwa [hself] at this
      · intro q hq
        rcases hB' q hq with h | h
        · rw [hρ q h]; exact hplain q h
        · rw [h, hself]; exact hplv
      · rw [hln]
        intro k ob' hk hL hobk
        by_cases hkj : k = j
        · subst hkj
          rw [hobr] at hobk
          cases hobk
          rw [hself]
          refine ⟨⟨row, ⟨fun _ => rfl, fun j' ob' hj' => ?_⟩, lR, fR, freeR _ _ _ _ _ _ _ hok⟩, b, hb, hbo, hbl, hbS⟩
          have : Lf (listed.setIfInBounds k true) j' = false := by
            have hne' : j' ≠ k := by rintro rfl; rw [hst] at hj'; cases hj'; omega
            rw [Lf_set hjs, if_neg hne']
            cases hlf : Lf listed j' with
            | false => rfl
            | true =>
              rcases hstored j' _ ob' hlf hj' with h | ⟨k2, o2, h1, h2, h3⟩
              · omega
              · by_cases hki : k2 = k
                · subst hki; rw [hunf] at h2; cases h2
                · exact absurd (show rank rs k2 = rank rs k by omega) (hrk k2 o2 h1 hki)
          rw [this]; simp
        · obtain ⟨hL, he⟩ := hoth k ob' hk hkj hL hobk
          rw [he]
          obtain ⟨⟨obk, hnow, hlv, hfl, h1⟩, b2, h2, h3, h4, h5⟩ := hobj k ob' hk hL hobk
          refine ⟨⟨obk, ⟨hnow.1, fun j' ob2 hj' => ?_⟩, hlv, hfl, h1.mono (fun g' hl hg' => ?_) hkp (fun _ h => h) hBl hρ⟩, b2, h2, h3, Nat.lt_of_lt_of_le h4 hsize, h5⟩
          · have hne' : j' ≠ j := by rintro rfl; rw [hst] at hj'; cases hj'; omega
            rw [Lf_set hjs, if_neg hne']
            exact hnow.2 j' ob2 hj'
          · have hg2 := hg'.flat hfl
            rw [h2] at hg2
            cases hg2
            exact hblk b2 h4 fun e => hapart k ob' hk hL hobk (by rw [h2, e])
      · rw [hln]
        intro k k' ok ok' b2 hk hk' hL hL' ho ho' hb2 hb2'
        have old : ∀ k ok, k < n → k ≠ j → Lf (listed.setIfInBounds j true) k = true → obF rs k = some ok → blk (updρ ρ (obs.length + rank rs j) v (obs.length + rank rs k)) = some b2 → b2 < w.heap.size ∧ blk (ρ (obs.length + rank rs k)) = some b2 ∧ Lf listed k = true ∧ blk (ρ i) ≠ some b2 := by
          intro k ok hk hkj hL ho hb
          obtain ⟨hL, he⟩ := hoth k ok hk hkj hL ho
          rw [he] at hb
          obtain ⟨_, b3, h2, _, h4, _⟩ := hobj k ok hk hL ho
          rw [hb] at h2
          cases h2
          exact ⟨h4, hb, hL, fun e => hapart k ok hk hL ho (by rw [hb, e])⟩
        by_cases h1 : k = j <;> by_cases h2 : k' = j
        · rw [h1, h2]
        · obtain ⟨e1, _, _, e4⟩ := old k' ok' hk' h2 hL' ho' hb2'
          rw [h1, hself, hb] at hb2
          cases hb2
          rcases hsrc with h | h
          · exact absurd h e4
          · omega
        · obtain ⟨e1, _, _, e4⟩ := old k ok hk h1 hL ho hb2
          rw [h2, hself, hb] at hb2'
          cases hb2'
          rcases hsrc with h | h
          · exact absurd h e4
          · omega
        · obtain ⟨_, e1, e2, _⟩ := old k ok hk h1 hL ho hb2
          obtain ⟨_, e3, e4, _⟩ := old k' ok' hk' h2 hL' ho' hb2'
          exact hdist k k' ok ok' b2 hk hk' e2 e4 ho ho' e1 e3
      · intro q o b2 hq hl hb2 k obj hk hL ho
        rw [hln] at hk
        rw [hρ q (.inl (by have := (List.getElem?_eq_some_iff.1 hq).1; omega))] at hb2
        obtain ⟨h1, h2, h3, h4⟩ := hownL q o b2 hq hl hb2
        by_cases hkj : k = j
        · subst hkj
          rw [hself, hb]
          intro e
          cases e
          rcases hsrc with h | h
          · exact h4 h
          · have := hWL.owned h2 hl h3; omega
        · obtain ⟨hL, he⟩ := hoth k obj hk hkj hL ho
          rw [he]
          exact hold q o b2 h2 hl h3 k obj hk hL ho
    obtain ⟨⟨hdst, obA, hob0, fA, fB, hrun⟩, hsvu, hobn⟩ := hfact
    obtain ⟨hBi, hw, hwp⟩ := hrun (Bl obs rs listed) ρ S a w hplain hsz hdf (fun t ht => by rw [← hlook t ht]; exact hslots t)
    rw [if_pos hw]
    have hBl' : ∀ i, Bl obs rs (listed.setIfInBounds j true) i → Bl obs rs listed i := by
      intro i hi
      rcases hi with h | ⟨k, ob, h1, h2, h3⟩
      · exact .inl h
      · refine .inr ⟨k, ob, h1, ?_, h3⟩
        rw [Lf_set hjs] at h2
        split at h2
        · rename_i e; subst e; rw [hobn] at h1; cases h1
        · exact h2
    have dist' : ∀ k k' ob ob2 b, k < (all.take n).length → k' < (all.take n).length → Lf (listed.setIfInBounds j true) k = true → Lf (listed.setIfInBounds j true) k' = true → obF rs k = some ob → obF rs k' = some ob2 → blk (ρ (obs.length + rank rs k)) = some b → blk (ρ (obs.length + rank rs k')) = some b → k = k' := by
      rw [hln]
      intro k k' ob ob2 b hk hk' hL hL' ho ho' hb hb'
      have hkj : k ≠ j := by rintro rfl; rw [hobn] at ho; cases ho
      have hkj' : k' ≠ j := by rintro rfl; rw [hobn] at ho'; cases ho'
      rw [Lf_set hjs, if_neg hkj] at hL
      rw [Lf_set hjs, if_neg hkj'] at hL'
      exact hdist k k' ob ob2 b hk hk' hL hL' ho ho' hb hb'
    by_cases hio : i < obs.length
    · -- an older variable
      have hi0 : i < obs0.length := by omega
      have hob0 : obs0[i]? = some obA := by rwa [List.getElem?_append_left hi0] at hob0
      have hLi : obsL[i]? = obs0[i]? := by rw [hrel.2.2 j i _ hi0 hst, hunf]; simp
      have hLb : obsL[i]? = some obA := by rw [hLi]; exact hob0
      refine .inl (hwp obsL ρ i hLb rfl hWL _ Q fun w' gb hgb hch hkp hWs => ?_)
      have hgw : ∀ k obj, k < n → Lf listed k = true → obF rs k = some obj → blk (ρ (obs.length + rank rs k)) ≠ some gb := hold i _ gb hLb fA.live (.inl hgb)
      have hne : ∀ k o, k ≠ i → obsL[k]? = some o → o.live = true → ∀ g', Owns w o (ρ k) g' → w'.heap[g']? = w.heap[g']? := by
        intro k o hki ho hl g' hg'
        refine hch.block g' (hWL.owned ho hl hg') fun e => ?_
        subst e
        exact hki (hWL.dist i k _ o g' hLb ho fA.live hl (.inl hgb) hg').symm
      refine ⟨ρ, S, obsL.set i obB, hWs, ⟨by simpa using hrel.1, fun k hk => ?_, fun j' k ob2 hk0 hj' => ?_⟩, Nat.le_trans hle0 hch.size, hsz' _, hdf' _, ?_, fun k hk => hplain k (hBl' k hk), ?_, dist', ?_, stored_set fun i2 ob2 h2 => by rw [hst] at h2; cases h2; exact hBl _ hBi⟩
      · have hki : i ≠ k := by rintro rfl; exact hk j _ hst
        rw [List.getElem?_set_ne hki]
        exact hrel.2.1 k hk
      · by_cases hkj : j' = j
        · subst hkj
          rw [hst] at hj'
          cases hj'
          rw [Lf_set hjs, if_pos rfl, if_pos rfl, List.getElem?_set_self (List.getElem?_eq_some_iff.1 hLb).1]
        · have hki : i ≠ k := by rintro rfl; exact hkj (hinj j' j i _ _ hj' hst)
          rw [List.getElem?_set_ne hki, Lf_set hjs, if_neg hkj]
          exact hrel.2.2 j' k ob2 hk0 hj'
      · rw [hln]
        exact hput ρ _ w' S undef (fun t => (hslots t).mono hkp (fun _ h => h) hBl (fun _ _ => rfl)) (by rw [hsvu]; exact .p (.v _))
      · rw [hln]
        intro k ob hk hL hobk
        have hkj : k ≠ j := by rintro rfl; rw [hobn] at hobk; cases hobk
        rw [Lf_set hjs, if_neg hkj] at hL
        obtain ⟨⟨obk, hnow, hlv, hfl, h1⟩, b, h2, h3, h4, h5⟩ := hobj k ob hk hL hobk
        refine ⟨⟨obk, ⟨hnow.1, fun j' ob' hj' => ?_⟩, hlv, hfl, h1.mono (fun g' hl hg' => ?_) hkp (fun _ h => h) hBl (fun _ _ => rfl)⟩, b, h2, h3, Nat.lt_of_lt_of_le h4 hch.size, h5⟩
        · have hne' : j' ≠ j := by rintro rfl; rw [hst] at hj'; cases hj'; omega
          rw [Lf_set hjs, if_neg hne']
          exact hnow.2 j' ob' hj'
        · have hg2 := hg'.flat hfl
          rw [h2] at hg2
          cases hg2
          exact hch.block b h4 fun e => hgw k ob hk hL hobk (by rw [h2, e])
      · intro k o b hk hl hb k2 obj2 hk2 hL2 ho2
        rw [hln] at hk2
        have hL2 := unl hobn k2 obj2 hL2 ho2
        rcases get_set hk with ⟨h1, h2⟩ | ⟨rfl, _, rfl⟩
        · exact hold k o b h2 hl (hWL.same h2 hl (hne k o (Ne.symm h1) h2 hl) hb) k2 obj2 hk2 hL2 ho2
        · exact hold _ _ b hLb fA.live (.inl (hb.flat fB.flat)) k2 obj2 hk2 hL2 ho2
    · -- a variable that the region makes
      obtain ⟨k0, obc, hk1, hk2, hk3⟩ : ∃ k ob, obF rs k = some ob ∧ Lf listed k = true ∧ i = obs.length + rank rs k := by
        rcases hBi with h | h
        · exact absurd h hio
        · exact h
      have hk0n : k0 < n := by
        unfold obF at hk1
        cases hr : rs[k0]? with
        | none => simp [hr] at hk1
        | some p => have := (List.getElem?_eq_some_iff.1 hr).1; omega
      obtain ⟨⟨obk, hnow, hlv, hfl, hok⟩, b, hb2, hb3, hb4, hb5⟩ := hobj k0 obc hk0n hk2 hk1
      -- it holds what it held at first
      have hobk : obk = obA := by
        have e1 : obk = obc := by
          have := hnow.2 j _ (by rw [← hk3]; exact hst)
          rw [hunf] at this
          simpa using this
        rw [e1]
        have h4 : (rs.filterMap (·.2))[rank rs k0]? = some obA := by
          rw [hk3, List.getElem?_append_right (by omega)] at hob0
          rwa [show obs.length + rank rs k0 - obs0.length = rank rs k0 by omega] at hob0
        obtain ⟨k2, h5, h6⟩ := cr_get h4
        have : k2 = k0 := by
          rcases Nat.lt_trichotomy k2 k0 with h | h | h
          · have := rank_lt h5 h; omega
          · exact h
          · have := rank_lt hk1 h; omega
        subst this
        rw [hk1] at h5
        cases h5
        rfl
      have hobk := hobk.symm
      subst hobk
      have hx : ρ i = ρ (obs.length + rank rs k0) := by rw [hk3]
      have hfree : ∀ {ρa ρb : Nat → Value} {na nb : Nat → Prop} {wa : World} {x : Value}, ObOk ρa na wa S obB x → ObOk ρb nb wa S obB x := fun h => fB.free _ _ _ _ _ _ _ h
      -- the object beside the older ones
      have hcsref : ObOk ρ (Lt obsL.length) w S obA (ρ i) := by
        rw [hx]
        exact fA.free _ _ _ _ _ _ _ hok
      have hW2 := hWL.snoc' (ob := obA) (x := ρ i) hcsref (fun b' hb' => by
        have hb' := hb'.flat fA.flat
        rw [hx, hb2] at hb'
        cases hb'
        exact ⟨hb3, hb5, fun q oq hq lq bq => hold q oq b hq lq bq k0 obc hk0n hk2 hk1 hb2⟩) (hplain i hBi)
      have hlast : (obsL ++ [obA])[obsL.length]? = some obA := by simp
      refine .inl (hwp (obsL ++ [obA]) (updρ ρ obsL.length (ρ i)) obsL.length hlast updρ_eq hW2 _ Q fun w' gb hgb hch hkp hWs => ?_)
      rw [hx, hb2] at hgb
      cases hgb
      have hset : (obsL ++ [obA]).set obsL.length obB = obsL ++ [obB] := by
        rw [List.set_append_right _ _ (Nat.le_refl _)]; simp
      rw [hset] at hWs
      have hnew := hWs.objs obsL.length obB (by simp)
      rw [updρ_eq] at hnew
      have hWL' : SatW w0 S0 obsL ρ S w' := by
        have hlt : ∀ q, q < obsL.length → updρ ρ obsL.length (ρ i) q = ρ q := fun q hq => updρ_lt hq
        have hg : ∀ q o, obsL[q]? = some o → (obsL ++ [obB])[q]? = some o := fun q o hq => by
          rw [List.getElem?_append_left (List.getElem?_eq_some_iff.1 hq).1]; exact hq
        refine ⟨fun q o hq => ?_, fun q q' oq oq' b' hq hq' lq lq' bq bq' => ?_, fun q o b' hq hl hb' => ?_, hWs.sub, hWs.lt, hWs.new, hWs.le, hWL.plain, hWL.pins⟩
        · have h1 := hWs.objs q o (hg q o hq)
          rw [hlt q (List.getElem?_eq_some_iff.1 hq).1] at h1
          have h2 := h1.restrict (B' := Lt obsL.length) (hWL.objs q o hq).refs
          exact h2.mono (fun _ _ _ => rfl) (fun _ _ => rfl) (fun _ h => h) (fun _ h => h) (fun z hz => (hlt z hz).symm)
        · exact hWs.dist q q' oq oq' b' (hg q oq hq) (hg q' oq' hq') lq lq' (by rw [hlt q (List.getElem?_eq_some_iff.1 hq).1]; exact bq) (by rw [hlt q' (List.getElem?_eq_some_iff.1 hq').1]; exact bq')
        · exact hWs.own q o b' (hg q o hq) hl (by rw [hlt q (List.getElem?_eq_some_iff.1 hq).1]; exact hb')
      refine ⟨ρ, S, obsL, hWL', ⟨hrel.1, hrel.2.1, fun j' k ob2 hk0 hj' => ?_⟩, Nat.le_trans hle0 hch.size, hsz' _, hdf' _, ?_, fun k hk => hplain k (hBl' k hk), ?_, dist', ?_, stored_set fun i2 ob2 h2 => by rw [hst] at h2; cases h2; exact hBl _ hBi⟩
      · have hne' : j' ≠ j := by rintro rfl; rw [hst] at hj'; cases hj'; omega
        rw [Lf_set hjs, if_neg hne']
        exact hrel.2.2 j' k ob2 hk0 hj'
      · rw [hln]
        exact hput ρ _ w' S undef (fun t => (hslots t).mono hkp (fun _ h => h) hBl (fun _ _ => rfl)) (by rw [hsvu]; exact .p (.v _))
      · rw [hln]
        intro k ob hk hL hobk
        have hkj : k ≠ j := by rintro rfl; rw [hobn] at hobk; cases hobk
        rw [Lf_set hjs, if_neg hkj] at hL
        by_cases hkk : k = k0
        · subst hkk
          refine ⟨⟨obB, ⟨fun hno => absurd (by rw [← hk3]; exact hst) (hno j _), fun j' ob' hj' => ?_⟩, fB.live, fB.flat, ?_⟩, b, hb2, hb3, Nat.lt_of_lt_of_le hb4 hch.size, hb5⟩
          · rw [← hk3] at hj'
            have := hinj j' j i _ _ hj' hst
            subst this
            rw [hst] at hj'
            cases hj'
            rw [Lf_set hjs, if_pos rfl, if_pos rfl]
          · rw [← hk3]
            exact hfree hnew
        · obtain ⟨⟨ob2, hnow2, hlv2, hfl2, h1⟩, b', h2, h3, h4, h5⟩ := hobj k ob hk hL hobk
          have hbb : b' ≠ b := by
            rintro rfl
            exact hkk (hdist k k0 ob obc b' hk hk0n hL hk2 hobk hk1 h2 hb2)
          refine ⟨⟨ob2, ⟨hnow2.1, fun j' ob' hj' => ?_⟩, hlv2, hfl2, h1.mono (fun g' hl hg' => ?_) hkp (fun _ h => h) hBl (fun _ _ => rfl)⟩, b', h2, h3, Nat.lt_of_lt_of_le h4 hch.size, h5⟩
          · have hne' : j' ≠ j := by
              rintro rfl
              rw [hst] at hj'
              cases hj'
              have : rank rs k = rank rs k0 := by omega
              rcases Nat.lt_trichotomy k k0 with h | h | h
              · have := rank_lt hobk h; omega
              · exact hkk h
              · have := rank_lt hk1 h; omega
            rw [Lf_set hjs, if_neg hne']
            exact hnow2.2 j' ob' hj'
          · have hg2 := hg'.flat hfl2
            rw [h2] at hg2
            cases hg2
            exact hch.block b' h4 hbb
      · intro k o b' hk hl hb' k2 obj2 hk2' hL2 ho2
        rw [hln] at hk2'
        have hbw := hWL.same hk hl (fun g' hg' => hch.block g' (hWL.owned hk hl hg') fun e => by
          subst e
          exact hold k o g' hk hl hg' k0 obc hk0n hk2 hk1 hb2) hb'
        exact hold k o b' hk hl hbw k2 obj2 hk2' (unl hobn k2 obj2 hL2 ho2) ho2
  | none =>
  simp only [hst] at hfact
  have hno : ∀ i ob', stF ss j ≠ some (i, ob') := fun i ob' h => by rw [hst] at h; cases h
  have hfact := hfact (Bl obs rs listed) ρ S a w (fun i hi => .inl hi) hplain hsz hdf (fun t ht => by rw [← hlook t ht]; exact hslots t) hW
  rcases hfact with ⟨hw, hsvu, hob⟩ | ⟨hw, hwp⟩
  · rw [if_neg (by simp [hw])]
    exact plain undef w S (Le.refl _) (fun _ h => h) (fun _ h => .inl h) hW hno hob (by rw [hsvu]; exact .p (.v _))
  · rw [if_pos hw]
    refine .inl (hwp _ Q fun v w' S' hle hs hsn hW' hv => ?_)
    cases hob : obF rs j with
    | none => rw [hob] at hv; exact plain v w' S' hle hs hsn hW' hno hob hv
    | some ob =>
      rw [hob] at hv hsv
      obtain ⟨hlive, hflat, hok, hplv, b, hb, hbw, hbS⟩ := hv
      simp only at hsv
      rw [Nat.add_zero] at hsv
      have hrk : ∀ i ob', obF rs i = some ob' → i ≠ j → rank rs i ≠ rank rs j := by
        intro i ob' hi hne e
        rcases Nat.lt_or_gt_of_ne hne with hlt | hlt
        · have := rank_lt hi hlt; omega
        · have := rank_lt hob hlt; omega
      have hself : updρ ρ (obs.length + rank rs j) v (obs.length + rank rs j) = v := by rw [updρ, if_pos rfl]
      have hne : ∀ i, Bl obs rs listed i → i ≠ obs.length + rank rs j := by
        intro i hi e
        rcases hi with h | ⟨k, ob', h1, h2, h3⟩
        · omega
        · by_cases hkj : k = j
          · subst hkj; rw [hunf] at h2; cases h2
          · exact hrk k ob' h1 hkj (by omega)
      have hρ : ∀ i, Bl obs rs listed i → updρ ρ (obs.length + rank rs j) v i = ρ i := fun i hi => by rw [updρ, if_neg (hne i hi)]
      have hbl : b < w'.heap.size := hok.lt hlive (.inl hb)
      have hB' : ∀ i, Bl obs rs (listed.setIfInBounds j true) i → Bl obs rs listed i ∨ i = obs.length + rank rs j := by
        intro i hi
        rcases hi with h | ⟨k, ob', h1, h2, h3⟩
        · exact .inl (.inl h)
        · rw [Lf_set hjs] at h2
          split at h2
          · rename_i e; subst e; exact .inr h3
          · exact .inl (.inr ⟨k, ob', h1, h2, h3⟩)
      have hBj : Bl obs rs (listed.setIfInBounds j true) (obs.length + rank rs j) := .inr ⟨j, ob, hob, by rw [Lf_set hjs, if_pos rfl], rfl⟩
      have hWn : SatW w0 S0 obsL (updρ ρ (obs.length + rank rs j) v) S' w' := by
        have hW' := hWL.grow hle hs hsn hW'.lt
        have hlt : ∀ i, i < obsL.length → updρ ρ (obs.length + rank rs j) v i = ρ i := fun i hi => hρ i (.inl (by omega))
        refine ⟨fun i o hi => ?_, fun i i' oi oi' b hi hi' li li' bi bi' => ?_, fun i o b hi hl hb => ?_, hW'.sub, hW'.lt, hW'.new, hW'.le, fun i hi => by rw [hlt i hi]; exact hW'.plain i hi, fun i v hp => ⟨(hlt i (hW'.pins i v hp).2).trans (hW'.pins i v hp).1, (hW'.pins i v hp).2⟩⟩
        · rw [hlt i (List.getElem?_eq_some_iff.1 hi).1]
          exact (hW'.objs i o hi).mono (fun _ _ _ => rfl) (fun _ _ => rfl) (fun _ h => h) (fun _ h => h) (fun i hi => hlt i hi)
        · rw [hlt i (List.getElem?_eq_some_iff.1 hi).1] at bi
          rw [hlt i' (List.getElem?_eq_some_iff.1 hi').1] at bi'
          exact hW'.dist i i' oi oi' b hi hi' li li' bi bi'
        · rw [hlt i (List.getElem?_eq_some_iff.1 hi).1] at hb
          exact hW'.own i o b hi hl hb
      refine ⟨updρ ρ (obs.length + rank rs j) v, S', obsL, hWn, rel_set hno, Nat.le_trans hle0 (Below.size hle), hsz' v, hdf' v, ?_, ?_, ?_, ?_, fun i o b2 hi hl hb2 k obj hk2 hL2 ho2 => ?_, stored_set fun i ob' h => absurd h (hno i ob')⟩
      rotate_left
      rotate_left
      rotate_left
      rotate_left
      · rw [hln] at hk2
        rw [hρ i (.inl (by have := (List.getElem?_eq_some_iff.1 hi).1; omega))] at hb2
        have hbo := hWL.same hi hl (fun g hg => Below.block hle g (hWL.owned hi hl hg)) hb2
        by_cases hkj : k = j
        · subst hkj
          rw [hself, hb]
          intro e
          cases e
          have := hWL.owned hi hl hbo
          omega
        · rw [Lf_set hjs, if_neg hkj] at hL2
          rw [hρ _ (.inr ⟨k, obj, ho2, hL2, rfl⟩)]
          exact hold i o b2 hi hl hbo k obj hk2 hL2 ho2
      · rw [hln]
        refine hput _ _ w' S' v (fun t => (hslots t).mono (hk w' hle) hs hBl hρ) ?_
        rw [hsv]
        have : Den (updρ ρ (obs.length + rank rs j) v) (Bl obs rs (listed.setIfInBounds j true)) w' S' (.ob (obs.length + rank rs j)) (updρ ρ (obs.length + rank rs j) v (obs.length + rank rs j)) := .ob hBj
        rwa [hself] at this
      · intro i hi
        rcases hB' i hi with h | h
        · rw [hρ i h]; exact hplain i h
        · rw [h, hself]; exact hplv
      · rw [hln]
        intro i ob' hi hL hobi
        by_cases hij : i = j
        · subst hij
          rw [hob] at hobi
          cases hobi
          rw [hself]
          refine ⟨⟨ob, ⟨fun _ => rfl, fun j' ob' hj' => ?_⟩, hlive, hflat, hok.mono (fun _ _ _ => rfl) (fun _ _ => rfl) (fun _ h => h) hBl hρ⟩, b, hb, .inl (Nat.le_trans hWL.le.size hbw), hbl, hbS⟩
          have : Lf (listed.setIfInBounds i true) j' = false := by
            have hne' : j' ≠ i := by rintro rfl; exact hno _ _ hj'
            rw [Lf_set hjs, if_neg hne']
            cases hlf : Lf listed j' with
            | false => rfl
            | true =>
              rcases hstored j' _ ob' hlf hj' with h | ⟨k, o2, h1, h2, h3⟩
              · omega
              · by_cases hki : k = i
                · subst hki; rw [hunf] at h2; cases h2
                · exact absurd (show rank rs k = rank rs i by omega) (hrk k o2 h1 hki)
          rw [this]; simp
        · rw [Lf_set hjs, if_neg hij] at hL
          exact later_obj hno _ w' S' hle hs hsn hρ i ob' hi hL hobi
      · rw [hln]
        intro i i' oi oi' b' hi hi' hL hL' ho ho' hb' hb''
        have old : ∀ k ok, k < n → k ≠ j → Lf (listed.setIfInBounds j true) k = true → obF rs k = some ok → blk (updρ ρ (obs.length + rank rs j) v (obs.length + rank rs k)) = some b' → b' < w.heap.size ∧ blk (ρ (obs.length + rank rs k)) = some b' ∧ Lf listed k = true := by
          intro k ok hk hkj hL ho hb
          rw [Lf_set hjs, if_neg hkj] at hL
          rw [hρ _ (.inr ⟨k, ok, ho, hL, rfl⟩)] at hb
          obtain ⟨_, b2, h2, _, h4, _⟩ := hobj k ok hk hL ho
          rw [hb] at h2
          cases h2
          exact ⟨h4, hb, hL⟩
        by_cases h1 : i = j <;> by_cases h2 : i' = j
        · rw [h1, h2]
        · obtain ⟨e1, _, _⟩ := old i' oi' hi' h2 hL' ho' hb''
          rw [h1, hself, hb] at hb'
          cases hb'
          omega
        · obtain ⟨e1, _, _⟩ := old i oi hi h1 hL ho hb'
          rw [h2, hself, hb] at hb''
          cases hb''
          omega
        · obtain ⟨_, e1, e2⟩ := old i oi hi h1 hL ho hb'
          obtain ⟨_, e3, e4⟩ := old i' oi' hi' h2 hL' ho' hb''
          exact hdist i i' oi oi' b' hi hi' e2 e4 ho ho' e1 e3

end

theorem takeN_eq {α : Type} : ∀ (n : Nat) (l : List α), takeN n l = l.take n
  | 0, _ => by simp [takeN]
  | n + 1, [] => by simp [takeN]
  | n + 1, x :: r => by simp [takeN, takeN_eq n r]

theorem dropN_eq {α : Type} : ∀ (n : Nat) (l : List α), dropN n l = l.drop n
  | 0, _ => by simp [dropN]
  | n + 1, [] => by simp [dropN]
  | n + 1, x :: r => by simp [dropN, dropN_eq n r]

theorem cutL_le (all : List Oper) : ∀ l : List Oper, cutL all l ≤ l.length
  | [] => Nat.le_refl _
  | o :: r => by
    simp only [cutL, List.length_cons]
    have := cutL_le all r
    split
    · omega
    · cases (litApp all o || hdApp all) <;> simp only [cond_true, cond_false] <;> omega
    · cases ownB all o <;> simp only [cond_true, cond_false] <;> omega
    · omega

def cnt (listed : Array Bool) : Nat → Nat
  | 0 => 0
  | i + 1 => cnt listed i + if Lf listed i = true then 0 else 1

theorem cnt_same {listed : Array Bool} {j : Nat} (hj : j < listed.size) : ∀ n, n ≤ j → cnt (listed.setIfInBounds j true) n = cnt listed n
  | 0, _ => rfl
  | n + 1, h => by
    have hne : n ≠ j := by omega
    rw [cnt, cnt, cnt_same hj n (by omega), Lf_set hj, if_neg hne]

theorem cnt_set {listed : Array Bool} {j : Nat} (hj : j < listed.size) (hun : Lf listed j = false) : ∀ n, j < n → cnt (listed.setIfInBounds j true) n + 1 = cnt listed n
  | 0, h => by omega
  | n + 1, h => by
    rw [cnt, cnt, Lf_set hj]
    by_cases hjn : n = j
    · subst hjn; rw [cnt_same hj n (Nat.le_refl _), if_pos rfl, hun]; simp
    · rw [if_neg hjn]
      have := cnt_set hj hun n (by omega)
      omega

theorem cnt_zero {listed : Array Bool} : ∀ n, cnt listed n = 0 → ∀ i, i < n → Lf listed i = true
  | 0, _, i, h => by omega
  | n + 1, h, i, hi => by
    rw [cnt] at h
    by_cases hn : Lf listed n = true
    · by_cases e : i = n
      · subst e; exact hn
      · exact cnt_zero n (by omega) i (by omega)
    · rw [if_neg hn] at h; omega

/-- The first one that is not listed. -/
theorem cnt_pos {listed : Array Bool} : ∀ n, 0 < cnt listed n → ∃ k, k < n ∧ Lf listed k = false ∧ ∀ i, i < k → Lf listed i = true
  | 0, h => by simp [cnt] at h
  | n + 1, h => by
    rw [cnt] at h
    by_cases h0 : 0 < cnt listed n
    · obtain ⟨k, h1, h2, h3⟩ := cnt_pos n h0
      exact ⟨k, by omega, h2, h3⟩
    · have hz := cnt_zero (listed := listed) n (by omega)
      by_cases hn : Lf listed n = true
      · rw [if_pos hn] at h; omega
      · exact ⟨n, by omega, by simpa using hn, hz⟩

section
variable {w0 : World} {S0 : Fr} {P : Program} {F : Nat} {T : Tab} {N : Nat} {all : List Oper} {obs : Obs}

theorem applyS_get : ∀ (l : List (Nat × Ob)) (obs : Obs), (∀ i ob ob', (i, ob) ∈ l → (i, ob') ∈ l → ob = ob') → (applyS l obs).length = obs.length ∧ (∀ i, (∀ ob, (i, ob) ∉ l) → (applyS l obs)[i]? = obs[i]?) ∧ (∀ i ob, (i, ob) ∈ l → i < obs.length → (applyS l obs)[i]? = some ob)
  | [], obs, _ => ⟨rfl, fun _ _ => rfl, fun _ _ h => by cases h⟩
  | (i0, ob0) :: r, obs, hu => by
    obtain ⟨h1, h2, h3⟩ := applyS_get r (obs.set i0 ob0) fun i ob ob' h h' => hu i ob ob' (by simp [h]) (by simp [h'])
    refine ⟨by rw [applyS, h1]; simp, fun i hi => ?_, fun i ob hi hlt => ?_⟩
    · rw [applyS, h2 i (fun ob h => hi ob (by simp [h]))]
      have : i0 ≠ i := by rintro rfl; exact hi ob0 (by simp)
      rw [List.getElem?_set_ne this]
    · rw [applyS]
      by_cases hr : ∃ ob', (i, ob') ∈ r
      · obtain ⟨ob', hr⟩ := hr
        rw [hu i ob ob' hi (by simp [hr])]
        exact h3 i ob' hr (by simpa using hlt)
      · have hno : ∀ ob', (i, ob') ∉ r := fun ob' h => hr ⟨ob', h⟩
        rw [h2 i hno]
        rcases List.mem_cons.1 hi with h | h
        · cases h
          rw [List.getElem?_set_self hlt]
        · exact absurd h (hno ob)

theorem killAll_get : ∀ (tg : List Nat) (obs : Obs), (killAll tg obs).length = obs.length ∧ ∀ i o, (killAll tg obs)[i]? = some o → o.live = true → i ∉ tg ∧ obs[i]? = some o
  | [], obs => ⟨rfl, fun i o h _ => ⟨by simp, h⟩⟩
  | i0 :: r, obs => by
    obtain ⟨h1, h2⟩ := killAll_get r (obs.set i0 .dead)
    refine ⟨by rw [killAll, h1]; simp, fun i o hi hl => ?_⟩
    obtain ⟨h3, h4⟩ := h2 i o hi hl
    rcases get_set h4 with ⟨h5, h6⟩ | ⟨_, _, rfl⟩
    · exact ⟨by simp [h3, Ne.symm h5], h6⟩
    · cases hl

theorem stF_mem {ss : List (Option (Nat × Ob))} {i : Nat} {ob : Ob} : (i, ob) ∈ ss.filterMap id ↔ ∃ j, stF ss j = some (i, ob) := by
  rw [List.mem_filterMap]
  constructor
  · rintro ⟨x, hx, he⟩
    simp only [id] at he
    subst he
    obtain ⟨j, hj⟩ := List.getElem?_of_mem hx
    exact ⟨j, by simp [stF, hj]⟩
  · rintro ⟨j, hj⟩
    unfold stF at hj
    cases hs : ss[j]? with
    | none => simp [hs] at hj
    | some x =>
      simp [hs] at hj
      subst hj
      exact ⟨_, List.mem_of_getElem? hs, rfl⟩

/-- Behind the head. -/
theorem dinv_end {n : Nat} {rs : List (SV × Option Ob)} {g : Nat → SV} {wr : World} (hn : n ≤ all.length) {obs0 : Obs} {ss : List (Option (Nat × Ob))} {tot : Obs} (hH : HeadOk w0 S0 P N all tot obs (all.take n) g 0 rs ss) (hlen0 : obs.length = obs0.length) (hinj : ∀ j j' i ob ob', stF ss j = some (i, ob) → stF ss j' = some (i, ob') → j = j') {slF : Slots} (hF : ∀ t, Same (slF.get t) (endG (all.take n) g rs t))
    {listed : Array Bool} (hall : ∀ i, i < n → Lf listed i = true) {a : Act} {w : World} (hwr : w0.heap.size ≤ wr.heap.size)
    (h : DInv w0 S0 N obs0 obs (all.take n) rs ss g wr listed a w) : ∃ ρ S, SatA N slF (Lt (applyS ((ss.filterMap id).reverse ++ []) (obs0 ++ rs.filterMap (·.2))).length) ρ S w a ∧ SatW w0 S0 (applyS ((ss.filterMap id).reverse ++ []) (obs0 ++ rs.filterMap (·.2))) ρ S w := by
  obtain ⟨ρ, S, obsL, hW, hrel, hle0, hsz, hdf, hslots, hplain, hobj, hdist, hold, hstored⟩ := h
  obtain ⟨hlen, hget⟩ := headOk_get hH
  have hln : (all.take n).length = n := by simp; omega
  rw [hln] at hslots hobj hdist hold hlen
  have hssl : ∀ j q, stF ss j = some q → j < n := by
    have hl : ∀ {l : List Oper} {g : Nat → SV} {c : Nat} {rs : List (SV × Option Ob)} {ss : List (Option (Nat × Ob))}, HeadOk w0 S0 P N all tot obs l g c rs ss → ss.length = l.length := by
      intro l
      induction l with
      | nil => intro g c rs ss h; cases rs <;> cases ss <;> first | rfl | (cases h; done)
      | cons o r ih =>
        intro g c rs ss h
        cases rs with
        | nil => cases h
        | cons p rs =>
          cases ss with
          | nil => cases h
          | cons s ss => simp [ih h.2.2.2]
    intro j q hj
    unfold stF at hj
    cases hs : ss[j]? with
    | none => simp [hs] at hj
    | some x =>
      have := (List.getElem?_eq_some_iff.1 hs).1
      rw [hl hH, hln] at this
      exact this
  obtain ⟨ha1, ha2, ha3⟩ := applyS_get ((ss.filterMap id).reverse ++ []) (obs0 ++ rs.filterMap (·.2)) (by
    intro i ob ob' h h'
    simp only [List.append_nil, List.mem_reverse, stF_mem] at h h'
    obtain ⟨j, hj⟩ := h
    obtain ⟨j', hj'⟩ := h'
    have := hinj j j' i ob ob' hj hj'
    subst this
    rw [hj] at hj'
    cases hj'
    rfl)
  generalize hF0 : applyS ((ss.filterMap id).reverse ++ []) (obs0 ++ rs.filterMap (·.2)) = obsF at ha1 ha2 ha3
  have hlenL : obsL.length = obs.length := by rw [hrel.1, hlen0]
  have hst : ∀ i ob, (i, ob) ∈ (ss.filterMap id).reverse ++ [] ↔ ∃ j, stF ss j = some (i, ob) := by
    intro i ob
    simp only [List.append_nil, List.mem_reverse, stF_mem]
  have hlt : ∀ i ob, obF rs i = some ob → i < n := by
    intro i ob hi
    unfold obF at hi
    cases hr : rs[i]? with
    | none => simp [hr] at hi
    | some p => have := (List.getElem?_eq_some_iff.1 hr).1; omega
  have hnew : ∀ (m : Nat) (ob : Ob), (rs.filterMap (·.2))[m]? = some ob → ∃ i, obF rs i = some ob ∧ rank rs i = m ∧ i < n := by
    intro m ob h
    obtain ⟨i, h1, h2⟩ := cr_get h
    exact ⟨i, h1, h2, hlt i ob h1⟩
  rw [List.length_append] at ha1
  have hB : ∀ i, Bl obs rs listed i → Lt obsF.length i := by
    intro i hi
    simp only [Lt, ha1]
    rcases hi with h | ⟨k, ob, h1, _, h3⟩
    · omega
    · have := rank_bound h1; omega
  have hsplit : ∀ (i : Nat) (ob : Ob), obsF[i]? = some ob → (i < obsL.length ∧ obsL[i]? = some ob) ∨ ∃ k ob0, obF rs k = some ob0 ∧ i = obs.length + rank rs k ∧ k < n ∧ flatOb ob = true ∧ ObOk ρ (Bl obs rs listed) w S ob (ρ (obs.length + rank rs k)) ∧ ∃ b, blk (ρ (obs.length + rank rs k)) = some b ∧ (w0.heap.size ≤ b ∨ S0.m b) ∧ b < w.heap.size ∧ ¬ S b := by
    intro i ob h
    have hilt := (List.getElem?_eq_some_iff.1 h).1
    by_cases hi : i < obsL.length
    · refine .inl ⟨hi, ?_⟩
      by_cases hex : ∃ ob', (i, ob') ∈ (ss.filterMap id).reverse ++ []
      · obtain ⟨ob', hex⟩ := hex
        obtain ⟨j, hj⟩ := (hst i ob').1 hex
        have h1 := hrel.2.2 j i ob' (by omega) hj
        rw [hall j (hssl j _ hj), if_pos rfl] at h1
        rw [ha3 i ob' hex (by rw [List.length_append]; omega)] at h
        rw [h1]; exact h
      · have hno : ∀ ob', (i, ob') ∉ (ss.filterMap id).reverse ++ [] := fun ob' h' => hex ⟨ob', h'⟩
        rw [ha2 i hno, List.getElem?_append_left (by omega)] at h
        rw [hrel.2.1 i fun j ob' hj => hno ob' ((hst i ob').2 ⟨j, hj⟩)]
        exact h
    · refine .inr ?_
      obtain ⟨k, h2, h3, h4⟩ := hnew (i - obs0.length) _ (List.getElem?_eq_getElem (by omega))
      have hik : i = obs.length + rank rs k := by omega
      obtain ⟨⟨obk, hnow, hlv, hfl, hok⟩, hb⟩ := hobj k _ h4 (hall k h4) h2
      have hobk : ob = obk := by
        by_cases hex : ∃ ob', (i, ob') ∈ (ss.filterMap id).reverse ++ []
        · obtain ⟨ob', hex⟩ := hex
          obtain ⟨j, hj⟩ := (hst i ob').1 hex
          have h1 := hnow.2 j ob' (by rw [← hik]; exact hj)
          rw [hall j (hssl j _ hj), if_pos rfl] at h1
          rw [ha3 i ob' hex (by rw [List.length_append]; omega)] at h
          cases h
          exact h1.symm
        · have hno : ∀ ob', (i, ob') ∉ (ss.filterMap id).reverse ++ [] := fun ob' h' => hex ⟨ob', h'⟩
          rw [ha2 i hno, List.getElem?_append_right (by omega), List.getElem?_eq_getElem (by omega)] at h
          cases h
          exact (hnow.1 fun j ob' hj => hno ob' ((hst i ob').2 ⟨j, by rw [hik]; exact hj⟩)).symm
      subst hobk
      exact ⟨k, _, h2, hik, h4, hfl, hok, hb⟩
  refine ⟨ρ, S, ⟨hsz, hdf, fun t => ?_⟩, ?_⟩
  · rw [hF t, endG_eq _ _ _ (by rw [hln]; exact hlen), hln]
    have : gLl (all.take n) rs g (fun _ => true) n t = gLl (all.take n) rs g (Lf listed) n t := gLl_congr n fun i hi _ => (hall i hi).symm
    rw [this]
    exact (hslots t).mono (fun _ _ => rfl) (fun _ h => h) hB (fun _ _ => rfl)
  · refine ⟨fun i ob hi => ?_, fun i i' oi oi' b hi hi' li li' bi bi' => ?_, fun i ob b hi hl hb => ?_, hW.sub, hW.lt, hW.new, hW.le, fun i hi => ?_, fun i v hp => ⟨(hW.pins i v hp).1, by have := (hW.pins i v hp).2; omega⟩⟩
    · rcases hsplit i ob hi with ⟨_, h⟩ | ⟨k, ob0, h1, rfl, h3, hfl, hok, hb⟩
      · exact (hW.objs i ob h).mono (fun _ _ _ => rfl) (fun _ _ => rfl) (fun _ h => h) (fun j hj => by simp only [Lt] at *; omega) (fun _ _ => rfl)
      · exact hok.mono (fun _ _ _ => rfl) (fun _ _ => rfl) (fun _ h => h) hB (fun _ _ => rfl)
    · rcases hsplit i oi hi with ⟨h0, h⟩ | ⟨k, ob0, h1, rfl, h3, hfl, hok, hb⟩ <;> rcases hsplit i' oi' hi' with ⟨h0', h'⟩ | ⟨k', ob0', h1', rfl, h3', hfl', hok', hb'⟩
      · exact hW.dist i i' oi oi' b h h' li li' bi bi'
      · exact absurd (bi'.flat hfl') (hold i oi b h li bi k' ob0' h3' (hall k' h3') h1')
      · exact absurd (bi.flat hfl) (hold i' oi' b h' li' bi' k ob0 h3 (hall k h3) h1)
      · rw [hdist k k' ob0 ob0' b h3 h3' (hall k h3) (hall k' h3') h1 h1' (bi.flat hfl) (bi'.flat hfl')]
    · rcases hsplit i ob hi with ⟨_, h⟩ | ⟨k, ob0, h1, rfl, h3, hfl, hok, b', hb', hle', _, hS⟩
      · exact hW.own i ob b h hl hb
      · have hb := hb.flat hfl
        rw [hb'] at hb
        cases hb
        exact ⟨hle', hS⟩
    · by_cases h1 : i < obsL.length
      · exact hW.plain i h1
      · rw [ha1] at hi
        obtain ⟨k, h2, h3, h4⟩ := hnew (i - obs0.length) _ (List.getElem?_eq_getElem (by omega))
        exact hplain i (.inr ⟨k, _, h2, hall k h4, by omega⟩)

theorem cut2_le (l : List Oper) : cut2 l ≤ l.length := by
  unfold cut2
  split
  · cases (elemAt l l (cutL l l) || readAt l l (cutL l l)) with
    | true => exact cutL_le l l
    | false => simp only [cond_false]; rw [len_eq]; exact Nat.le_refl _
  · exact cutL_le l l

/-- While an operation that does not come late is to be done, the tail waits. -/
theorem tail_waitsF {all : List Oper} {n : Nat} {listed : Array Bool} {mv : Bool} (hs : sinkF mv all n = true) (hc : Region.chainB .any all.toArray n = true) (hn : n < all.length) (inv : HeadInv .any all.toArray n listed) :
    ∀ (d i : Nat), n - i = d → i < n → flAt mv all i = false → listed.getD i true = false → ∀ t, n ≤ t → t ∉ Region.ready .any all.toArray listed := by
  intro d
  induction d using Nat.strongRecOn with
  | _ d ih =>
    intro i hd hi hfl hun t ht hr
    obtain ⟨_, ot, hot, hall⟩ := mem_ready.1 hr
    have htlt : t < all.toArray.size := (Array.getElem?_eq_some_iff.1 hot).1
    by_cases htn : t = n
    · subst htn
      have h1 := List.all_eq_true.1 hs i (List.mem_range.2 hi)
      rw [hfl, Bool.false_or] at h1
      obtain ⟨j, hj, hj2⟩ := List.any_eq_true.1 h1
      simp only [Bool.and_eq_true, Bool.or_eq_true, decide_eq_true_eq, Bool.not_eq_true'] at hj2
      obtain ⟨oj, hoj, e, he, hb, hon⟩ := Region.waitsFor_spec hj2.2
      have hjle : j ≤ t := by have := List.mem_range.1 hj; omega
      by_cases hjt : j = t
      · subst hjt
        have : oj = ot := Option.some.inj (hoj.symm.trans hot)
        subst this
        have h2 := hall e he hb
        rw [hon, getD_both hun] at h2
        cases h2
      · cases hl : listed.getD j false with
        | true =>
          have h2 := inv.closed j oj hoj hl e he hb
          rw [hon, getD_both hun] at h2
          cases h2
        | false =>
          have hjs : j < listed.size := by rw [inv.size]; omega
          exact ih (t - j) (by omega) j rfl (by omega) (hj2.1.2.resolve_left hjt) (getD_in hjs hl) t (Nat.le_refl _) hr
    · have h1 := List.all_eq_true.1 hc t (List.mem_range.2 htlt)
      simp only [Bool.or_eq_true, decide_eq_true_eq] at h1
      rcases h1 with h1 | h1
      · omega
      · obtain ⟨o', ho', e, he, hb, hon⟩ := Region.waitsFor_spec h1
        have : o' = ot := Option.some.inj (ho'.symm.trans hot)
        subst this
        have h2 := hall e he hb
        rw [hon, getD_both (inv.tail (t - 1) (by omega) (by omega))] at h2
        cases h2

/-- What an operation that may come late yields. -/
theorem float_yields {all : List Oper} {m : Nat} {o : Oper} (ho : all[m]? = some o) {mv : Bool} (hf : isFl mv o = true) {Q : Exit → Act → World → Prop} (hQp : ∀ c a w, ¬ Q (.panic c) a w) (hQl : ¬ LetsOut Q) {K : Act → World → Prop} {a : Act} {w : World} (h : wpOp P all.toArray Q m K a w) :
    ∃ v, Yields P all.toArray o v a ∧ K (a.put o.dst v) w := by
  unfold isFl at hf
  split at hf
  · rename_i x i hop
    split at hf
    · rename_i d hg hd
      have hw : Region.wanted o (yielded all.toArray a.tmps) = true := by simp [Region.wanted, hg]
      unfold wpOp at h
      have ho' : all.toArray[m]? = some o := by simpa using ho
      simp only [ho', hw, if_true] at h
      rcases h with h | h
      · unfold Oper.wp at h
        obtain ⟨dst, op, type, pos, after, guard⟩ := o
        simp only at hop
        subst hop
        have key : ∀ w', (∃ v, (execOp a.eval { dst := dst, op := Op.extract x i, type := type, pos := pos, after := after, guard := guard }).run P w' = .ok (.value v) w' ∧ ∀ w'', (execOp a.eval { dst := dst, op := Op.extract x i, type := type, pos := pos, after := after, guard := guard }).run P w'' = .ok (.value v) w'') ∨ (∃ s, (execOp a.eval { dst := dst, op := Op.extract x i, type := type, pos := pos, after := after, guard := guard }).run P w' = .halt (.stuck s) w') := by
          intro w'
          generalize hx : a.eval x = vx
          have bad : (∀ w'', (execOp a.eval { dst := dst, op := Op.extract x i, type := type, pos := pos, after := after, guard := guard }).run P w'' = (do let v ← Instr.extract vx i; pure (Next.value v)).run P w'') := fun w'' => by simp [execOp, hx]
          simp only [bad]
          cases vx with
          | tuple vs =>
            cases hv : vs[i]? with
            | some v => exact .inl ⟨v, by simp [Instr.extract, hv], fun w'' => by simp [Instr.extract, hv]⟩
            | none => exact .inr ⟨_, by simp [Instr.extract, hv, stuck, Result.andThen]; rfl⟩
          | _ => exact .inr ⟨_, by simp [Instr.extract, stuck, Result.andThen]; rfl⟩
        rcases key w with ⟨v, h1, h2⟩ | ⟨s, h1⟩
        · rw [h1] at h
          exact ⟨v, .inl ⟨hw, h2⟩, h⟩
        · rw [h1] at h
          exact h.elim
      · exact absurd h.2 hQl
    · cases hf
  · rename_i x hop
    split at hf
    · rename_i d hg hd
      have hw : Region.wanted o (yielded all.toArray a.tmps) = true := by simp [Region.wanted, hg]
      unfold wpOp at h
      have ho' : all.toArray[m]? = some o := by simpa using ho
      simp only [ho', hw, if_true] at h
      rcases h with h | h
      · unfold Oper.wp at h
        obtain ⟨dst, op, type, pos, after, guard⟩ := o
        simp only at hop
        subst hop
        have h2 : ∀ w'', (execOp a.eval { dst := dst, op := Op.move x, type := type, pos := pos, after := after, guard := guard }).run P w'' = .ok (.value (a.eval x)) w'' := fun w'' => by simp [execOp]
        rw [h2] at h
        exact ⟨_, .inl ⟨hw, h2⟩, h⟩
      · exact absurd h.2 hQl
    · cases hf
  · cases hf

theorem draw_any (hT : TabOk P T) (hFn : ∀ f, 2 < f → f < F → FnOk P f) (hB : drawB all = true) {Q : Exit → Act → World → Prop} (hQp : ∀ c a w, ¬ Q (.panic c) a w) (hQl : ¬ LetsOut Q) {k : K} (hQ : ∀ a w, Kpost w0 S0 N k a w → Q .normal a w)
    {sl : Slots} {obs : Obs} {ρ : Nat → Value} {S : Nat → Prop} {a : Act} {w : World} (h : vcDraw P F T N all k sl obs) (hA : SatA N sl (Lt obs.length) ρ S w a) (hW : SatW w0 S0 obs ρ S w) : wpAny P .any all.toArray Q all.toArray.size (Array.replicate all.toArray.size false) a { w with drawn := w.drawn + 1 } := by
  unfold vcDraw at h
  rw [fL_iff, fL_iff, takeN_eq] at h
  generalize hcut : cut2 all = n at h
  have hn : n ≤ all.length := by rw [← hcut]; exact cut2_le all
  simp only [drawB, hcut, Bool.and_eq_true, Bool.or_eq_true, beq_iff_eq] at hB
  obtain ⟨hBh, hBt0⟩ := hB
  have hBt : (∃ mv, floatOk mv all n = true) ∨ (n = all.length ∨ ((Region.sinkB .any all.toArray n = true ∧ Region.chainB .any all.toArray n = true) ∧ Region.seqB .any all.toArray (all.length - n) n (headL n all.length) = true)) := by
    rcases hBt0 with ((h | h) | h) | h
    · exact .inl ⟨_, h⟩
    · exact .inl ⟨_, h⟩
    · exact .inr (.inl h)
    · exact .inr (.inr h)
  clear hBt0
  obtain ⟨sl, obs, S, h, hA, hW, _, _⟩ := freeze_spec _ h hA hW
  rw [fL_iff, fL_iff] at h
  obtain ⟨rs, ss, slF, hH, hk, hsame, htg0, hinj⟩ := head_spec (N := N) (w0 := w0) (S0 := S0) hT hFn (killAll_get (tgOf all sl (all.take n) obs) obs).1 (all.take n) [] [] sl sl.get h (fun t _ _ _ _ _ => Iff.rfl)
  simp only [List.length_nil, List.nil_append] at hH hk
  obtain ⟨hlen0, hkill⟩ := killAll_get (tgOf all sl (all.take n) obs) obs
  have htg : ∀ i o, (killAll (tgOf all sl (all.take n) obs) obs)[i]? = some o → o.live = true → obs[i]? = some o ∧ ∀ j ob', stF ss j ≠ some (i, ob') := by
    intro i o hi hl
    obtain ⟨h1, h2⟩ := hkill i o hi hl
    refine ⟨h2, fun j ob' hj => h1 ?_⟩
    rcases (htg0 j i ob' hj).1 with h3 | h3
    · rwa [memN_iff] at h3
    · have := (List.getElem?_eq_some_iff.1 h2).1; omega
  generalize hobsD : killAll (tgOf all sl (all.take n) obs) obs = obsD at h hH hlen0 htg
  rw [fL_iff, dropN_eq] at hk
  -- the world behind the draw
  have hW1 : SatW w0 S0 obs ρ S { w with drawn := w.drawn + 1 } := hW.mono (Le.drew w)
  have hA := hA.mono (hW.keeps (Le.drew w)) (fun _ h => h) (fun _ h => h) (fun _ _ => rfl)
  have hA : SatA N sl (Lt obs.length) ρ S { w with drawn := w.drawn + 1 } a := hA
  generalize { w with drawn := w.drawn + 1 } = wr at hW1 hA
  have hle : w0.heap.size ≤ wr.heap.size := hW1.le.size
  have main : ∀ (f : Nat) (listed : Array Bool) (a : Act) (w : World), HeadInv .any all.toArray n listed → cnt listed n = f → DInv w0 S0 N obs obsD (all.take n) rs ss sl.get wr listed a w → wpAny P .any all.toArray Q (f + (all.length - n)) listed a w := by
    intro f
    induction f with
    | zero =>
      intro listed a w inv hc hD
      have hall := cnt_zero n hc
      obtain ⟨ρ', S', hA', hW'⟩ := dinv_end hn hH hlen0 hinj hsame hall hle hD
      rw [Nat.zero_add]
      have hlist := vcOps_sound hT hFn all Q hQ (all.drop n) hk hA' hW'
      have hlisted : listed = headL n all.length := by
        apply Array.ext'
        apply List.ext_getElem?
        intro i
        by_cases hi : i < all.length
        · have hi' : i < listed.size := by rw [inv.size]; simpa using hi
          simp only [headL]
          rw [List.getElem?_map, List.getElem?_range hi]
          simp only [Option.map_some]
          by_cases hin : i < n
          · have := hall i hin
            simp only [Lf, Array.getD_eq_getD_getElem?, Array.getElem?_eq_getElem hi', Option.getD_some] at this
            rw [Array.getElem?_toList, Array.getElem?_eq_getElem hi', this]
            simp [hin]
          · have := getD_both (inv.tail i (by omega) (by simpa using hi))
            simp only [Array.getD_eq_getD_getElem?, Array.getElem?_eq_getElem hi', Option.getD_some] at this
            rw [Array.getElem?_toList, Array.getElem?_eq_getElem hi', this]
            simp [hin]
        · rw [List.getElem?_eq_none (by rw [Array.length_toList, inv.size]; simp; omega), List.getElem?_eq_none (by simp [headL]; omega)]
      have hBt1 : n = all.length ∨ Region.seqB .any all.toArray (all.length - n) n (headL n all.length) = true := by
        rcases hBt with ⟨mv, h⟩ | h | h
        · simp only [floatOk, Bool.and_eq_true] at h
          exact .inr h.2.2.2.2.2
        · exact .inl h
        · exact .inr h.2
      rcases hBt1 with he | hseq
      · have hd : all.drop n = [] := List.drop_eq_nil_of_le (by omega)
        rw [hd] at hlist
        rw [show all.length - n = 0 by omega]
        refine ⟨?_, hlist⟩
        cases hr : Region.ready .any all.toArray listed with
        | nil => rfl
        | cons i _ =>
          have hi : i ∈ Region.ready .any all.toArray listed := by rw [hr]; simp
          obtain ⟨hun, oi, hoi, _⟩ := mem_ready.1 hi
          have hlt : i < all.length := by simpa using (Array.getElem?_eq_some_iff.1 hoi).1
          have h1 := hall i (by omega)
          have h2 := getD_both hun
          unfold Lf at h1
          rw [h1] at h2
          cases h2
      · rw [hlisted]
        have := wpAny_of_seq (md := .any) (Q' := Q) (all.drop n) n (headL n all.length) a w (fun j => by simp) (by simpa using hseq) hlist
        simpa using this
    | succ f ih =>
      intro listed a w inv hc hD
      obtain ⟨m, hm1, hm2, hm3⟩ := cnt_pos (listed := listed) n (by omega)
      obtain ⟨om, hom⟩ : ∃ om, all[m]? = some om := ⟨_, List.getElem?_eq_getElem (by omega)⟩
      have hms : m < listed.size := by rw [inv.size]; simp; omega
      have hmr : m ∈ Region.ready .any all.toArray listed := by
        rw [mem_ready]
        refine ⟨getD_in hms hm2, om, by simpa using hom, fun e he hb => ?_⟩
        have := (headB_spec hBh m om hm1 hom).1 e he hb
        exact hm3 e.on (by omega)
      rw [show f + 1 + (all.length - n) = (f + (all.length - n)) + 1 by omega]
      have hcases : (∀ j ∈ Region.ready .any all.toArray listed, j < n) ∨ (∃ mv, floatOk mv all n = true ∧ ∀ q, q < n → Lf listed q = false → flAt mv all q = true) := by
        rcases hBt with ⟨mv, hfo⟩ | hold
        · by_cases hnf : ∃ q, q < n ∧ Lf listed q = false ∧ flAt mv all q = false
          · obtain ⟨q, q1, q2, q3⟩ := hnf
            simp only [floatOk, Bool.and_eq_true, decide_eq_true_eq] at hfo
            refine .inl fun j hj => ?_
            rcases Nat.lt_or_ge j n with h | h
            · exact h
            · have hqs : q < listed.size := by rw [inv.size]; simp; omega
              exact absurd hj (tail_waitsF hfo.2.2.1 hfo.2.2.2.1 hfo.1 inv _ q rfl q1 q3 (getD_in hqs q2) j h)
          · refine .inr ⟨mv, hfo, fun q q1 q2 => ?_⟩
            cases hq : flAt mv all q with
            | true => rfl
            | false => exact absurd ⟨q, q1, q2, hq⟩ hnf
        · refine .inl fun j hj => ?_
          have hjlt : j < all.length := by
            obtain ⟨_, oj, hoj, _⟩ := mem_ready.1 hj
            simpa using (Array.getElem?_eq_some_iff.1 hoj).1
          rcases hold with he | ⟨⟨hs, hcb⟩, _⟩
          · omega
          · rcases Nat.lt_or_ge j n with h | h
            · exact h
            · exact absurd hj (tail_waits hs hcb (by simp; omega) inv _ m rfl hm1 (getD_in hms hm2) j h)
      rcases hcases with hready | ⟨mv, hfo, hfl⟩
      rotate_left
      · -- only operations that may come late are left
        simp only [floatOk, Bool.and_eq_true, decide_eq_true_eq] at hfo
        have hmf := hfl m hm1 hm2
        have hmf' : isFl mv om = true := by unfold flAt at hmf; simpa only [hom] using hmf
        have hstep := draw_step (Q := Q) hBh hn hH hlen0 htg hinj hle inv hmr hm1 hD
        obtain ⟨v, hy, hD'⟩ := float_yields hom hmf' hQp hQl hstep
        refine wpAny_first (by simpa using hom) (Region.noSelect_spec hfo.2.1) (fun c a w h => absurd h (hQp c _ w)) _ listed a w ?_ hmr hy (ih _ _ w (inv.set hmr hm1) (by have := cnt_set hms hm2 n hm1; omega) hD')
        intro j oj hoj hji hjun hnw
        have hoj' : all[j]? = some oj := by simpa using hoj
        have hjlt : j < all.length := (List.getElem?_eq_some_iff.1 hoj').1
        have h1 := List.all_eq_true.1 hfo.2.2.2.2.1 m (List.mem_range.2 hm1)
        rw [hmf, Bool.not_true, Bool.false_or] at h1
        have h2 := List.all_eq_true.1 h1 j (List.mem_range.2 hjlt)
        simp only [Bool.or_eq_true, Bool.and_eq_true, decide_eq_true_eq, Bool.not_eq_true'] at h2
        rcases h2 with (h2 | h2) | h2
        · exact absurd h2 hji
        · have := hfl j h2.1 (getD_both hjun)
          rw [this] at h2
          cases h2.2
        · simp only [pairF, hom, hoj', Bool.or_eq_true] at h2
          rcases h2 with h2 | h2
          · unfold waitsL at h2
            rw [List.any_eq_true] at h2
            obtain ⟨e, he, h3⟩ := h2
            simp only [Bool.and_eq_true, beq_iff_eq] at h3
            exact absurd h3.2 (hnw e (Array.mem_toList_iff.1 he) h3.1)
          · exact h2
      refine ⟨fun h0 => (by rw [h0] at hmr; cases hmr), fun j hj => ?_⟩
      have hjlt : j < all.length := by
        obtain ⟨_, oj, hoj, _⟩ := mem_ready.1 hj
        simpa using (Array.getElem?_eq_some_iff.1 hoj).1
      have hjn : j < n := hready j hj
      have hjun : Lf listed j = false := getD_both (mem_ready.1 hj).1
      have hjs : j < listed.size := by rw [inv.size]; simpa using hjlt
      have hstep := draw_step (Q := Q) hBh hn hH hlen0 htg hinj hle inv hj hjn hD
      refine wpOp_mono (fun a' w' hD' => ih _ a' w' (inv.set hj hjn) ?_ hD') hstep
      have := cnt_set hjs hjun n hjn
      omega
  have hinit : DInv w0 S0 N obs obsD (all.take n) rs ss sl.get wr (Array.replicate all.length false) a wr := by
    have hnone : ∀ i, Lf (Array.replicate all.length false) i = false := fun i => getD_replicate_false _ _
    refine ⟨ρ, S, obs, hW1, ⟨rfl, fun _ _ => rfl, fun j i ob' _ hj => by rw [hnone]; simp⟩, Nat.le_refl _, hA.size, hA.defs, fun t => ?_, fun i hi => ?_, fun j ob _ hL => (by rw [hnone] at hL; cases hL), fun j j' ob ob' b _ _ hL => (by rw [hnone] at hL; cases hL), fun i ob b hi hl hb j obj _ hL => (by rw [hnone] at hL; cases hL), fun s i ob' hs => (by rw [hnone] at hs; cases hs)⟩
    · rw [gLl_skip (j := 0) _ (Nat.zero_le _) (fun i _ _ hL => by rw [hnone] at hL; cases hL)]
      exact (hA.slots t).mono (fun _ _ => rfl) (fun _ h => h) (fun i hi => .inl (by rw [hlen0]; exact hi)) (fun _ _ => rfl)
    · rcases hi with h | ⟨k, _, _, h2, _⟩
      · exact hW1.plain i (by rw [← hlen0]; exact h)
      · rw [hnone] at h2; cases h2
  have inv0 : HeadInv .any all.toArray n (Array.replicate all.length false) :=
    ⟨by simp, fun j oj _ hl => (by rw [getD_replicate_false] at hl; cases hl), fun t _ ht => getD_in (by simpa using ht) (getD_replicate_false _ _)⟩
  have hcnt : ∀ m, cnt (Array.replicate all.length false) m = m := by
    intro m
    induction m with
    | zero => rfl
    | succ m ih => rw [cnt, ih, show Lf (Array.replicate all.length false) m = false from getD_replicate_false _ _]; simp
  have := main n _ a wr inv0 (hcnt n) hinit
  rw [show n + (all.length - n) = all.length by omega] at this
  simpa using this

end
end Go.Pv
