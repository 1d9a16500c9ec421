/- First facts on the definitions. -/
import Derived.Test.YtilmadidjihfkaaPvDef
namespace Go.Pv
open Go.Vc
open Go.RowKit (Below)

theorem fPV_iff (y : PV) (k : PV → Prop) : fPV y k ↔ k y := by cases y <;> simp only [fPV, fV_iff]
theorem fSV_iff (x : SV) (k : SV → Prop) : fSV x k ↔ k x := by cases x <;> simp only [fSV, fPV_iff]

theorem at_iff (obs : Obs) (i : Nat) (k : Ob → Prop) : obs.at i k ↔ ∃ ob, obs[i]? = some ob ∧ k ob := by
  induction obs generalizing i with
  | nil => simp [Obs.at]
  | cons o r ih => cases i <;> simp [Obs.at, ih]

theorem upd_iff (obs : Obs) (i : Nat) (o : Ob) (k : Obs → Prop) : obs.upd i o k ↔ i < obs.length ∧ k (obs.set i o) := by
  induction obs generalizing i k with
  | nil => simp [Obs.upd]
  | cons x r ih => cases i <;> simp [Obs.upd, ih]

theorem fN_iff (n : Nat) (k : Nat → Prop) : fN n k ↔ k n := by
  induction n generalizing k with
  | zero => exact Iff.rfl
  | succ n ih => exact ih _

theorem snoc_iff (obs : Obs) (o : Ob) (k : Obs → Prop) : obs.snoc o k ↔ k (obs ++ [o]) := by
  induction obs generalizing k with
  | nil => simp [Obs.snoc]
  | cons x r ih => simp [Obs.snoc, ih]

theorem nth_iff (l : List SV) (i : Nat) (k : SV → Prop) : nth l i k ↔ ∃ x, l[i]? = some x ∧ k x := by
  induction l generalizing i with
  | nil => simp [nth]
  | cons o r ih => cases i <;> simp [nth, ih, fSV_iff]

theorem mapP_eq (l : List PV) : mapP l = l.map .p := by induction l <;> simp_all [mapP]
theorem weakL_eq (l : List PV) : weakL l = l.map weak := by induction l <;> simp_all [weakL]
theorem weakAll_eq (l : List PV) : weakAll l = l.map weakA := by induction l <;> simp_all [weakAll]
theorem fw1_iff (x : PV) (k : PV → Prop) : fw1 x k ↔ k (weak x) := by cases x <;> simp only [fw1, fV_iff, weak]
theorem fWL_iff (l : List PV) (k : List PV → Prop) : fWL l k ↔ k (weakL l) := by
  induction l generalizing k with
  | nil => exact Iff.rfl
  | cons x r ih => simp only [fWL, fw1_iff, ih, weakL]
theorem fwA_iff (x : PV) (k : PV → Prop) : fwA x k ↔ k (weakA x) := by cases x <;> simp only [fwA, fV_iff, weakA, fWL_iff]
theorem fWs_iff (l : List PV) (k : List PV → Prop) : fWs l k ↔ k (weakAll l) := by
  induction l generalizing k with
  | nil => exact Iff.rfl
  | cons x r ih => simp only [fWs, fwA_iff, ih, weakAll]
theorem mapZ_eq (l : List Value) : mapZ l = l.map zP := by induction l <;> simp_all [mapZ]
theorem mapZS_eq (l : List Value) : mapZS l = l.map zS := by induction l <;> simp_all [mapZS]
theorem subM_eq (i : Nat) (y : PV) (l : List SV) : subM i y l = l.map (sub1 i y) := by induction l <;> simp_all [subM]
theorem subO_eq (i : Nat) (y : PV) (l : Obs) : subO i y l = l.map (subB i y) := by induction l <;> simp_all [subO]
theorem shL_eq (n : Nat) (l : List SV) : shL n l = l.map (sh1 n) := by induction l <;> simp_all [shL]

/-! ### What stays -/

/-- The blocks of S are as they were. -/
def Keeps (S : Nat → Prop) (w w' : World) : Prop := ∀ b, S b → w'.heap[b]? = w.heap[b]?

theorem Keeps.cell {S : Nat → Prop} {w w' : World} (h : Keeps S w w') {a : Addr} (hb : S a.block) : w'.cell? a = w.cell? a := by
  unfold World.cell?
  rw [h _ hb]

theorem Keeps.of_le {S : Nat → Prop} {w w' : World} (h : Le w w') (hlt : ∀ b, S b → b < w.heap.size) : Keeps S w w' := fun b hb => Below.block h b (hlt b hb)

theorem addr_add_block (a : Addr) (n : Nat) : (a.add n).block = a.block := by
  unfold Addr.add; split <;> rfl

theorem Rep.mono {w w' : World} {S S' : Nat → Prop} (hk : Keeps S w w') (hs : ∀ b, S b → S' b) : ∀ {x : PV} {v : Value}, Rep w S x v → Rep w' S' x v := by
  intro x v h
  induction h with
  | v x => exact .v x
  | agg hl h1 _ ih => exact .agg hl h1 ih
  | nil ex a cap h hn => exact .nil ex a cap h hn
  | sl hS hn hex hl h1 hc _ ih => exact .sl (hs _ hS) hn hex hl h1 (fun j x hj => by rw [hk.cell (by rw [addr_add_block]; exact hS)]; exact hc j x hj) ih
  | fp hS hl h1 hc _ ih => exact .fp (hs _ hS) hl h1 (fun j x hj => by rw [hk.cell (by rw [addr_add_block]; exact hS)]; exact hc j x hj) ih
  | fn ha hb _ _ ih1 ih2 => exact .fn ha hb ih1 ih2

theorem Rep.nil0 {w : World} {S : Nat → Prop} (ex : Bool) : Rep w S (.sl ex 0 []) (.slice none 0 0) := .nil ex none 0 (fun _ => rfl) (fun _ => rfl)

theorem Rep.of_v {w : World} {S : Nat → Prop} {x v : Value} (h : Rep w S (.v x) v) : v = x := by cases h; rfl

theorem RepL.mono {w w' : World} {S S' : Nat → Prop} (hk : Keeps S w w') (hs : ∀ b, S b → S' b) {l : List PV} {xs : List Value} (h : RepL (Rep w S) l xs) : RepL (Rep w' S') l xs :=
  ⟨h.1, fun j p x hp hx => (h.2 j p x hp hx).mono hk hs⟩

theorem Den.mono {ρ ρ' : Nat → Value} {n n' : Nat → Prop} {w w' : World} {S S' : Nat → Prop} (hk : Keeps S w w') (hs : ∀ b, S b → S' b) (hn : ∀ i, n i → n' i) (hρ : ∀ i, n i → ρ' i = ρ i) : ∀ {x : SV} {v : Value}, Den ρ n w S x v → Den ρ' n' w' S' x v := by
  intro x v h
  induction h with
  | p h => exact .p (h.mono hk hs)
  | kb b => exact .kb b
  | any v => exact .any v
  | nil => exact .nil
  | ob hi => rw [← hρ _ hi]; exact .ob (hn _ hi)
  | pt hi hb => exact .pt (hn _ hi) (by rw [hρ _ hi]; exact hb)
  | ag hl h1 _ ih => exact .ag hl h1 ih
  | tup hl _ ih => exact .tup hl ih
  | cl ha hb _ _ ih1 ih2 => exact .cl ha hb ih1 ih2

theorem DenL.mono {ρ ρ' : Nat → Value} {n n' : Nat → Prop} {w w' : World} {S S' : Nat → Prop} (hk : Keeps S w w') (hs : ∀ b, S b → S' b) (hn : ∀ i, n i → n' i) (hρ : ∀ i, n i → ρ' i = ρ i) {l : List SV} {xs : List Value} (h : DenL ρ n w S l xs) : DenL ρ' n' w' S' l xs :=
  ⟨h.1, fun j p x hp hx => (h.2 j p x hp hx).mono hk hs hn hρ⟩

theorem _root_.Go.Vc.RowOk.keep {w w' : World} {e : TypeId} {sz m : Nat} {xs : List Value} {ex : Bool} {x : Value} (hh : ∀ g, blk x = some g → w'.heap[g]? = w.heap[g]?) (h : RowOk w e sz m xs ex x) : RowOk w' e sz m xs ex x := by
  obtain ⟨h2, h3⟩ := h
  refine ⟨h2, ?_⟩
  rcases h3 with h3 | ⟨g, cap, cur, rfl, hg, r⟩
  · exact .inl h3
  · exact .inr ⟨g, cap, cur, rfl, by rw [hh g rfl]; exact hg, r⟩

theorem _root_.Go.Vc.RowOk.uniq {w : World} {e e' : TypeId} {sz m : Nat} {xs ys : List Value} {ex ex' : Bool} {x : Value} (h : RowOk w e sz m xs ex x) (h' : RowOk w e' sz m ys ex' x) : xs = ys := by
  obtain ⟨h1, h2⟩ := h
  obtain ⟨h3, h4⟩ := h'
  rcases h2 with ⟨rfl, rfl⟩ | ⟨g, cap, cur, rfl, hg, _, _, _, ht, _⟩
  · have e1 : xs = [] := List.eq_nil_of_length_eq_zero (by simpa using h1)
    have e2 : ys = [] := List.eq_nil_of_length_eq_zero (by simpa using h3)
    rw [e1, e2]
  · rcases h4 with ⟨h, _⟩ | ⟨g', cap', cur', hx, hg', _, _, _, ht', _⟩
    · cases h
    · cases hx
      rw [hg] at hg'
      cases hg'
      rw [← ht, ← ht']

theorem _root_.Go.Vc.RowOk.lt {w : World} {e : TypeId} {sz m : Nat} {xs : List Value} {ex : Bool} {x : Value} (h : RowOk w e sz m xs ex x) {b : Nat} (hb : blk x = some b) : b < w.heap.size := by
  rcases h.2 with ⟨rfl, _⟩ | ⟨g, cap, cur, rfl, hg, _⟩
  · cases hb
  · simp only [blk, Option.some.injEq] at hb
    subst hb
    exact (Array.getElem?_eq_some_iff.1 hg).1

theorem Owns.blk {w : World} {ob : Ob} {x : Value} {b : Nat} (h : Go.Vc.blk x = some b) : Owns w ob x b := .inl h

/-- Not a row of rows. -/
def flatOb : Ob → Bool
  | .nest _ _ _ _ _ => false
  | _ => true

theorem Owns.flat {w : World} {ob : Ob} {x : Value} {b : Nat} (h : Owns w ob x b) (hf : flatOb ob = true) : Go.Vc.blk x = some b := by
  rcases h with h | ⟨e, sz, m, cs, hh, xs, j, rfl, _⟩
  · exact h
  · cases hf

theorem Owns.back {w w' : World} {ob : Ob} {x : Value} {b : Nat} (hh : ∀ g, Go.Vc.blk x = some g → w'.heap[g]? = w.heap[g]?) (h : Owns w' ob x b) : Owns w ob x b := by
  rcases h with h | ⟨e, sz, m, cs, hl, xs, j, h1, h2, h3⟩
  · exact .inl h
  · exact .inr ⟨e, sz, m, cs, hl, xs, j, h1, h2.keep fun g hg => (hh g hg).symm, h3⟩

theorem NcOk.mono {w w' : World} {S S' : Nat → Prop} {c : NC} {v : Value} (hh : ∀ g, isOw c = true → Go.Vc.blk v = some g → w'.heap[g]? = w.heap[g]?) (hk : Keeps S w w') (hs : ∀ b, S b → S' b) (h : NcOk w S c v) : NcOk w' S' c v := by
  cases c with
  | pu p => exact Rep.mono hk hs h
  | ow e sz m l =>
    obtain ⟨ys, h1, h2, h3⟩ := h
    exact ⟨ys, h1.keep (fun g hg => hh g rfl hg), h2.mono hk hs, h3⟩

theorem ObOk.mono {ρ ρ' : Nat → Value} {n n' : Nat → Prop} {w w' : World} {S S' : Nat → Prop} {ob : Ob} {x : Value} (hh : ∀ g, ob.live = true → Owns w ob x g → w'.heap[g]? = w.heap[g]?) (hk : Keeps S w w') (hs : ∀ b, S b → S' b) (hn : ∀ i, n i → n' i) (hρ : ∀ i, n i → ρ' i = ρ i)
    (h : ObOk ρ n w S ob x) : ObOk ρ' n' w' S' ob x := by
  cases ob with
  | box t cs =>
    obtain ⟨b, xs, rfl, hb, hd, h1⟩ := h
    exact ⟨b, xs, rfl, by rw [hh b rfl (.inl rfl)]; exact hb, hd.mono hk hs hn hρ, h1⟩
  | arr t cs =>
    obtain ⟨b, xs, rfl, hb, hd, h1⟩ := h
    exact ⟨b, xs, rfl, by rw [hh b rfl (.inl rfl)]; exact hb, hd.mono hk hs, h1⟩
  | row e sz m ex cs =>
    obtain ⟨xs, hr, hd, h1⟩ := h
    exact ⟨xs, hr.keep fun g hg => hh g rfl (.inl hg), hd.mono hk hs, h1⟩
  | nest e sz m cs hl =>
    obtain ⟨xs, hr, h1, h2, h3, h4, h5, h6⟩ := h
    refine ⟨xs, hr.keep fun g hg => hh g rfl (.inl hg), h1, h2, fun j c v hc hv ho => ?_, fun p y hp => ?_, h5, h6⟩
    · exact (h3 j c v hc hv ho).mono (fun g hw hg => hh g rfl (.inr ⟨e, sz, m, cs, hl, xs, j, rfl, hr, c, v, hc, hw, ho, hv, hg⟩)) hk hs
    · obtain ⟨v, hv, hd⟩ := h4 p y hp
      exact ⟨v, hv, hd.mono hk hs hn hρ⟩
  | dead => exact trivial

theorem ObOk.lt {ρ : Nat → Value} {n : Nat → Prop} {w : World} {S : Nat → Prop} {ob : Ob} {x : Value} (h : ObOk ρ n w S ob x) (hl : ob.live = true) {b : Nat} (hb : Owns w ob x b) : b < w.heap.size := by
  cases ob with
  | box t cs =>
    obtain ⟨b', xs, rfl, hh, _⟩ := h
    have hb := hb.flat rfl
    simp only [Go.Vc.blk, Option.some.injEq] at hb
    subst hb
    exact (Array.getElem?_eq_some_iff.1 hh).1
  | arr t cs =>
    obtain ⟨b', xs, rfl, hh, _⟩ := h
    have hb := hb.flat rfl
    simp only [Go.Vc.blk, Option.some.injEq] at hb
    subst hb
    exact (Array.getElem?_eq_some_iff.1 hh).1
  | row e sz m ex cs =>
    obtain ⟨xs, hr, _⟩ := h
    exact hr.lt (hb.flat rfl)
  | nest e sz m cs hl =>
    obtain ⟨xs, hr, h1, h2, h3, h4, h5, h6⟩ := h
    rcases hb with hb | ⟨e', sz', m', cs', hl', xs', j, he, hr', c, v, hc, hw, ho, hv, hg⟩
    · exact hr.lt hb
    · cases he
      have := hr.uniq hr'
      subst this
      have := h3 j c v hc hv ho
      cases c with
      | pu p => cases hw
      | ow e sz m l =>
        obtain ⟨ys, h7, _⟩ := this
        exact h7.lt hg
  | dead => cases hl

/-- The cells of an object: at least its contents. -/
theorem ObOk.cells {ρ : Nat → Value} {n : Nat → Prop} {w : World} {S : Nat → Prop} {ob : Ob} {x : Value} (h : ObOk ρ n w S ob x) (hl : ob.live = true) {b : Nat} (hb : blk x = some b) :
    ∃ (cur : Array Value) (e : TypeId) (xs : List Value), w.heap[b]? = some (.cells cur e (0, 0)) ∧ xs.length ≤ cur.size ∧ cur.toList.take xs.length = xs ∧ Ones xs ∧
      (match ob with | .box _ cs => DenL ρ n w S cs xs | .arr _ cs => RepL (Rep w S) cs xs | .row _ _ _ _ cs => RepL (Rep w S) cs xs | .nest e sz m cs h => RowOk w e sz m xs false x ∧ cs.length = xs.length ∧ (∀ j c v, cs[j]? = some c → xs[j]? = some v → Off h j → NcOk w S c v) ∧ (∀ p y, h = some (p, y) → ∃ v, xs[p]? = some v ∧ Den ρ n w S y v) | .dead => True) := by
  cases ob with
  | box t cs =>
    obtain ⟨b', xs, rfl, hh, hd, h1⟩ := h
    simp only [blk, Option.some.injEq] at hb
    subst hb
    exact ⟨_, _, xs, hh, by simp, by simp, h1, hd⟩
  | arr t cs =>
    obtain ⟨b', xs, rfl, hh, hd, h1⟩ := h
    simp only [blk, Option.some.injEq] at hb
    subst hb
    exact ⟨_, _, xs, hh, by simp, by simp, h1, hd⟩
  | row e sz m ex cs =>
    obtain ⟨xs, hr, hd, h1⟩ := h
    obtain ⟨h2, hr⟩ := hr
    rcases hr with ⟨rfl, _⟩ | ⟨g, cap, cur, rfl, hg, hnc, _, hcs, ht, _⟩
    · cases hb
    · simp only [blk, Option.some.injEq] at hb
      subst hb
      refine ⟨cur, _, xs, hg, ?_, by rw [h2]; exact ht, h1, hd⟩
      rw [h2, hcs]
      exact Nat.mul_le_mul_right _ hnc
  | nest e sz m cs hole =>
    obtain ⟨xs, hr, hd1, h1, hd2, hd3, _, _⟩ := h
    have hr0 := hr
    obtain ⟨h2, hr⟩ := hr
    rcases hr with ⟨rfl, _⟩ | ⟨g, cap, cur, rfl, hg, hnc, _, hcs, ht, _⟩
    · cases hb
    · simp only [blk, Option.some.injEq] at hb
      subst hb
      refine ⟨cur, _, xs, hg, ?_, by rw [h2]; exact ht, h1, hr0, hd1, hd2, hd3⟩
      rw [h2, hcs]
      exact Nat.mul_le_mul_right _ hnc
  | dead => cases hl

section
variable {w0 w w' : World} {S0 : Fr} {S : Nat → Prop} {obs : Obs} {ρ : Nat → Value}

theorem SatW.keeps (h : SatW w0 S0 obs ρ S w) (hl : Le w w') : Keeps S w w' := Keeps.of_le hl h.lt

theorem LeM.trans {m : Nat → Prop} {w w' w'' : World} (h : LeM m w w') (h' : Le w' w'') : LeM m w w'' :=
  ⟨h'.os.trans h.os, h'.tape.trans h.tape, h'.output.trans h.output, Nat.le_trans h.size h'.size, fun k hk hm => (Below.block h' k (Nat.lt_of_lt_of_le hk h.size)).trans (h.block k hk hm)⟩

theorem LeM.refl (m : Nat → Prop) (w : World) : LeM m w w := ⟨rfl, rfl, rfl, Nat.le_refl _, fun _ _ _ => rfl⟩

theorem LeM.toLe {m : Nat → Prop} {w w' : World} (h : LeM m w w') (hm : ∀ b, ¬ m b) : Le w w' := ⟨h.os, h.tape, h.output, h.size, fun k hk => h.block k hk (hm k)⟩

theorem SatW.toLe {S1 : Nat → Prop} (h : SatW w0 (Fr.of S1) obs ρ S w) : Le w0 w := h.le.toLe fun _ h => h

theorem SatW.owned (h : SatW w0 S0 obs ρ S w) {i : Nat} {ob : Ob} (hi : obs[i]? = some ob) (hl : ob.live = true) {b : Nat} (hb : Owns w ob (ρ i) b) : b < w.heap.size := (h.objs i ob hi).lt hl hb

/-- What an object owns is the same after a change elsewhere. -/
theorem SatW.same (h : SatW w0 S0 obs ρ S w) {i : Nat} {ob : Ob} (hi : obs[i]? = some ob) (hl : ob.live = true) (hch : ∀ g, Owns w ob (ρ i) g → w'.heap[g]? = w.heap[g]?) {b : Nat} (hb : Owns w' ob (ρ i) b) : Owns w ob (ρ i) b :=
  hb.back fun g hg => hch g (.inl hg)

theorem SatW.mono (h : SatW w0 S0 obs ρ S w) (hl : Le w w') : SatW w0 S0 obs ρ S w' := by
  have hch : ∀ i ob, obs[i]? = some ob → ob.live = true → ∀ g, Owns w ob (ρ i) g → w'.heap[g]? = w.heap[g]? := fun i ob hi hlv g hg => Below.block hl _ (h.owned hi hlv hg)
  exact ⟨fun i ob hi => (h.objs i ob hi).mono (fun g hlv hg => hch i ob hi hlv g hg) (h.keeps hl) (fun _ hb => hb) (fun _ h => h) (fun _ _ => rfl),
   fun i j oi oj b hi hj li lj bi bj => h.dist i j oi oj b hi hj li lj (h.same hi li (hch i oi hi li) bi) (h.same hj lj (hch j oj hj lj) bj),
   fun i ob b hi hlv hb => h.own i ob b hi hlv (h.same hi hlv (hch i ob hi hlv) hb), h.sub, fun b hb => Nat.lt_of_lt_of_le (h.lt b hb) (Below.size hl), h.new, h.le.trans hl, h.plain, h.pins⟩

/-- More blocks that nobody changes. -/
theorem SatW.more (h : SatW w0 S0 obs ρ S w) {S' : Nat → Prop} (hs : ∀ b, S b → S' b) (hlt : ∀ b, S' b → b < w.heap.size) (hnew : ∀ b, S' b → S b ∨ ((w0.heap.size ≤ b ∨ S0.m b) ∧ ∀ i ob, obs[i]? = some ob → ob.live = true → ¬ Owns w ob (ρ i) b)) : SatW w0 S0 obs ρ S' w :=
  ⟨fun i ob hi => (h.objs i ob hi).mono (fun _ _ _ => rfl) (fun _ _ => rfl) hs (fun _ h => h) (fun _ _ => rfl), h.dist,
   fun i ob b hi hl hb => ⟨(h.own i ob b hi hl hb).1, fun hS => by
     rcases hnew b hS with h1 | ⟨_, h1⟩
     · exact (h.own i ob b hi hl hb).2 h1
     · exact h1 i ob hi hl hb⟩,
   fun b hb => hs b (h.sub b hb), hlt, fun b hb => by
     rcases hnew b hb with h1 | ⟨h1, _⟩
     · exact h.new b h1
     · exact .inr h1, h.le, h.plain, h.pins⟩

def updρ (ρ : Nat → Value) (i : Nat) (x : Value) : Nat → Value := fun j => if j = i then x else ρ j

theorem updρ_lt {i n : Nat} {x : Value} (h : i < n) : updρ ρ n x i = ρ i := by rw [updρ, if_neg (by omega)]
theorem updρ_eq {n : Nat} {x : Value} : updρ ρ n x n = x := by rw [updρ, if_pos rfl]

theorem get_snoc {obs : Obs} {ob o : Ob} {i : Nat} (h : (obs ++ [ob])[i]? = some o) : (i < obs.length ∧ obs[i]? = some o) ∨ (i = obs.length ∧ o = ob) := by
  by_cases hi : i < obs.length
  · rw [List.getElem?_append_left hi] at h; exact .inl ⟨hi, h⟩
  · rw [List.getElem?_append_right (by omega)] at h
    have : i - obs.length = 0 := by
      have := (List.getElem?_eq_some_iff.1 h).1
      simp at this; omega
    rw [this] at h
    simp at h
    exact .inr ⟨by omega, h.symm⟩

theorem get_set {obs : Obs} {ob o : Ob} {i j : Nat} (h : (obs.set i ob)[j]? = some o) : (i ≠ j ∧ obs[j]? = some o) ∨ (i = j ∧ j < obs.length ∧ o = ob) := by
  by_cases hij : i = j
  · subst hij
    have hlt : i < obs.length := by simpa using (List.getElem?_eq_some_iff.1 h).1
    rw [List.getElem?_set_self hlt] at h
    exact .inr ⟨rfl, hlt, by simpa using h.symm⟩
  · rw [List.getElem?_set_ne hij] at h
    exact .inl ⟨hij, h⟩

/-- A new object, in blocks that are not any other's. -/
theorem SatW.snoc' (h : SatW w0 S0 obs ρ S w) {ob : Ob} {x : Value} (hx : ObOk ρ (Lt obs.length) w S ob x) (hb : ∀ b, Owns w ob x b → (w0.heap.size ≤ b ∨ S0.m b) ∧ ¬ S b ∧ ∀ i oi, obs[i]? = some oi → oi.live = true → ¬ Owns w oi (ρ i) b) (hpl : Plain x) :
    SatW w0 S0 (obs ++ [ob]) (updρ ρ obs.length x) S w := by
  refine ⟨?_, ?_, ?_, h.sub, h.lt, h.new, h.le, fun i hi => ?_, fun i v hp => ⟨(updρ_lt (h.pins i v hp).2).trans (h.pins i v hp).1, by rw [List.length_append]; exact Nat.lt_add_right _ (h.pins i v hp).2⟩⟩
  · intro i o hi
    rw [List.length_append, List.length_singleton]
    rcases get_snoc hi with ⟨h1, h2⟩ | ⟨rfl, rfl⟩
    · rw [updρ_lt h1]
      exact (h.objs i o h2).mono (fun _ _ _ => rfl) (fun _ _ => rfl) (fun _ h => h) (fun j hj => Nat.lt_succ_of_lt hj) (fun j hj => updρ_lt hj)
    · rw [updρ_eq]
      exact hx.mono (fun _ _ _ => rfl) (fun _ _ => rfl) (fun _ h => h) (fun j hj => Nat.lt_succ_of_lt hj) (fun j hj => updρ_lt hj)
  · intro i j oi oj b hi hj li lj bi bj
    rcases get_snoc hi with ⟨h1, h2⟩ | ⟨rfl, rfl⟩ <;> rcases get_snoc hj with ⟨h3, h4⟩ | ⟨rfl, rfl⟩
    · rw [updρ_lt h1] at bi
      rw [updρ_lt h3] at bj
      exact h.dist i j oi oj b h2 h4 li lj bi bj
    · rw [updρ_eq] at bj
      rw [updρ_lt h1] at bi
      exact absurd bi ((hb b bj).2.2 i oi h2 li)
    · rw [updρ_eq] at bi
      rw [updρ_lt h3] at bj
      exact absurd bj ((hb b bi).2.2 j oj h4 lj)
    · rfl
  · intro i o b hi hlive bb
    rcases get_snoc hi with ⟨h1, h2⟩ | ⟨rfl, rfl⟩
    · rw [updρ_lt h1] at bb
      exact h.own i o b h2 hlive bb
    · rw [updρ_eq] at bb
      exact ⟨(hb b bb).1, (hb b bb).2.1⟩
  · simp at hi
    by_cases h1 : i < obs.length
    · rw [updρ_lt h1]; exact h.plain i h1
    · have : i = obs.length := by omega
      subst this
      rw [updρ_eq]; exact hpl

/-- A new object, in a block that is new. -/
theorem SatW.snoc (h : SatW w0 S0 obs ρ S w) (hl : Le w w') {ob : Ob} {x : Value} (hx : ObOk ρ (Lt obs.length) w' S ob x) (hb : ∀ b, Owns w' ob x b → w.heap.size ≤ b) (hpl : Plain x) :
    SatW w0 S0 (obs ++ [ob]) (updρ ρ obs.length x) S w' := by
  have hm := h.mono hl
  refine hm.snoc' hx (fun b bb => ⟨.inl ?_, fun hS => ?_, fun i oi hi hl' hbi => ?_⟩) hpl
  · have h1 := hb b bb
    have h2 := h.le.size
    omega
  · have h1 := hb b bb
    have := h.lt b hS
    omega
  · have h1 := hb b bb
    have := h.owned hi hl' (h.same hi hl' (fun g hg => Below.block hl _ (h.owned hi hl' hg)) hbi)
    omega

/-- A store into the blocks of object i. -/
theorem SatW.store (h : SatW w0 S0 obs ρ S w) {i g : Nat} {ob ob' : Ob} (hi : obs[i]? = some ob) (hlive : ob.live = true) (hg : Owns w ob (ρ i) g) (hch : Ch g w w') (hob : ObOk ρ (Lt obs.length) w' S ob' (ρ i)) (hsub : ∀ b, ob'.live = true → Owns w' ob' (ρ i) b → Owns w ob (ρ i) b) :
    SatW w0 S0 (obs.set i ob') ρ S w' := by
  have hk : Keeps S w w' := fun b hb => hch.block b (h.lt b hb) fun e => by subst e; exact (h.own i ob b hi hlive hg).2 hb
  have hne : ∀ j o, i ≠ j → obs[j]? = some o → o.live = true → ∀ g', Owns w o (ρ j) g' → w'.heap[g']? = w.heap[g']? := by
    intro j o hij ho hl g' hg'
    refine hch.block g' (h.owned ho hl hg') fun e => ?_
    subst e
    exact hij (h.dist i j ob o g' hi ho hlive hl hg hg')
  have hother : ∀ j o, i ≠ j → obs[j]? = some o → ObOk ρ (Lt obs.length) w' S o (ρ j) := by
    intro j o hij ho
    exact (h.objs j o ho).mono (fun g' hl hg' => hne j o hij ho hl g' hg') hk (fun _ h => h) (fun _ h => h) (fun _ _ => rfl)
  have hown : ∀ j o b, (obs.set i ob')[j]? = some o → o.live = true → Owns w' o (ρ j) b → ∃ o', obs[j]? = some o' ∧ o'.live = true ∧ Owns w o' (ρ j) b := by
    intro j o b ho hl hb
    rcases get_set ho with ⟨h1, h2⟩ | ⟨rfl, _, rfl⟩
    · exact ⟨o, h2, hl, h.same h2 hl (hne j o h1 h2 hl) hb⟩
    · exact ⟨ob, hi, hlive, hsub b hl hb⟩
  refine ⟨?_, ?_, ?_, h.sub, fun b hb => Nat.lt_of_lt_of_le (h.lt b hb) hch.size, h.new, ?_, by simpa using h.plain, by simpa using h.pins⟩
  · intro j o ho
    rw [List.length_set]
    rcases get_set ho with ⟨h1, h2⟩ | ⟨rfl, _, rfl⟩
    · exact hother j o h1 h2
    · exact hob
  · intro j k oj ok b hj hk lj lk bj bk
    obtain ⟨o1, a1, a2, a3⟩ := hown j oj b hj lj bj
    obtain ⟨o2, b1, b2, b3⟩ := hown k ok b hk lk bk
    exact h.dist j k o1 o2 b a1 b1 a2 b2 a3 b3
  · intro j o b ho hl hb
    obtain ⟨o1, a1, a2, a3⟩ := hown j o b ho hl hb
    exact h.own j o1 b a1 a2 a3
  · have hle := h.le
    have hf := (h.own i ob g hi hlive hg).1
    exact ⟨hch.os.trans hle.os, hch.tape.trans hle.tape, hch.output.trans hle.output, Nat.le_trans hle.size hch.size,
      fun k hk hm => (hch.block k (by have := hle.size; omega) (by rintro rfl; rcases hf with h | h; omega; exact hm h)).trans (hle.block k hk hm)⟩

/-- An object is given up. -/
theorem SatW.kill (h : SatW w0 S0 obs ρ S w) (i : Nat) : SatW w0 S0 (obs.set i .dead) ρ S w := by
  refine ⟨?_, ?_, ?_, h.sub, h.lt, h.new, h.le, by simpa using h.plain, by simpa using h.pins⟩
  · intro j o ho
    rw [List.length_set]
    rcases get_set ho with ⟨h1, h2⟩ | ⟨rfl, _, rfl⟩
    · exact h.objs j o h2
    · trivial
  · intro j k oj ok b hj hk lj lk bj bk
    rcases get_set hj with ⟨h1, h2⟩ | ⟨rfl, _, rfl⟩
    · rcases get_set hk with ⟨h3, h4⟩ | ⟨rfl, _, rfl⟩
      · exact h.dist j k oj ok b h2 h4 lj lk bj bk
      · cases lk
    · cases lj
  · intro j o b ho hl hb
    rcases get_set ho with ⟨h1, h2⟩ | ⟨rfl, _, rfl⟩
    · exact h.own j o b h2 hl hb
    · cases hl

end

/-- The slots. -/
structure SatA (N : Nat) (sl : Slots) (n : Nat → Prop) (ρ : Nat → Value) (S : Nat → Prop) (w : World) (a : Act) : Prop where
  size : a.tmps.size = N
  defs : a.defers = []
  slots : ∀ t, Den ρ n w S (sl.get t) (a.tmps.getD t undef)

section
variable {N : Nat} {sl : Slots} {n n' : Nat → Prop} {ρ ρ' : Nat → Value} {S S' : Nat → Prop} {w w' : World} {a : Act}

theorem SatA.mono (h : SatA N sl n ρ S w a) (hk : Keeps S w w') (hs : ∀ b, S b → S' b) (hn : ∀ i, n i → n' i) (hρ : ∀ i, n i → ρ' i = ρ i) : SatA N sl n' ρ' S' w' a :=
  ⟨h.size, h.defs, fun t => (h.slots t).mono hk hs hn hρ⟩

theorem get_cons (d t : Nat) (x : SV) (sl : Slots) : Slots.get ((d, x) :: sl) t = if d = t then x else Slots.get sl t := by
  by_cases h : d = t
  · subst h; simp [Slots.get]
  · have : Nat.beq d t = false := by rw [Bool.eq_false_iff]; intro h'; exact h (Nat.eq_of_beq_eq_true h')
    simp [Slots.get, this, h]

theorem SatA.put (h : SatA N sl n ρ S w a) {d : Option Nat} {sv : SV} {v : Value} (hd : Den ρ n w S sv v)
    {k : Slots → Prop} (hk : put N d sv sl k) : ∃ sl', k sl' ∧ SatA N sl' n ρ S w (a.put d v) := by
  cases d with
  | none => exact ⟨sl, hk, h.size, h.defs, h.slots⟩
  | some d =>
    simp only [Pv.put, cond_false_iff] at hk
    obtain ⟨hlt, hk⟩ := hk
    have hlt : d < N := by simpa [Nat.blt_eq] using hlt
    refine ⟨_, hk, by simp [Act.put, h.size], h.defs, fun t => ?_⟩
    rw [get_cons]
    by_cases hdt : d = t
    · subst hdt
      rw [if_pos rfl]
      have : (a.put (some d) v).tmps.getD d undef = v := by simp [Act.put, h.size, hlt]
      rw [this]; exact hd
    · rw [if_neg hdt]
      have : (a.put (some d) v).tmps.getD t undef = a.tmps.getD t undef := by simp [Act.put, Array.getElem?_setIfInBounds_ne hdt]
      rw [this]
      exact h.slots t

theorem constSV_den (v : Value) : Den ρ n w S (constSV v) v := by
  unfold constSV
  split
  · exact .kb _
  · exact .nil
  · exact .p (.v _)

theorem ev_spec (h : SatA N sl n ρ S w a) {x : Operand} {k : SV → Prop} (hk : ev sl x k) : ∃ sv, k sv ∧ Den ρ n w S sv (a.eval x) := by
  cases x with
  | tmp t => exact ⟨sl.get t, (fSV_iff _ _).1 hk, h.slots t⟩
  | const v => exact ⟨_, (fSV_iff _ _).1 hk, constSV_den v⟩
  | global g => exact hk.elim
  | func f => exact ⟨_, hk, .p (.fn (xa := []) (xb := []) rfl rfl (by simp) (by simp))⟩

theorem denL_cons {x : SV} {v : Value} {l : List SV} {xs : List Value} (h : Den ρ n w S x v) (hr : DenL ρ n w S l xs) : DenL ρ n w S (x :: l) (v :: xs) :=
  ⟨by simp [hr.1], fun j p y hp hy => by
    cases j with
    | zero => simp at hp hy; subst hp hy; exact h
    | succ j => exact hr.2 j p y (by simpa using hp) (by simpa using hy)⟩

theorem denL_nil : DenL ρ n w S [] [] := ⟨rfl, fun j p y hp => by simp at hp⟩

theorem repL_cons {x : PV} {v : Value} {l : List PV} {xs : List Value} (h : Rep w S x v) (hr : RepL (Rep w S) l xs) : RepL (Rep w S) (x :: l) (v :: xs) :=
  ⟨by simp [hr.1], fun j p y hp hy => by
    cases j with
    | zero => simp at hp hy; subst hp hy; exact h
    | succ j => exact hr.2 j p y (by simpa using hp) (by simpa using hy)⟩

theorem repL_nil : RepL (Rep w S) [] [] := ⟨rfl, fun j p y hp => by simp at hp⟩

theorem denL_uncons {x : SV} {l : List SV} {xs : List Value} (h : DenL ρ n w S (x :: l) xs) : ∃ v r, xs = v :: r ∧ Den ρ n w S x v ∧ DenL ρ n w S l r := by
  cases xs with
  | nil => exact absurd h.1 (by simp)
  | cons v r => exact ⟨v, r, rfl, h.2 0 x v rfl rfl, by simpa using h.1, fun j p y hp hy => h.2 (j + 1) p y (by simpa using hp) (by simpa using hy)⟩

theorem repL_uncons {x : PV} {l : List PV} {xs : List Value} (h : RepL (Rep w S) (x :: l) xs) : ∃ v r, xs = v :: r ∧ Rep w S x v ∧ RepL (Rep w S) l r := by
  cases xs with
  | nil => exact absurd h.1 (by simp)
  | cons v r => exact ⟨v, r, rfl, h.2 0 x v rfl rfl, by simpa using h.1, fun j p y hp hy => h.2 (j + 1) p y (by simpa using hp) (by simpa using hy)⟩

theorem repL_app {l l' : List PV} {xs xs' : List Value} (h : RepL (Rep w S) l xs) (h' : RepL (Rep w S) l' xs') : RepL (Rep w S) (l ++ l') (xs ++ xs') := by
  refine ⟨by simp [h.1, h'.1], fun j p x hp hx => ?_⟩
  by_cases hj : j < l.length
  · rw [List.getElem?_append_left hj] at hp
    rw [List.getElem?_append_left (by rw [← h.1]; exact hj)] at hx
    exact h.2 j p x hp hx
  · rw [List.getElem?_append_right (by omega)] at hp
    rw [List.getElem?_append_right (by rw [← h.1]; omega), ← h.1] at hx
    exact h'.2 _ p x hp hx

theorem repL_take {l : List PV} {xs : List Value} (h : RepL (Rep w S) l xs) (m : Nat) : RepL (Rep w S) (l.take m) (xs.take m) :=
  ⟨by simp [h.1], fun j p x hp hx => by
    rw [List.getElem?_take] at hp hx
    split at hp
    · rename_i hj; rw [if_pos hj] at hx; exact h.2 j p x hp hx
    · cases hp⟩

theorem repL_drop {l : List PV} {xs : List Value} (h : RepL (Rep w S) l xs) (m : Nat) : RepL (Rep w S) (l.drop m) (xs.drop m) :=
  ⟨by simp [h.1], fun j p x hp hx => by
    rw [List.getElem?_drop] at hp hx
    exact h.2 _ p x hp hx⟩

theorem denL_take {l : List SV} {xs : List Value} (h : DenL ρ n w S l xs) (m : Nat) : DenL ρ n w S (l.take m) (xs.take m) :=
  ⟨by simp [h.1], fun j p x hp hx => by
    rw [List.getElem?_take] at hp hx
    split at hp
    · rename_i hj; rw [if_pos hj] at hx; exact h.2 j p x hp hx
    · cases hp⟩

theorem denL_drop {l : List SV} {xs : List Value} (h : DenL ρ n w S l xs) (m : Nat) : DenL ρ n w S (l.drop m) (xs.drop m) :=
  ⟨by simp [h.1], fun j p x hp hx => by
    rw [List.getElem?_drop] at hp hx
    exact h.2 _ p x hp hx⟩

theorem denL_app {l l' : List SV} {xs xs' : List Value} (h : DenL ρ n w S l xs) (h' : DenL ρ n w S l' xs') : DenL ρ n w S (l ++ l') (xs ++ xs') := by
  refine ⟨by simp [h.1, h'.1], fun j p x hp hx => ?_⟩
  by_cases hj : j < l.length
  · rw [List.getElem?_append_left hj] at hp
    rw [List.getElem?_append_left (by rw [← h.1]; exact hj)] at hx
    exact h.2 j p x hp hx
  · rw [List.getElem?_append_right (by omega)] at hp
    rw [List.getElem?_append_right (by rw [← h.1]; omega), ← h.1] at hx
    exact h'.2 _ p x hp hx

theorem evs_spec (h : SatA N sl n ρ S w a) : ∀ (xs : List Operand) {k : List SV → Prop}, evs sl xs k → ∃ l, k l ∧ DenL ρ n w S l (xs.map a.eval)
  | [], _, hk => ⟨[], hk, denL_nil⟩
  | x :: r, k, hk => by
    obtain ⟨sv, hk, hd⟩ := ev_spec h hk
    obtain ⟨l, hk, hr⟩ := evs_spec h r hk
    exact ⟨_, hk, denL_cons hd hr⟩

/-- Parts: their numbers, and what they mean. -/
def DenPs (ρ : Nat → Value) (n : Nat → Prop) (w : World) (S : Nat → Prop) : List (Nat × SV) → List (Nat × Value) → Prop
  | [], [] => True
  | (i, x) :: r, (j, v) :: s => i = j ∧ Den ρ n w S x v ∧ DenPs ρ n w S r s
  | _, _ => False

theorem evParts_spec (h : SatA N sl n ρ S w a) : ∀ (ps : List (Nat × Operand)) {k : List (Nat × SV) → Prop}, evParts sl ps k → ∃ l, k l ∧ DenPs ρ n w S l (ps.map fun p => (p.1, a.eval p.2))
  | [], _, hk => ⟨[], hk, trivial⟩
  | (i, x) :: r, k, hk => by
    obtain ⟨sv, hk, hd⟩ := ev_spec h hk
    obtain ⟨l, hk, hr⟩ := evParts_spec h r hk
    exact ⟨_, hk, rfl, hd, hr⟩

theorem pures_spec : ∀ {l : List SV} {lp : List PV} {xs : List Value}, pures l = some lp → DenL ρ n w S l xs → RepL (Rep w S) lp xs
  | [], lp, xs, h, hd => by
    simp only [pures, Option.some.injEq] at h
    subst h
    exact ⟨hd.1, fun j p y hp => by simp at hp⟩
  | x :: r, lp, xs, h, hd => by
    obtain ⟨v, rs, rfl, h1, h2⟩ := denL_uncons hd
    cases x <;> simp only [pures, Option.map_eq_some_iff] at h <;> first | (cases h; done) | (obtain ⟨lp', h3, rfl⟩ := h)
    · cases h1 with
      | p hr => exact repL_cons hr (pures_spec h3 h2)
    · cases h1; exact repL_cons (.v _) (pures_spec h3 h2)
    · cases h1; exact repL_cons (Rep.nil0 _) (pures_spec h3 h2)

theorem toP_spec {sv : SV} {v : Value} (hd : Den ρ n w S sv v) {k : PV → Prop} (h : toP sv k) : ∃ y, k y ∧ Rep w S y v := by
  cases hd with
  | p hr => exact ⟨_, h, hr⟩
  | kb b => exact ⟨_, h, .v _⟩
  | nil => exact ⟨_, h, Rep.nil0 _⟩
  | ag hl h1 hh =>
    rename_i l xs
    simp only [toP] at h
    cases hp : pures l with
    | none => simp only [hp] at h
    | some lp =>
      simp only [hp] at h
      have := pures_spec hp (⟨hl, hh⟩ : DenL ρ n w S l xs)
      exact ⟨_, h, .agg this.1 h1 this.2⟩
  | _ => exact h.elim

theorem evP_spec (h : SatA N sl n ρ S w a) {x : Operand} {k : PV → Prop} (hk : evP sl x k) : ∃ y, k y ∧ Rep w S y (a.eval x) := by
  obtain ⟨sv, hk, hd⟩ := ev_spec h hk
  exact toP_spec hd hk

theorem aggOf_den {l : List SV} {xs : List Value} (h : DenL ρ n w S l xs) (h1 : Ones xs) : Den ρ n w S (aggOf l) (.agg xs.toArray) := by
  unfold aggOf
  split
  · exact .ag h.1 h1 h.2
  · split
    · rename_i lp hp
      have := pures_spec hp h
      exact .p (.agg this.1 h1 this.2)
    · exact .ag h.1 h1 h.2

theorem clOf_den {f : Fn} {l m : List SV} {xs ys : List Value} (h : DenL ρ n w S l xs) (h' : DenL ρ n w S m ys) : Den ρ n w S (clOf f l m) (.func f xs.toArray ys.toArray) := by
  unfold clOf
  split
  · rename_i lp hp
    split
    · rename_i mp hp'
      have h1 := pures_spec hp h
      have h2 := pures_spec hp' h'
      exact .p (.fn h1.1 h2.1 h1.2 h2.2)
    · exact .cl h.1 h'.1 h.2 h'.2
  · exact .cl h.1 h'.1 h.2 h'.2

theorem weak_rep {x : PV} {v : Value} (h : Rep w S x v) : Rep w S (weak x) v := by
  cases h with
  | nil ex a cap h hn => exact .nil _ a cap (by simp) hn
  | sl hS hn hex hl h1 hc h => exact .sl hS hn (by simp) hl h1 hc h
  | v => exact .v v
  | agg hl h1 h => exact .agg hl h1 h
  | fp hS hl h1 hc h => exact .fp hS hl h1 hc h
  | fn ha hb h1 h2 => exact .fn ha hb h1 h2

theorem weakL_rep {l : List PV} {xs : List Value} (h : RepL (Rep w S) l xs) : RepL (Rep w S) (weakL l) xs := by
  rw [weakL_eq]
  refine ⟨by simp [h.1], fun j p x hp hx => ?_⟩
  rw [List.getElem?_map, Option.map_eq_some_iff] at hp
  obtain ⟨q, hq, rfl⟩ := hp
  exact weak_rep (h.2 j q x hq hx)

theorem weakA_rep {x : PV} {v : Value} (h : Rep w S x v) : Rep w S (weakA x) v := by
  cases h with
  | nil ex a cap h hn => exact .nil _ a cap (by simp) hn
  | sl hS hn hex hl h1 hc h => exact .sl hS hn (by simp) hl h1 hc h
  | v => exact .v v
  | agg hl h1 h => have := weakL_rep ⟨hl, h⟩; exact .agg this.1 h1 this.2
  | fp hS hl h1 hc h => exact .fp hS hl h1 hc h
  | fn ha hb h1 h2 => exact .fn ha hb h1 h2

theorem weakAll_rep {l : List PV} {xs : List Value} (h : RepL (Rep w S) l xs) : RepL (Rep w S) (weakAll l) xs := by
  rw [weakAll_eq]
  refine ⟨by simp [h.1], fun j p x hp hx => ?_⟩
  rw [List.getElem?_map, Option.map_eq_some_iff] at hp
  obtain ⟨q, hq, rfl⟩ := hp
  exact weakA_rep (h.2 j q x hq hx)

theorem oneV_spec {x : Value} (h : oneV x = true) : x.oneCell' = true ∧ x.cells = #[x] := by
  cases x <;> first | (cases h; done) | exact ⟨rfl, rfl⟩

theorem mapP_den {l : List PV} {xs : List Value} (h : RepL (Rep w S) l xs) : DenL ρ n w S (mapP l) xs := by
  rw [mapP_eq]
  refine ⟨by simp [h.1], fun j p x hp hx => ?_⟩
  rw [List.getElem?_map, Option.map_eq_some_iff] at hp
  obtain ⟨q, hq, rfl⟩ := hp
  exact .p (h.2 j q x hq hx)

/-- A single cell. -/
theorem not_tup {v : Value} (h : v.oneCell' = true) : ∀ vs, v ≠ .tuple vs := by
  rintro vs rfl
  cases h

theorem one_den {x : SV} {v : Value} (h : Den ρ n w S x v) (h1 : v.oneCell' = true) (h2 : v.cells = #[v]) : DenL ρ n w S [x] v.cells.toList ∧ Ones v.cells.toList ∧ ∀ vs, v ≠ .tuple vs := by
  rw [h2]
  exact ⟨denL_cons h denL_nil, fun y hy => by simp at hy; subst hy; exact h1, not_tup h1⟩

theorem cellsS_spec {x : SV} {v : Value} (hρ : ∀ i, n i → Plain (ρ i)) (hd : Den ρ n w S x v) {k : List SV → Prop} (h : cellsS x k) : ∃ l, k l ∧ DenL ρ n w S l v.cells.toList ∧ Ones v.cells.toList ∧ ∀ vs, v ≠ .tuple vs := by
  cases hd with
  | p hr =>
    cases hr with
    | v x =>
      simp only [cellsS, cond_false_iff] at h
      obtain ⟨h1, h2⟩ := oneV_spec h.1
      exact ⟨_, h.2, one_den (.p (.v _)) h1 h2⟩
    | agg hl h1 hh =>
      simp only [cellsS, fL_iff] at h
      exact ⟨_, h, mapP_den ⟨hl, hh⟩, h1, by simp⟩
    | nil ex a cap hh hn => exact ⟨_, h, one_den (.p (.nil _ a cap hh hn)) rfl rfl⟩
    | sl hS hn hex hl h1 hc hh => exact ⟨_, h, one_den (.p (.sl hS hn hex hl h1 hc hh)) rfl rfl⟩
    | fp hS hl h1 hc hh => exact ⟨_, h, one_den (.p (.fp hS hl h1 hc hh)) rfl rfl⟩
    | fn ha hb h1 h2 => exact ⟨_, h, one_den (.p (.fn ha hb h1 h2)) rfl rfl⟩
  | kb b => exact ⟨_, h, one_den (.kb b) rfl rfl⟩
  | any v => exact h.elim
  | nil => exact ⟨_, h, one_den .nil rfl rfl⟩
  | ob hi => exact ⟨_, h, one_den (.ob hi) (hρ _ hi).1 (hρ _ hi).2⟩
  | pt hi hb => exact ⟨_, h, one_den (.pt hi hb) rfl rfl⟩
  | ag hl h1 hh => exact ⟨_, h, ⟨hl, hh⟩, h1, by simp⟩
  | tup hl hh => exact h.elim
  | cl ha hb h1 h2 => exact ⟨_, h, one_den (.cl ha hb h1 h2) rfl rfl⟩

theorem one_rep {x : PV} {v : Value} (h : Rep w S x v) (h1 : v.oneCell' = true) (h2 : v.cells = #[v]) : RepL (Rep w S) [x] v.cells.toList ∧ Ones v.cells.toList ∧ ∀ vs, v ≠ .tuple vs := by
  rw [h2]
  exact ⟨repL_cons h repL_nil, fun y hy => by simp at hy; subst hy; exact h1, not_tup h1⟩

theorem cellsP_spec {x : PV} {v : Value} (hr : Rep w S x v) {k : List PV → Prop} (h : cellsP x k) : ∃ l, k l ∧ RepL (Rep w S) l v.cells.toList ∧ Ones v.cells.toList ∧ ∀ vs, v ≠ .tuple vs := by
  cases hr with
  | v x =>
    simp only [cellsP, cond_false_iff] at h
    obtain ⟨h1, h2⟩ := oneV_spec h.1
    exact ⟨_, h.2, one_rep (.v _) h1 h2⟩
  | agg hl h1 hh =>
    simp only [cellsP, fWL_iff] at h
    exact ⟨_, h, weakL_rep ⟨hl, hh⟩, h1, by simp⟩
  | nil ex a cap hh hn => exact ⟨_, h, one_rep (.nil _ a cap (by simp) hn) rfl rfl⟩
  | sl hS hn hex hl h1 hc hh => exact ⟨_, h, one_rep (weak_rep (.sl hS hn hex hl h1 hc hh)) rfl rfl⟩
  | fp hS hl h1 hc hh => exact ⟨_, h, one_rep (.fp hS hl h1 hc hh) rfl rfl⟩
  | fn ha hb h1 h2 => exact ⟨_, h, one_rep (.fn ha hb h1 h2) rfl rfl⟩

theorem ofCellsP_spec {agg : Bool} {l : List PV} {xs : List Value} {k : SV → Prop} (h : ofCellsP agg l k) (hr : RepL (Rep w S) l xs) (h1 : Ones xs) :
    ∃ sv v, k sv ∧ Den ρ n w S sv v ∧ ((agg = true ∧ v = .agg xs.toArray) ∨ (agg = false ∧ xs = [v])) := by
  cases agg with
  | true =>
    simp only [ofCellsP, fL_iff] at h
    exact ⟨_, _, h, .p (.agg hr.1 h1 hr.2), .inl ⟨rfl, rfl⟩⟩
  | false =>
    simp only [ofCellsP] at h
    split at h
    · rename_i x
      rw [fPV_iff] at h
      obtain ⟨v, r, rfl, h2, h3⟩ := repL_uncons hr
      have : r = [] := List.eq_nil_of_length_eq_zero (by simpa using h3.1.symm)
      subst this
      exact ⟨_, v, h, .p h2, .inr ⟨rfl, rfl⟩⟩
    · exact h.elim

theorem ofCellsS_spec {agg : Bool} {l : List SV} {xs : List Value} {k : SV → Prop} (h : ofCellsS agg l k) (hr : DenL ρ n w S l xs) (h1 : Ones xs) :
    ∃ sv v, k sv ∧ Den ρ n w S sv v ∧ ((agg = true ∧ v = .agg xs.toArray) ∨ (agg = false ∧ xs = [v])) := by
  cases agg with
  | true =>
    simp only [ofCellsS, fL_iff, fSV_iff] at h
    exact ⟨_, _, h, aggOf_den hr h1, .inl ⟨rfl, rfl⟩⟩
  | false =>
    simp only [ofCellsS] at h
    split at h
    · rename_i x
      rw [fSV_iff] at h
      obtain ⟨v, r, rfl, h2, h3⟩ := denL_uncons hr
      have : r = [] := List.eq_nil_of_length_eq_zero (by simpa using h3.1.symm)
      subst this
      exact ⟨_, v, h, h2, .inr ⟨rfl, rfl⟩⟩
    · exact h.elim

end

/-- Slices and pointers. -/
theorem ObOk.plain {ρ : Nat → Value} {n : Nat → Prop} {w : World} {S : Nat → Prop} {ob : Ob} {x : Value} (h : ObOk ρ n w S ob x) (hl : ob.live = true) : Plain x := by
  cases ob with
  | box t cs => obtain ⟨b, xs, rfl, _⟩ := h; exact ⟨rfl, rfl⟩
  | arr t cs => obtain ⟨b, xs, rfl, _⟩ := h; exact ⟨rfl, rfl⟩
  | row e sz m ex cs =>
    obtain ⟨xs, hr, _⟩ := h
    rcases hr.2 with ⟨rfl, _⟩ | ⟨g, cap, cur, rfl, _⟩ <;> exact ⟨rfl, rfl⟩
  | nest e sz m cs hole =>
    obtain ⟨xs, hr, _⟩ := h
    rcases hr.2 with ⟨rfl, _⟩ | ⟨g, cap, cur, rfl, _⟩ <;> exact ⟨rfl, rfl⟩
  | dead => cases hl

end Go.Pv
