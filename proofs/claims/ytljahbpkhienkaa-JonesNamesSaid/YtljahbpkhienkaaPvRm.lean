/- Ranges over functions: the state abides what the machine keeps of the loop beside it. -/
import Derived.RangeFuncNested
import Derived.RangeFuncLeaves
import Derived.Test.YtljahbpkhienkaaPvIm
import Derived.Maps.Keyed
import Derived.Test.YtljahbpkhienkaaPvKm
namespace Go.Pv
open Go.Vc
open Go.RowKit (Below)

/-- What cells held they hold. -/
def KeepsC (S : Nat → Prop) (w w' : World) : Prop := ∀ (a : Addr) (v : Value), S a.block → w.cell? a = some v → w'.cell? a = some v

theorem Rep.turn {w w' : World} {S : Nat → Prop} (hk : KeepsC S w w') : ∀ {x : PV} {v : Value}, Rep w S x v → Rep w' S x v := by
  intro x v h
  induction h with
  | v x => exact .v x
  | agg hl h1 _ ih => exact .agg hl h1 ih
  | nil ex a cap h hn => exact .nil ex a cap h hn
  | sl hS hn hex hl h1 hc _ ih => exact .sl hS hn hex hl h1 (fun j x hj => hk _ _ (by rw [addr_add_block]; exact hS) (hc j x hj)) ih
  | fp hS hl h1 hc _ ih => exact .fp hS hl h1 (fun j x hj => hk _ _ (by rw [addr_add_block]; exact hS) (hc j x hj)) ih
  | fn ha hb _ _ ih1 ih2 => exact .fn ha hb ih1 ih2

theorem RepL.turn {w w' : World} {S : Nat → Prop} (hk : KeepsC S w w') {l : List PV} {xs : List Value} (h : RepL (Rep w S) l xs) : RepL (Rep w' S) l xs := ⟨h.1, fun j p x hp hx => (h.2 j p x hp hx).turn hk⟩

theorem Den.turn {ρ : Nat → Value} {n : Nat → Prop} {w w' : World} {S : Nat → Prop} (hk : KeepsC S w w') : ∀ {x : SV} {v : Value}, Den ρ n w S x v → Den ρ n w' S x v := by
  intro x v h
  induction h with
  | p h => exact .p (h.turn hk)
  | kb b => exact .kb b
  | any v => exact .any v
  | nil => exact .nil
  | ob hi => exact .ob hi
  | pt hi hb => exact .pt hi hb
  | ag hl h1 _ ih => exact .ag hl h1 ih
  | tup hl _ ih => exact .tup hl ih
  | cl ha hb _ _ ih1 ih2 => exact .cl ha hb ih1 ih2

theorem DenL.turn {ρ : Nat → Value} {n : Nat → Prop} {w w' : World} {S : Nat → Prop} (hk : KeepsC S w w') {l : List SV} {xs : List Value} (h : DenL ρ n w S l xs) : DenL ρ n w' S l xs := ⟨h.1, fun j p x hp hx => (h.2 j p x hp hx).turn hk⟩

theorem NcOk.turn {w w' : World} {S : Nat → Prop} {c : NC} {v : Value} (hh : ∀ g, isOw c = true → Go.Vc.blk v = some g → w'.heap[g]? = w.heap[g]?) (hk : KeepsC S w w') (h : NcOk w S c v) : NcOk w' S c v := by
  cases c with
  | pu p => exact Rep.turn hk h
  | ow e sz m l =>
    obtain ⟨ys, h1, h2, h3⟩ := h
    exact ⟨ys, h1.keep (fun g hg => hh g rfl hg), h2.turn hk, h3⟩

theorem ObOk.turn {ρ : Nat → Value} {n : Nat → Prop} {w w' : World} {S : Nat → Prop} {ob : Ob} {x : Value} (hh : ∀ g, ob.live = true → Owns w ob x g → w'.heap[g]? = w.heap[g]?) (hk : KeepsC S w w') (h : ObOk ρ n w S ob x) : ObOk ρ n w' S ob x := by
  cases ob with
  | box t cs =>
    obtain ⟨b, xs, rfl, hb, hd, h1⟩ := h
    exact ⟨b, xs, rfl, by rw [hh b rfl (.inl rfl)]; exact hb, hd.turn hk, h1⟩
  | arr t cs =>
    obtain ⟨b, xs, rfl, hb, hd, h1⟩ := h
    exact ⟨b, xs, rfl, by rw [hh b rfl (.inl rfl)]; exact hb, hd.turn hk, h1⟩
  | row e sz m ex cs =>
    obtain ⟨xs, hr, hd, h1⟩ := h
    exact ⟨xs, hr.keep fun g hg => hh g rfl (.inl hg), hd.turn hk, h1⟩
  | nest e sz m cs hl =>
    obtain ⟨xs, hr, h1, h2, h3, h4, h5, h6⟩ := h
    refine ⟨xs, hr.keep fun g hg => hh g rfl (.inl hg), h1, h2, fun j c v hc hv ho => ?_, fun p y hp => ?_, h5, h6⟩
    · exact (h3 j c v hc hv ho).turn (fun g hw hg => hh g rfl (.inr ⟨e, sz, m, cs, hl, xs, j, rfl, hr, c, v, hc, hw, ho, hv, hg⟩)) hk
    · obtain ⟨v, hv, hd⟩ := h4 p y hp
      exact ⟨v, hv, hd.turn hk⟩
  | dead => exact trivial

/-- What an object owns are cells. -/
theorem owns_cells {ρ : Nat → Value} {n : Nat → Prop} {w : World} {S : Nat → Prop} {ob : Ob} {x : Value} (h : ObOk ρ n w S ob x) (hl : ob.live = true) {b : Nat} (hb : Owns w ob x b) : ∃ o : Obj, w.heap[b]? = some o ∧ o.isCells = true := by
  rcases hb with hb | ⟨e, sz, m, cs, hole, xs, j, rfl, hr, c, u, hc, how, ho, hu, hb⟩
  · obtain ⟨cur, e, _, h1, _⟩ := h.cells hl hb
    exact ⟨_, h1, rfl⟩
  · obtain ⟨xs', hr', _, _, h4, _⟩ := h
    have := hr'.uniq hr
    subst this
    have hn := h4 j c u hc hu ho
    cases c with
    | pu p => cases how
    | ow e' sz' m' l =>
      obtain ⟨ys, h1, _, _⟩ := hn
      rcases h1.2 with ⟨rfl, _⟩ | ⟨g, cap, cur, rfl, hg, _⟩
      · cases hb
      · simp only [blk, Option.some.injEq] at hb
        subst hb
        exact ⟨_, hg, rfl⟩

section
variable {w0 w w' : World} {S0 : Fr} {S : Nat → Prop} {obs : Obs} {ρ : Nat → Value} {N : Nat} {sl : Slots} {a : Act}

/-- The world has grown, and one block that holds no cells is another. -/
def Turned (B : Nat) (w w' : World) : Prop := ∃ row, w.grownBy w' row ∧ ∀ r, row = some r → B ≤ r ∧ ∃ o : Obj, w.heap[r]? = some o ∧ o.isCells = false

theorem Turned.cells {B : Nat} (h : Turned B w w') {b : Nat} {o : Obj} (hb : w.heap[b]? = some o) (hc : o.isCells = true) : w'.heap[b]? = w.heap[b]? := by
  obtain ⟨row, hg, hr⟩ := h
  refine hg.block b (Array.getElem?_eq_some_iff.1 hb).1 fun e => ?_
  obtain ⟨_, o', h1, h2⟩ := hr b e.symm
  rw [hb] at h1
  cases h1
  rw [hc] at h2
  cases h2

theorem Turned.keepsC {B : Nat} (h : Turned B w w') (S : Nat → Prop) : KeepsC S w w' := by
  intro a v _ hv
  obtain ⟨o, ho, hc⟩ := cells_of_cell hv
  exact (World.cell?_of_block (h.cells ho hc)).trans hv

theorem SatW.turn (h : SatW w0 S0 obs ρ S w) (ht : Turned w0.heap.size w w') : SatW w0 S0 obs ρ S w' := by
  have hk := ht.keepsC S
  have hown : ∀ i ob, obs[i]? = some ob → ob.live = true → ∀ g, Owns w ob (ρ i) g → w'.heap[g]? = w.heap[g]? := by
    intro i ob hi hl g hg
    obtain ⟨o, h1, h2⟩ := owns_cells (h.objs i ob hi) hl hg
    exact ht.cells h1 h2
  have hback : ∀ i ob b, obs[i]? = some ob → ob.live = true → Owns w' ob (ρ i) b → Owns w ob (ρ i) b := fun i ob b hi hl hb => h.same hi hl (hown i ob hi hl) hb
  obtain ⟨row, hg, hr⟩ := ht
  refine ⟨fun i ob hi => (h.objs i ob hi).turn (fun g hl hg => hown i ob hi hl g hg) hk, fun i j oi oj b hi hj li lj bi bj => h.dist i j oi oj b hi hj li lj (hback i oi b hi li bi) (hback j oj b hj lj bj), fun i ob b hi hl hb => h.own i ob b hi hl (hback i ob b hi hl hb), h.sub, fun b hb => Nat.lt_of_lt_of_le (h.lt b hb) hg.size, h.new, ?_, h.plain, h.pins⟩
  refine ⟨hg.os.trans h.le.os, hg.tape.trans h.le.tape, hg.output.trans h.le.output, Nat.le_trans h.le.size hg.size, fun k hk' hm => ?_⟩
  refine (hg.block k (Nat.lt_of_lt_of_le hk' h.le.size) fun e => ?_).trans (h.le.block k hk' hm)
  have := (hr k e.symm).1
  omega

theorem SatA.turn {n : Nat → Prop} {B : Nat} (h : SatA N sl n ρ S w a) (ht : Turned B w w') : SatA N sl n ρ S w' a := ⟨h.size, h.defs, fun t => (h.slots t).turn (ht.keepsC S)⟩

/-- The frame of a round: what it may change is what is owned. -/
def ownFr (w : World) (obs : Obs) (ρ : Nat → Value) (S : Nat → Prop) : Fr := ⟨S, fun b => ∃ (i : Nat) (ob : Ob), obs[i]? = some ob ∧ ob.live = true ∧ Owns w ob (ρ i) b, fun i => if i < obs.length then some (ρ i) else none⟩

theorem SatW.self (h : SatW w0 S0 obs ρ S w) : SatW w (ownFr w obs ρ S) obs ρ S w :=
  ⟨h.objs, h.dist, fun i ob b hi hl hb => ⟨.inr ⟨i, ob, hi, hl, hb⟩, (h.own i ob b hi hl hb).2⟩, fun _ hb => hb, h.lt, fun _ hb => .inl hb, LeM.refl _ _, h.plain, fun i v hp => by
    simp only [ownFr] at hp
    split at hp
    · rename_i hi
      simp only [Option.some.injEq] at hp
      exact ⟨hp, hi⟩
    · cases hp⟩

variable {obs' : Obs} {ρ' : Nat → Value} {S' : Nat → Prop}

theorem ownFr_cells (h : SatW w0 S0 obs ρ S w) {b : Nat} (hb : (ownFr w obs ρ S).m b) : (∃ o : Obj, w.heap[b]? = some o ∧ o.isCells = true) ∧ ¬ S b ∧ (w0.heap.size ≤ b ∨ S0.m b) := by
  obtain ⟨i, ob, h1, h2, h3⟩ := hb
  exact ⟨owns_cells (h.objs i ob h1) h2 h3, (h.own i ob b h1 h2 h3).2, (h.own i ob b h1 h2 h3).1⟩

/-- A round's end, seen from the function's beginning. -/
theorem SatW.join (h : SatW w0 S0 obs ρ S w) (h' : SatW w (ownFr w obs ρ S) obs' ρ' S' w') : SatW w0 S0 obs' ρ' S' w' := by
  refine ⟨h'.objs, h'.dist, fun i ob b hi hl hb => ?_, fun b hb => h'.sub b (h.sub b hb), h'.lt, fun b hb => ?_, ?_, h'.plain, fun i v hp => ?_⟩
  · obtain ⟨h1, h2⟩ := h'.own i ob b hi hl hb
    refine ⟨?_, h2⟩
    rcases h1 with h1 | h1
    · exact .inl (Nat.le_trans h.le.size h1)
    · exact (ownFr_cells h h1).2.2
  · rcases h'.new b hb with h1 | h1 | h1
    · exact h.new b h1
    · exact .inr (.inl (Nat.le_trans h.le.size h1))
    · exact .inr (ownFr_cells h h1).2.2
  · refine ⟨h'.le.os.trans h.le.os, h'.le.tape.trans h.le.tape, h'.le.output.trans h.le.output, Nat.le_trans h.le.size h'.le.size, fun k hk hm => ?_⟩
    refine (h'.le.block k (Nat.lt_of_lt_of_le hk h.le.size) fun hk' => ?_).trans (h.le.block k hk hm)
    rcases (ownFr_cells h hk').2.2 with h1 | h1
    · omega
    · exact hm h1
  · obtain ⟨h1, h2⟩ := h.pins i v hp
    obtain ⟨h3, h4⟩ := h'.pins i (ρ i) (by simp only [ownFr]; rw [if_pos h2])
    exact ⟨h3.trans h1, h4⟩

theorem join_keeps (h : SatW w0 S0 obs ρ S w) (h' : SatW w (ownFr w obs ρ S) obs' ρ' S' w') : Keeps S w w' := fun b hb =>
  h'.le.block b (h.lt b hb) fun hm => (ownFr_cells h hm).2.1 hb

/-- The function's own slots, behind a round. -/
theorem SatA.join (hA : SatA N sl (Lt obs.length) ρ S w a) (h : SatW w0 S0 obs ρ S w) (h' : SatW w (ownFr w obs ρ S) obs' ρ' S' w') : SatA N sl (Lt obs'.length) ρ' S' w' a := by
  have hp : ∀ i, i < obs.length → ρ' i = ρ i ∧ i < obs'.length := fun i hi => h'.pins i (ρ i) (by simp only [ownFr]; rw [if_pos hi])
  exact hA.mono (join_keeps h h') h'.sub (fun i hi => (hp i hi).2) (fun i hi => (hp i hi).1)

theorem join_from (h : SatW w0 S0 obs ρ S w) (h' : SatW w (ownFr w obs ρ S) obs' ρ' S' w') (B : Nat) : KeepsFrom B w w' :=
  ⟨h'.le.size, fun k o _ hk ho => by
    refine (h'.le.block k (Array.getElem?_eq_some_iff.1 hk).1 fun hm => ?_).trans hk
    obtain ⟨⟨o', h1, h2⟩, _⟩ := ownFr_cells h hm
    rw [hk] at h1
    cases h1
    rw [ho] at h2
    cases h2⟩
end
end Go.Pv

/- Maps keyed by pairs of integers: code that makes one, looks in it and writes to it, beside what the generator tells. -/
namespace Go.Pv
open Go.Vc
open Go.RowKit (Below)

/-- The key of two integers. -/
def pk (p : Int × Int) : Value := .agg #[.int .i64 p.1, .int .i64 p.2]

theorem pk_inj {p q : Int × Int} (h : pk p = pk q) : p = q := by
  obtain ⟨a, b⟩ := p
  obtain ⟨c, d⟩ := q
  simp only [pk, Value.agg.injEq, Array.mk.injEq, List.cons.injEq, Value.int.injEq, true_and, and_true] at h
  rw [h.1, h.2]

/-- What is known of a map's type. -/
structure MapT (P : Program) (mt kt et : TypeId) : Prop where
  und : P.underlying mt = some (.map kt et)
  keyed : Go.Maps.Keyed P kt
  key : ∀ p : Int × Int, I64 p.1 → I64 p.2 → ∃ l, keyOf P kt (pk p) = some l
  zero : ∀ w, (zeroValue et).run P w = .ok (.bool false) w

/-- Block b is a map that holds true at these keys, and at no others. -/
def MapAt (b : Nat) (ks : List (Int × Int)) (w : World) : Prop :=
  ∃ es clock, w.heap[b]? = some (.map es clock) ∧ es.toList.map (·.key) = ks.map pk ∧ (∀ e ∈ es.toList, e.val = .bool true) ∧ ∀ p ∈ ks, I64 p.1 ∧ I64 p.2

section
variable {P : Program} {mt kt et : TypeId} {b : Nat} {ks : List (Int × Int)} {w : World}

theorem MapAt.keys (h : MapAt b ks w) : ∃ es clock, w.heap[b]? = some (.map es clock) ∧ (∀ e ∈ es.toList, e.val = .bool true ∧ ∃ p ∈ ks, e.key = pk p ∧ I64 p.1 ∧ I64 p.2) ∧ ∀ p ∈ ks, ∃ e ∈ es.toList, e.key = pk p := by
  obtain ⟨es, clock, hb, hk, hv, hi⟩ := h
  refine ⟨es, clock, hb, fun e he => ⟨hv e he, ?_⟩, fun p hp => ?_⟩
  · have : e.key ∈ es.toList.map (·.key) := List.mem_map.2 ⟨e, he, rfl⟩
    rw [hk, List.mem_map] at this
    obtain ⟨p, hp, hpe⟩ := this
    exact ⟨p, hp, hpe.symm, hi p hp⟩
  · have : pk p ∈ ks.map pk := List.mem_map.2 ⟨p, hp, rfl⟩
    rw [← hk, List.mem_map] at this
    obtain ⟨e, he, hpe⟩ := this
    exact ⟨e, he, hpe⟩

theorem MapAt.lookup (T : MapT P mt kt et) (h : MapAt b ks w) {p : Int × Int} (h1 : I64 p.1) (h2 : I64 p.2) : (Instr.lookup mt (.map (some b)) (pk p) false).run P w = .ok (.bool (decide (p ∈ ks))) w := by
  obtain ⟨es, clock, hb, hall, hex⟩ := h.keys
  obtain ⟨kl, hkl⟩ := T.key p h1 h2
  have hes : ∀ e ∈ es.toList, ∃ l, keyOf P kt e.key = some l := fun e he => by
    obtain ⟨_, q, _, e1, e2, e3⟩ := hall e he
    rw [e1]; exact T.key q e2 e3
  rcases T.keyed.find w hkl es.toList hes with ⟨k1, k2⟩ | ⟨j, e0, k1, k2, k3⟩
  · have hn : p ∉ ks := fun hp => by
      obtain ⟨e, he, hpe⟩ := hex p hp
      exact k2 e he hpe
    have hz := T.zero w
    simp [Instr.lookup, run_underlying T.und, MapKept.run_getObj_map hb, T.keyed.check w _ hkl, k1, hz, Result.andThen, hn]
  · have he0 := List.mem_of_getElem? k2
    obtain ⟨hv, q, hq, hqe, _⟩ := hall e0 he0
    have : q = p := pk_inj (hqe.symm.trans k3)
    subst this
    simp [Instr.lookup, run_underlying T.und, MapKept.run_getObj_map hb, T.keyed.check w _ hkl, k1, Result.andThen, hq, hv]

theorem MapAt.update (T : MapT P mt kt et) (h : MapAt b ks w) {p : Int × Int} (h1 : I64 p.1) (h2 : I64 p.2) (hn : p ∉ ks) : ∃ w', (Instr.mapUpdate mt (.map (some b)) (pk p) (.bool true)).run P w = .ok () w' ∧ MapAt b (ks ++ [p]) w' ∧ ∀ B, B ≤ b → Turned B w w' := by
  have hkeys := h.keys
  obtain ⟨es, clock, hb, hk, hv, hi⟩ := h
  obtain ⟨es', clock', hb', hall, hex⟩ := hkeys
  rw [hb] at hb'
  cases hb'
  obtain ⟨kl, hkl⟩ := T.key p h1 h2
  have hes : ∀ e ∈ es.toList, ∃ l, keyOf P kt e.key = some l := fun e he => by
    obtain ⟨_, q, _, e1, e2, e3⟩ := hall e he
    rw [e1]; exact T.key q e2 e3
  rcases T.keyed.find w hkl es.toList hes with ⟨k1, k2⟩ | ⟨j, e0, k1, k2, k3⟩
  · refine ⟨ChangeMaps.setBlock w b (.map (es.push ⟨pk p, .bool true, clock⟩) (clock + 1)), ?_, ⟨es.push ⟨pk p, .bool true, clock⟩, clock + 1, ChangeMaps.heap_setBlock_same hb _, ?_, ?_, ?_⟩, fun B hB => ?_⟩
    · simp [Instr.mapUpdate, run_underlying T.und, MapKept.run_getObj_map hb, T.keyed.check w false hkl, k1, MapKept.run_setObj_map _ hb, Result.andThen, ChangeMaps.setBlock]
    · simp [hk]
    · intro e he
      simp only [Array.toList_push, List.mem_append, List.mem_singleton] at he
      rcases he with he | rfl
      · exact hv e he
      · rfl
    · intro q hq
      rcases List.mem_append.1 hq with hq | hq
      · exact hi q hq
      · simp at hq; subst hq; exact ⟨h1, h2⟩
    · exact ⟨some b, ⟨rfl, rfl, rfl, by simp [ChangeMaps.setBlock], fun i _ hi => ChangeMaps.heap_setBlock_other hb _ (fun e => hi (by rw [e]))⟩, fun r hr => by cases hr; exact ⟨hB, _, hb, rfl⟩⟩
  · exfalso
    obtain ⟨_, q, hq, hqe, _⟩ := hall e0 (List.mem_of_getElem? k2)
    have : q = p := pk_inj (hqe.symm.trans k3)
    subst this
    exact hn hq
end

/-! ### The generator, with a map beside it -/

/-- The map, if it has been made: its block and its keys. -/
abbrev MG := Option (Nat × List (Int × Int))
abbrev KM := MG → K

def MS (w0 : World) (m : MG) (w : World) : Prop := ∀ b ks, m = some (b, ks) → w0.heap.size ≤ b ∧ MapAt b ks w

def isMap : Op → Bool
  | .makeMap _ _ => true
  | .lookup _ _ _ _ => true
  | .mapUpdate _ _ _ _ => true
  | _ => false

def keyIs (x : SV) (k : Int × Int → Prop) : Prop := match x with
  | .p (.agg [.v (.int .i64 a), .v (.int .i64 c)]) => (I64 a ∧ I64 c) ∧ k (a, c)
  | _ => False

def mapIs (x : SV) (b : Nat) : Prop := match x with
  | .p (.v (.map (some b'))) => b' = b
  | _ => False

def trueIs (x : SV) : Bool := match x with
  | .kb true => true
  | .p (.v (.bool true)) => true
  | _ => false

def vcMop (mt N : Nat) (o : Oper) (k : KM) : KM := fun m sl obs => match o.guard with
  | none => match o.op with
    | .makeMap t none => bif Nat.beq t mt then ∀ b, put N o.dst (.p (.v (.map (some b)))) sl fun sl => k (some (b, [])) sl obs else False
    | .lookup t x i false => match m with
      | some (b, ks) => bif Nat.beq t mt then ev sl x fun x => mapIs x b ∧ ev sl i fun y => keyIs y fun p => put N o.dst (.p (.v (.bool (decide (p ∈ ks))))) sl fun sl => k (some (b, ks)) sl obs else False
      | none => False
    | .mapUpdate t x i v => match m with
      | some (b, ks) => bif Nat.beq t mt then ev sl x fun x => mapIs x b ∧ ev sl i fun y => keyIs y fun p => p ∉ ks ∧ ev sl v fun v => bif trueIs v then put N o.dst (.p (.v undef)) sl fun sl => k (some (b, ks ++ [p])) sl obs else False else False
      | none => False
    | _ => False
  | _ => False

def vcMops (P : Program) (F : Nat) (T : Tab) (mt N : Nat) (all : List Oper) (ops : List Oper) (k : KM) : KM :=
  List.rec (motive := fun _ => KM) k (fun o _ ih m sl obs => bif isMap o.op then vcMop mt N o ih m sl obs else stepO P F T N all o (fun sl obs => ih m sl obs) sl obs) ops

def anyMap : List Oper → Bool
  | [] => false
  | o :: r => bif isMap o.op then true else anyMap r

/-- Code that has nothing to do with maps. -/
noncomputable def noMap (c : Code) : Bool :=
  Code.rec (motive := fun _ => Bool)
    true
    (fun _ ops _ => !anyMap ops.toList)
    (fun _ _ a b => a && b)
    (fun _ _ _ a b => a && b)
    (fun _ _ a => a)
    (fun _ a => a)
    (fun _ _ _ _ _ _ => false)
    (fun _ => true)
    (fun _ _ => false)
    (fun _ => false)
    (fun _ => false)
    true
    (fun _ => false)
    c

def vcMloop (N : Nat) (W : List Nat) (body : KM → KM) : KM := fun m sl obs =>
  ∃ (X : Type) (L : LSpec X) (mm : X → MG) (x0 : X),
    fL (killCells obs L.cells (killNRows sl L.nrows (killRows sl L.rows obs))) fun obsE => fL (W ++ (keysOf L.slots ++ (keysOf L.rows ++ keysOf L.nrows))) fun W => clear W sl fun sl1 =>
    (m = mm x0 ∧ isAt L obsE x0 sl obs) ∧
    ∀ x, L.inv x → fL (headObs L x obsE) fun obs1 => putAll N x L.slots sl1 fun sl2 => setRows N x L.rows sl2 obs1 fun sl3 obs2 => setNRows N x L.nrows sl3 obs2 fun sl4 obs3 => setCells x L.cells obs3 fun obs4 =>
        body (fun m' sl' obs' => ∃ x', L.mu x' < L.mu x ∧ (sl'.drop (len sl' - len sl1) = sl1 ∧ allIn W (takeN (len sl' - len sl1) sl') = true) ∧ m' = mm x' ∧ isAt L obsE x' sl' obs') (mm x) sl4 obs4

def mNo : KM := fun _ _ _ => False

def mCond (c : Operand) (va vb : KM → KM → (Nat → KM) → KM) (kn kr : KM) (kx : Nat → KM) : KM := fun m sl obs => ev sl c fun c => match c with
    | .kb true => va kn kr kx m sl obs
    | .kb false => vb kn kr kx m sl obs
    | .p (.v (.bool q)) => (q = true → va kn kr kx m sl obs) ∧ (q = false → vb kn kr kx m sl obs)
    | _ => False

/-- Where no map is at hand, the generator itself. -/
def orPlain (P : Program) (F : Nat) (T : Tab) (N : Nat) (c : Code) (v : KM → KM → (Nat → KM) → KM) : KM → KM → (Nat → KM) → KM :=
  fun kn kr kx => match noMap c with
    | true => fun m => vcCode P F T N c (kn m) (kr m) fun i => kx i m
    | false => v kn kr kx

def vcM (P : Program) (F : Nat) (T : Tab) (mt N : Nat) (c : Code) : KM → KM → (Nat → KM) → KM :=
  Code.rec (motive := fun _ => KM → KM → (Nat → KM) → KM)
    (fun kn _ _ => kn)
    (fun id ops d => orPlain P F T N (.region id ops d) fun kn _ _ => match d with
      | false => vcMops P F T mt N ops.toList ops.toList kn
      | true => mNo)
    (fun a b va vb => orPlain P F T N (.seq a b) fun kn kr kx => va (vb kn kr kx) kr kx)
    (fun c a b va vb => orPlain P F T N (.cond c a b) fun kn kr kx => mCond c va vb kn kr kx)
    (fun id b vb => orPlain P F T N (.block id b) fun kn kr kx => vb kn kr fun i => bif Nat.beq i id then kn else kx i)
    (fun body vb => orPlain P F T N (.loop body) fun _ kr kx => vcMloop N (wr body) fun kn => vb kn kr kx)
    (fun _ _ _ _ _ _ _ _ _ => mNo)
    (fun id _ _ kx => kx id)
    (fun _ _ _ _ _ => mNo)
    (fun _ _ _ _ => mNo)
    (fun _ _ _ _ => mNo)
    (fun _ kr _ => kr)
    (fun _ _ _ _ => mNo)
    c

def vcFunMp (P : Program) (F : Nat) (T : Tab) (mt : Nat) (fn : Func) (args : List PV) (obsR : Obs) (r : SV) : Prop :=
  match fn.body with
  | some c => vcM P F T mt fn.ntmps c (fun _ => retK T fn.results.toList obsR r) (fun _ => retK T fn.results.toList obsR r) (fun _ _ _ _ => False) none (initS 0 args) []
  | none => False

/-! ### It is sound -/
section
variable {w0 w : World} {S0 : Fr} {P : Program} {F : Nat} {T : Tab} {N : Nat} {mt kt et : TypeId}

def KMpost (w0 : World) (S0 : Fr) (N : Nat) (k : KM) (a : Act) (w : World) : Prop := ∃ m sl obs ρ S, k m sl obs ∧ MS w0 m w ∧ SatA N sl (Lt obs.length) ρ S w a ∧ SatW w0 S0 obs ρ S w

def QM2 (w0 : World) (S0 : Fr) (N : Nat) (kn kr : KM) (kx : Nat → KM) : Exit → Act → World → Prop
  | .normal, a, w => KMpost w0 S0 N kn a w
  | .ret, a, w => KMpost w0 S0 N kr a w
  | .exit i, a, w => KMpost w0 S0 N (kx i) a w
  | _, _, _ => False

theorem ms_none : MS w0 none w := fun b ks h => by cases h

theorem ms_join {obs obs' : Obs} {ρ ρ' : Nat → Value} {S S' : Nat → Prop} {w' : World} (h : SatW w0 S0 obs ρ S w) (h' : SatW w (ownFr w obs ρ S) obs' ρ' S' w') {m : MG} (hm : MS w0 m w) : MS w0 m w' := by
  intro b ks e
  obtain ⟨h1, es, clock, hb, h2⟩ := hm b ks e
  exact ⟨h1, es, clock, (join_from h h' 0).same _ _ (Nat.zero_le _) hb rfl, h2⟩

theorem kp_join {obs : Obs} {ρ : Nat → Value} {S : Nat → Prop} (h : SatW w0 S0 obs ρ S w) {m : MG} (hm : MS w0 m w) {k : KM} {a' : Act} {w' : World} (hk : Kpost w (ownFr w obs ρ S) N (k m) a' w') : KMpost w0 S0 N k a' w' := by
  obtain ⟨sl', obs', ρ', S', hk, hA', hW'⟩ := hk
  exact ⟨m, sl', obs', ρ', S', hk, ms_join h hW' hm, hA', h.join hW'⟩

theorem keyIs_spec {k : Int × Int → Prop} {x : SV} {n : Nat → Prop} {ρ : Nat → Value} {S : Nat → Prop} {v : Value} (h : keyIs x k) (hd : Den ρ n w S x v) : ∃ p : Int × Int, I64 p.1 ∧ I64 p.2 ∧ k p ∧ v = pk p := by
  unfold keyIs at h
  split at h
  case h_2 => exact h.elim
  rename_i a c
  obtain ⟨⟨h1, h2⟩, h⟩ := h
  refine ⟨(a, c), h1, h2, h, ?_⟩
  have hr := den_p hd
  generalize hy : PV.agg [.v (.int .i64 a), .v (.int .i64 c)] = y at hr
  cases hr with
  | agg hl h1 hc =>
    rename_i l xs
    cases hy
    match xs, hl with
    | [x, y], _ =>
      have hx := hc 0 _ x rfl rfl
      have hy := hc 1 _ y rfl rfl
      cases hx
      cases hy
      rfl
  | _ => cases hy

theorem mapIs_spec {x : SV} {b : Nat} {n : Nat → Prop} {ρ : Nat → Value} {S : Nat → Prop} {v : Value} (h : mapIs x b) (hd : Den ρ n w S x v) : v = .map (some b) := by
  unfold mapIs at h
  split at h
  case h_2 => exact h.elim
  subst h
  exact den_pv hd

theorem trueIs_spec {x : SV} {n : Nat → Prop} {ρ : Nat → Value} {S : Nat → Prop} {v : Value} (h : trueIs x = true) (hd : Den ρ n w S x v) : v = .bool true := by
  unfold trueIs at h
  split at h
  · exact den_kb hd
  · exact den_pv hd
  · cases h

theorem mops_sound (hT : TabOk P T) (hF : ∀ f, 2 < f → f < F → FnOk P f) (hM : MapT P mt kt et) (all : List Oper) {Q : Exit → Act → World → Prop} {k : KM} (hQ : ∀ a w, KMpost w0 S0 N k a w → Q .normal a w) : ∀ (ops : List Oper) {m : MG} {sl : Slots} {obs : Obs} {ρ : Nat → Value} {S : Nat → Prop} {a : Act} {w : World},
    vcMops P F T mt N all ops k m sl obs → MS w0 m w → SatA N sl (Lt obs.length) ρ S w a → SatW w0 S0 obs ρ S w → wpList P all.toArray Q ops a w
  | [], m, sl, obs, ρ, S, a, w, h, hm, hA, hW => hQ a w ⟨m, sl, obs, ρ, S, h, hm, hA, hW⟩
  | o :: r, m, sl, obs, ρ, S, a, w, h, hm, hA, hW => by
    replace h : (bif isMap o.op then vcMop mt N o (vcMops P F T mt N all r k) m sl obs else stepO P F T N all o (fun sl obs => vcMops P F T mt N all r k m sl obs) sl obs) := h
    cases hy : isMap o.op with
    | false =>
      rw [hy, cond_false] at h
      have h1 := vcOps_sound (w0 := w) (S0 := ownFr w obs ρ S) (N := N) hT hF all (fun e a w => match e with | .normal => wpList P all.toArray Q r a w | _ => False)
        (k := fun sl obs => vcMops P F T mt N all r k m sl obs) (fun a' w' hk => by
          obtain ⟨m', sl', obs', ρ', S', h', hm', hA', hW'⟩ := kp_join (k := vcMops P F T mt N all r k) hW hm hk
          exact mops_sound hT hF hM all hQ r h' hm' hA' hW') [o] (show stepO P F T N all o _ sl obs from h) hA hW.self
      unfold wpList at h1 ⊢
      split
      · rename_i hw
        rw [if_pos hw] at h1
        rcases h1 with h1 | h1
        · left
          unfold Oper.wp at h1 ⊢
          revert h1
          generalize (execOp a.eval o).run P w = res
          intro h1
          cases res with
          | ok nx w' =>
            cases nx with
            | value v => exact h1
            | skip => exact h1
            | defer d => exact h1
            | enter f args =>
              refine Calls.mono h1 ?_
              intro e w' hq
              cases e with
              | returned v => exact hq
              | panicked ch => exact hq.elim
              | outgrown => obtain ⟨_, _, h⟩ := hq; exact h.elim
            | row row args => exact h1
            | _ => exact h1.elim
          | halt s w' =>
            cases s <;> first | exact h1.elim | exact h1
        · obtain ⟨_, _, _, h⟩ := h1
          exact h.elim
      · rename_i hw
        rw [if_neg hw] at h1
        exact h1
    | true =>
      rw [hy, cond_true] at h
      unfold vcMop at h
      cases hg : o.guard with
      | some gd => simp only [hg] at h
      | none =>
        simp only [hg] at h
        refine wpList_plain hg fun K' hK' => ?_
        split at h
        · rename_i t ho
          rw [cond_false_iff] at h
          obtain ⟨_, h⟩ := h
          have hle : Le w (w.alloc (.map #[] 0)) := (Below.refl _ w).alloc (Nat.le_refl _) _
          have hA1 := hA.mono (hW.keeps hle) (fun _ h => h) (fun _ h => h) (fun _ _ => rfl)
          obtain ⟨sl', hk, hA2⟩ := hA1.put (v := .map (some w.heap.size)) (.p (.v _)) (h w.heap.size)
          unfold Oper.wp
          simp [execOp, ho, RowKit.run_makeMap, Result.andThen]
          refine hK' _ _ (mops_sound hT hF hM all hQ r hk ?_ hA2 (hW.mono hle))
          intro b ks e
          cases e
          exact ⟨hW.le.size, #[], 0, World.alloc_heap_new w _, rfl, by simp, by simp⟩
        · rename_i t x i ho
          split at h
          case h_2 => exact h.elim
          rename_i b ks
          rw [cond_false_iff] at h
          obtain ⟨ht, h⟩ := h
          have ht : mt = t := (Nat.eq_of_beq_eq_true ht).symm
          subst ht
          obtain ⟨sv, ⟨h1, h⟩, hden⟩ := ev_spec hA h
          obtain ⟨sy, h, hdy⟩ := ev_spec hA h
          obtain ⟨p, p1, p2, h, hp⟩ := keyIs_spec h hdy
          have hx := mapIs_spec h1 hden
          have hl := (hm b ks rfl).2.lookup hM p1 p2
          obtain ⟨sl', hk, hA2⟩ := hA.put (v := .bool (decide (p ∈ ks))) (.p (.v _)) h
          unfold Oper.wp
          simp [execOp, ho, hx, hp, hl, Result.andThen]
          exact hK' _ _ (mops_sound hT hF hM all hQ r hk hm hA2 hW)
        · rename_i t x i v ho
          split at h
          case h_2 => exact h.elim
          rename_i b ks
          rw [cond_false_iff] at h
          obtain ⟨ht, h⟩ := h
          have ht : mt = t := (Nat.eq_of_beq_eq_true ht).symm
          subst ht
          obtain ⟨sv, ⟨h1, h⟩, hden⟩ := ev_spec hA h
          obtain ⟨sy, h, hdy⟩ := ev_spec hA h
          obtain ⟨p, p1, p2, ⟨hn, h⟩, hp⟩ := keyIs_spec h hdy
          obtain ⟨st, h, hdt⟩ := ev_spec hA h
          rw [cond_false_iff] at h
          obtain ⟨h2, h⟩ := h
          have hv := trueIs_spec h2 hdt
          have hx := mapIs_spec h1 hden
          obtain ⟨hb, hmap⟩ := hm b ks rfl
          obtain ⟨w', hrun, hmap', ht⟩ := hmap.update hM p1 p2 hn
          have ht := ht _ hb
          obtain ⟨sl', hk, hA2⟩ := (hA.turn ht).put (v := undef) (.p (.v _)) h
          unfold Oper.wp
          simp [execOp, ho, hx, hp, hv, hrun, Result.andThen]
          refine hK' _ _ (mops_sound hT hF hM all hQ r hk ?_ hA2 (hW.turn ht))
          intro b' ks' e
          cases e
          exact ⟨hb, hmap'⟩
        · exact h.elim

theorem mloop_sound {W : List Nat} {body : KM → KM} {c : Code} {kn kr : KM} {kx : Nat → KM}
    (hbody : ∀ k m sl obs ρ S a w, body k m sl obs → MS w0 m w → SatA N sl (Lt obs.length) ρ S w a → SatW w0 S0 obs ρ S w → c.wp P (QM2 w0 S0 N k kr kx) a w)
    {m : MG} {sl : Slots} {obs : Obs} {ρ : Nat → Value} {S : Nat → Prop} {a : Act} {w : World} (h : vcMloop N W body m sl obs) (hm : MS w0 m w) (hA : SatA N sl (Lt obs.length) ρ S w a) (hW : SatW w0 S0 obs ρ S w) : (Code.loop c).wp P (QM2 w0 S0 N kn kr kx) a w := by
  obtain ⟨X, L, mm, x0, h⟩ := h
  rw [fL_iff, fL_iff, clear_iff] at h
  have hr0 : ∀ (i : Nat) (o : Ob), obs[i]? = some o → RefsOb (Lt obs.length) o := fun i o ho => (hW.objs i o ho).refs
  obtain ⟨l1, r1⟩ := killRows_spec sl L.rows obs hr0
  obtain ⟨l3, r3⟩ := killNRows_spec sl L.nrows _ r1
  obtain ⟨l2, r2⟩ := killCells_spec obs L.cells _ r3
  rw [l3, l1] at l2
  generalize hW' : W ++ (keysOf L.slots ++ (keysOf L.rows ++ keysOf L.nrows)) = CW at h
  generalize hE : killCells obs L.cells (killNRows sl L.nrows (killRows sl L.rows obs)) = obsE at h l2 r2
  obtain ⟨⟨hm0, hat⟩, hround⟩ := h
  subst hm0
  have hrefs : ∀ t, RefsIn (Lt obsE.length) ((clearL CW sl).get t) := by
    intro t
    rw [get_clearL, l2]
    split
    · exact .any
    · exact (hA.slots t).refs
  have hRE : ∀ (i : Nat) (ob : Ob), obsE[i]? = some ob → RefsOb (Lt obsE.length) ob := by rw [l2]; exact r2
  refine wp_loop_ghost (fun j a w => ∃ x slc obsc ρc S, L.mu x = j ∧ MS w0 (mm x) w ∧ SatA N slc (Lt obsc.length) ρc S w a ∧ SatW w0 S0 obsc ρc S w ∧ (∀ t, (clearL CW sl).get t = slc.get t ∨ (clearL CW sl).get t = .any) ∧ isAt L obsE x slc obsc) (L.mu x0)
    ⟨x0, sl, obs, ρ, S, rfl, hm, hA, hW, fun t => ?_, hat⟩ ?_
  · rw [get_clearL]
    split
    · exact .inr rfl
    · exact .inl rfl
  rintro j a1 w1 ⟨x, slc, obsc, ρc, Sc, rfl, hmc, hAc, hWc, hsub, hatc⟩
  obtain ⟨sl3, obs3, ρ3, h, hA3, hW3⟩ := rehead x L hRE hrefs (fun i v hp => by rw [l2]; exact (hW.pins i v hp).2) hAc hWc hsub hatc (hround x hatc.2.2.2)
  refine wp_mono (hbody _ _ _ _ ρ3 Sc a1 w1 h hmc hA3 hW3) ?_
  intro e a2 w2 hq
  cases e with
  | normal =>
    obtain ⟨m', sl', obs', ρ', S', ⟨x', hmu, ⟨h4, h5⟩, rfl, hat'⟩, hm', hA', hW'⟩ := hq
    rw [takeN_eq] at h5
    simp only [len_eq] at h4 h5
    refine ⟨L.mu x', hmu, x', sl', obs', ρ', S', rfl, hm', hA', hW', fun t => ?_, hat'⟩
    by_cases ht : t ∈ CW
    · exact .inr (by rw [get_clearL, if_pos ht])
    · refine .inl ?_
      have hin := allIn_spec h5
      have hsplit : sl' = sl'.take (sl'.length - (clearL CW sl).length) ++ clearL CW sl := by
        conv => lhs; rw [← List.take_append_drop (sl'.length - (clearL CW sl).length) sl', h4]
      rw [hsplit, get_append_other (t := t) (fun p hp e => ht (by rw [← e]; exact hin p hp))]
  | ret => exact hq
  | exit i => exact hq
  | _ => exact hq.elim

theorem orPlain_sound (hm : P.follows .mixedOrders = true) (hT : TabOk P T) (hF : ∀ f, 2 < f → f < F → FnOk P f) {c : Code} (hd : drawsB c = true) {v : KM → KM → (Nat → KM) → KM} {kn kr : KM} {kx : Nat → KM} {m : MG} {sl : Slots} {obs : Obs} {ρ : Nat → Value} {S : Nat → Prop} {a : Act} {w : World}
    (h : orPlain P F T N c v kn kr kx m sl obs) (hms : MS w0 m w) (hA : SatA N sl (Lt obs.length) ρ S w a) (hW : SatW w0 S0 obs ρ S w) (hv : v kn kr kx m sl obs → c.wp P (QM2 w0 S0 N kn kr kx) a w) : c.wp P (QM2 w0 S0 N kn kr kx) a w := by
  unfold orPlain at h
  generalize noMap c = nb at h
  cases nb
  rotate_left
  · refine wp_mono (vcCode_sound (w0 := w) (S0 := ownFr w obs ρ S) hm hT hF c hd _ _ _ sl obs ρ S a w h hA hW.self) ?_
    intro e a' w' hq
    cases e with
    | normal => exact kp_join hW hms hq
    | ret => exact kp_join hW hms hq
    | exit i => exact kp_join (k := kx i) hW hms hq
    | _ => exact hq.elim
  · exact hv h

theorem vcM_sound (hm : P.follows .mixedOrders = true) (hT : TabOk P T) (hF : ∀ f, 2 < f → f < F → FnOk P f) (hM : MapT P mt kt et) : ∀ (c : Code), drawsB c = true → ∀ (kn kr : KM) (kx : Nat → KM) (m : MG) (sl : Slots) (obs : Obs) (ρ : Nat → Value) (S : Nat → Prop) (a : Act) (w : World),
    vcM P F T mt N c kn kr kx m sl obs → MS w0 m w → SatA N sl (Lt obs.length) ρ S w a → SatW w0 S0 obs ρ S w → c.wp P (QM2 w0 S0 N kn kr kx) a w
  | .skip, _, kn, kr, kx, m, sl, obs, ρ, S, a, w, h, hms, hA, hW => wp_skip ⟨m, sl, obs, ρ, S, h, hms, hA, hW⟩
  | .seq x y, hd, kn, kr, kx, m, sl, obs, ρ, S, a, w, h, hms, hA, hW => by
    have h : orPlain P F T N (.seq x y) (fun kn kr kx => vcM P F T mt N x (vcM P F T mt N y kn kr kx) kr kx) kn kr kx m sl obs := h
    refine orPlain_sound hm hT hF hd h hms hA hW fun h => ?_
    simp only [drawsB, Bool.and_eq_true] at hd
    refine wp_seq (wp_mono (vcM_sound hm hT hF hM x hd.1 _ kr kx m sl obs ρ S a w h hms hA hW) ?_)
    intro e a' w' hq
    cases e with
    | normal =>
      obtain ⟨m', sl', obs', ρ', S', hk, hms', hA', hW'⟩ := hq
      exact vcM_sound hm hT hF hM y hd.2 kn kr kx m' sl' obs' ρ' S' a' w' hk hms' hA' hW'
    | _ => exact hq
  | .cond c x y, hd, kn, kr, kx, m, sl, obs, ρ, S, a, w, h, hms, hA, hW => by
    have h : orPlain P F T N (.cond c x y) (fun kn kr kx => mCond c (vcM P F T mt N x) (vcM P F T mt N y) kn kr kx) kn kr kx m sl obs := h
    refine orPlain_sound hm hT hF hd h hms hA hW fun h => ?_
    simp only [drawsB, Bool.and_eq_true] at hd
    obtain ⟨sv, h, hden⟩ := ev_spec hA h
    split at h
    · exact wp_cond_true (den_kb hden) (vcM_sound hm hT hF hM x hd.1 kn kr kx m sl obs ρ S a w h hms hA hW)
    · exact wp_cond_false (den_kb hden) (vcM_sound hm hT hF hM y hd.2 kn kr kx m sl obs ρ S a w h hms hA hW)
    · exact wp_cond_split (den_pv hden) (fun e => vcM_sound hm hT hF hM x hd.1 kn kr kx m sl obs ρ S a w (h.1 e) hms hA hW) (fun e => vcM_sound hm hT hF hM y hd.2 kn kr kx m sl obs ρ S a w (h.2 e) hms hA hW)
    · exact h.elim
  | .block id b, hd, kn, kr, kx, m, sl, obs, ρ, S, a, w, h, hms, hA, hW => by
    have h : orPlain P F T N (.block id b) (fun kn kr kx => vcM P F T mt N b kn kr fun i => bif Nat.beq i id then kn else kx i) kn kr kx m sl obs := h
    refine orPlain_sound hm hT hF hd h hms hA hW fun h => ?_
    simp only [drawsB] at hd
    refine wp_block (wp_mono (vcM_sound hm hT hF hM b hd kn kr _ m sl obs ρ S a w h hms hA hW) ?_)
    intro e a' w' hq
    cases e with
    | exit i =>
      simp only [Exit.inBlock]
      by_cases hi : i = id
      · subst hi
        rw [if_pos rfl]
        simpa [QM2] using hq
      · rw [if_neg hi]
        have : Nat.beq i id = false := by rw [Bool.eq_false_iff]; intro h'; exact hi (Nat.eq_of_beq_eq_true h')
        simpa [QM2, this] using hq
    | _ => exact hq
  | .exit i, _, kn, kr, kx, m, sl, obs, ρ, S, a, w, h, hms, hA, hW => wp_exit ⟨m, sl, obs, ρ, S, h, hms, hA, hW⟩
  | .ret, _, kn, kr, kx, m, sl, obs, ρ, S, a, w, h, hms, hA, hW => wp_ret ⟨m, sl, obs, ρ, S, h, hms, hA, hW⟩
  | .loop b, hd, kn, kr, kx, m, sl, obs, ρ, S, a, w, h, hms, hA, hW => by
    have h : orPlain P F T N (.loop b) (fun _ kr kx => vcMloop N (wr b) fun kn => vcM P F T mt N b kn kr kx) kn kr kx m sl obs := h
    refine orPlain_sound hm hT hF hd h hms hA hW fun h => ?_
    simp only [drawsB] at hd
    exact mloop_sound (fun k m sl obs ρ S a w h hms hA hW => vcM_sound hm hT hF hM b hd k kr kx m sl obs ρ S a w h hms hA hW) h hms hA hW
  | .region id ops d, hd, kn, kr, kx, m, sl, obs, ρ, S, a, w, h, hms, hA, hW => by
    cases d with
    | false =>
      have h : orPlain P F T N (.region id ops false) (fun kn _ _ => vcMops P F T mt N ops.toList ops.toList kn) kn kr kx m sl obs := h
      refine orPlain_sound hm hT hF hd h hms hA hW fun h => ?_
      exact wp_region_list (by simpa using mops_sound hT hF hM ops.toList (Q := QM2 w0 S0 N kn kr kx) (fun a w h => h) ops.toList (show vcMops P F T mt N ops.toList ops.toList kn m sl obs from h) hms hA hW)
    | true =>
      have h : orPlain P F T N (.region id ops true) (fun _ _ _ => mNo) kn kr kx m sl obs := h
      exact orPlain_sound hm hT hF hd h hms hA hW fun h => h.elim
  | .rangeFunc _ _ _ _, _, kn, kr, kx, m, sl, obs, ρ, S, a, w, h, hms, hA, hW => h.elim
  | .scope _, _, kn, kr, kx, m, sl, obs, ρ, S, a, w, h, hms, hA, hW => h.elim
  | .label _, _, kn, kr, kx, m, sl, obs, ρ, S, a, w, h, hms, hA, hW => h.elim
  | .goto _, _, kn, kr, kx, m, sl, obs, ρ, S, a, w, h, hms, hA, hW => h.elim
  | .refuse _, _, kn, kr, kx, m, sl, obs, ρ, S, a, w, h, hms, hA, hW => h.elim

theorem ret_of_vcM (hm : P.follows .mixedOrders = true) (hT : TabOk P T) (hF : ∀ f, 2 < f → f < F → FnOk P f) (hM : MapT P mt kt et) {f : FuncId} {fn : Func} (hf : P.funcs[f]? = some fn) (hd : (match fn.body with | some c => drawsB c | none => false) = true) {args : List PV} (hn : args.length ≤ fn.ntmps) {obsR : Obs} {r : SV}
    (h : vcFunMp P F T mt fn args obsR r) : Ret P f args obsR r := by
  intro w S xs hlt hrep
  unfold vcFunMp at h
  cases hb : fn.body with
  | none => simp [hb] at h
  | some c =>
    simp only [hb] at h hd
    refine calls_of_wp hf hb ?_
    have hxl : args.length = xs.length := hrep.1
    have hA : SatA fn.ntmps (initS 0 args) (Lt ([] : Obs).length) (fun _ => undef) S w { tmps := xs.toArray ++ Array.replicate (fn.ntmps - xs.toArray.size) undef, defers := [] } := by
      refine ⟨by simp; omega, rfl, fun t => ?_⟩
      rw [get_initS]
      split
      · rename_i ht
        have h1 : t < args.length := by omega
        have h2 : t < xs.length := by omega
        have := hrep.2 t args[t] xs[t] (List.getElem?_eq_getElem h1) (List.getElem?_eq_getElem h2)
        have e1 : (xs.toArray ++ Array.replicate (fn.ntmps - xs.toArray.size) undef).getD t undef = xs[t] := by simp [Array.getElem?_append, h2]
        have e2 : args.getD (t - 0) (.v undef) = args[t] := by simp [List.getD, h1]
        rw [e1, e2]
        exact .p this
      · exact .any _
    have hW : SatW w (Fr.of S) [] (fun _ => undef) S w :=
      ⟨fun i ob hi => by simp at hi, fun i j oi oj b hi => by simp at hi, fun i ob b hi => by simp at hi, fun _ h => h, hlt, fun _ h => .inl h, LeM.refl _ _, fun i hi => by simp at hi, fun i v hp => by cases hp⟩
    refine wp_mono (vcM_sound hm hT hF hM c hd _ _ _ _ _ _ _ _ _ w h ms_none hA hW) ?_
    intro e a' w' hq
    have fin : KMpost w (Fr.of S) fn.ntmps (fun _ => retK T fn.results.toList obsR r) a' w' → Kpost w (Fr.of S) fn.ntmps (retK T fn.results.toList obsR r) a' w' := fun ⟨_, sl, obs, ρ, S, h, _, h1, h2⟩ => ⟨sl, obs, ρ, S, h, h1, h2⟩
    cases e with
    | normal => exact retK_post hT (fun _ => rfl) (fin hq)
    | ret => exact retK_post hT (fun _ => rfl) (fin hq)
    | exit i => obtain ⟨_, _, _, _, _, h, _⟩ := hq; exact h.elim
    | _ => exact hq.elim
end

end Go.Pv
