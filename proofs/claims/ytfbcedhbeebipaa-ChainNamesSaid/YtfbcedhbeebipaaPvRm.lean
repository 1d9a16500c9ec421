/- Ranges over functions: the state abides what the machine keeps of the loop beside it. -/
import Derived.RangeFuncNested
import Derived.RangeFuncLeaves
import Derived.Test.YtfbcedhbeebipaaPvIm
namespace Go.Pv
open Go.Vc
open Go.RowKit (Below)

/-- What cells held they hold. -/
def KeepsC (S : Nat → Prop) (w w' : World) : Prop := ∀ (a : Addr) (v : Value), S a.block → w.cell? a = some v → w'.cell? a = some v

theorem Rep.turn {w w' : World} {S : Nat → Prop} (hk : KeepsC S w w') : ∀ {x : PV} {v : Value}, Rep w S x v → Rep w' S x v := by
  intro x v h
  induction h with
  | v x => exact .v x
  | agg hl h1 _ ih => exact .agg hl h1 ih
  | nil ex a cap h hn => exact .nil ex a cap h hn
  | sl hS hn hex hl h1 hc _ ih => exact .sl hS hn hex hl h1 (fun j x hj => hk _ _ (by rw [addr_add_block]; exact hS) (hc j x hj)) ih
  | fp hS hl h1 hc _ ih => exact .fp hS hl h1 (fun j x hj => hk _ _ (by rw [addr_add_block]; exact hS) (hc j x hj)) ih
  | fn ha hb _ _ ih1 ih2 => exact .fn ha hb ih1 ih2

theorem RepL.turn {w w' : World} {S : Nat → Prop} (hk : KeepsC S w w') {l : List PV} {xs : List Value} (h : RepL (Rep w S) l xs) : RepL (Rep w' S) l xs := ⟨h.1, fun j p x hp hx => (h.2 j p x hp hx).turn hk⟩

theorem Den.turn {ρ : Nat → Value} {n : Nat → Prop} {w w' : World} {S : Nat → Prop} (hk : KeepsC S w w') : ∀ {x : SV} {v : Value}, Den ρ n w S x v → Den ρ n w' S x v := by
  intro x v h
  induction h with
  | p h => exact .p (h.turn hk)
  | kb b => exact .kb b
  | any v => exact .any v
  | nil => exact .nil
  | ob hi => exact .ob hi
  | pt hi hb => exact .pt hi hb
  | ag hl h1 _ ih => exact .ag hl h1 ih
  | tup hl _ ih => exact .tup hl ih
  | cl ha hb _ _ ih1 ih2 => exact .cl ha hb ih1 ih2

theorem DenL.turn {ρ : Nat → Value} {n : Nat → Prop} {w w' : World} {S : Nat → Prop} (hk : KeepsC S w w') {l : List SV} {xs : List Value} (h : DenL ρ n w S l xs) : DenL ρ n w' S l xs := ⟨h.1, fun j p x hp hx => (h.2 j p x hp hx).turn hk⟩

theorem NcOk.turn {w w' : World} {S : Nat → Prop} {c : NC} {v : Value} (hh : ∀ g, isOw c = true → Go.Vc.blk v = some g → w'.heap[g]? = w.heap[g]?) (hk : KeepsC S w w') (h : NcOk w S c v) : NcOk w' S c v := by
  cases c with
  | pu p => exact Rep.turn hk h
  | ow e sz m l =>
    obtain ⟨ys, h1, h2, h3⟩ := h
    exact ⟨ys, h1.keep (fun g hg => hh g rfl hg), h2.turn hk, h3⟩

theorem ObOk.turn {ρ : Nat → Value} {n : Nat → Prop} {w w' : World} {S : Nat → Prop} {ob : Ob} {x : Value} (hh : ∀ g, ob.live = true → Owns w ob x g → w'.heap[g]? = w.heap[g]?) (hk : KeepsC S w w') (h : ObOk ρ n w S ob x) : ObOk ρ n w' S ob x := by
  cases ob with
  | box t cs =>
    obtain ⟨b, xs, rfl, hb, hd, h1⟩ := h
    exact ⟨b, xs, rfl, by rw [hh b rfl (.inl rfl)]; exact hb, hd.turn hk, h1⟩
  | arr t cs =>
    obtain ⟨b, xs, rfl, hb, hd, h1⟩ := h
    exact ⟨b, xs, rfl, by rw [hh b rfl (.inl rfl)]; exact hb, hd.turn hk, h1⟩
  | row e sz m ex cs =>
    obtain ⟨xs, hr, hd, h1⟩ := h
    exact ⟨xs, hr.keep fun g hg => hh g rfl (.inl hg), hd.turn hk, h1⟩
  | nest e sz m cs hl =>
    obtain ⟨xs, hr, h1, h2, h3, h4, h5, h6⟩ := h
    refine ⟨xs, hr.keep fun g hg => hh g rfl (.inl hg), h1, h2, fun j c v hc hv ho => ?_, fun p y hp => ?_, h5, h6⟩
    · exact (h3 j c v hc hv ho).turn (fun g hw hg => hh g rfl (.inr ⟨e, sz, m, cs, hl, xs, j, rfl, hr, c, v, hc, hw, ho, hv, hg⟩)) hk
    · obtain ⟨v, hv, hd⟩ := h4 p y hp
      exact ⟨v, hv, hd.turn hk⟩
  | dead => exact trivial

/-- What an object owns are cells. -/
theorem owns_cells {ρ : Nat → Value} {n : Nat → Prop} {w : World} {S : Nat → Prop} {ob : Ob} {x : Value} (h : ObOk ρ n w S ob x) (hl : ob.live = true) {b : Nat} (hb : Owns w ob x b) : ∃ o : Obj, w.heap[b]? = some o ∧ o.isCells = true := by
  rcases hb with hb | ⟨e, sz, m, cs, hole, xs, j, rfl, hr, c, u, hc, how, ho, hu, hb⟩
  · obtain ⟨cur, e, _, h1, _⟩ := h.cells hl hb
    exact ⟨_, h1, rfl⟩
  · obtain ⟨xs', hr', _, _, h4, _⟩ := h
    have := hr'.uniq hr
    subst this
    have hn := h4 j c u hc hu ho
    cases c with
    | pu p => cases how
    | ow e' sz' m' l =>
      obtain ⟨ys, h1, _, _⟩ := hn
      rcases h1.2 with ⟨rfl, _⟩ | ⟨g, cap, cur, rfl, hg, _⟩
      · cases hb
      · simp only [blk, Option.some.injEq] at hb
        subst hb
        exact ⟨_, hg, rfl⟩

section
variable {w0 w w' : World} {S0 : Fr} {S : Nat → Prop} {obs : Obs} {ρ : Nat → Value} {N : Nat} {sl : Slots} {a : Act}

/-- The world has grown, and one block that holds no cells is another. -/
def Turned (B : Nat) (w w' : World) : Prop := ∃ row, w.grownBy w' row ∧ ∀ r, row = some r → B ≤ r ∧ ∃ o : Obj, w.heap[r]? = some o ∧ o.isCells = false

theorem Turned.cells {B : Nat} (h : Turned B w w') {b : Nat} {o : Obj} (hb : w.heap[b]? = some o) (hc : o.isCells = true) : w'.heap[b]? = w.heap[b]? := by
  obtain ⟨row, hg, hr⟩ := h
  refine hg.block b (Array.getElem?_eq_some_iff.1 hb).1 fun e => ?_
  obtain ⟨_, o', h1, h2⟩ := hr b e.symm
  rw [hb] at h1
  cases h1
  rw [hc] at h2
  cases h2

theorem Turned.keepsC {B : Nat} (h : Turned B w w') (S : Nat → Prop) : KeepsC S w w' := by
  intro a v _ hv
  obtain ⟨o, ho, hc⟩ := cells_of_cell hv
  exact (World.cell?_of_block (h.cells ho hc)).trans hv

theorem SatW.turn (h : SatW w0 S0 obs ρ S w) (ht : Turned w0.heap.size w w') : SatW w0 S0 obs ρ S w' := by
  have hk := ht.keepsC S
  have hown : ∀ i ob, obs[i]? = some ob → ob.live = true → ∀ g, Owns w ob (ρ i) g → w'.heap[g]? = w.heap[g]? := by
    intro i ob hi hl g hg
    obtain ⟨o, h1, h2⟩ := owns_cells (h.objs i ob hi) hl hg
    exact ht.cells h1 h2
  have hback : ∀ i ob b, obs[i]? = some ob → ob.live = true → Owns w' ob (ρ i) b → Owns w ob (ρ i) b := fun i ob b hi hl hb => h.same hi hl (hown i ob hi hl) hb
  obtain ⟨row, hg, hr⟩ := ht
  refine ⟨fun i ob hi => (h.objs i ob hi).turn (fun g hl hg => hown i ob hi hl g hg) hk, fun i j oi oj b hi hj li lj bi bj => h.dist i j oi oj b hi hj li lj (hback i oi b hi li bi) (hback j oj b hj lj bj), fun i ob b hi hl hb => h.own i ob b hi hl (hback i ob b hi hl hb), h.sub, fun b hb => Nat.lt_of_lt_of_le (h.lt b hb) hg.size, h.new, ?_, h.plain, h.pins⟩
  refine ⟨hg.os.trans h.le.os, hg.tape.trans h.le.tape, hg.output.trans h.le.output, Nat.le_trans h.le.size hg.size, fun k hk' hm => ?_⟩
  refine (hg.block k (Nat.lt_of_lt_of_le hk' h.le.size) fun e => ?_).trans (h.le.block k hk' hm)
  have := (hr k e.symm).1
  omega

theorem SatA.turn {n : Nat → Prop} {B : Nat} (h : SatA N sl n ρ S w a) (ht : Turned B w w') : SatA N sl n ρ S w' a := ⟨h.size, h.defs, fun t => (h.slots t).turn (ht.keepsC S)⟩

/-- The frame of a round: what it may change is what is owned. -/
def ownFr (w : World) (obs : Obs) (ρ : Nat → Value) (S : Nat → Prop) : Fr := ⟨S, fun b => ∃ (i : Nat) (ob : Ob), obs[i]? = some ob ∧ ob.live = true ∧ Owns w ob (ρ i) b, fun i => if i < obs.length then some (ρ i) else none⟩

theorem SatW.self (h : SatW w0 S0 obs ρ S w) : SatW w (ownFr w obs ρ S) obs ρ S w :=
  ⟨h.objs, h.dist, fun i ob b hi hl hb => ⟨.inr ⟨i, ob, hi, hl, hb⟩, (h.own i ob b hi hl hb).2⟩, fun _ hb => hb, h.lt, fun _ hb => .inl hb, LeM.refl _ _, h.plain, fun i v hp => by
    simp only [ownFr] at hp
    split at hp
    · rename_i hi
      simp only [Option.some.injEq] at hp
      exact ⟨hp, hi⟩
    · cases hp⟩

variable {obs' : Obs} {ρ' : Nat → Value} {S' : Nat → Prop}

theorem ownFr_cells (h : SatW w0 S0 obs ρ S w) {b : Nat} (hb : (ownFr w obs ρ S).m b) : (∃ o : Obj, w.heap[b]? = some o ∧ o.isCells = true) ∧ ¬ S b ∧ (w0.heap.size ≤ b ∨ S0.m b) := by
  obtain ⟨i, ob, h1, h2, h3⟩ := hb
  exact ⟨owns_cells (h.objs i ob h1) h2 h3, (h.own i ob b h1 h2 h3).2, (h.own i ob b h1 h2 h3).1⟩

/-- A round's end, seen from the function's beginning. -/
theorem SatW.join (h : SatW w0 S0 obs ρ S w) (h' : SatW w (ownFr w obs ρ S) obs' ρ' S' w') : SatW w0 S0 obs' ρ' S' w' := by
  refine ⟨h'.objs, h'.dist, fun i ob b hi hl hb => ?_, fun b hb => h'.sub b (h.sub b hb), h'.lt, fun b hb => ?_, ?_, h'.plain, fun i v hp => ?_⟩
  · obtain ⟨h1, h2⟩ := h'.own i ob b hi hl hb
    refine ⟨?_, h2⟩
    rcases h1 with h1 | h1
    · exact .inl (Nat.le_trans h.le.size h1)
    · exact (ownFr_cells h h1).2.2
  · rcases h'.new b hb with h1 | h1 | h1
    · exact h.new b h1
    · exact .inr (.inl (Nat.le_trans h.le.size h1))
    · exact .inr (ownFr_cells h h1).2.2
  · refine ⟨h'.le.os.trans h.le.os, h'.le.tape.trans h.le.tape, h'.le.output.trans h.le.output, Nat.le_trans h.le.size h'.le.size, fun k hk hm => ?_⟩
    refine (h'.le.block k (Nat.lt_of_lt_of_le hk h.le.size) fun hk' => ?_).trans (h.le.block k hk hm)
    rcases (ownFr_cells h hk').2.2 with h1 | h1
    · omega
    · exact hm h1
  · obtain ⟨h1, h2⟩ := h.pins i v hp
    obtain ⟨h3, h4⟩ := h'.pins i (ρ i) (by simp only [ownFr]; rw [if_pos h2])
    exact ⟨h3.trans h1, h4⟩

theorem join_keeps (h : SatW w0 S0 obs ρ S w) (h' : SatW w (ownFr w obs ρ S) obs' ρ' S' w') : Keeps S w w' := fun b hb =>
  h'.le.block b (h.lt b hb) fun hm => (ownFr_cells h hm).2.1 hb

/-- The function's own slots, behind a round. -/
theorem SatA.join (hA : SatA N sl (Lt obs.length) ρ S w a) (h : SatW w0 S0 obs ρ S w) (h' : SatW w (ownFr w obs ρ S) obs' ρ' S' w') : SatA N sl (Lt obs'.length) ρ' S' w' a := by
  have hp : ∀ i, i < obs.length → ρ' i = ρ i ∧ i < obs'.length := fun i hi => h'.pins i (ρ i) (by simp only [ownFr]; rw [if_pos hi])
  exact hA.mono (join_keeps h h') h'.sub (fun i hi => (hp i hi).2) (fun i hi => (hp i hi).1)

theorem join_from (h : SatW w0 S0 obs ρ S w) (h' : SatW w (ownFr w obs ρ S) obs' ρ' S' w') (B : Nat) : KeepsFrom B w w' :=
  ⟨h'.le.size, fun k o _ hk ho => by
    refine (h'.le.block k (Array.getElem?_eq_some_iff.1 hk).1 fun hm => ?_).trans hk
    obtain ⟨⟨o', h1, h2⟩, _⟩ := ownFr_cells h hm
    rw [hk] at h1
    cases h1
    rw [ho] at h2
    cases h2⟩
end
end Go.Pv

/- Ranges over functions: the rounds' code, in its own frame. -/
namespace Go.Pv
open Go.Vc
open Go.RowKit (Below)

section
variable {P : Program} {l0 n : Nat}

theorem rowsIn_of {row : String} {args : Array Value} {w : World} {R : Value → World → Prop} (h : Rows P row args w R) : RowsIn (Fence.wide.inRound l0) n P row args w R :=
  fun c cs _ => let ⟨v, w', r, s⟩ := h c cs; ⟨v, w', r, stepsIn_wide.2 s⟩

def notDefer (o : Oper) : Bool := match o.op with
  | .defer _ => false
  | _ => true

theorem notDefer_spec {o : Oper} (h : notDefer o = true) : ∀ c, o.op ≠ .defer c := by
  intro c e
  simp [notDefer, e] at h

theorem operIn_of {o : Oper} {a : Act} {w : World} {K K' : Act → World → Prop} {Q : Exit → Act → World → Prop} (hd : notDefer o = true) (hK : ∀ a w, K a w → K' a w) (h : o.wp P a w K Q) : o.wpIn (Fence.wide.inRound l0) n P a w K' Q := by
  refine ⟨fun _ _ => trivial, ?_⟩
  rw [Oper.semAt_eq _ _ _ (notDefer_spec hd)]
  unfold Oper.wp at h
  revert h
  generalize (execOp a.eval o).run P w = r
  intro h
  cases r with
  | ok nx w' =>
    cases nx with
    | value v => exact hK _ _ h
    | skip => exact hK _ _ h
    | defer d => exact hK _ _ h
    | enter f args =>
      refine ⟨fun h => (by cases h), ?_⟩
      refine CallsIn.inRound l0 (callsIn_wide.2 (Calls.mono h ?_))
      intro e w' hq
      cases e with
      | returned v => exact hK _ _ hq
      | _ => exact hq
    | row row args => exact ⟨fun h => (by cases h), rowsIn_of (Rows.mono h fun v w' hq => hK _ _ hq)⟩
    | _ => exact h.elim
  | halt s w' =>
    cases s <;> first | exact h | exact h.elim

theorem listIn_of {ops : Array Oper} {Q : Exit → Act → World → Prop} (hQ : ¬ LetsOut Q) : ∀ (l : List Oper), l.all notDefer = true → ∀ {a : Act} {w : World}, wpList P ops Q l a w → wpListIn (Fence.wide.inRound l0) n P ops Q l a w
  | [], _, a, w, h => h
  | o :: r, hd, a, w, h => by
    simp only [List.all_cons, Bool.and_eq_true] at hd
    unfold wpList at h
    unfold wpListIn
    split
    · rename_i hw
      rw [if_pos hw] at h
      rcases h with h | h
      · exact operIn_of hd.1 (fun a w h => listIn_of hQ r hd.2 h) h
      · exact absurd h.2 hQ
    · rename_i hw
      rw [if_neg hw] at h
      exact ⟨fun _ _ => trivial, listIn_of hQ r hd.2 h⟩

def tailB (o : Oper) : Bool := match o.op with
  | .move _ => true
  | .assign _ => true
  | .load _ _ => true
  | .store _ _ _ => true
  | _ => false

theorem tail_noDefer {o : Oper} (ht : tailB o = true) {ρ : Operand → Value} {w w' : World} {d : Deferred} : (execOp ρ o).run P w ≠ .ok (.defer d) w' := by
  obtain ⟨dst, op, type, pos, after, guard⟩ := o
  unfold execOp
  cases op <;> simp only [tailB] at ht <;> first | (cases ht; done) | skip
  · simp
  · simp
  · rename_i t x
    simp only [Sem.run_bind]
    generalize (Instr.loadAt t (ρ x)).run P w = r
    cases r <;> simp [Result.andThen]
  · rename_i t x y
    simp only [Sem.run_bind]
    generalize (Instr.storeAt t (ρ x) (ρ y)).run P w = r
    cases r <;> simp [Result.andThen]

/-- The deferred calls do not matter. -/
theorem list_defers {ops : Array Oper} {Q : Exit → Act → World → Prop} (hQ : ¬ LetsOut Q) (hp : ∀ ch a w, ¬ Q (.panic ch) a w) (D : List Deferred) : ∀ (l : List Oper), l.all tailB = true → ∀ {a : Act} {w : World}, wpList P ops Q l a w →
    wpList P ops (fun e a' w' => ∃ a'', Q e a'' w' ∧ a' = { a'' with defers := D }) l { a with defers := D } w
  | [], _, a, w, h => ⟨a, h, rfl⟩
  | o :: r, hd, a, w, h => by
    simp only [List.all_cons, Bool.and_eq_true] at hd
    unfold wpList at h ⊢
    have hput : ∀ (v : Value), ({ a with defers := D } : Act).put o.dst v = { a.put o.dst v with defers := D } := by
      intro v
      unfold Act.put
      cases o.dst <;> rfl
    split
    · rename_i hw
      rw [if_pos hw] at h
      rcases h with h | h
      · left
        unfold Oper.wp at h ⊢
        have hev : ({ a with defers := D } : Act).eval = a.eval := rfl
        rw [hev]
        revert h
        generalize hres : (execOp a.eval o).run P w = res
        intro h
        cases res with
        | ok nx w' =>
          cases nx with
          | value v => show wpList _ _ _ _ _ _; rw [hput]; exact list_defers hQ hp D r hd.2 h
          | skip => show wpList _ _ _ _ _ _; rw [hput]; exact list_defers hQ hp D r hd.2 h
          | defer d => exact absurd hres (tail_noDefer hd.1)
          | enter f args =>
            refine Calls.mono h ?_
            intro e w' hq
            cases e with
            | returned v => show wpList _ _ _ _ _ _; rw [hput]; exact list_defers hQ hp D r hd.2 hq
            | panicked ch => exact absurd hq (hp _ _ _)
            | outgrown => exact absurd hq hQ
          | row row args => exact Rows.mono h fun v w' hq => by show wpList _ _ _ _ _ _; rw [hput]; exact list_defers hQ hp D r hd.2 hq
          | _ => exact h.elim
        | halt s w' =>
          cases s <;> first | exact absurd h (hp _ _ _) | exact h.elim
      · exact absurd h.2 hQ
    · rename_i hw
      rw [if_neg hw] at h
      rw [hput]
      exact list_defers hQ hp D r hd.2 h
end

/-- Code that a round may be of. -/
def simpleB : Code → Bool
  | .skip => true
  | .seq a b => simpleB a && simpleB b
  | .cond _ a b => simpleB a && simpleB b
  | .block _ b => simpleB b
  | .exit _ => true
  | .ret => true
  | .region _ ops d => !d && ops.toList.all notDefer
  | _ => false

theorem qk_out {w0 : World} {S0 : Fr} {N : Nat} {kn kr : K} {kx : Nat → K} : ¬ LetsOut (QK w0 S0 N kn kr kx) := fun ⟨_, _, h⟩ => h

theorem round_sound {w0 : World} {S0 : Fr} {P : Program} {F : Nat} {T : Tab} {N l0 n : Nat} (hT : TabOk P T) (hF : ∀ f, 2 < f → f < F → FnOk P f) : ∀ (c : Code), simpleB c = true → ∀ (kn kr : K) (kx : Nat → K) (sl : Slots) (obs : Obs) (ρ : Nat → Value) (S : Nat → Prop) (a : Act) (w : World),
    vcCode P F T N c kn kr kx sl obs → SatA N sl (Lt obs.length) ρ S w a → SatW w0 S0 obs ρ S w → c.wpIn (Fence.wide.inRound l0) n P (QK w0 S0 N kn kr kx) a w
  | .skip, _, kn, kr, kx, sl, obs, ρ, S, a, w, h, hA, hW => wpIn_skip ⟨sl, obs, ρ, S, h, hA, hW⟩
  | .seq x y, hd, kn, kr, kx, sl, obs, ρ, S, a, w, h, hA, hW => by
    simp only [simpleB, Bool.and_eq_true] at hd
    refine wpIn_seq (wpIn_mono (round_sound hT hF x hd.1 _ kr kx sl obs ρ S a w h hA hW) ?_)
    intro e a' w' hq
    cases e with
    | normal =>
      obtain ⟨sl', obs', ρ', S', hk, hA', hW'⟩ := hq
      exact round_sound hT hF y hd.2 kn kr kx sl' obs' ρ' S' a' w' hk hA' hW'
    | _ => exact hq
  | .cond c x y, hd, kn, kr, kx, sl, obs, ρ, S, a, w, h, hA, hW => by
    simp only [simpleB, Bool.and_eq_true] at hd
    obtain ⟨sv, h, hden⟩ := ev_spec hA h
    split at h
    · exact wpIn_cond_true (den_kb hden) (round_sound hT hF x hd.1 kn kr kx sl obs ρ S a w h hA hW)
    · exact wpIn_cond_false (den_kb hden) (round_sound hT hF y hd.2 kn kr kx sl obs ρ S a w h hA hW)
    · exact wpIn_cond_split (den_pv hden) (fun e => round_sound hT hF x hd.1 kn kr kx sl obs ρ S a w (h.1 e) hA hW) (fun e => round_sound hT hF y hd.2 kn kr kx sl obs ρ S a w (h.2 e) hA hW)
    · exact h.elim
  | .block id b, hd, kn, kr, kx, sl, obs, ρ, S, a, w, h, hA, hW => by
    simp only [simpleB] at hd
    refine wpIn_block (wpIn_mono (round_sound hT hF b hd kn kr _ sl obs ρ S a w h hA hW) ?_)
    intro e a' w' hq
    cases e with
    | exit i =>
      simp only [Exit.inBlock]
      by_cases hi : i = id
      · subst hi
        rw [if_pos rfl]
        simpa [QK] using hq
      · rw [if_neg hi]
        have : Nat.beq i id = false := by rw [Bool.eq_false_iff]; intro h'; exact hi (Nat.eq_of_beq_eq_true h')
        simpa [QK, this] using hq
    | _ => exact hq
  | .exit i, _, kn, kr, kx, sl, obs, ρ, S, a, w, h, hA, hW => wpIn_exit ⟨sl, obs, ρ, S, h, hA, hW⟩
  | .ret, _, kn, kr, kx, sl, obs, ρ, S, a, w, h, hA, hW => wpIn_ret ⟨sl, obs, ρ, S, h, hA, hW⟩
  | .region id ops d, hd, kn, kr, kx, sl, obs, ρ, S, a, w, h, hA, hW => by
    simp only [simpleB, Bool.and_eq_true, Bool.not_eq_true'] at hd
    obtain ⟨rfl, hd⟩ := hd
    obtain ⟨obs', ρ', h, hA, hW⟩ := gh_spec (show vcGh ops.toList (vcOps P F T N ops.toList ops.toList kn) sl obs from h) hA hW
    refine wpIn_region_list (listIn_of qk_out _ hd ?_)
    simpa using vcOps_sound hT hF ops.toList (QK w0 S0 N kn kr kx) (fun a w h => h) ops.toList h hA hW
  | .loop _, hd, kn, kr, kx, sl, obs, ρ, S, a, w, h, hA, hW => by cases hd
  | .rangeFunc _ _ _ _, hd, kn, kr, kx, sl, obs, ρ, S, a, w, h, hA, hW => by cases hd
  | .scope _, hd, kn, kr, kx, sl, obs, ρ, S, a, w, h, hA, hW => by cases hd
  | .label _, hd, kn, kr, kx, sl, obs, ρ, S, a, w, h, hA, hW => by cases hd
  | .goto _, hd, kn, kr, kx, sl, obs, ρ, S, a, w, h, hA, hW => by cases hd
  | .refuse _, hd, kn, kr, kx, sl, obs, ρ, S, a, w, h, hA, hW => by cases hd

/-! ### The slots of a round -/

def putPs (N : Nat) : List Nat → List PV → Slots → (Slots → Prop) → Prop
  | [], [], sl, k => k sl
  | t :: r, y :: ys, sl, k => bif Nat.blt t N then putPs N r ys ((t, .p y) :: sl) k else False
  | _, _, _, _ => False

theorem putPs_spec {N : Nat} {nn : Nat → Prop} {ρ : Nat → Value} {S : Nat → Prop} {w : World} {k : Slots → Prop} : ∀ (ps : List Nat) (ys : List PV) (vs : List Value) {sl : Slots} {tm : Array Value}, putPs N ps ys sl k → RepL (Rep w S) ys vs → SatA N sl nn ρ S w { tmps := tm, defers := [] } →
    ps.length = vs.length ∧ ∃ sl', k sl' ∧ SatA N sl' nn ρ S w { tmps := (ps.zip vs).foldl (fun t p => t.setIfInBounds p.1 p.2) tm, defers := [] }
  | [], [], vs, sl, tm, h, hr, hA => by
    have : vs = [] := List.eq_nil_of_length_eq_zero hr.1.symm
    subst this
    exact ⟨rfl, sl, h, hA⟩
  | t :: r, y :: ys, [], sl, tm, h, hr, hA => by have := hr.1; simp at this
  | t :: r, y :: ys, v :: vs, sl, tm, h, hr, hA => by
    simp only [putPs, cond_false_iff] at h
    have ht : t < N := by simpa [Nat.blt_eq] using h.1
    have hy : Rep w S y v := hr.2 0 y v rfl rfl
    have hA' : SatA N ((t, .p y) :: sl) nn ρ S w { tmps := tm.setIfInBounds t v, defers := [] } := by
      refine ⟨by simpa using hA.size, rfl, fun u => ?_⟩
      rw [get_cons]
      have hs : tm.size = N := hA.size
      split
      · rename_i e
        subst e
        simp only [Array.getD_eq_getD_getElem?, Array.getElem?_setIfInBounds]
        rw [if_pos trivial, if_pos (by omega)]
        exact .p hy
      · rename_i e
        simp only [Array.getD_eq_getD_getElem?, Array.getElem?_setIfInBounds]
        rw [if_neg e]
        have := hA.slots u
        simpa [Array.getD_eq_getD_getElem?] using this
    obtain ⟨h1, sl', h2, h3⟩ := putPs_spec r ys vs h.2 ⟨by have := hr.1; simpa using this, fun j p x hp hx => hr.2 (j + 1) p x (by simpa using hp) (by simpa using hx)⟩ hA'
    exact ⟨by simp [h1], sl', h2, h3⟩
  | [], _ :: _, _, _, _, h, _, _ => h.elim
  | _ :: _, [], _, _, _, h, _, _ => h.elim

/-! ### The statement -/

/-- A function that goes over a list: it hands the elements to yield, one behind the other. Sy: what nobody changes any more. -/
def Iter (P : Program) (g : FuncId) (b : List PV) (xs : List (List PV)) : Prop :=
  ∀ (w : World) (S : Nat → Prop) (lb : List Value), (∀ b, S b → b < w.heap.size) → RepL (Rep w S) b lb →
    ∀ (l : Nat) (J : Nat → (Nat → Prop) → World → Prop) (Jx : World → Prop), (∀ i Sy W W', J i Sy W → Le W W' → J i Sy W') → (∀ W W', Jx W → Le W W' → Jx W') →
      (∀ i Sy W0 W S1 ps vs m, xs[i]? = some ps → J i Sy W0 → Le W0 W → (∀ b, Sy b → S1 b) → (∀ b, S1 b → Sy b ∨ W0.heap.size ≤ b) → (∀ b, S1 b → b < W.heap.size) → RepL (Rep W S1) ps vs →
        YieldAt Fence.wide m P l vs.toArray W fun e W' => (e = .returned (.bool true) ∧ J (i + 1) S1 W' ∧ Keeps S1 W W') ∨ (e = .returned (.bool false) ∧ Jx W')) →
      ∀ n, J 0 S w → CallsIn Fence.wide n P g (#[.func (.yield l) #[] #[]] ++ lb.toArray) w fun e W' => (∃ v, e = .returned v) ∧ ((∃ Sy, J xs.length Sy W') ∨ Jx W')

def atHead {X : Type} (N : Nat) (L : LSpec X) (obsE : Obs) (sl : Slots) (x : X) (k : Slots → Obs → Prop) : Prop :=
  fL (headObs L x obsE) fun obs1 => putAll N x L.slots sl fun sl2 => setRows N x L.rows sl2 obs1 fun sl3 obs2 => setNRows N x L.nrows sl3 obs2 fun sl4 obs3 => setCells x L.cells obs3 fun obs4 => k sl4 obs4

def vcRange (P : Program) (F : Nat) (T : Tab) (N : Nat) (g : Operand) (ps : Array Tmp) (asg bd : Code) (kn kr : K) : K := fun sl obs =>
  ev sl g fun g => match g with
    | .p (.fn (.func gf) [] b) => bif Nat.blt 2 gf && Nat.blt gf F then ∃ xs, Iter P gf b xs ∧ ∃ L : LSpec Nat,
        fL (killCells obs L.cells obs) fun obsE => isAt L obsE 0 sl obs ∧
          (∀ i pv, xs[i]? = some pv → L.inv i → atHead N L obsE sl i fun sl4 obs4 => sl4 = sl ∧ putPs N ps.toList pv sl4 fun sl5 =>
            vcCode P F T N asg (fun sl6 obs6 => vcCode P F T N bd (fun _ obs7 => isAt L obsE (i + 1) sl obs7) (fun _ obs7 => kr sl obs7) (fun _ _ _ => False) sl6 obs6) (fun _ _ => False) (fun _ _ _ => False) sl5 obs4) ∧
          (L.inv xs.length → atHead N L obsE sl xs.length fun sl4 obs4 => sl4 = sl ∧ kn sl4 obs4)
      else False
    | _ => False

theorem turned_put {w0 w : World} {l : Nat} {o o' : Obj} (hl : w0.heap.size ≤ l) (h : w.heap[l]? = some o) (ho : o.isCells = false) : Turned w0.heap.size w (w.putObj l o') :=
  ⟨some l, grownBy_putObj' w l o', fun r e => by cases e; exact ⟨hl, o, h, ho⟩⟩

theorem keeps_put {S : Nat → Prop} {w : World} {l : Nat} {o : Obj} (h : ∀ b, S b → b ≠ l) : Keeps S w (w.putObj l o) := fun b hb => World.putObj_heap_other (h b hb)

theorem keeps_le {S : Nat → Prop} {w w' : World} (hlt : ∀ b, S b → b < w.heap.size) (h : Le w w') : Keeps S w w' := fun b hb => Below.block h b (hlt b hb)

section
variable {w0 : World} {S0 : Fr} {P : Program} {F : Nat} {T : Tab} {N : Nat}

theorem range_sound (hT : TabOk P T) (hF : ∀ f, 2 < f → f < F → FnOk P f) {g : Operand} {ps : Array Tmp} {asg bd : Code} (hs1 : simpleB asg = true) (hs2 : simpleB bd = true) {kn kr : K} {sl : Slots} {obs : Obs} {ρ : Nat → Value} {S : Nat → Prop} {a : Act} {w : World}
    (h : vcRange P F T N g ps asg bd kn kr sl obs) (hA : SatA N sl (Lt obs.length) ρ S w a) (hW : SatW w0 S0 obs ρ S w) {Q : Exit → Act → World → Prop} {n : Nat}
    (hn : ∀ D W, Kpost w0 S0 N kn a W → W.heap[D]? = some (.deferred (some [])) → w0.heap.size ≤ D → Q .normal { a with defers := [{ target := .collected D, args := #[] }] } W)
    (hr : ∀ D W, Kpost w0 S0 N kr a W → W.heap[D]? = some (.deferred (some [])) → w0.heap.size ≤ D → Q .ret { a with defers := [{ target := .collected D, args := #[] }] } W) :
    (Code.rangeFunc g ps asg bd).wpIn Fence.wide n P Q a w := by
  unfold vcRange at h
  obtain ⟨sv, h, hden⟩ := ev_spec hA h
  split at h
  case h_2 => exact h.elim
  rename_i gf b
  rw [cond_false_iff, Bool.and_eq_true] at h
  obtain ⟨⟨hg1, hg2⟩, xs, hiter, L, h⟩ := h
  rw [fL_iff] at h
  obtain ⟨hat0, hround, hend⟩ := h
  have hr0 : ∀ (i : Nat) (o : Ob), obs[i]? = some o → RefsOb (Lt obs.length) o := fun i o ho => (hW.objs i o ho).refs
  obtain ⟨l2, r2⟩ := killCells_spec obs L.cells _ hr0
  generalize hE : killCells obs L.cells obs = obsE at hat0 hround hend l2 r2
  have hrefs : ∀ t, RefsIn (Lt obsE.length) (sl.get t) := fun t => by rw [l2]; exact (hA.slots t).refs
  have hRE : ∀ (i : Nat) (ob : Ob), obsE[i]? = some ob → RefsOb (Lt obsE.length) ob := by rw [l2]; exact r2
  have hpin : ∀ i v, S0.pin i = some v → i < obsE.length := fun i v hp => by rw [l2]; exact (hW.pins i v hp).2
  obtain ⟨lb, hgv, hrb⟩ : ∃ lb : List Value, a.eval g = .func (.func gf) #[] lb.toArray ∧ RepL (Rep w S) b lb := by
    have hd := den_p hden
    generalize a.eval g = gv at hd
    cases hd with
    | fn ha hb h1 h2 =>
      rename_i xa xb
      have : xa = [] := List.eq_nil_of_length_eq_zero (by simpa using ha.symm)
      subst this
      exact ⟨xb, rfl, hb, h2⟩
  have hfg := hF gf (by simpa [Nat.blt_eq] using hg1) (by simpa [Nat.blt_eq] using hg2)
  obtain ⟨fng, hf1, hf2, hf3⟩ := hfg
  have eg := callFunc_spec hf1 hf2 hf3
  have had : a.defers = [] := hA.defs
  refine wpIn_rangeFunc ?_
  intro fn hfn
  obtain ⟨rec, hrec⟩ : ∃ rec : LoopState → Option Code → Loop, rec = fun st pe => { state := st, pending := pe, fn, tmps := a.tmps, params := ps, assign := asg, body := bd, defers := w.heap.size } := ⟨_, rfl⟩
  obtain ⟨W1, hW1⟩ : ∃ W1, (w.alloc (.deferred (some []))).alloc (.loop (rec .ready none)) = W1 := ⟨_, rfl⟩
  have hL1 : W1.heap[w.heap.size + 1]? = some (.loop (rec .ready none)) := by
    rw [← hW1]; have := World.alloc_heap_new (w.alloc (.deferred (some []))) (.loop (rec .ready none)); rwa [World.size_alloc] at this
  have hK1 : W1.heap[w.heap.size]? = some (.deferred (some [])) := by
    rw [← hW1]; exact (Below.heap_alloc _ _ _ (by simp)).trans (World.alloc_heap_new w _)
  have hle1 : Le w W1 := by
    rw [← hW1]; exact ((Below.refl _ w).alloc (Nat.le_refl _) _).alloc (by simp) _
  have hw0 : w0.heap.size ≤ w.heap.size := hW.le.size
  refine ⟨w.heap.size + 1, [{ target := .collected w.heap.size, args := #[] }], W1, { target := .fn (.func gf) lb.toArray, args := #[.func (.yield (w.heap.size + 1)) #[] #[]] }, W1, gf,
    #[.func (.yield (w.heap.size + 1)) #[] #[]] ++ lb.toArray, W1, ?_, ?_, ?_, ?_, fun h => (by cases h), ?_⟩
  · rw [← hW1, hrec]; exact run_enterLoop_outer _ _ _ _ _
  · simp only [resolve, hgv]
    simp [go_sem]
  · intro f' _; trivial
  · simp [invoke, go_sem, eg]
  let I : Nat → (Nat → Prop) → World → Prop := fun i Sy W => ∃ obsc ρc Sc, SatA N sl (Lt obsc.length) ρc Sc W a ∧ SatW w0 S0 obsc ρc Sc W ∧ (∀ b, Sy b → Sc b ∧ b ≠ w.heap.size + 1) ∧ isAt L obsE i sl obsc
  let Ix : World → Prop := fun W => Kpost w0 S0 N kr a W
  have hSlt := hW.lt
  have hrb1 : RepL (Rep W1 S) b lb := ⟨hrb.1, fun j p x hp hx => (hrb.2 j p x hp hx).mono (keeps_le hSlt hle1) (fun _ h => h)⟩
  refine (hiter W1 S lb (fun b hb => Nat.lt_of_lt_of_le (hSlt b hb) (Below.size hle1)) hrb1 (w.heap.size + 1)
      (fun i Sy W => I i Sy W ∧ W.heap[w.heap.size + 1]? = some (.loop (rec .ready none)) ∧ W.heap[w.heap.size]? = some (.deferred (some [])))
      (fun W => Ix W ∧ W.heap[w.heap.size + 1]? = some (.loop (rec .done (some .ret))) ∧ W.heap[w.heap.size]? = some (.deferred (some []))) ?_ ?_ ?_ _ ⟨?_, hL1, hK1⟩).mono ?_
  · rintro i Sy W W' ⟨⟨obsc, ρc, Sc, h1, h2, h3, h4⟩, hl, hd⟩ hle
    refine ⟨⟨obsc, ρc, Sc, h1.mono (h2.keeps hle) (fun _ h => h) (fun _ h => h) (fun _ _ => rfl), h2.mono hle, h3, h4⟩, ?_, ?_⟩
    · rw [Below.block hle _ (Array.getElem?_eq_some_iff.1 hl).1, hl]
    · rw [Below.block hle _ (Array.getElem?_eq_some_iff.1 hd).1, hd]
  · rintro W W' ⟨⟨slc, obsc, ρc, Sc, h0, h1, h2⟩, hl, hd⟩ hle
    refine ⟨⟨slc, obsc, ρc, Sc, h0, h1.mono (h2.keeps hle) (fun _ h => h) (fun _ h => h) (fun _ _ => rfl), h2.mono hle⟩, ?_, ?_⟩
    · rw [Below.block hle _ (Array.getElem?_eq_some_iff.1 hl).1, hl]
    · rw [Below.block hle _ (Array.getElem?_eq_some_iff.1 hd).1, hd]
  · -- one round
    rintro i Sy W0 W S1 pv vs m hx ⟨⟨obsc, ρc, Sc0, hAc, hWc, hsub0, hat⟩, hl, hk⟩ hle hS1 hS1n hS1l hrep
    have hlt0 : w.heap.size + 1 < W0.heap.size := (Array.getElem?_eq_some_iff.1 hl).1
    have hne : ∀ b, S1 b → b ≠ w.heap.size + 1 := fun b hb => by
      rcases hS1n b hb with h | h
      · exact (hsub0 b h).2
      · omega
    rw [← Below.block hle _ (Array.getElem?_eq_some_iff.1 hl).1] at hl
    rw [← Below.block hle _ (Array.getElem?_eq_some_iff.1 hk).1] at hk
    obtain ⟨Sc, hSc⟩ : ∃ Sc : Nat → Prop, Sc = fun b => Sc0 b ∨ S1 b := ⟨_, rfl⟩
    have hsub : ∀ b, S1 b → Sc b := fun b hb => by rw [hSc]; exact .inr hb
    replace hAc : SatA N sl (Lt obsc.length) ρc Sc W a := hAc.mono (hWc.keeps hle) (fun b hb => by rw [hSc]; exact .inl hb) (fun _ h => h) (fun _ _ => rfl)
    replace hWc : SatW w0 S0 obsc ρc Sc W := hWc.grow hle (fun b hb => by rw [hSc]; exact .inl hb) (fun b hb => by
      rw [hSc] at hb
      rcases hb with hb | hb
      · exact .inl hb
      · exact (hS1n b hb).imp (fun h => (hsub0 b h).1) id) (fun b hb => by
      rw [hSc] at hb
      rcases hb with hb | hb
      · exact Nat.lt_of_lt_of_le (hWc.lt b hb) (Below.size hle)
      · exact hS1l b hb)
    obtain ⟨sl4, obs4, ρ4, ⟨rfl, hv⟩, hA4, hW4⟩ := rehead (k := fun sl4 obs4 => sl4 = sl ∧ _) i L hRE hrefs hpin hAc hWc (fun t => .inl rfl) hat (hround i pv hx hat.2.2.2)
    obtain ⟨tm, df⟩ := a
    simp only at had
    subst had
    obtain ⟨hlen, sl5, hv5, hA5⟩ := putPs_spec ps.toList pv vs hv ⟨hrep.1, fun j p x hp hx => (hrep.2 j p x hp hx).mono (fun _ _ => rfl) hsub⟩ hA4
    have hy := run_yield (P := P) (args := vs.toArray) hl (by rw [hrec]; simpa using hlen.symm)
    rw [hrec] at hy
    refine ⟨fn, _, asg, bd, hy, roundIn_of_wpIn trivial ?_⟩
    clear hy
    have hz : (ps.zip vs.toArray).foldl (fun t (p : Tmp × Value) => t.setIfInBounds p.1 p.2) tm = (ps.toList.zip vs).foldl (fun t p => t.setIfInBounds p.1 p.2) tm := by
      rw [← Array.foldl_toList]; simp
    refine wpIn_mono (round_sound (w0 := W) (S0 := ownFr W obs4 ρ4 Sc) hT hF asg hs1 _ _ _ sl5 obs4 ρ4 Sc _ W hv5 (by rw [← hz] at hA5; exact hA5) hW4.self) ?_
    intro e a1 Wa hq
    cases e with
    | normal =>
      obtain ⟨sl6, obs6, ρ6, S6, hv6, hA6, hW6⟩ := hq
      have hJ6 := hW4.join hW6
      have hAe6 := SatA.join hA4 hW4 hW6
      have hl6 := (join_from hW4 hW6 0).same _ _ (Nat.zero_le _) hl rfl
      have hk6 := (join_from hW4 hW6 0).same _ _ (Nat.zero_le _) hk rfl
      refine ⟨_, run_beginRound hl6 (by rw [hrec]), ?_⟩
      have ht : Turned w0.heap.size Wa (Wa.putObj (w.heap.size + 1) (.loop { rec .ready none with state := .busy })) := turned_put (by omega) hl6 rfl
      have hlt : w.heap.size + 1 < Wa.heap.size := (Array.getElem?_eq_some_iff.1 hl6).1
      have hlB : (Wa.putObj (w.heap.size + 1) (.loop { rec .ready none with state := .busy })).heap[w.heap.size + 1]? = some (.loop { rec .ready none with state := .busy }) := World.putObj_heap_same hlt
      have hkB : (Wa.putObj (w.heap.size + 1) (.loop { rec .ready none with state := .busy })).heap[w.heap.size]? = some (.deferred (some [])) := (World.putObj_heap_other (by omega)).trans hk6
      have hKB : Keeps S1 W (Wa.putObj (w.heap.size + 1) (.loop { rec .ready none with state := .busy })) := fun b hb => by
        rw [World.putObj_heap_other (hne b hb), join_keeps hW4 hW6 b (hsub b hb)]
      generalize Wa.putObj (w.heap.size + 1) (.loop { rec .ready none with state := .busy }) = Wb at ht hlB hkB hKB
      have hWB := hJ6.turn ht
      have hAB := hAe6.turn ht
      refine wpIn_mono (round_sound (w0 := Wb) (S0 := ownFr Wb obs6 ρ6 S6) hT hF bd hs2 _ _ _ sl6 obs6 ρ6 S6 _ Wb hv6 (hA6.turn ht) hWB.self) ?_
      intro e a3 W3 hq
      have fin : ∀ (jump : Option Code) (obs7 : Obs) (ρ7 : Nat → Value) (S7 : Nat → Prop), SatW Wb (ownFr Wb obs6 ρ6 S6) obs7 ρ7 S7 W3 →
          (Instr.endRound (w.heap.size + 1) jump).run P W3 = .ok (.bool jump.isNone) (W3.putObj (w.heap.size + 1) (.loop (rec (if jump.isNone then .ready else .done) jump))) ∧
          SatA N sl4 (Lt obs7.length) ρ7 S7 (W3.putObj (w.heap.size + 1) (.loop (rec (if jump.isNone then .ready else .done) jump))) { tmps := tm, defers := [] } ∧
          SatW w0 S0 obs7 ρ7 S7 (W3.putObj (w.heap.size + 1) (.loop (rec (if jump.isNone then .ready else .done) jump))) ∧
          (∀ b, S1 b → S7 b) ∧ Keeps S1 W (W3.putObj (w.heap.size + 1) (.loop (rec (if jump.isNone then .ready else .done) jump))) ∧
          (W3.putObj (w.heap.size + 1) (.loop (rec (if jump.isNone then .ready else .done) jump))).heap[w.heap.size + 1]? = some (.loop (rec (if jump.isNone then .ready else .done) jump)) ∧
          (W3.putObj (w.heap.size + 1) (.loop (rec (if jump.isNone then .ready else .done) jump))).heap[w.heap.size]? = some (.deferred (some [])) := by
        intro jump obs7 ρ7 S7 hW7
        have hl3 := (join_from hWB hW7 0).same _ _ (Nat.zero_le _) hlB rfl
        have hk3 := (join_from hWB hW7 0).same _ _ (Nat.zero_le _) hkB rfl
        have hrun := run_endRound (P := P) jump hl3
        have ht3 : ∀ o', Turned w0.heap.size W3 (W3.putObj (w.heap.size + 1) o') := fun o' => turned_put (by omega) hl3 rfl
        have hs6 : ∀ b, S1 b → S6 b := fun b hb => hW6.sub b (hsub b hb)
        refine ⟨by rw [hrec] at hrun ⊢; exact hrun, (SatA.join hAB hWB hW7).turn (ht3 _), (hWB.join hW7).turn (ht3 _), fun b hb => hW7.sub b (hs6 b hb), fun b hb => ?_, World.putObj_heap_same (Array.getElem?_eq_some_iff.1 hl3).1, (World.putObj_heap_other (by omega)).trans hk3⟩
        rw [World.putObj_heap_other (hne b hb), join_keeps hWB hW7 b (hs6 b hb), hKB b hb]
      cases e with
      | normal =>
        obtain ⟨sl7, obs7, ρ7, S7, hat7, _, hW7⟩ := hq
        obtain ⟨h1, h2, h3, h4, h5, h6, h7⟩ := fin none obs7 ρ7 S7 hW7
        exact ⟨_, _, h1, .inl ⟨rfl, ⟨⟨obs7, ρ7, S7, h2, h3, fun b hb => ⟨h4 b hb, hne b hb⟩, hat7⟩, h6, h7⟩, h5⟩⟩
      | ret =>
        obtain ⟨sl7, obs7, ρ7, S7, hk7, _, hW7⟩ := hq
        obtain ⟨h1, h2, h3, h4, h5, h6, h7⟩ := fin (some .ret) obs7 ρ7 S7 hW7
        exact ⟨_, _, h1, .inr ⟨rfl, ⟨sl4, obs7, ρ7, S7, hk7, h2, h3⟩, h6, h7⟩⟩
      | exit id => obtain ⟨_, _, _, _, h, _⟩ := hq; exact h.elim
      | _ => exact hq.elim
    | ret => obtain ⟨_, _, _, _, h, _⟩ := hq; exact h.elim
    | exit id => obtain ⟨_, _, _, _, h, _⟩ := hq; exact h.elim
    | _ => exact hq.elim
  · exact ⟨obs, ρ, S, hA.mono (hW.keeps hle1) (fun _ h => h) (fun _ h => h) (fun _ _ => rfl), hW.mono hle1, fun b h => ⟨h, by have := hSlt b h; omega⟩, hat0⟩
  · rintro e W2 ⟨⟨v, rfl⟩, ⟨Sy, ⟨obsc, ρc, Sc, hAc, hWc, hsub, hat⟩, hl, hk⟩ | ⟨⟨slc, obsc, ρc, Sc, hkr, hAc, hWc⟩, hl, hk⟩⟩
    · have ht3 : ∀ o', Turned w0.heap.size W2 (W2.putObj (w.heap.size + 1) o') := fun o' => turned_put (by omega) hl rfl
      obtain ⟨sl4, obs4, ρ4, ⟨rfl, hv⟩, hA4, hW4⟩ := rehead (k := fun sl4 obs4 => sl4 = sl ∧ _) xs.length L hRE hrefs hpin hAc hWc (fun t => .inl rfl) hat (hend hat.2.2.2)
      refine ⟨none, _, by have := run_endLoop (P := P) hl (by rw [hrec]; simp); rw [hrec] at this; exact this, ?_⟩
      rw [had]
      exact hn _ _ ⟨_, obs4, ρ4, Sc, hv, hA4.turn (ht3 _), hW4.turn (ht3 _)⟩ ((World.putObj_heap_other (by omega)).trans hk) hw0
    · have ht3 : ∀ o', Turned w0.heap.size W2 (W2.putObj (w.heap.size + 1) o') := fun o' => turned_put (by omega) hl rfl
      refine ⟨some .ret, _, by have := run_endLoop (P := P) hl (by rw [hrec]; simp); rw [hrec] at this; exact this, ?_⟩
      rw [had]
      exact wpIn_ret (hr _ _ ⟨slc, obsc, ρc, Sc, hkr, hAc.turn (ht3 _), hWc.turn (ht3 _)⟩ ((World.putObj_heap_other (by omega)).trans hk) hw0)
end

/-! ### A function with one such statement, a region and a return behind it -/

def cNoX : Nat → K := fun _ _ _ => False

def vcSp (P : Program) (F : Nat) (T : Tab) (N : Nat) (kr : K) (c : Code) : K :=
  Code.rec (motive := fun _ => K)
    cNo
    (fun _ _ _ => cNo)
    (fun x y _ ihy => match x with
      | .seq R (.block _ (.rangeFunc g ps asg bd)) => match y with
        | .seq (.region _ ops false) .ret => vcCode P F T N R (vcRange P F T N g ps asg bd (vcGh ops.toList (vcOps P F T N ops.toList ops.toList kr)) kr) kr cNoX
        | _ => cNo
      | x => vcCode P F T N x ihy kr cNoX)
    (fun _ _ _ _ _ => cNo)
    (fun _ _ _ => cNo)
    (fun _ _ => cNo)
    (fun _ _ _ _ _ _ => cNo)
    (fun _ => cNo)
    (fun _ _ => cNo)
    (fun _ => cNo)
    (fun _ => cNo)
    cNo
    (fun _ => cNo)
    c

def spB : Code → Bool
  | .seq x y => match x with
    | .seq R (.block _ (.rangeFunc _ _ asg bd)) => drawsB R && (simpleB asg && simpleB bd) && (match y with
      | .seq (.region _ ops false) .ret => ops.toList.all tailB
      | _ => false)
    | x => drawsB x && spB y
  | _ => false

def vcFunR (P : Program) (F : Nat) (T : Tab) (fn : Func) (args : List PV) (obsR : Obs) (r : SV) : Prop :=
  match fn.body with
  | some c => vcSp P F T fn.ntmps (retK T fn.results.toList obsR r) c (initS 0 args) []
  | none => False

/-- How such a function is left. -/
def QM (w0 : World) (S0 : Fr) (N : Nat) (kr : K) : Exit → Act → World → Prop
  | .ret, a, w => Kpost w0 S0 N kr a w ∨ ∃ D, a.defers = [{ target := .collected D, args := #[] }] ∧ Kpost w0 S0 N kr { a with defers := [] } w ∧ w.heap[D]? = some (.deferred (some [])) ∧ w0.heap.size ≤ D
  | _, _, _ => False

section
variable {w0 : World} {S0 : Fr} {P : Program} {F : Nat} {T : Tab} {N : Nat}

theorem tail_sound (hT : TabOk P T) (hF : ∀ f, 2 < f → f < F → FnOk P f) {rid : Nat} {ops : Array Oper} (ht : ops.toList.all tailB = true) {kr : K} {a : Act} {W : World} {D n : Nat} (h : Kpost w0 S0 N (vcGh ops.toList (vcOps P F T N ops.toList ops.toList kr)) a W) (hD : W.heap[D]? = some (.deferred (some []))) (h0 : w0.heap.size ≤ D) :
    (Code.seq (.region rid ops false) .ret).wpIn Fence.wide n P (QM w0 S0 N kr) { a with defers := [{ target := .collected D, args := #[] }] } W := by
  obtain ⟨sl, obs, ρ, S, h, hA, hW⟩ := h
  obtain ⟨obs', ρ', h, hA, hW⟩ := gh_spec h hA hW
  have hl : wpList P ops (QK W (ownFr W obs' ρ' S) N kr cNo cNoX) ops.toList a W := by
    simpa using vcOps_sound hT hF ops.toList (QK W (ownFr W obs' ρ' S) N kr cNo cNoX) (fun a w h => h) ops.toList h hA hW.self
  have hl2 := list_defers qk_out (fun _ _ _ h => h) [{ target := .collected D, args := #[] }] _ ht hl
  refine wpIn_seq (wpIn_wide.2 (wp_mono (wp_region_list hl2) ?_))
  rintro e a' w' ⟨a'', hq, rfl⟩
  cases e with
  | normal =>
    obtain ⟨sl2, obs2, ρ2, S2, hk, hA2, hW2⟩ := hq
    refine wpIn_ret (.inr ⟨D, rfl, ⟨sl2, obs2, ρ2, S2, hk, ?_, hW.join hW2⟩, (join_from hW hW2 0).same _ _ (Nat.zero_le _) hD rfl, h0⟩)
    have := hA2.defs
    obtain ⟨tm, df⟩ := a''
    exact ⟨hA2.size, rfl, hA2.slots⟩
  | ret => obtain ⟨_, _, _, _, h, _⟩ := hq; exact h.elim
  | exit i => obtain ⟨_, _, _, _, h, _⟩ := hq; exact h.elim
  | _ => exact hq.elim

theorem sp_sound (hm : P.follows .mixedOrders = true) (hT : TabOk P T) (hF : ∀ f, 2 < f → f < F → FnOk P f) {kr : K} {n : Nat} : ∀ (c : Code), spB c = true → ∀ {sl : Slots} {obs : Obs} {ρ : Nat → Value} {S : Nat → Prop} {a : Act} {w : World},
    vcSp P F T N kr c sl obs → SatA N sl (Lt obs.length) ρ S w a → SatW w0 S0 obs ρ S w → c.wpIn Fence.wide n P (QM w0 S0 N kr) a w
  | .seq x y, hd, sl, obs, ρ, S, a, w, h, hA, hW => by
    replace h : (match x with
      | .seq R (.block _ (.rangeFunc g ps asg bd)) => match y with
        | .seq (.region _ ops false) .ret => vcCode P F T N R (vcRange P F T N g ps asg bd (vcGh ops.toList (vcOps P F T N ops.toList ops.toList kr)) kr) kr cNoX
        | _ => cNo
      | x => vcCode P F T N x (vcSp P F T N kr y) kr cNoX) sl obs := h
    unfold spB at hd
    split at h
    · rename_i R id g ps asg bd
      simp only [Bool.and_eq_true] at hd
      obtain ⟨⟨hd1, hd2, hd3⟩, hd4⟩ := hd
      split at h
      · rename_i rid ops
        refine wpIn_seq (wpIn_seq (wpIn_wide.2 (wp_mono (vcCode_sound hm hT hF R hd1 _ _ _ _ _ _ _ _ _ h hA hW) ?_)))
        intro e a1 w1 hq
        cases e with
        | normal =>
          obtain ⟨sl1, obs1, ρ1, S1, hk, hA1, hW1⟩ := hq
          refine wpIn_block (range_sound hT hF hd2 hd3 hk hA1 hW1 ?_ ?_)
          · intro D W hp hD h0
            exact tail_sound hT hF hd4 hp hD h0
          · intro D W hp hD h0
            refine .inr ⟨D, rfl, ?_, hD, h0⟩
            obtain ⟨sl2, obs2, ρ2, S2, hk, hA2, hW2⟩ := hp
            exact ⟨sl2, obs2, ρ2, S2, hk, ⟨hA2.size, rfl, hA2.slots⟩, hW2⟩
        | ret => exact .inl hq
        | exit i => obtain ⟨_, _, _, _, h, _⟩ := hq; exact h.elim
        | _ => exact hq.elim
      · exact h.elim
    · rename_i hx
      have hd : (drawsB x && spB y) = true := by
        split at hd
        · exact absurd rfl (hx _ _ _ _ _ _)
        · exact hd
      rw [Bool.and_eq_true] at hd
      refine wpIn_seq (wpIn_wide.2 (wp_mono (vcCode_sound hm hT hF x hd.1 _ _ _ _ _ _ _ _ _ h hA hW) ?_))
      intro e a1 w1 hq
      cases e with
      | normal =>
        obtain ⟨sl1, obs1, ρ1, S1, hk, hA1, hW1⟩ := hq
        exact sp_sound hm hT hF y hd.2 hk hA1 hW1
      | ret => exact .inl hq
      | exit i => obtain ⟨_, _, _, _, h, _⟩ := hq; exact h.elim
      | _ => exact hq.elim

theorem ret_of_range (hm : P.follows .mixedOrders = true) (hT : TabOk P T) (hF : ∀ f, 2 < f → f < F → FnOk P f) {f : FuncId} {fn : Func} (hf : P.funcs[f]? = some fn) (hd : (match fn.body with | some c => spB c | none => false) = true) {args : List PV} (hn : args.length ≤ fn.ntmps) {obsR : Obs} {r : SV}
    (h : vcFunR P F T fn args obsR r) : Ret P f args obsR r := by
  intro w S xs hlt hrep
  unfold vcFunR at h
  cases hb : fn.body with
  | none => simp [hb] at h
  | some c =>
    simp only [hb] at h hd
    refine (callsIn_wide (n := 0)).1 (callsIn_of_wp_marks hf hb trivial ?_)
    have hxl : args.length = xs.length := hrep.1
    have hA : SatA fn.ntmps (initS 0 args) (Lt ([] : Obs).length) (fun _ => undef) S w { tmps := xs.toArray ++ Array.replicate (fn.ntmps - xs.toArray.size) undef, defers := [] } := by
      refine ⟨by simp; omega, rfl, fun t => ?_⟩
      rw [get_initS]
      split
      · rename_i ht
        have h1 : t < args.length := by omega
        have h2 : t < xs.length := by omega
        have := hrep.2 t args[t] xs[t] (List.getElem?_eq_getElem h1) (List.getElem?_eq_getElem h2)
        have e1 : (xs.toArray ++ Array.replicate (fn.ntmps - xs.toArray.size) undef).getD t undef = xs[t] := by simp [Array.getElem?_append, h2]
        have e2 : args.getD (t - 0) (.v undef) = args[t] := by simp [List.getD, h1]
        rw [e1, e2]
        exact .p this
      · exact .any _
    have hW : SatW w (Fr.of S) [] (fun _ => undef) S w :=
      ⟨fun i ob hi => by simp at hi, fun i j oi oj b hi => by simp at hi, fun i ob b hi => by simp at hi, fun _ h => h, hlt, fun _ h => .inl h, LeM.refl _ _, fun i hi => by simp at hi, fun i v hp => by cases hp⟩
    refine wpIn_mono (sp_sound hm hT hF c hd h hA hW) ?_
    intro e a' w' hq
    cases e with
    | ret =>
      rcases hq with hq | ⟨D, hD, hq, hh, h0⟩
      · obtain ⟨h1, v, h2, h3⟩ := retK_post hT (fun _ => rfl) hq
        show LeavesInM _ _ _ _ _ _ a'.defers _ _
        rw [h1]
        exact ⟨v, h2, h3⟩
      · have ht : ∀ o', Turned w.heap.size w' (w'.putObj D o') := fun o' => turned_put h0 hh rfl
        have hq' : Kpost w (Fr.of S) fn.ntmps (retK T fn.results.toList obsR r) { a' with defers := [] } (w'.putObj D (.deferred none)) := by
          obtain ⟨sl2, obs2, ρ2, S2, hk, hA2, hW2⟩ := hq
          exact ⟨sl2, obs2, ρ2, S2, hk, hA2.turn (ht _), hW2.turn (ht _)⟩
        obtain ⟨_, v, h2, h3⟩ := retK_post hT (fun _ => rfl) hq'
        show LeavesInM _ _ _ _ _ _ a'.defers _ _
        rw [hD]
        exact ⟨by simp, .inl ⟨D, _, rfl, run_takeDeferred hh, v, h2, h3⟩⟩
    | _ => exact hq.elim
end
end Go.Pv

/- Functions that are ranged over: what they hand to yield. -/
namespace Go.Pv
open Go.Vc
open Go.RowKit (Below)

section
variable {P : Program} {n : Nat}

theorem oper_wide {o : Oper} {a : Act} {w : World} {K K' : Act → World → Prop} {Q Q' : Exit → Act → World → Prop} (hK : ∀ a w, K a w → K' a w) (hp : ∀ ch a w, Q (.panic ch) a w → Q' (.panic ch) a w) (hQ : LetsOut Q → LetsOut Q') (h : o.wp P a w K Q) : o.wpIn Fence.wide n P a w K' Q' := by
  refine ⟨fun _ _ => trivial, ?_⟩
  rw [Fence.wide_round, Oper.semAt_none]
  unfold Oper.wp at h
  revert h
  generalize (execOp a.eval o).run P w = r
  intro h
  cases r with
  | ok nx w' =>
    cases nx with
    | value v => exact hK _ _ h
    | skip => exact hK _ _ h
    | defer d => exact hK _ _ h
    | enter f args =>
      refine ⟨fun h => (by cases h), ?_⟩
      refine callsIn_wide.2 (Calls.mono h ?_)
      intro e w' hq
      cases e with
      | returned v => exact hK _ _ hq
      | panicked ch => exact hp _ _ _ hq
      | outgrown => exact hQ hq
    | row row args => exact ⟨fun h => (by cases h), fun c cs _ => let ⟨v, w', r, s⟩ := Rows.mono h (fun v w' hq => hK _ _ hq) c cs; ⟨v, w', r, stepsIn_wide.2 s⟩⟩
    | _ => exact h.elim
  | halt s w' =>
    cases s <;> first | exact hp _ _ _ h | exact h.elim
end

/-- With the number of elements that have been handed over; none: stopped. -/
abbrev KY := Option Nat → K

def isY (o : Oper) : Bool := match o.op with
  | .call c => match c.callee with
    | .value (.tmp _) => true
    | _ => false
  | _ => false

def pureS : SV → SV
  | .p x => .p x
  | .kb b => .kb b
  | _ => .any

def purify : Slots → Slots
  | [] => []
  | (t, x) :: r => (t, pureS x) :: purify r

def vcYield (N : Nat) (l : Nat) (xs : List (List PV)) (o : Oper) (k : KY) : KY := fun m sl _ => match m with
  | some i => match o.guard with
    | none => match o.op with
      | .call c => match c.callee with
        | .value f => ev sl f fun f => match f with
          | .p (.fn (.yield l') [] []) => l' = l ∧ evs sl c.args.toList fun svs => match pures svs with
            | some ps => xs[i]? = some ps ∧ (put N o.dst (.kb true) (purify sl) fun sl => k (some (i + 1)) sl []) ∧ (put N o.dst (.kb false) [] fun sl => k none sl [])
            | none => False
          | _ => False
        | _ => False
      | _ => False
    | _ => False
  | none => False

def vcYops (P : Program) (F : Nat) (T : Tab) (N l : Nat) (xs : List (List PV)) (all : List Oper) (ops : List Oper) (k : KY) : KY :=
  List.rec (motive := fun _ => KY) k (fun o _ ih m sl obs => bif isY o then vcYield N l xs o ih m sl obs else stepO P F T N all o (fun sl obs => ih m sl obs) sl obs) ops

def hasS : Slots → Slots → Prop
  | [], _ => True
  | (t, x) :: r, sl => (match sl.get t with | .p z => .p z = x | _ => False) ∧ hasS r sl

def vcYloop (body : KY → KY) : KY := fun m sl _ =>
  ∃ (X : Type) (inv : X → Prop) (cnt : X → Nat) (SL : X → Slots) (mu : X → Nat) (x0 : X), (m = some (cnt x0) ∧ inv x0 ∧ hasS (SL x0) sl) ∧
    ∀ x, inv x → body (fun m' sl' _ => ∃ x', mu x' < mu x ∧ m' = some (cnt x') ∧ inv x' ∧ hasS (SL x') sl') (some (cnt x)) (SL x) []

def yNo : KY := fun _ _ _ => False

def vcYc (P : Program) (F : Nat) (T : Tab) (N l : Nat) (xs : List (List PV)) (c : Code) : KY → KY → (Nat → KY) → KY :=
  Code.rec (motive := fun _ => KY → KY → (Nat → KY) → KY)
    (fun kn _ _ => kn)
    (fun _ ops d kn _ _ => match d with
      | false => vcYops P F T N l xs ops.toList ops.toList kn
      | true => yNo)
    (fun _ _ va vb kn kr kx => va (vb kn kr kx) kr kx)
    (fun c _ _ va vb kn kr kx m sl obs => ev sl c fun c => match c with
      | .kb true => va kn kr kx m sl obs
      | .kb false => vb kn kr kx m sl obs
      | .p (.v (.bool q)) => (q = true → va kn kr kx m sl obs) ∧ (q = false → vb kn kr kx m sl obs)
      | _ => False)
    (fun id _ vb kn kr kx => vb kn kr fun i => bif Nat.beq i id then kn else kx i)
    (fun _ vb _ kr kx => vcYloop fun kn => vb kn kr kx)
    (fun _ _ _ _ _ _ _ _ _ => yNo)
    (fun id _ _ kx => kx id)
    (fun _ _ _ _ _ => yNo)
    (fun _ _ _ _ => yNo)
    (fun _ _ _ _ => yNo)
    (fun _ kr _ => kr)
    (fun _ _ _ _ => yNo)
    c

/-- The end: all has been handed over, or it was stopped. -/
def yEnd (xs : List (List PV)) : KY := fun m _ _ => match m with
  | some i => i = xs.length
  | none => True

def vcIter (P : Program) (F : Nat) (T : Tab) (l : Nat) (fn : Func) (b : List PV) (xs : List (List PV)) : Prop :=
  match fn.body with
  | some c => vcYc P F T fn.ntmps l xs c (yEnd xs) (yEnd xs) (fun _ => yNo) (some 0) (initS 0 (.fn (.yield l) [] [] :: b)) []
  | none => False

section
variable {P : Program} {F : Nat} {T : Tab} {N l : Nat} {xs : List (List PV)} {J : Nat → (Nat → Prop) → World → Prop} {Jx : World → Prop}

def YS (J : Nat → (Nat → Prop) → World → Prop) (Jx : World → Prop) (N : Nat) (m : Option Nat) (sl : Slots) (obs : Obs) (a : Act) (W : World) : Prop :=
  ∃ ρ Sy S1 Wy, (match m with | some i => J i Sy Wy | none => Jx Wy) ∧ SatA N sl (Lt obs.length) ρ S1 W a ∧ SatW Wy (Fr.of Sy) obs ρ S1 W

def YPost (J : Nat → (Nat → Prop) → World → Prop) (Jx : World → Prop) (N : Nat) (k : KY) (a : Act) (W : World) : Prop := ∃ m sl obs, k m sl obs ∧ YS J Jx N m sl obs a W

theorem get_purify (t : Nat) : ∀ sl : Slots, (purify sl).get t = pureS (sl.get t)
  | [] => rfl
  | (d, x) :: r => by
    rw [purify, get_cons, get_cons, get_purify t r]
    split <;> rfl

theorem den_pureS {ρ ρ' : Nat → Value} {n n' : Nat → Prop} {w w' : World} {S : Nat → Prop} (hk : Keeps S w w') {x : SV} {v : Value} (h : Den ρ n w S x v) : Den ρ' n' w' S (pureS x) v := by
  cases h with
  | p h => exact .p (h.mono hk fun _ h => h)
  | kb b => exact .kb b
  | _ => exact .any _

theorem satW_nil {Wy : World} {Sy : Nat → Prop} (hlt : ∀ b, Sy b → b < Wy.heap.size) (ρ : Nat → Value) : SatW Wy (Fr.of Sy) [] ρ Sy Wy :=
  ⟨fun i ob hi => by simp at hi, fun i j oi oj b hi => by simp at hi, fun i ob b hi => by simp at hi, fun _ h => h, hlt, fun _ h => .inl h, LeM.refl _ _, fun i hi => by simp at hi, fun i v hp => by cases hp⟩

theorem run_call_yield {o : Oper} {c : Call} {f : Operand} (ho : o.op = .call c) (hc : c.callee = .value f) {ρ : Operand → Value} (hf : ρ f = .func (.yield l) #[] #[]) (w : World) : (execOp ρ o).run P w = (Instr.yield l (c.args.map ρ)).run P w := by
  obtain ⟨dst, op, type, pos, after, guard⟩ := o
  obtain ⟨callee, args, ts⟩ := c
  simp only at ho hc
  subst ho
  subst hc
  simp [execOp, resolve, hf, invoke, go_sem]

/-- What yield comes to. -/
def Yields (P : Program) (l : Nat) (xs : List (List PV)) (J : Nat → (Nat → Prop) → World → Prop) (Jx : World → Prop) : Prop :=
  ∀ i Sy W0 W S1 ps vs m, xs[i]? = some ps → J i Sy W0 → Le W0 W → (∀ b, Sy b → S1 b) → (∀ b, S1 b → Sy b ∨ W0.heap.size ≤ b) → (∀ b, S1 b → b < W.heap.size) → RepL (Rep W S1) ps vs →
    YieldAt Fence.wide m P l vs.toArray W fun e W' => (e = .returned (.bool true) ∧ J (i + 1) S1 W' ∧ Keeps S1 W W') ∨ (e = .returned (.bool false) ∧ Jx W')

/-- Where code is left. -/
def QY (J : Nat → (Nat → Prop) → World → Prop) (Jx : World → Prop) (N : Nat) (kn kr : KY) (kx : Nat → KY) : Exit → Act → World → Prop
  | .normal, a, w => YPost J Jx N kn a w
  | .ret, a, w => YPost J Jx N kr a w
  | .exit i, a, w => YPost J Jx N (kx i) a w
  | _, _, _ => False

theorem kept_lt {S : Nat → Prop} {W W' : World} (hk : Keeps S W W') (hl : ∀ b, S b → b < W.heap.size) : ∀ b, S b → b < W'.heap.size := fun b hb => by
  have h1 := hk b hb
  rw [Array.getElem?_eq_getElem (hl b hb)] at h1
  exact (Array.getElem?_eq_some_iff.1 h1).1

theorem yops_sound (hT : TabOk P T) (hF : ∀ f, 2 < f → f < F → FnOk P f) (hY : Go.Pv.Yields P l xs J Jx) {n : Nat} (all : List Oper) {Q : Exit → Act → World → Prop} {k : KY} (hQ : ∀ a w, YPost J Jx N k a w → Q .normal a w) : ∀ (ops : List Oper) {m : Option Nat} {sl : Slots} {obs : Obs} {a : Act} {w : World},
    vcYops P F T N l xs all ops k m sl obs → YS J Jx N m sl obs a w → wpListIn Fence.wide n P all.toArray Q ops a w
  | [], m, sl, obs, a, w, h, hs => hQ a w ⟨m, sl, obs, h, hs⟩
  | o :: r, m, sl, obs, a, w, h, hs => by
    replace h : (bif isY o then vcYield N l xs o (vcYops P F T N l xs all r k) m sl obs else stepO P F T N all o (fun sl obs => vcYops P F T N l xs all r k m sl obs) sl obs) := h
    cases hy : isY o with
    | false =>
      rw [hy, cond_false] at h
      obtain ⟨ρ, Sy, S1, Wy, hJ, hA, hW⟩ := hs
      have h1 := vcOps_sound (w0 := Wy) (S0 := Fr.of Sy) (N := N) hT hF all (fun e a w => match e with | .normal => wpListIn Fence.wide n P all.toArray Q r a w | _ => False)
        (k := fun sl obs => vcYops P F T N l xs all r k m sl obs) (fun a w hk => by
          obtain ⟨sl', obs', ρ', S', h, hA', hW'⟩ := hk
          exact yops_sound hT hF hY all hQ r h ⟨ρ', Sy, S', Wy, hJ, hA', hW'⟩) [o] (show stepO P F T N all o _ sl obs from h) hA hW
      unfold wpList at h1
      unfold wpListIn
      split
      · rename_i hw
        rw [if_pos hw] at h1
        rcases h1 with h1 | h1
        · exact oper_wide (fun a w h => h) (fun _ _ _ h => h.elim) (fun ⟨_, _, h⟩ => h.elim) h1
        · obtain ⟨_, _, h⟩ := h1.2
          exact h.elim
      · rename_i hw
        rw [if_neg hw] at h1
        exact ⟨fun _ _ => trivial, h1⟩
    | true =>
      rw [hy, cond_true] at h
      unfold vcYield at h
      cases m with
      | none => exact h.elim
      | some i =>
        simp only at h
        cases hg : o.guard with
        | some gd => simp only [hg] at h
        | none =>
          simp only [hg] at h
          split at h
          case h_2 => exact h.elim
          rename_i c ho
          split at h
          case h_2 => exact h.elim
          rename_i f hc
          obtain ⟨ρ, Sy, S1, Wy, hJ, hA, hW⟩ := hs
          obtain ⟨sv, h, hden⟩ := ev_spec hA h
          split at h
          case h_2 => exact h.elim
          rename_i l'
          obtain ⟨hl', h⟩ := h
          rw [hl'] at hden
          obtain ⟨svs, h, hds⟩ := evs_spec hA _ h
          cases hp : pures svs with
          | none => simp only [hp] at h
          | some ps =>
            simp only [hp] at h
            obtain ⟨hx, ht, hf⟩ := h
            have hfv : a.eval f = .func (.yield l) #[] #[] := by
              have hd := den_p hden
              generalize a.eval f = gv at hd
              cases hd with
              | fn ha hb h1 h2 =>
                rename_i xa xb
                have e1 : xa = [] := List.eq_nil_of_length_eq_zero (by simpa using ha.symm)
                have e2 : xb = [] := List.eq_nil_of_length_eq_zero (by simpa using hb.symm)
                subst e1; subst e2; rfl
            have hrep := pures_spec hp hds
            have hwant : Region.wanted o (yielded all.toArray a.tmps) = true := by simp [Region.wanted, hg]
            unfold wpListIn
            rw [if_pos hwant]
            refine ⟨fun _ _ => trivial, ?_⟩
            rw [Fence.wide_round, Oper.semAt_none, run_call_yield ho hc hfv]
            obtain ⟨fn, tmps, asg, bd, hrun, hround⟩ := hY i Sy Wy w S1 ps _ (n - 1) hx hJ hW.toLe hW.sub (fun b hb => (hW.new b hb).imp id (fun h => h.elim id False.elim)) hW.lt hrep
            have hargs : (List.map a.eval c.args.toList).toArray = c.args.map a.eval := by rw [← Array.toList_map]
            rw [hargs] at hrun
            rw [hrun]
            refine ⟨fun h => (by cases h), hround.mono ?_⟩
            rintro e w' (⟨rfl, hJ', hk⟩ | ⟨rfl, hJ'⟩)
            · have hA' : SatA N (purify sl) (Lt ([] : Obs).length) ρ S1 w' a := ⟨hA.size, hA.defs, fun t => by rw [get_purify]; exact den_pureS hk (hA.slots t)⟩
              obtain ⟨sl', hkk, hA2⟩ := hA'.put (v := .bool true) (.kb true) ht
              exact yops_sound hT hF hY all hQ r hkk ⟨ρ, S1, S1, w', hJ', hA2, satW_nil (kept_lt hk hW.lt) ρ⟩
            · have hA' : SatA N [] (Lt ([] : Obs).length) ρ (fun _ => False) w' a := ⟨hA.size, hA.defs, fun t => .any _⟩
              obtain ⟨sl', hkk, hA2⟩ := hA'.put (v := .bool false) (.kb false) hf
              exact yops_sound hT hF hY all hQ r hkk ⟨ρ, fun _ => False, fun _ => False, w', hJ', hA2, satW_nil (fun _ h => h.elim) ρ⟩

theorem hasS_den {nn : Nat → Prop} {ρ : Nat → Value} {S : Nat → Prop} {w : World} {a : Act} {sl : Slots} (hA : SatA N sl nn ρ S w a) : ∀ (s : Slots), hasS s sl → ∀ t, Den ρ (Lt 0) w S (s.get t) (a.tmps.getD t undef)
  | [], _, t => .any _
  | (d, x) :: r, h, t => by
    rw [get_cons]
    split
    · rename_i e
      subst e
      have h1 := h.1
      have hd := hA.slots d
      split at h1
      · rename_i z hz
        rw [hz] at hd
        rw [← h1]
        exact .p (den_p hd)
      · exact h1.elim
    · exact hasS_den hA r h.2 t

theorem yc_sound (hT : TabOk P T) (hF : ∀ f, 2 < f → f < F → FnOk P f) (hY : Go.Pv.Yields P l xs J Jx) {n : Nat} : ∀ (c : Code) (kn kr : KY) (kx : Nat → KY) {m : Option Nat} {sl : Slots} {obs : Obs} {a : Act} {w : World},
    vcYc P F T N l xs c kn kr kx m sl obs → YS J Jx N m sl obs a w → c.wpIn Fence.wide n P (QY J Jx N kn kr kx) a w
  | .skip, kn, kr, kx, m, sl, obs, a, w, h, hs => wpIn_skip ⟨m, sl, obs, h, hs⟩
  | .seq x y, kn, kr, kx, m, sl, obs, a, w, h, hs => by
    refine wpIn_seq (wpIn_mono (yc_sound hT hF hY x _ kr kx h hs) ?_)
    intro e a' w' hq
    cases e with
    | normal =>
      obtain ⟨m', sl', obs', hk, hs'⟩ := hq
      exact yc_sound hT hF hY y kn kr kx hk hs'
    | _ => exact hq
  | .cond c x y, kn, kr, kx, m, sl, obs, a, w, h, hs => by
    obtain ⟨ρ, Sy, S1, Wy, hJ, hA, hW⟩ := id hs
    obtain ⟨sv, h, hden⟩ := ev_spec hA h
    split at h
    · exact wpIn_cond_true (den_kb hden) (yc_sound hT hF hY x kn kr kx h hs)
    · exact wpIn_cond_false (den_kb hden) (yc_sound hT hF hY y kn kr kx h hs)
    · exact wpIn_cond_split (den_pv hden) (fun e => yc_sound hT hF hY x kn kr kx (h.1 e) hs) (fun e => yc_sound hT hF hY y kn kr kx (h.2 e) hs)
    · exact h.elim
  | .block id b, kn, kr, kx, m, sl, obs, a, w, h, hs => by
    refine wpIn_block (wpIn_mono (yc_sound hT hF hY b kn kr _ h hs) ?_)
    intro e a' w' hq
    cases e with
    | exit i =>
      simp only [Exit.inBlock]
      by_cases hi : i = id
      · subst hi
        rw [if_pos rfl]
        simpa [QY] using hq
      · rw [if_neg hi]
        have : Nat.beq i id = false := by rw [Bool.eq_false_iff]; intro h'; exact hi (Nat.eq_of_beq_eq_true h')
        simpa [QY, this] using hq
    | _ => exact hq
  | .exit i, kn, kr, kx, m, sl, obs, a, w, h, hs => wpIn_exit ⟨m, sl, obs, h, hs⟩
  | .ret, kn, kr, kx, m, sl, obs, a, w, h, hs => wpIn_ret ⟨m, sl, obs, h, hs⟩
  | .loop b, kn, kr, kx, m, sl, obs, a, w, h, hs => by
    obtain ⟨X, inv, cnt, SL, mu, x0, ⟨hm, hi0, hs0⟩, hround⟩ := h
    have norm : ∀ {m : Option Nat} {sl : Slots} {obs : Obs} {a : Act} {w : World} (x : X), m = some (cnt x) → hasS (SL x) sl → YS J Jx N m sl obs a w → YS J Jx N (some (cnt x)) (SL x) [] a w := by
      rintro m sl obs a w x rfl h ⟨ρ, Sy, S1, Wy, hJ, hA, hW⟩
      refine ⟨ρ, Sy, S1, Wy, hJ, ⟨hA.size, hA.defs, hasS_den hA _ h⟩, ?_⟩
      exact hW.shrink (by simp) (fun i o h => by simp at h) (fun i o h => by simp at h) (fun i v hp => by cases hp)
    refine wpIn_wide.2 (wp_loop_ghost (fun j a w => ∃ x, mu x = j ∧ inv x ∧ YS J Jx N (some (cnt x)) (SL x) [] a w) (mu x0) ⟨x0, rfl, hi0, norm x0 hm hs0 hs⟩ ?_)
    rintro j a1 w1 ⟨x, rfl, hix, hsx⟩
    refine wp_mono ((wpIn_wide (n := n)).1 (yc_sound hT hF hY b _ kr kx (hround x hix) hsx)) ?_
    intro e a2 w2 hq
    cases e with
    | normal =>
      obtain ⟨m', sl', obs', ⟨x', hmu, hm', hi', hs'⟩, hss⟩ := hq
      exact ⟨mu x', hmu, x', rfl, hi', norm x' hm' hs' hss⟩
    | ret => exact hq
    | exit i => exact hq
    | _ => exact hq.elim
  | .region id ops d, kn, kr, kx, m, sl, obs, a, w, h, hs => by
    cases d with
    | true => exact h.elim
    | false =>
      refine wpIn_region_list ?_
      simpa using yops_sound hT hF hY ops.toList (Q := QY J Jx N kn kr kx) (fun a w h => h) ops.toList (show vcYops P F T N l xs ops.toList ops.toList kn m sl obs from h) hs
  | .rangeFunc _ _ _ _, kn, kr, kx, m, sl, obs, a, w, h, hs => h.elim
  | .scope _, kn, kr, kx, m, sl, obs, a, w, h, hs => h.elim
  | .label _, kn, kr, kx, m, sl, obs, a, w, h, hs => h.elim
  | .goto _, kn, kr, kx, m, sl, obs, a, w, h, hs => h.elim
  | .refuse _, kn, kr, kx, m, sl, obs, a, w, h, hs => h.elim

theorem iter_of_vc (hT : TabOk P T) (hF : ∀ f, 2 < f → f < F → FnOk P f) {f : FuncId} {fn : Func} (hf : P.funcs[f]? = some fn) (hr : fn.results.toList = []) {b : List PV} (hn : b.length < fn.ntmps) (h : ∀ l, vcIter P F T l fn b xs) : Iter P f b xs := by
  intro w S lb hlt hrep l J Jx hst hstx hY n h0
  specialize h l
  unfold vcIter at h
  cases hb : fn.body with
  | none => simp [hb] at h
  | some c =>
    simp only [hb] at h
    refine callsIn_of_wp hf hb trivial ?_
    have hxl : b.length = lb.length := hrep.1
    have hrep' : RepL (Rep w S) (.fn (.yield l) [] [] :: b) (.func (.yield l) #[] #[] :: lb) := by
      refine ⟨by simp [hxl], fun j p x hp hx => ?_⟩
      cases j with
      | zero =>
        simp only [List.getElem?_cons_zero, Option.some.injEq] at hp hx
        subst hp; subst hx
        exact .fn (xa := []) (xb := []) rfl rfl (fun j p x hp => by simp at hp) (fun j p x hp => by simp at hp)
      | succ j => exact hrep.2 j p x (by simpa using hp) (by simpa using hx)
    generalize hargs : (.fn (.yield l) [] [] :: b : List PV) = args at h hrep'
    generalize hxs : (.func (.yield l) #[] #[] :: lb : List Value) = vals at hrep'
    have hl1 : args.length ≤ fn.ntmps := by rw [← hargs]; simp; omega
    have hl2 : args.length = vals.length := hrep'.1
    have hA : SatA fn.ntmps (initS 0 args) (Lt ([] : Obs).length) (fun _ => undef) S w { tmps := vals.toArray ++ Array.replicate (fn.ntmps - vals.toArray.size) undef, defers := [] } := by
      refine ⟨by simp; omega, rfl, fun t => ?_⟩
      rw [get_initS]
      split
      · rename_i ht
        have h1 : t < args.length := by omega
        have h2 : t < vals.length := by omega
        have := hrep'.2 t args[t] vals[t] (List.getElem?_eq_getElem h1) (List.getElem?_eq_getElem h2)
        have e1 : (vals.toArray ++ Array.replicate (fn.ntmps - vals.toArray.size) undef).getD t undef = vals[t] := by simp [Array.getElem?_append, h2]
        have e2 : args.getD (t - 0) (.v undef) = args[t] := by simp [List.getD, h1]
        rw [e1, e2]
        exact .p this
      · exact .any _
    have hv : (#[.func (.yield l) #[] #[]] ++ lb.toArray : Array Value) = vals.toArray := by rw [← hxs]; simp
    rw [hv]
    refine wpIn_mono (yc_sound hT hF hY c _ _ _ h ⟨fun _ => undef, S, S, w, h0, hA, satW_nil hlt _⟩) ?_
    have fin : ∀ a' w', YPost J Jx fn.ntmps (yEnd xs) a' w' → a'.defers = [] ∧ ∃ v, (results fn a'.tmps).run P w' = .ok v w' ∧ ((∃ v', Ending.returned v = .returned v') ∧ ((∃ Sy, J xs.length Sy w') ∨ Jx w')) := by
      rintro a' w' ⟨m, sl, obs, hk, ρ, Sy, S1, Wy, hJ, hA', hW'⟩
      refine ⟨hA'.defs, _, results_of fn a'.tmps w' [] (by rw [hr]; rfl), ⟨_, rfl⟩, ?_⟩
      cases m with
      | some i =>
        have hk : i = xs.length := hk
        subst hk
        exact .inl ⟨Sy, hst _ _ _ _ hJ hW'.toLe⟩
      | none => exact .inr (hstx _ _ hJ hW'.toLe)
    intro e a' w' hq
    cases e with
    | normal => exact fin a' w' hq
    | ret => exact fin a' w' hq
    | exit i => obtain ⟨_, _, _, h, _⟩ := hq; exact h.elim
    | _ => exact hq.elim
end
end Go.Pv
