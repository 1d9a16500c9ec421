/- What the operations do: append, calls; all together. -/
import Derived.Test.YtilmadidjihfkaaPvC
set_option linter.unusedSimpArgs false
namespace Go.Pv
open Go.Vc
open Go.RowKit (Below)

section
variable {P : Program} {T : Tab} {N : Nat} {sl : Slots} {obs : Obs} {n : Nat → Prop} {ρ : Nat → Value} {S : Nat → Prop} {S0 : Fr} {a : Act} {w w0 : World}

/-- What an operation's VC has to give. -/
def Step (w0 : World) (S0 : Fr) (P : Program) (N : Nat) (o : Oper) (a : Act) (w : World) (k : SV → K) (K : Act → World → Prop) (Q : Exit → Act → World → Prop) : Prop :=
  (∀ sv sl' obs' ρ' S' v w', k sv sl' obs' → SatA N sl' (Lt obs'.length) ρ' S' w' a → SatW w0 S0 obs' ρ' S' w' → Den ρ' (Lt obs'.length) w' S' sv v → K (a.put o.dst v) w') → o.wp P a w K Q

theorem step_value {o : Oper} {k : SV → K} {K : Act → World → Prop} {Q : Exit → Act → World → Prop} {sv : SV} {obs' : Obs} {ρ' : Nat → Value} {S' : Nat → Prop} {v : Value} {w' : World} (hA : SatA N sl (Lt obs.length) ρ S w a)
    (hrun : (execOp a.eval o).run P w = .ok (.value v) w') (hk : k sv sl obs') (hW : SatW w0 S0 obs' ρ' S' w') (hd : Den ρ' (Lt obs'.length) w' S' sv v) (hkp : Keeps S w w') (hs : ∀ b, S b → S' b) (hρ : ∀ i, i < obs.length → ρ' i = ρ i) (hn : obs.length ≤ obs'.length) :
    Step w0 S0 P N o a w k K Q := by
  intro H
  unfold Oper.wp
  rw [hrun]
  exact H sv sl obs' ρ' S' v w' hk (hA.mono hkp hs (fun i hi => Nat.lt_of_lt_of_le hi hn) hρ) hW hd

/-- An operation that leaves the world alone. -/
theorem step_pure {o : Oper} {k : SV → K} {K : Act → World → Prop} {Q : Exit → Act → World → Prop} {sv : SV} {v : Value} (hA : SatA N sl (Lt obs.length) ρ S w a) (hW : SatW w0 S0 obs ρ S w)
    (hrun : (execOp a.eval o).run P w = .ok (.value v) w) (hk : k sv sl obs) (hd : Den ρ (Lt obs.length) w S sv v) : Step w0 S0 P N o a w k K Q :=
  step_value hA hrun hk hW hd (fun _ _ => rfl) (fun _ h => h) (fun _ _ => rfl) (Nat.le_refl _)

/-- A new object. -/
theorem step_new {o : Oper} {k : SV → K} {K : Act → World → Prop} {Q : Exit → Act → World → Prop} {ob : Ob} {v : Value} {w' : World} (hA : SatA N sl (Lt obs.length) ρ S w a) (hW : SatW w0 S0 obs ρ S w) (hle : Le w w')
    (hrun : (execOp a.eval o).run P w = .ok (.value v) w') (hk : k (.ob obs.length) sl (obs ++ [ob])) (hob : ObOk ρ (Lt obs.length) w' S ob v) (hbl : ∀ b, Owns w' ob v b → w.heap.size ≤ b) (hpl : Plain v) : Step w0 S0 P N o a w k K Q := by
  refine step_value hA hrun hk (hW.snoc hle hob hbl hpl) ?_ (hW.keeps hle) (fun _ h => h) (fun i hi => updρ_lt hi) (by simp)
  have : Den (updρ ρ obs.length v) (Lt (obs ++ [ob]).length) w' S (.ob obs.length) (updρ ρ obs.length v obs.length) := .ob (by simp [Lt])
  rwa [updρ_eq] at this

theorem src_spec (hW : SatW w0 S0 obs ρ S w) {x : SV} {sz : Nat} {kk : Nat → List PV → Prop} (h : vcSrc x sz obs kk) {vx : Value} (hd : Den ρ (Lt obs.length) w S x vx) :
    ∃ ad m c l xs, vx = .slice ad m c ∧ kk m l ∧ RepL (Rep w S) l xs ∧ xs.length = m * sz ∧ Ones xs ∧ (m = 0 ∨ Cells w ad 0 xs) := by
  cases hd with
  | p hr =>
    cases hr with
    | nil ex a0 cap0 _ _ => exact ⟨a0, 0, cap0, [], [], rfl, h.2, repL_nil, by simp, fun _ h => by simp at h, .inl rfl⟩
    | sl hS hn hex hl h1 hc hh => exact ⟨_, _, _, _, _, rfl, h.2, ⟨hl, hh⟩, by rw [← hl]; exact h.1, h1, .inr ⟨_, rfl, fun j c hj => by rw [Nat.zero_add]; exact hc j c hj⟩⟩
    | _ => exact h.elim
  | nil => exact ⟨none, 0, 0, [], [], rfl, h, repL_nil, by simp, fun _ h => by simp at h, .inl rfl⟩
  | ob hi =>
    simp only [vcSrc] at h
    rw [at_iff] at h
    obtain ⟨ob, hi', h⟩ := h
    split at h
    · rename_i e sz' m ex cs
      rw [cond_false_iff] at h
      have hsz : sz' = sz := Nat.eq_of_beq_eq_true h.1
      subst hsz
      obtain ⟨xs, hrow, hr, h1⟩ := hW.objs _ _ hi'
      obtain ⟨hlen, hv⟩ := hrow
      rcases hv with ⟨hx, rfl⟩ | ⟨g, cap, cur, hx, hg, hnc, _, hcs, ht, _⟩
      · exact ⟨none, 0, 0, _, xs, hx, h.2, hr, hlen, h1, .inl rfl⟩
      · refine ⟨_, m, cap, _, xs, hx, h.2, hr, hlen, h1, .inr ⟨_, rfl, fun j c hj => ?_⟩⟩
        rw [Addr.add0, Nat.zero_add, Nat.zero_add, cell_of_row w g j cur e (0, 0) hg]
        rw [← ht, List.getElem?_take] at hj
        split at hj
        · simpa using hj
        · cases hj
    · exact h.elim
  | _ => exact h.elim

theorem plain_row {w : World} {e : TypeId} {sz m : Nat} {xs : List Value} {ex : Bool} {x : Value} (h : RowOk w e sz m xs ex x) : Plain x := by
  rcases h.2 with ⟨rfl, _⟩ | ⟨g, cap, cur, rfl, _⟩ <;> exact ⟨rfl, rfl⟩

/-- append to a slice that is full. -/
theorem run_append_full {t e : TypeId} {te : Ty} (ty : TypeId) (ht : P.underlying t = some (.slice e)) (he : TyOk P e te) (hz : te.zero.length = te.size) (w : World) (ad0 : Addr) (n : Nat) (cs : List Value)
    (hcl : cs.length = n * te.size) (holds : ∀ (j : Nat) (u : Value), cs[j]? = some u → w.cell? (ad0.add j) = some u) (ad : Addr) (m c : Nat) (l : List Value) (hl : l.length = m * te.size) (hnews : ∀ (j : Nat) (u : Value), l[j]? = some u → w.cell? (ad.add j) = some u)
    (hm : 1 ≤ m) (hnm : n + m ≤ 1099511627776) (hb : (n + m) * te.bytes ≤ 140737488355328) :
    ∃ v' w', (Builtin.append_ #[t, t] ty #[.slice (some ad0) n n, .slice (some ad) m c]).run P w = .ok v' w' ∧ RowOk w' e te.size (n + m) (cs ++ l) false v' ∧ Le w w' ∧ (blk v' = none ∨ blk v' = some w.heap.size) := by
  obtain ⟨i, z, hi, hs, hby, hzz, hzc⟩ := he.info
  have hzs : z.cells.size = te.size := by rw [← hz, ← hzc]; simp
  have hlen : (cs ++ l).length = (n + m) * te.size := by rw [List.length_append, hcl, hl, Nat.add_mul]
  have hmax : n + m ≤ maxLen := by simp only [maxLen]; omega
  have hr := run_append_grow (P := P) w t ty e i z ht hi hzz ad0 n n cs (by rw [hs]; exact hcl) holds ad m c l (by rw [hs]; exact hl) hnews (by omega) (by omega) (growslice_fits (by omega) (by rw [hby]; exact hb))
  refine ⟨_, _, hr, ?_, (Le.drew w).trans (Le.alloc _ _), .inr rfl⟩
  have hge := grownCap_ge w (n + m) n e
  have hcm : grownCap w (n + m) n e ≤ maxLen := grownCap_le_maxLen w (n + m) n e hmax
  refine ⟨hlen, .inr ⟨w.heap.size, _, _, rfl, heap_alloc_new w.drew _, hge, hcm, ?_, ?_, by simp⟩⟩
  · simp only [Array.size_append, List.size_toArray, size_zeroCells, hzs, hcl, hl, ← Nat.add_mul]
    congr 1
    omega
  · simp only [Array.toList_append, List.append_assoc]
    rw [← List.append_assoc, ← hlen]
    exact List.take_left

theorem step_append (hT : TabOk P T) (hA : SatA N sl (Lt obs.length) ρ S w a) (hW : SatW w0 S0 obs ρ S w) {o : Oper} {t : Nat} {s x : SV} {os ox : Operand} (ho : o.op = .call { callee := .builtin .append, args := #[os, ox], argTypes := #[t, t] })
    {k : SV → K} {K : Act → World → Prop} {Q : Exit → Act → World → Prop} (h : vcAppend T t s x obs fun x obs => k x sl obs) (hs : Den ρ (Lt obs.length) w S s (a.eval os)) (hx : Den ρ (Lt obs.length) w S x (a.eval ox)) : Step w0 S0 P N o a w k K Q := by
  unfold vcAppend at h
  rw [find_iff] at h
  obtain ⟨ty, ht, h⟩ := h
  have hty := hT t ty ht
  split at h
  · rename_i e hk
    have hu := kd_slice hty hk
    rw [find_iff] at h
    obtain ⟨te, hte, h⟩ := h
    have hteo := hT e te hte
    rw [cond_false_iff, Bool.and_eq_true, Nat.ble_eq, len_eq] at h
    obtain ⟨⟨hsz, hz⟩, h⟩ := h
    have hz : te.zero.length = te.size := Nat.eq_of_beq_eq_true hz
    have hS := src_spec hW h hx
    clear h
    obtain ⟨ad, m, c, l, ys, hvx, h, hlr, hl, h1, hsrc⟩ := hS
    have h1' : oneCells ys = true := (oneCells_iff ys).2 h1
    have hrun : ∀ v' w', (Builtin.append_ #[t, t] o.type #[a.eval os, .slice ad m c]).run P w = .ok v' w' → (execOp a.eval o).run P w = .ok (.value v') w' := by
      intro v' w' hr
      simp only [execOp, ho, resolve, invoke, builtin, Sem.run_bind, Sem.run_pure, Result.andThen_ok, List.map_toArray, List.map_cons, List.map_nil, hvx, hr]
    generalize a.eval os = vs at hs hrun
    cases hs with
    | nil =>
      simp only at h
      obtain ⟨⟨hb1, hb2⟩, h⟩ := h
      rw [snoc_iff, fN_iff, len_eq] at h
      obtain ⟨v', w', hr, hrow, hfr⟩ := run_append_row (P := P) o.type hu hteo hz w (.slice none 0 0) 0 [] true ⟨by simp, .inl ⟨rfl, rfl⟩⟩ ad m c ys hl h1' hsrc hb1 hb2
      have hle : Le w w' ∧ (blk v' = none ∨ blk v' = some w.heap.size) := by
        rcases hfr with h | ⟨_, g, hg, _⟩
        · exact h
        · cases hg
      refine step_new hA hW hle.1 (hrun v' w' hr) h ⟨ys, by simpa using hrow, hlr.mono (hW.keeps hle.1) (fun _ h => h), h1⟩ ?_ (plain_row hrow)
      intro b hb
      have hb := hb.flat rfl
      rcases hle.2 with h | h <;> rw [hb] at h <;> simp at h; omega
    | p hr0 =>
      have full : ∀ (n : Nat) (l0 : List PV) (xs : List Value) (ad0 : Addr), l0.length = xs.length → l0.length = n * te.size → Ones xs → (∀ (j : Nat) (x : Value), xs[j]? = some x → w.cell? (ad0.add j) = some x) → (∀ (j : Nat) (p : PV) (x : Value), l0[j]? = some p → xs[j]? = some x → Rep w S p x) →
          room n m te.bytes → 1 ≤ m → k (.ob obs.length) sl (obs ++ [.row e te.size (n + m) false (l0 ++ l)]) → vs = .slice (some ad0) n n → Step w0 S0 P N o a w k K Q := by
        intro n l0 xs ad0 hll hl0 hx1 hc hh hroom hm h hvs
        subst hvs
        cases ad with
        | none =>
          rcases hsrc with h0 | ⟨_, h0, _⟩
          · omega
          · cases h0
        | some ad =>
          have hnews : ∀ (j : Nat) (u : Value), ys[j]? = some u → w.cell? (ad.add j) = some u := by
            intro j u hj
            rcases hsrc with h0 | ⟨_, h0, hc'⟩
            · omega
            · cases h0
              have := hc' j u hj
              rwa [Nat.zero_add] at this
          obtain ⟨v', w', hr, hrow, hle, hbl⟩ := run_append_full (P := P) o.type hu hteo hz w ad0 n xs (by rw [← hll]; exact hl0) hc ad m c ys hl hnews hm hroom.1 hroom.2
          refine step_new hA hW hle (hrun v' w' hr) h ⟨xs ++ ys, hrow, (repL_app ⟨hll, hh⟩ hlr).mono (hW.keeps hle) (fun _ h => h), ?_⟩ ?_ (plain_row hrow)
          · intro x hx
            rcases List.mem_append.1 hx with hx | hx
            · exact hx1 x hx
            · exact h1 x hx
          · intro b hb
            have hb := hb.flat rfl
            rcases hbl with h | h <;> rw [hb] at h <;> simp at h; omega
      cases hr0 with
      | nil ex a0 cap0 hex0 hn0 =>
        simp only [cond_false_iff] at h
        obtain ⟨rfl, hroom, _, z, hz1, hz2, h⟩ := h
        have hcap0 := hex0 rfl
        subst hcap0
        cases a0 with
        | some ad0 =>
          cases z with
          | true =>
            have hm0 := hz1 rfl
            subst hm0
            have hr : (Builtin.append_ #[t, t] o.type #[.slice (some ad0) 0 0, .slice ad 0 c]).run P w = .ok (.slice (some ad0) 0 0) w := by
              obtain ⟨i, z, hi, hs, hby, hzz, hzc⟩ := hteo.info
              have hy0 : ys = [] := List.eq_nil_of_length_eq_zero (by simpa using hl)
              subst hy0
              cases ad with
              | none => simp [Builtin.append_, run_underlying hu, sizeOf, typeInfo, hi, Builtin.lenOf, Builtin.firstCells, storeCells]
              | some ad => simp [Builtin.append_, run_underlying hu, sizeOf, typeInfo, hi, Builtin.lenOf, Builtin.firstCells, loadCells, loadCellsFrom, storeCells]
            exact step_pure hA hW (hrun _ _ hr) h (.p (.nil _ _ _ hex0 hn0))
          | false =>
            simp only at h
            rw [snoc_iff, fN_iff, len_eq] at h
            exact full 0 [] [] ad0 rfl (by simp) (fun _ h => by simp at h) (fun j x hj => by simp at hj) (fun j p x hp => by simp at hp) hroom (hz2 rfl) h rfl
        | none =>
          obtain ⟨v', w', hr, hrow, hfr⟩ := run_append_row (P := P) o.type hu hteo hz w (.slice none 0 0) 0 [] true ⟨by simp, .inl ⟨rfl, rfl⟩⟩ ad m c ys hl h1' hsrc hroom.1 hroom.2
          have hle : Le w w' ∧ (blk v' = none ∨ blk v' = some w.heap.size) := by
            rcases hfr with h | ⟨_, g, hg, _⟩
            · exact h
            · cases hg
          cases z with
          | true =>
            have hm0 := hz1 rfl
            subst hm0
            have hv' : v' = .slice none 0 0 ∧ w' = w := by
              have e1 : (Builtin.append_ #[t, t] o.type #[.slice none 0 0, .slice ad 0 c]).run P w = .ok (.slice none 0 0) w := by
                obtain ⟨i, z, hi, hs, hby, hzz, hzc⟩ := hteo.info
                have hy0 : ys = [] := List.eq_nil_of_length_eq_zero (by simpa using hl)
                subst hy0
                cases ad with
                | none => simp [Builtin.append_, run_underlying hu, sizeOf, typeInfo, hi, Builtin.lenOf, Builtin.firstCells]
                | some ad => simp [Builtin.append_, run_underlying hu, sizeOf, typeInfo, hi, Builtin.lenOf, Builtin.firstCells, loadCells, loadCellsFrom]
              rw [hr] at e1
              cases e1
              exact ⟨rfl, rfl⟩
            obtain ⟨rfl, rfl⟩ := hv'
            exact step_pure hA hW (hrun _ _ hr) h (.p (Rep.nil0 _))
          | false =>
            simp only at h
            rw [snoc_iff, fN_iff, len_eq] at h
            refine step_new hA hW hle.1 (hrun v' w' hr) h ⟨ys, by simpa using hrow, by simpa using hlr.mono (hW.keeps hle.1) (fun _ h => h), h1⟩ ?_ (plain_row hrow)
            intro b hb
            have hb := hb.flat rfl
            rcases hle.2 with h | h <;> rw [hb] at h <;> simp at h; omega
      | sl hS hn hex hll hx1 hc hh =>
        rename_i ex n0 cap l0 xs ad0
        simp only [cond_false_iff] at h
        obtain ⟨rfl, hroom, hl0, z, hz1, hz2, h⟩ := h
        have hcap := hex rfl
        subst hcap
        cases z with
        | true =>
          have hm0 := hz1 rfl
          subst hm0
          have hr : (Builtin.append_ #[t, t] o.type #[.slice (some ad0) cap cap, .slice ad 0 c]).run P w = .ok (.slice (some ad0) cap cap) w := by
            obtain ⟨i, z, hi, hs, hby, hzz, hzc⟩ := hteo.info
            have hy0 : ys = [] := List.eq_nil_of_length_eq_zero (by simpa using hl)
            subst hy0
            cases ad with
            | none => simp [Builtin.append_, run_underlying hu, sizeOf, typeInfo, hi, Builtin.lenOf, Builtin.firstCells, storeCells]
            | some ad => simp [Builtin.append_, run_underlying hu, sizeOf, typeInfo, hi, Builtin.lenOf, Builtin.firstCells, loadCells, loadCellsFrom, storeCells]
          exact step_pure hA hW (hrun _ _ hr) h (.p (.sl hS hn hex hll hx1 hc hh))
        | false =>
          simp only at h
          rw [snoc_iff, fN_iff, len_eq] at h
          exact full cap l0 xs ad0 hll hl0 hx1 hc hh hroom (hz2 rfl) h rfl
      | _ => exact h.elim
    | ob hi =>
      rename_i i
      simp only at h
      rw [at_iff] at h
      obtain ⟨ob, hi', h⟩ := h
      split at h
      · rename_i e' sz n0 exact_ cs
        rw [cond_false_iff, Bool.and_eq_true] at h
        obtain ⟨⟨hsz', hety⟩, ⟨hb1, hb2⟩, h⟩ := h
        have hsz' : sz = te.size := Nat.eq_of_beq_eq_true hsz'
        have hety : e' = e := Nat.eq_of_beq_eq_true hety
        subst hsz' hety
        obtain ⟨xs, hrow, hrx, hx1⟩ := hW.objs i _ hi'
        obtain ⟨v', w', hr, hrow', hfr⟩ := run_append_row (P := P) o.type hu hteo hz w (ρ i) n0 xs exact_ hrow ad m c ys hl h1' hsrc hb1 hb2
        have hxy : Ones (xs ++ ys) := by
          intro x hx
          rcases List.mem_append.1 hx with hx | hx
          · exact hx1 x hx
          · exact h1 x hx
        have hset : (obs.set i .dead).length = obs.length := by simp
        -- the row is given up, and a new one is there
        have general : k (.ob obs.length) sl (obs.set i .dead ++ [.row e' te.size (n0 + m) false (cs ++ l)]) → Step w0 S0 P N o a w k K Q := by
          intro h
          have hden : ∀ w'', Den (updρ ρ obs.length v') (Lt (obs.set i .dead ++ [Ob.row e' te.size (n0 + m) false (cs ++ l)]).length) w'' S (.ob obs.length) v' := by
            intro w''
            have : Den (updρ ρ obs.length v') (Lt (obs.set i .dead ++ [Ob.row e' te.size (n0 + m) false (cs ++ l)]).length) w'' S (.ob obs.length) (updρ ρ obs.length v' obs.length) := .ob (by simp [Lt])
            rwa [updρ_eq] at this
          rcases hfr with ⟨hle, hbl⟩ | ⟨_, g, hg, hg', hch⟩
          · have hk := (hW.kill i).snoc hle (ob := .row e' te.size (n0 + m) false (cs ++ l)) (x := v') ⟨xs ++ ys, hrow', (repL_app hrx hlr).mono (hW.keeps hle) (fun _ h => h), hxy⟩ (by
              intro b hb
              have hb := hb.flat rfl
              rcases hbl with h | h <;> rw [hb] at h <;> simp at h; omega) (plain_row hrow')
            rw [hset] at hk
            exact step_value hA (hrun v' w' hr) h hk (hden _) (hW.keeps hle) (fun _ h => h) (fun j hj => updρ_lt hj) (by simp)
          · have hkp : Keeps S w w' := fun b hb => hch.block b (hW.lt b hb) fun e => by subst e; exact (hW.own i _ b hi' rfl (.inl hg)).2 hb
            have hst := hW.store hi' rfl (.inl hg) hch (ob' := .dead) trivial (fun b h => by cases h)
            have hk := hst.snoc' (ob := .row e' te.size (n0 + m) false (cs ++ l)) (x := v') ⟨xs ++ ys, hrow', (repL_app hrx hlr).mono hkp (fun _ h => h), hxy⟩ (by
              intro b hb
              have hb := hb.flat rfl
              rw [hg'] at hb
              cases hb
              obtain ⟨h1, h2⟩ := hW.own i _ g hi' rfl (.inl hg)
              refine ⟨h1, h2, fun j oj hj lj bj => ?_⟩
              rcases get_set hj with ⟨h3, h4⟩ | ⟨_, _, rfl⟩
              · refine h3 (hW.dist i j _ oj g hi' h4 rfl lj (.inl hg) (hW.same h4 lj (fun g2 hg2 => hch.block g2 (hW.owned h4 lj hg2) fun e => h3 (hW.dist i j _ oj g hi' h4 rfl lj (.inl hg) (e ▸ hg2))) bj))
              · cases lj) (plain_row hrow')
            rw [hset] at hk
            exact step_value hA (hrun v' w' hr) h hk (hden _) hkp (fun _ h => h) (fun j hj => updρ_lt hj) (by simp)
        have general' : (obs.upd i .dead fun obs1 => obs1.snoc (.row e' te.size (n0 + m) false (cs ++ l)) fun obs' => fN (len obs) fun q => k (.ob q) sl obs') → Step w0 S0 P N o a w k K Q := by
          intro h
          rw [upd_iff, snoc_iff, fN_iff, len_eq] at h
          exact general h.2
        cases exact_ with
        | false => exact general' h
        | true =>
          simp only at h
          obtain ⟨z, hz1, h⟩ := h
          cases z with
          | false => exact general' h
          | true =>
            simp only at h
            rw [snoc_iff, fN_iff, len_eq] at h
            have hm1 := hz1 rfl
            have hle : Le w w' ∧ (blk v' = none ∨ blk v' = some w.heap.size) := by
              rcases hfr with h | ⟨h0, _⟩
              · exact h
              · have := h0 rfl; omega
            refine step_new hA hW hle.1 (hrun v' w' hr) h ⟨xs ++ ys, hrow', (repL_app hrx hlr).mono (hW.keeps hle.1) (fun _ h => h), hxy⟩ ?_ (plain_row hrow')
            intro b hb
            have hb := hb.flat rfl
            rcases hle.2 with h | h <;> rw [hb] at h <;> simp at h; omega
      · exact h.elim
    | _ => exact h.elim
  · exact h.elim

theorem vcPure_spec (hT : TabOk P T) (hA : SatA N sl n ρ S w a) (hW : SatW w0 S0 obs ρ S w) (hn' : ∀ i, i < obs.length → n i) (hpl : ∀ i, n i → Plain (ρ i)) (o : Oper) {k : SV → Prop} (h : vcPure T o.op sl obs k) :
    ∃ sv v, k sv ∧ (execOp a.eval o).run P w = .ok (.value v) w ∧ Den ρ n w S sv v := by
  obtain ⟨dst, op, type, pos, after, guard⟩ := o
  cases op <;> simp only [vcPure] at h
  case move x =>
    obtain ⟨sv, hk, hd⟩ := ev_spec hA h
    exact ⟨_, _, hk, (by simp [execOp]), hd⟩
  case assign x =>
    obtain ⟨sv, hk, hd⟩ := ev_spec hA h
    exact ⟨_, _, hk, (by simp [execOp]), hd⟩
  case pick c x y =>
    obtain ⟨sv, h, hd⟩ := ev_spec hA h
    generalize hc : a.eval c = vc at hd
    split at h
    · obtain ⟨sx, hk, hdx⟩ := ev_spec hA h
      cases hd
      exact ⟨_, _, hk, (by simp [execOp, hc, asBool]), hdx⟩
    · obtain ⟨sx, hk, hdx⟩ := ev_spec hA h
      cases hd
      exact ⟨_, _, hk, (by simp [execOp, hc, asBool]), hdx⟩
    · rename_i q
      cases hd with
      | p hr =>
      cases hr
      cases q with
      | true =>
        obtain ⟨sx, hk, hdx⟩ := ev_spec hA (h.1 rfl)
        exact ⟨_, _, hk, (by simp [execOp, hc, asBool]), hdx⟩
      | false =>
        obtain ⟨sx, hk, hdx⟩ := ev_spec hA (h.2 rfl)
        exact ⟨_, _, hk, (by simp [execOp, hc, asBool]), hdx⟩
    · exact h.elim
  case binOp bop t x y t' =>
    obtain ⟨px, h', hx⟩ := evP_spec hA h
    clear h
    obtain ⟨py, h, hy⟩ := evP_spec hA h'
    obtain ⟨v, hk, hg, hr⟩ := vcBin_spec hT h hx hy x y
    exact ⟨_, _, hk, (by simp [execOp, hg, hr]), .p (.v _)⟩
  case unOp uop t x =>
    obtain ⟨sv, h, hd⟩ := ev_spec hA h
    obtain ⟨sv', v, hk, hd', hr⟩ := vcUn_spec (P := P) h hd
    exact ⟨_, _, hk, (by simp [execOp, hr]), hd'⟩
  case convert src dst x =>
    obtain ⟨sv, h', hd⟩ := ev_spec hA h
    clear h
    rw [find_iff] at h'
    obtain ⟨tys, hts, h⟩ := h'
    obtain ⟨d, hus, _⟩ := (hT _ _ hts).und
    rw [find_iff] at h
    obtain ⟨ty, ht, h⟩ := h
    generalize hx : a.eval x = vx at hd
    split at h
    · cases hd with
      | p hr =>
      cases hr
      split at h
      · rename_i kd hk
        have hu := kd_int (hT _ _ ht) hk
        exact ⟨_, _, h, (by simp [execOp, hx, convert, run_underlying hu, run_underlying hus, Conv.intToInt]), .p (.v _)⟩
      · exact h.elim
    · exact h.elim
  case extract x i =>
    obtain ⟨sv, h, hd⟩ := ev_spec hA h
    generalize hx : a.eval x = vx at hd
    split at h
    · cases hd with
      | tup hl hh =>
      rename_i xs
      rw [nth_iff] at h
      obtain ⟨y, hy, h⟩ := h
      have hlt := (List.getElem?_eq_some_iff.1 hy).1
      have hy' : xs[i]? = some xs[i] := List.getElem?_eq_getElem (by omega)
      exact ⟨_, xs[i], h, (by simp [execOp, hx, Instr.extract, hy']), hh i y _ hy hy'⟩
    · exact h.elim
  case build t ps =>
    rw [find_iff] at h
    obtain ⟨ty, ht, h⟩ := h
    rw [cond_false_iff, Bool.and_eq_true, Bool.and_eq_true, len_eq] at h
    obtain ⟨⟨⟨hz, hag⟩, ho⟩, h⟩ := h
    obtain ⟨l, h, hps⟩ := evParts_spec hA ps.toList h
    rw [fL_iff] at h
    obtain ⟨l', ys, h, hdl, h1, hpp⟩ := putS_spec hpl h hps (mapZS_den _) (ones_of ho)
    rw [fSV_iff] at h
    obtain ⟨l2, _, hrun, rfl⟩ := Vc.run_build (hT _ _ ht) (Nat.eq_of_beq_eq_true hz) hag (ps.map fun p => (p.1, a.eval p.2)) _ (by simpa using hpp) w
    exact ⟨_, _, h, (by simp [execOp, hrun]), aggOf_den hdl h1⟩
  case load t x =>
    obtain ⟨sv, h, hd⟩ := ev_spec hA h
    obtain ⟨sv', v, hk, hd', hrun⟩ := vcLoad_spec hT hW hn' h hd
    exact ⟨_, _, hk, (by simp [execOp, hrun]), hd'⟩
  case fieldAddr t x f =>
    obtain ⟨sv, h, hd⟩ := ev_spec hA h
    obtain ⟨sv', v, hk, hd', hrun⟩ := vcFieldAddr_spec hT hW hn' h hd
    exact ⟨_, _, hk, (by simp [execOp, hrun]), hd'⟩
  case indexAddr t x j =>
    obtain ⟨sv, h', hd⟩ := ev_spec hA h
    clear h
    obtain ⟨pj, h, hj⟩ := evP_spec hA h'
    clear h'
    split at h
    · rename_i kd j'
      have hj := hj.of_v
      obtain ⟨sv', v, hk, hd', hrun⟩ := vcIndexAddr_spec hT hW hn' kd h hd
      exact ⟨_, _, hk, (by simp [execOp, hj, hrun]), hd'⟩
    · exact h.elim
  case field t x f =>
    obtain ⟨sv, h, hd⟩ := ev_spec hA h
    obtain ⟨sv', v, hk, hd', hrun⟩ := vcField_spec hT h hd
    exact ⟨_, _, hk, (by simp [execOp, hrun]), hd'⟩
  case index t x j =>
    obtain ⟨px, h', hx⟩ := evP_spec hA h
    clear h
    obtain ⟨pj, h, hj⟩ := evP_spec hA h'
    clear h'
    split at h
    · rename_i kd j'
      have hj := hj.of_v
      obtain ⟨sv', v, hk, hd', hrun⟩ := vcIndex_spec (ρ := ρ) (n := n) hT kd h hx
      exact ⟨_, _, hk, (by simp [execOp, hj, hrun]), hd'⟩
    · exact h.elim
  case slice t x lo hi mx =>
    split at h
    · exact h.elim
    · rename_i hne
      obtain ⟨sv, h, hd⟩ := ev_spec hA h
      obtain ⟨sv', v, hk, hd', hrun⟩ := vcSlice_spec hT hA h hd (by
        cases mx with
        | none => exact .inl rfl
        | some m =>
          cases hi with
          | none => exact (hne m rfl rfl).elim
          | some x => exact .inr (by simp))
      exact ⟨_, _, hk, by simp only [execOp, Sem.run_bind, hrun, Result.andThen_ok]; rfl, hd'⟩
  case makeFunc f first cap =>
    obtain ⟨l, h', hl⟩ := evs_spec hA first.toList h
    clear h
    obtain ⟨m, h, hm⟩ := evs_spec hA cap.toList h'
    rw [fSV_iff] at h
    refine ⟨_, _, h, ?_, clOf_den hl hm⟩
    have e1 : first.map a.eval = (first.toList.map a.eval).toArray := by apply Array.ext'; simp
    have e2 : cap.map a.eval = (cap.toList.map a.eval).toArray := by apply Array.ext'; simp
    simp only [execOp, Instr.makeFunc, Sem.run_bind, Sem.run_pure, Result.andThen_ok, e1, e2]
  case call c =>
    obtain ⟨callee, args, argTypes⟩ := c
    split at h
    · -- len
      rename_i hcal
      simp only at hcal
      subst hcal
      split at h
      · rename_i x t hargs htys
        simp only at hargs htys
        obtain ⟨sv, h, hd⟩ := ev_spec hA h
        obtain ⟨v, hk, hrun⟩ := vcLen_spec hT hW hn' h hd type
        have e1 : args = #[x] := by apply Array.ext'; simpa using hargs
        have e2 : argTypes = #[t] := by apply Array.ext'; simpa using htys
        subst e1 e2
        refine ⟨_, _, hk, ?_, .p (.v _)⟩
        simp only [execOp, resolve, invoke, builtin, Sem.run_bind, Sem.run_pure, Result.andThen_ok, List.map_toArray, List.map_cons, List.map_nil, hrun]
      · exact h.elim
    · -- max
      rename_i hcal
      simp only at hcal
      subst hcal
      obtain ⟨l, h, hl⟩ := evs_spec hA args.toList h
      obtain ⟨v, hk, hrun⟩ := vcMax_spec (P := P) hl h argTypes type
      refine ⟨_, _, hk, ?_, .p (.v _)⟩
      have e : args.map a.eval = (args.toList.map a.eval).toArray := by apply Array.ext'; simp
      simp only [execOp, resolve, invoke, builtin, Sem.run_bind, Sem.run_pure, Result.andThen_ok, e, hrun]
    · exact h.elim
  all_goals exact h.elim

/-- The functions that are called have bodies. -/
def FnOk (P : Program) (f : FuncId) : Prop := ∃ fn, P.funcs[f]? = some fn ∧ fn.body.isSome = true ∧ fn.name ≠ "runtime.NumGoroutine"

theorem callFunc_spec {f : FuncId} {fn : Func} (hf : P.funcs[f]? = some fn) (hb : fn.body.isSome = true) (hn : fn.name ≠ "runtime.NumGoroutine") (args : Array Value) (w : World) : (callFunc f args).run P w = .ok (.enter f args) w := by
  have hb' : fn.body.isNone = false := by cases h : fn.body <;> simp_all
  simp only [callFunc, Sem.run_bind, run_program, Result.andThen_ok, hf, hb']
  simp [hn]

theorem vcFn_spec {F : Nat} (hF : ∀ f, 2 < f → f < F → FnOk P f) (hA : SatA N sl n ρ S w a) {f : Operand} {args : List Operand} {k : FuncId → List SV → Prop} (h : vcFn F f args sl k) (ts : Array TypeId) (type : TypeId) :
    ∃ fi l xs, k fi l ∧ DenL ρ n w S l xs ∧ (do let d ← resolve a.eval { callee := .value f, args := args.toArray, argTypes := ts } type; invoke d.target d.args : Sem Next).run P w = .ok (.enter fi xs.toArray) w := by
  unfold vcFn at h
  obtain ⟨pf, h', hf⟩ := ev_spec hA h
  clear h
  have main : ∀ (fi : FuncId) (a' b' : List SV) (xa xb : List Value), a.eval f = .func (.func fi) xa.toArray xb.toArray → DenL ρ n w S a' xa → DenL ρ n w S b' xb → (bif Nat.blt 2 fi && Nat.blt fi F then evs sl args fun l => fL (a' ++ (l ++ b')) (k fi) else False) →
      ∃ fi l xs, k fi l ∧ DenL ρ n w S l xs ∧ (do let d ← resolve a.eval { callee := .value f, args := args.toArray, argTypes := ts } type; invoke d.target d.args : Sem Next).run P w = .ok (.enter fi xs.toArray) w := by
    intro fi a' b' xa xb hef ha hb h'
    rw [cond_false_iff] at h'
    obtain ⟨hlt, h⟩ := h'
    rw [Bool.and_eq_true, Nat.blt_eq, Nat.blt_eq] at hlt
    obtain ⟨l, h, hl⟩ := evs_spec hA args h
    rw [fL_iff] at h
    obtain ⟨fn, h1, h2, h3⟩ := hF fi hlt.1 hlt.2
    refine ⟨fi, _, xa ++ (args.map a.eval ++ xb), h, denL_app ha (denL_app hl hb), ?_⟩
    simp only [resolve, hef, Deferred.ofValue, invoke, Sem.run_bind, Sem.run_pure, Result.andThen_ok]
    rw [callFunc_spec h1 h2 h3]
    congr 2
    apply Array.ext'
    simp
  generalize hef : a.eval f = vf at hf main
  split at h'
  · cases hf with
    | p hr =>
      cases hr with
      | fn ha hb hh1 hh2 => exact main _ _ _ _ _ rfl (mapP_den ⟨ha, hh1⟩) (mapP_den ⟨hb, hh2⟩) h'
  · cases hf with
    | cl ha hb hh1 hh2 => exact main _ _ _ _ _ rfl ⟨ha, hh1⟩ ⟨hb, hh2⟩ h'
  · exact h'.elim

end
end Go.Pv
