/- Loops, code and functions do what their VCs say. -/
import Derived.Test.YtilmadidjihfkaaPvI
namespace Go.Pv
open Go.Vc
open Go.RowKit (Below)

/-- The exits of a piece of code. -/
def QK (w0 : World) (S0 : Fr) (N : Nat) (kn kr : K) (kx : Nat → K) : Exit → Act → World → Prop
  | .normal, a, w => Kpost w0 S0 N kn a w
  | .ret, a, w => Kpost w0 S0 N kr a w
  | .exit i, a, w => Kpost w0 S0 N (kx i) a w
  | _, _, _ => False

theorem killS_length (y : SV) (obs : Obs) : (killS y obs).length = obs.length := by cases y <;> simp [killS]

theorem killS_refs {B : Nat → Prop} (y : SV) (obs : Obs) (h : ∀ (i : Nat) (o : Ob), obs[i]? = some o → RefsOb B o) : ∀ (i : Nat) (o : Ob), (killS y obs)[i]? = some o → RefsOb B o := by
  intro i o ho
  cases y with
  | ob j =>
    rcases get_set ho with ⟨_, h1⟩ | ⟨_, _, rfl⟩
    · exact h i o h1
    · trivial
  | _ => exact h i o ho

theorem killRows_spec {X : Type} {B : Nat → Prop} (sl : Slots) : ∀ (l : List (RowSpec X)) (obs : Obs), (∀ (i : Nat) (o : Ob), obs[i]? = some o → RefsOb B o) → (killRows sl l obs).length = obs.length ∧ ∀ (i : Nat) (o : Ob), (killRows sl l obs)[i]? = some o → RefsOb B o
  | [], obs, h => ⟨rfl, h⟩
  | (t, q) :: r, obs, h => by
    obtain ⟨h1, h2⟩ := killRows_spec sl r (killS (sl.get t) obs) (killS_refs _ _ h)
    exact ⟨by rw [killRows, h1, killS_length], h2⟩

theorem killNRows_spec {X : Type} {B : Nat → Prop} (sl : Slots) : ∀ (l : List (NRowSpec X)) (obs : Obs), (∀ (i : Nat) (o : Ob), obs[i]? = some o → RefsOb B o) → (killNRows sl l obs).length = obs.length ∧ ∀ (i : Nat) (o : Ob), (killNRows sl l obs)[i]? = some o → RefsOb B o
  | [], obs, h => ⟨rfl, h⟩
  | (t, q) :: r, obs, h => by
    obtain ⟨h1, h2⟩ := killNRows_spec sl r (killS (sl.get t) obs) (killS_refs _ _ h)
    exact ⟨by rw [killNRows, h1, killS_length], h2⟩

theorem inIf_spec {w0 : World} {S0 : Fr} {N : Nat} {sl : Slots} {obs : Obs} {ρ : Nat → Value} {S : Nat → Prop} {a : Act} {w : World} {b : Bool} {k : K} (h : inIf b k sl obs) (hA : SatA N sl (Lt obs.length) ρ S w a) (hW : SatW w0 S0 obs ρ S w) : ∃ obs', k sl obs' ∧ SatA N sl (Lt obs'.length) ρ S w a ∧ SatW w0 S0 obs' ρ S w := by
  cases b with
  | true =>
    obtain ⟨obs', h1, h2, h3, _⟩ := vcIn_spec h hA hW
    exact ⟨obs', h1, h2, h3⟩
  | false => exact ⟨obs, h, hA, hW⟩

theorem killCells_spec {X : Type} {B : Nat → Prop} (obs0 : Obs) : ∀ (l : List (CellSpec X)) (obs : Obs), (∀ (i : Nat) (o : Ob), obs[i]? = some o → RefsOb B o) → (killCells obs0 l obs).length = obs.length ∧ ∀ (i : Nat) (o : Ob), (killCells obs0 l obs)[i]? = some o → RefsOb B o
  | [], obs, h => ⟨rfl, h⟩
  | (i, o, q) :: r, obs, h => by
    obtain ⟨h1, h2⟩ := killCells_spec obs0 r (killS (cellAt obs0 i o) obs) (killS_refs _ _ h)
    exact ⟨by rw [killCells, h1, killS_length], h2⟩

theorem loop_sound {w0 : World} {S0 : Fr} {P : Program} {N : Nat} {W : List Nat} {body : K → K} {c : Code} {kr : K} {kx : Nat → K} {kn : K}
    (hbody : ∀ k sl obs ρ S a w, body k sl obs → SatA N sl (Lt obs.length) ρ S w a → SatW w0 S0 obs ρ S w → c.wp P (QK w0 S0 N k kr kx) a w)
    {sl : Slots} {obs : Obs} {ρ : Nat → Value} {S : Nat → Prop} {a : Act} {w : World} (h : vcLoop N W body sl obs) (hA : SatA N sl (Lt obs.length) ρ S w a) (hW : SatW w0 S0 obs ρ S w) : (Code.loop c).wp P (QK w0 S0 N kn kr kx) a w := by
  obtain ⟨X, L, x0, h⟩ := h
  obtain ⟨sl, obs, S, h, hA, hW, _, _, _, _⟩ := frzL_spec _ h hA hW
  obtain ⟨obs, h, hA, hW⟩ := inIf_spec h hA hW
  rw [fL_iff, fL_iff, clear_iff] at h
  have hr0 : ∀ (i : Nat) (o : Ob), obs[i]? = some o → RefsOb (Lt obs.length) o := fun i o ho => (hW.objs i o ho).refs
  obtain ⟨l1, r1⟩ := killRows_spec sl L.rows obs hr0
  obtain ⟨l3, r3⟩ := killNRows_spec sl L.nrows _ r1
  obtain ⟨l2, r2⟩ := killCells_spec obs L.cells _ r3
  rw [l3, l1] at l2
  generalize hW' : W ++ (keysOf L.slots ++ (keysOf L.rows ++ keysOf L.nrows)) = CW at h
  generalize hE : killCells obs L.cells (killNRows sl L.nrows (killRows sl L.rows obs)) = obsE at h l2 r2
  obtain ⟨hat, hround⟩ := h
  have hrefs : ∀ t, RefsIn (Lt obsE.length) ((clearL CW sl).get t) := by
    intro t
    rw [get_clearL, l2]
    split
    · exact .any
    · exact (hA.slots t).refs
  have hRE : ∀ (i : Nat) (ob : Ob), obsE[i]? = some ob → RefsOb (Lt obsE.length) ob := by rw [l2]; exact r2
  refine wp_loop_ghost (fun m a w => ∃ x slc obsc ρc S, L.mu x = m ∧ SatA N slc (Lt obsc.length) ρc S w a ∧ SatW w0 S0 obsc ρc S w ∧ (∀ t, (clearL CW sl).get t = slc.get t ∨ (clearL CW sl).get t = .any) ∧ isAt L obsE x slc obsc) (L.mu x0)
    ⟨x0, sl, obs, ρ, S, rfl, hA, hW, fun t => ?_, hat⟩ ?_
  · rw [get_clearL]
    split
    · exact .inr rfl
    · exact .inl rfl
  rintro m a1 w1 ⟨x, slc, obsc, ρc, Sc, rfl, hAc, hWc, hsub, hatc⟩
  obtain ⟨sl3, obs3, ρ3, h, hA3, hW3⟩ := rehead x L hRE hrefs (fun i v hp => by rw [l2]; exact (hW.pins i v hp).2) hAc hWc hsub hatc (hround x hatc.2.2.2)
  refine wp_mono (hbody _ _ _ ρ3 Sc a1 w1 h hA3 hW3) ?_
  intro e a2 w2 hq
  cases e with
  | normal =>
    obtain ⟨sl', obs', ρ', S', hq, hA', hW'⟩ := hq
    obtain ⟨obs', ⟨x', hmu, ⟨h4, h5⟩, hat'⟩, hA', hW'⟩ := inIf_spec hq hA' hW'
    rw [takeN_eq] at h5
    simp only [len_eq] at h4 h5
    refine ⟨L.mu x', hmu, x', sl', obs', ρ', S', rfl, hA', hW', fun t => ?_, hat'⟩
    by_cases ht : t ∈ CW
    · exact .inr (by rw [get_clearL, if_pos ht])
    · refine .inl ?_
      have hin := allIn_spec h5
      have hsplit : sl' = sl'.take (sl'.length - (clearL CW sl).length) ++ clearL CW sl := by
        conv => lhs; rw [← List.take_append_drop (sl'.length - (clearL CW sl).length) sl', h4]
      rw [hsplit, get_append_other (t := t) (fun p hp e => ht (by rw [← e]; exact hin p hp))]
  | ret => exact hq
  | exit i => exact hq
  | _ => exact hq.elim

/-- Every region that draws its order is of the form that the VC generator takes. -/
def drawsB : Code → Bool
  | .region _ ops d => !d || drawB ops.toList
  | .seq a b => drawsB a && drawsB b
  | .cond _ a b => drawsB a && drawsB b
  | .block _ b => drawsB b
  | .loop b => drawsB b
  | _ => true

theorem vcCode_sound {w0 : World} {S0 : Fr} {P : Program} {F : Nat} {T : Tab} {N : Nat} (hm : P.follows .mixedOrders = true) (hT : TabOk P T) (hF : ∀ f, 2 < f → f < F → FnOk P f) : ∀ (c : Code), drawsB c = true → ∀ (kn kr : K) (kx : Nat → K) (sl : Slots) (obs : Obs) (ρ : Nat → Value) (S : Nat → Prop) (a : Act) (w : World),
    vcCode P F T N c kn kr kx sl obs → SatA N sl (Lt obs.length) ρ S w a → SatW w0 S0 obs ρ S w → c.wp P (QK w0 S0 N kn kr kx) a w
  | .skip, _, kn, kr, kx, sl, obs, ρ, S, a, w, h, hA, hW => wp_skip ⟨sl, obs, ρ, S, h, hA, hW⟩
  | .seq x y, hd, kn, kr, kx, sl, obs, ρ, S, a, w, h, hA, hW => by
    simp only [drawsB, Bool.and_eq_true] at hd
    refine wp_seq (wp_mono (vcCode_sound hm hT hF x hd.1 _ kr kx sl obs ρ S a w h hA hW) ?_)
    intro e a' w' hq
    cases e with
    | normal =>
      obtain ⟨sl', obs', ρ', S', hk, hA', hW'⟩ := hq
      exact vcCode_sound hm hT hF y hd.2 kn kr kx sl' obs' ρ' S' a' w' hk hA' hW'
    | _ => exact hq
  | .cond c x y, hd, kn, kr, kx, sl, obs, ρ, S, a, w, h, hA, hW => by
    simp only [drawsB, Bool.and_eq_true] at hd
    obtain ⟨sv, h, hden⟩ := ev_spec hA h
    split at h
    · exact wp_cond_true (den_kb hden) (vcCode_sound hm hT hF x hd.1 kn kr kx sl obs ρ S a w h hA hW)
    · exact wp_cond_false (den_kb hden) (vcCode_sound hm hT hF y hd.2 kn kr kx sl obs ρ S a w h hA hW)
    · exact wp_cond_split (den_pv hden) (fun e => vcCode_sound hm hT hF x hd.1 kn kr kx sl obs ρ S a w (h.1 e) hA hW) (fun e => vcCode_sound hm hT hF y hd.2 kn kr kx sl obs ρ S a w (h.2 e) hA hW)
    · exact h.elim
  | .block id b, hd, kn, kr, kx, sl, obs, ρ, S, a, w, h, hA, hW => by
    simp only [drawsB] at hd
    refine wp_block (wp_mono (vcCode_sound hm hT hF b hd kn kr _ sl obs ρ S a w h hA hW) ?_)
    intro e a' w' hq
    cases e with
    | exit i =>
      simp only [Exit.inBlock]
      by_cases hi : i = id
      · subst hi
        rw [if_pos rfl]
        simpa [QK] using hq
      · rw [if_neg hi]
        have : Nat.beq i id = false := by rw [Bool.eq_false_iff]; intro h'; exact hi (Nat.eq_of_beq_eq_true h')
        simpa [QK, this] using hq
    | _ => exact hq
  | .exit i, _, kn, kr, kx, sl, obs, ρ, S, a, w, h, hA, hW => wp_exit ⟨sl, obs, ρ, S, h, hA, hW⟩
  | .ret, _, kn, kr, kx, sl, obs, ρ, S, a, w, h, hA, hW => wp_ret ⟨sl, obs, ρ, S, h, hA, hW⟩
  | .loop b, hd, kn, kr, kx, sl, obs, ρ, S, a, w, h, hA, hW => by
    simp only [drawsB] at hd
    exact loop_sound (fun k sl obs ρ S a w h hA hW => vcCode_sound hm hT hF b hd k kr kx sl obs ρ S a w h hA hW) h hA hW
  | .region id ops d, hd, kn, kr, kx, sl, obs, ρ, S, a, w, h, hA, hW => by
    cases d with
    | false => exact wp_region_list (by simpa using vcOps_sound hT hF ops.toList (QK w0 S0 N kn kr kx) (fun a w h => h) ops.toList h hA hW)
    | true =>
      simp only [drawsB, Bool.not_true, Bool.false_or] at hd
      have := draw_sound (id := id) hm hT hF hd (Q := QK w0 S0 N kn kr kx) (fun _ _ _ h => h) (fun ⟨_, _, h⟩ => h) (fun a w h => h) h hA hW
      simpa using this
  | .rangeFunc _ _ _ _, _, kn, kr, kx, sl, obs, ρ, S, a, w, h, hA, hW => h.elim
  | .scope _, _, kn, kr, kx, sl, obs, ρ, S, a, w, h, hA, hW => h.elim
  | .label _, _, kn, kr, kx, sl, obs, ρ, S, a, w, h, hA, hW => h.elim
  | .goto _, _, kn, kr, kx, sl, obs, ρ, S, a, w, h, hA, hW => h.elim
  | .refuse _, _, kn, kr, kx, sl, obs, ρ, S, a, w, h, hA, hW => h.elim

def resOf (tmps : Array Value) : ResultVar → Sem Value
  | .tmp t => pure (tmps.getD t undef)
  | .cell a t => do loadVar t (← asAddr (tmps.getD a undef))

section
variable {w0 : World} {S0 : Fr} {P : Program} {F : Nat} {T : Tab} {N : Nat}

theorem rets_spec (hT : TabOk P T) {sl : Slots} {obs : Obs} {ρ : Nat → Value} {S : Nat → Prop} {a : Act} {w : World} (hA : SatA N sl (Lt obs.length) ρ S w a) (hW : SatW w0 S0 obs ρ S w) : ∀ (rs : List ResultVar) {k : List SV → Prop}, vcRets T sl obs rs k →
    ∃ vs xs, k vs ∧ DenL ρ (Lt obs.length) w S vs xs ∧ (rs.mapM (resOf a.tmps)).run P w = Result.ok xs w
  | [], k, h => ⟨[], [], h, denL_nil, by simp⟩
  | .tmp t :: r, k, h => by
    simp only [vcRets, fSV_iff] at h
    obtain ⟨vs, xs, hk, hd, hr⟩ := rets_spec hT hA hW r h
    exact ⟨_, _, hk, denL_cons (hA.slots t) hd, by simp only [List.mapM_cons, resOf, Sem.run_bind, Sem.run_pure, Result.andThen_ok, hr]⟩
  | .cell t ty :: r, k, h => by
    simp only [vcRets, fSV_iff] at h
    obtain ⟨sv, v, h, hdv, hrun⟩ := vcLoad_spec hT hW (fun _ h => h) h (hA.slots t)
    obtain ⟨vs, xs, hk, hd, hr⟩ := rets_spec hT hA hW r h
    refine ⟨_, _, hk, denL_cons hdv hd, ?_⟩
    have hrun' : (resOf a.tmps (.cell t ty)).run P w = Result.ok v w := by
      have h0 := hrun
      simp only [Instr.loadAt, Sem.run_bind] at h0
      simp only [resOf, Sem.run_bind]
      generalize a.tmps.getD t undef = vt at h0 ⊢
      cases vt with
      | pointer ad =>
        cases ad with
        | none => simp [Instr.sureAddr, stuck, Result.andThen] at h0
        | some ad => simpa [Instr.sureAddr, asAddr] using h0
      | _ => simp [Instr.sureAddr, stuck, Result.andThen] at h0
    simp only [List.mapM_cons, Sem.run_bind, hrun', Result.andThen_ok, hr]
    rfl

def oneOf : List Value → Value
  | [x] => x
  | vs => .tuple vs.toArray

theorem results_of (fn : Func) (tmps : Array Value) (w : World) (vs : List Value) (h : (fn.results.toList.mapM (resOf tmps)).run P w = Result.ok vs w) :
    (results fn tmps).run P w = Result.ok (oneOf vs) w := by
  have e : (fn.results.mapM (resOf tmps)).run P w = Result.ok vs.toArray w := by
    rw [Array.mapM_eq_mapM_toList]
    simp [h]
  have e2 : results fn tmps = (do
      let vs ← fn.results.mapM (resOf tmps)
      pure (if h : vs.size = 1 then vs[0] else .tuple vs)) := by
    unfold results
    rfl
  rw [e2]
  simp only [Sem.run_bind, e, Result.andThen_ok, Sem.run_pure]
  match vs with
  | [] => rfl
  | [x] => rfl
  | x :: y :: r => rfl

theorem get_initS : ∀ (i : Nat) (args : List PV) (t : Nat), (initS i args).get t = if i ≤ t ∧ t < i + args.length then .p (args.getD (t - i) (.v undef)) else .any
  | i, [], t => by
    rw [if_neg (by simp)]
    rfl
  | i, x :: r, t => by
    rw [initS, get_cons, get_initS (i + 1) r t]
    by_cases h : i = t
    · subst h; simp
    · rw [if_neg h]
      by_cases h2 : i + 1 ≤ t ∧ t < i + 1 + r.length
      · rw [if_pos h2, if_pos (by simp; omega)]
        congr 1
        have : t - i = (t - (i + 1)) + 1 := by omega
        rw [this]; simp
      · rw [if_neg h2, if_neg (by simp; omega)]

theorem retS_den {ρ : Nat → Value} {B : Nat → Prop} {w : World} {S : Nat → Prop} {vs : List SV} {xs : List Value} (h : DenL ρ B w S vs xs) : Den ρ B w S (retS vs) (oneOf xs) := by
  match vs, xs, h with
  | [], [], h => exact .tup h.1 h.2
  | [x], [y], h => exact h.2 0 x y rfl rfl
  | x :: y :: r, [], h => exact absurd h.1 (by simp)
  | x :: y :: r, [_], h => exact absurd h.1 (by simp)
  | x :: y :: r, _ :: _ :: _, h => exact .tup h.1 h.2
  | [], _ :: _, h => exact absurd h.1 (by simp)
  | [x], [], h => exact absurd h.1 (by simp)
  | [x], _ :: _ :: _, h => exact absurd h.1 (by simp)

/-- Results in rows of the call's own, one behind the other. -/
theorem own_spec {obs obsR : Obs} {ρ : Nat → Value} {S : Nat → Prop} {w : World} (hW : SatW w0 S0 obs ρ S w) : ∀ (rs vs : List SV) (xs : List Value) (c : Nat) (seen : List Nat) (ρR : Nat → Value), isOwn obs obsR rs vs c seen → DenL ρ (Lt obs.length) w S vs xs → c ≤ obsR.length →
    SatW w0 S0 (obsR.take c) ρR S w → SrcW w obs ρ [] seen (obsR.take c) ρR →
    ∃ ρ', (∀ i, i < c → ρ' i = ρR i) ∧ SatW w0 S0 obsR ρ' S w ∧ DenL ρ' (Lt obsR.length) w S rs xs
  | [], [], xs, c, seen, ρR, h, hd, hc, hWR, hs => by
    have hx : xs = [] := List.eq_nil_of_length_eq_zero (by simpa using hd.1.symm)
    subst hx
    have h : c = obsR.length := h
    subst h
    rw [List.take_length] at hWR
    exact ⟨ρR, fun _ _ => rfl, hWR, denL_nil⟩
  | [], _ :: _, _, _, _, _, h, _, _, _, _ => h.elim
  | _ :: _, [], _, _, _, _, h, _, _, _, _ => h.elim
  | r :: rs, y :: ys, xs, c, seen, ρR, h, hd, hc, hWR, hs => by
    obtain ⟨v, xr, rfl, hdy, hdr⟩ := denL_uncons hd
    simp only [isOwn] at h
    split at h
    · rename_i i
      rw [cond_false_iff] at h
      obtain ⟨hic, h⟩ := h
      have hic : i = c := Nat.eq_of_beq_eq_true hic
      subst hic
      rw [at_iff] at h
      obtain ⟨ob, hob, h⟩ := h
      have hlt : i < obsR.length := (List.getElem?_eq_some_iff.1 hob).1
      have htake : obsR.take (i + 1) = obsR.take i ++ [ob] := by
        rw [List.take_succ_eq_append_getElem hlt]
        congr 2
        rw [List.getElem?_eq_getElem hlt] at hob
        exact Option.some.inj hob
      have htl : (obsR.take i).length = i := by simp; omega
      have fin : ∀ seen', isOwn obs obsR rs ys (i + 1) seen' → SatW w0 S0 (obsR.take (i + 1)) (updρ ρR i v) S w → SrcW w obs ρ [] seen' (obsR.take (i + 1)) (updρ ρR i v) → ∃ ρ', (∀ j, j < i → ρ' j = ρR j) ∧ SatW w0 S0 obsR ρ' S w ∧ DenL ρ' (Lt obsR.length) w S (.ob i :: rs) (v :: xr) := by
        intro seen' h1 h2 h3
        obtain ⟨ρ', h4, h5, h6⟩ := own_spec hW rs ys xr (i + 1) seen' _ h1 hdr (by omega) h2 h3
        refine ⟨ρ', fun j hj => by rw [h4 j (by omega), updρ_lt hj], h5, denL_cons ?_ h6⟩
        have : Den ρ' (Lt obsR.length) w S (.ob i) (ρ' i) := .ob hlt
        rwa [h4 i (by omega), updρ_eq] at this
      split at h
      · rename_i e sz m cs
        have step : ∀ k : List Nat → Prop, hasRow y obs [] e sz m cs seen k → ∃ seen', k seen' ∧ SatW w0 S0 (obsR.take (i + 1)) (updρ ρR i v) S w ∧ SrcW w obs ρ [] seen' (obsR.take (i + 1)) (updρ ρR i v) := by
          intro k hk
          obtain ⟨seen', h1, h2, h3⟩ := add_row hW hdy hk hWR hs
          rw [htl] at h2 h3
          exact ⟨seen', h1, by rw [htake]; exact h2, by rw [htake]; exact h3⟩
        split at h
        · obtain ⟨seen', h1, h2, h3⟩ := step (fun seen' => isOwn obs obsR rs ys (i + 1) seen') h
          exact fin seen' h1 h2 h3
        · rename_i j
          rw [cond_false_iff] at h
          obtain ⟨seen', h1, h2, h3⟩ := step (fun seen' => isOwn obs obsR rs ys (i + 1) seen') (by
            show (bif deadAt [] j && !memN j seen then _ ∧ _ else False)
            rw [cond_false_iff, Bool.and_eq_true]
            exact ⟨⟨rfl, h.1⟩, h.2⟩)
          exact fin seen' h1 h2 h3
        · exact h.elim
      · rename_i e sz m cs
        have step : ∀ k : List Nat → Prop, hasNRow y obs [] e sz m cs seen k → ∃ seen', k seen' ∧ SatW w0 S0 (obsR.take (i + 1)) (updρ ρR i v) S w ∧ SrcW w obs ρ [] seen' (obsR.take (i + 1)) (updρ ρR i v) := by
          intro k hk
          obtain ⟨seen', h1, h2, h3⟩ := add_nrow hW hdy hk hWR hs
          rw [htl] at h2 h3
          exact ⟨seen', h1, by rw [htake]; exact h2, by rw [htake]; exact h3⟩
        split at h
        · obtain ⟨seen', h1, h2, h3⟩ := step (fun seen' => isOwn obs obsR rs ys (i + 1) seen') h
          exact fin seen' h1 h2 h3
        · rename_i j
          rw [cond_false_iff] at h
          obtain ⟨seen', h1, h2, h3⟩ := step (fun seen' => isOwn obs obsR rs ys (i + 1) seen') (by
            show (bif deadAt [] j && !memN j seen then _ ∧ _ else False)
            rw [cond_false_iff, Bool.and_eq_true]
            exact ⟨⟨rfl, h.1⟩, h.2⟩)
          exact fin seen' h1 h2 h3
        · exact h.elim
      · exact h.elim
    · obtain ⟨h1, h⟩ := h
      obtain ⟨y', h1, hr⟩ := toP_spec hdy h1
      obtain ⟨ρ', h4, h5, h6⟩ := own_spec hW rs ys xr c seen ρR h hdr hc hWR hs
      exact ⟨ρ', h4, h5, denL_cons (.p (by rw [← h1]; exact weakA_rep hr)) h6⟩
    · exact h.elim

theorem retK_post (hT : TabOk P T) (hno : ∀ i, S0.pin i = none) {fn : Func} {obsR : Obs} {r : SV} {a : Act} {w : World} (h : Kpost w0 S0 N (retK T fn.results.toList obsR r) a w) :
    a.defers = [] ∧ ∃ v, (results fn a.tmps).run P w = .ok v w ∧ ∃ v' ρ S', Ending.returned v = .returned v' ∧ SatW w0 S0 obsR ρ S' w ∧ Den ρ (Lt obsR.length) w S' r v' := by
  obtain ⟨sl, obs, ρ, S, h, hA, hW⟩ := h
  unfold retK at h
  obtain ⟨obs, h, hA, hW, _⟩ := vcIn_spec h hA hW
  unfold retK0 at h
  split at h
  · obtain ⟨sl', obs', S', h, hA', hW', _, _⟩ := freeze_spec _ h hA hW
    obtain ⟨vs, xs, h, hd, hrun⟩ := rets_spec (P := P) hT hA' hW' _ h
    refine ⟨hA.defs, _, results_of fn a.tmps w xs hrun, _, ρ, S', rfl, ?_, ?_⟩
    · exact hW'.shrink (by simp) (fun i o h => by simp at h) (fun i o h => by simp at h) (fun i v hp => by rw [hno] at hp; cases hp)
    · cases hp : pures vs with
      | none => simp only [hp] at h
      | some l =>
        simp only [hp, fWs_iff] at h
        rw [← h]
        have := weakAll_rep (pures_spec hp hd)
        exact retS_den (mapP_den this)
  · rename_i obsR' hne
    obtain ⟨vs, xs, h, hd, hrun⟩ := rets_spec (P := P) hT hA hW _ h
    refine ⟨hA.defs, _, results_of fn a.tmps w xs hrun, ?_⟩
    rw [cond_false_iff] at h
    obtain ⟨hnot, h⟩ := h
    obtain ⟨ρ', _, h2, h3⟩ := own_spec hW _ _ xs 0 [] ρ h hd (Nat.zero_le _) (by
      rw [List.take_zero]
      exact hW.shrink (by simp) (fun i o h => by simp at h) (fun i o h => by simp at h) (fun i v hp => by rw [hno] at hp; cases hp)) (fun i o b hi => by simp at hi)
    refine ⟨_, ρ', S, rfl, h2, ?_⟩
    have : retS (ofS r) = r ∨ (∃ x, r = .tup [x]) := by
      cases r with
      | tup l =>
        match l with
        | [] => exact .inl rfl
        | [x] => exact .inr ⟨x, rfl⟩
        | _ :: _ :: _ => exact .inl rfl
      | _ => exact .inl rfl
    rcases this with h | ⟨x, rfl⟩
    · rw [← h]; exact retS_den h3
    · cases hnot

/-- A function's contract out of its VC. -/
theorem ret_of_vc (hm : P.follows .mixedOrders = true) (hT : TabOk P T) (hF : ∀ f, 2 < f → f < F → FnOk P f) {f : FuncId} {fn : Func} (hf : P.funcs[f]? = some fn) (hd : (match fn.body with | some c => drawsB c | none => false) = true) {args : List PV} (hn : args.length ≤ fn.ntmps) {obsR : Obs} {r : SV}
    (h : vcFun P F T fn args obsR r) : Ret P f args obsR r := by
  intro w S xs hlt hrep
  unfold vcFun at h
  cases hb : fn.body with
  | none => simp [hb] at h
  | some c =>
    simp only [hb] at h hd
    refine calls_of_wp hf hb ?_
    have hxl : args.length = xs.length := hrep.1
    have hA : SatA fn.ntmps (initS 0 args) (Lt ([] : Obs).length) (fun _ => undef) S w { tmps := xs.toArray ++ Array.replicate (fn.ntmps - xs.toArray.size) undef, defers := [] } := by
      refine ⟨by simp; omega, rfl, fun t => ?_⟩
      rw [get_initS]
      split
      · rename_i ht
        have h1 : t < args.length := by omega
        have h2 : t < xs.length := by omega
        have := hrep.2 t args[t] xs[t] (List.getElem?_eq_getElem h1) (List.getElem?_eq_getElem h2)
        have e1 : (xs.toArray ++ Array.replicate (fn.ntmps - xs.toArray.size) undef).getD t undef = xs[t] := by simp [Array.getElem?_append, h2]
        have e2 : args.getD (t - 0) (.v undef) = args[t] := by simp [List.getD, h1]
        rw [e1, e2]
        exact .p this
      · exact .any _
    have hW : SatW w (Fr.of S) [] (fun _ => undef) S w :=
      ⟨fun i ob hi => by simp at hi, fun i j oi oj b hi => by simp at hi, fun i ob b hi => by simp at hi, fun _ h => h, hlt, fun _ h => .inl h, LeM.refl _ _, fun i hi => by simp at hi, fun i v hp => by cases hp⟩
    refine wp_mono (vcCode_sound hm hT hF c hd _ _ _ _ _ _ _ _ w h hA hW) ?_
    intro e a' w' hq
    cases e with
    | normal => exact retK_post hT (fun _ => rfl) hq
    | ret => exact retK_post hT (fun _ => rfl) hq
    | exit i => obtain ⟨_, _, _, _, h, _⟩ := hq; exact h.elim
    | _ => exact hq.elim

/-! ### Functions that may change a variable of the caller's -/

def initSV (i : Nat) : List SV → Slots
  | [] => []
  | x :: r => (i, x) :: initSV (i + 1) r

def retKM (T : Tab) (rs : List ResultVar) (t : TypeId) (b : Bool) (r : PV) : K := fun sl obs => obs.at 0 fun o => (match o with
  | .box t' cs => bif Nat.beq t' t then (match cs with
    | [.p y] => y = .v (.bool b)
    | [.kb c] => c = b
    | _ => False) else False
  | _ => False) ∧ vcRets T sl obs rs fun vs => match vs with
    | [.p y] => y = r
    | [.kb c] => .v (.bool c) = r
    | _ => False

def vcFunM (P : Program) (F : Nat) (T : Tab) (fn : Func) (args : List SV) (ob : Ob) (t : TypeId) (b : Bool) (r : PV) : Prop :=
  match fn.body with
  | some c => vcCode P F T fn.ntmps c (retKM T fn.results.toList t b r) (retKM T fn.results.toList t b r) (fun _ _ _ => False) (initSV 0 args) [ob]
  | none => False

theorem get_initSV : ∀ (i : Nat) (args : List SV) (t : Nat), (initSV i args).get t = if i ≤ t ∧ t < i + args.length then args.getD (t - i) .any else .any
  | i, [], t => by
    rw [if_neg (by simp)]
    rfl
  | i, x :: r, t => by
    rw [initSV, get_cons, get_initSV (i + 1) r t]
    by_cases h : i = t
    · subst h; simp
    · rw [if_neg h]
      by_cases h2 : i + 1 ≤ t ∧ t < i + 1 + r.length
      · rw [if_pos h2, if_pos (by simp; omega)]
        have : t - i = (t - (i + 1)) + 1 := by omega
        rw [this]; simp
      · rw [if_neg h2, if_neg (by simp; omega)]

theorem retKM_post (hT : TabOk P T) (hno : ∀ i v, S0.pin i = some v → i < 1) {fn : Func} {t : TypeId} {b : Bool} {r : PV} {a : Act} {w : World} (h : Kpost w0 S0 N (retKM T fn.results.toList t b r) a w) :
    a.defers = [] ∧ ∃ v, (results fn a.tmps).run P w = .ok v w ∧ ∃ v' ρ S', Ending.returned v = .returned v' ∧ SatW w0 S0 [.box t [.p (.v (.bool b))]] ρ S' w ∧ Rep w S' r v' := by
  obtain ⟨sl, obs, ρ, S, h, hA, hW⟩ := h
  unfold retKM at h
  rw [at_iff] at h
  obtain ⟨o, ho, hob, h⟩ := h
  have hob : o = .box t [.p (.v (.bool b))] ∨ o = .box t [.kb b] := by
    split at hob
    · rw [cond_false_iff] at hob
      obtain ⟨h1, h2⟩ := hob
      rw [Nat.eq_of_beq_eq_true h1]
      split at h2
      · rw [h2]; exact .inl rfl
      · rw [h2]; exact .inr rfl
      · exact h2.elim
    · exact hob.elim
  have hlen : 1 ≤ obs.length := (List.getElem?_eq_some_iff.1 ho).1
  obtain ⟨vs, xs, h, hd, hrun⟩ := rets_spec (P := P) hT hA hW _ h
  have hsh0 : SatW w0 S0 [o] ρ S w := by
    refine hW.shrink hlen (fun i o hi _ => ?_) (fun i o' hi => ?_) hno
    · cases i with
      | zero => cases hi; exact ho
      | succ i => simp at hi
    · cases i with
      | zero =>
        cases hi
        rcases hob with rfl | rfl
        · intro j p hp
          cases j with
          | zero => cases hp; exact .p _
          | succ j => simp at hp
        · intro j p hp
          cases j with
          | zero => cases hp; exact .kb _
          | succ j => simp at hp
      | succ i => simp at hi
  have hsh : SatW w0 S0 [.box t [.p (.v (.bool b))]] ρ S w := by
    rcases hob with rfl | rfl
    · exact hsh0
    · have hk := hsh0.objs 0 _ rfl
      obtain ⟨bb, xs, hx, hb, hd, h1⟩ := hk
      have hk' : ObOk ρ (Lt 1) w S (.box t [.p (.v (.bool b))]) (ρ 0) := by
        refine ⟨bb, xs, hx, hb, ⟨hd.1, fun j p y hp hy => ?_⟩, h1⟩
        cases j with
        | zero =>
          cases hp
          have := den_kb (hd.2 0 _ y rfl hy)
          subst this
          exact .p (.v _)
        | succ j => simp at hp
      exact hsh0.retell1 (i := 0) rfl rfl hk' (fun b hb => .inl (hb.flat rfl))
  split at h
  · rename_i y
    subst h
    match xs, hd with
    | [x], hd =>
      refine ⟨hA.defs, x, results_of fn a.tmps w [x] hrun, x, ρ, S, rfl, hsh, den_p (hd.2 0 _ x rfl rfl)⟩
    | [], hd => exact absurd hd.1 (by simp)
    | _ :: _ :: _, hd => exact absurd hd.1 (by simp)
  · rename_i c
    subst h
    match xs, hd with
    | [x], hd =>
      have := den_kb (hd.2 0 _ x rfl rfl)
      subst this
      refine ⟨hA.defs, _, results_of fn a.tmps w [_] hrun, _, ρ, S, rfl, hsh, .v _⟩
    | [], hd => exact absurd hd.1 (by simp)
    | _ :: _ :: _, hd => exact absurd hd.1 (by simp)
  · exact h.elim

theorem retM_of_vc (hm : P.follows .mixedOrders = true) (hT : TabOk P T) (hF : ∀ f, 2 < f → f < F → FnOk P f) {f : FuncId} {fn : Func} (hf : P.funcs[f]? = some fn) (hd : (match fn.body with | some c => drawsB c | none => false) = true) {args : List SV} (hn : args.length ≤ fn.ntmps) {ob : Ob} {t : TypeId} {b : Bool} {r : PV}
    (h : vcFunM P F T fn args ob t b r) : RetM P f args ob (.box t [.p (.v (.bool b))]) r := by
  intro w S m ρ xs hW hrep
  unfold vcFunM at h
  cases hb : fn.body with
  | none => simp [hb] at h
  | some c =>
    simp only [hb] at h hd
    refine calls_of_wp hf hb ?_
    have hxl : args.length = xs.length := hrep.1
    have hA : SatA fn.ntmps (initSV 0 args) (Lt ([ob] : Obs).length) ρ S w { tmps := xs.toArray ++ Array.replicate (fn.ntmps - xs.toArray.size) undef, defers := [] } := by
      refine ⟨by simp; omega, rfl, fun t => ?_⟩
      rw [get_initSV]
      split
      · rename_i ht
        have h1 : t < args.length := by omega
        have h2 : t < xs.length := by omega
        have := hrep.2 t args[t] xs[t] (List.getElem?_eq_getElem h1) (List.getElem?_eq_getElem h2)
        have e1 : (xs.toArray ++ Array.replicate (fn.ntmps - xs.toArray.size) undef).getD t undef = xs[t] := by simp [Array.getElem?_append, h2]
        have e2 : args.getD (t - 0) .any = args[t] := by simp [List.getD, h1]
        rw [e1, e2]
        exact this
      · exact .any _
    have hpin : ∀ i v, (fun i => if i = 0 then some (ρ 0) else none : Nat → Option Value) i = some v → i < 1 := by
      intro i v hv
      by_cases e : i = 0
      · omega
      · simp [e] at hv
    refine wp_mono (vcCode_sound hm hT hF c hd _ _ _ _ _ _ _ _ w h hA hW) ?_
    intro e a' w' hq
    cases e with
    | normal => exact retKM_post hT hpin hq
    | ret => exact retKM_post hT hpin hq
    | exit i => obtain ⟨_, _, _, _, h, _⟩ := hq; exact h.elim
    | _ => exact hq.elim

end
end Go.Pv
