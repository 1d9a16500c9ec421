/- Events are not noticed by closures, and undoing restores, in plain Lean. -/
import Derived.Test.YtilmadidjihfkaaPlCxm
namespace Go.Pv
open Go.Vc

def nzV (p : Rat × Rat) : Prop := p.1 * p.1 + p.2 * p.2 ≠ 0

theorem nzV_mul {p q : Rat × Rat} (hp : nzV p) (hq : nzV q) : nzV (mulV p q) := by
  unfold nzV mulV at *
  intro h
  have : (p.1 * p.1 + p.2 * p.2) * (q.1 * q.1 + q.2 * q.2) = 0 := by
    rw [← h]; grind
  grind

theorem nzV_prod {xs : List Cx} (h : ∀ x ∈ xs, nzV (val x)) : nzV (prodV xs) := by
  unfold prodV
  suffices H : ∀ (xs : List Cx) (p : Rat × Rat), nzV p → (∀ x ∈ xs, nzV (val x)) → nzV (xs.foldl (fun p x => mulV p (val x)) p) from H xs (1, 0) (by unfold nzV; grind) h
  intro xs
  induction xs with
  | nil => intro p hp _; exact hp
  | cons x xs ih => intro p hp h; exact ih _ (nzV_mul hp (h x (by simp))) (fun y hy => h y (by simp [hy]))

theorem zero_nzV {a : Cx} (ha : a.valid) : nzV (val a) ↔ ¬ a.zero := by
  constructor
  · intro h hz
    rw [zero_v ha] at hz
    exact h (by show vre a * vre a + vim a * vim a = 0; rw [hz.1, hz.2]; grind)
  · exact v_nz ha

theorem num_nz {s : Spo} (h : s.ok) (t : Int) : ¬ (num s t).zero := by
  have r : ∀ k, k < 4 → ¬ (rotN k one).zero := by decide
  have q : ∀ x : Int, quart x < 4 := quart_lt
  unfold num
  split
  · decide
  · split
    · rename_i h1
      rcases h.2.2.2.2.2 with h' | h'
      · exact h'.2.2.2
      · rcases h'.1 with h' | h' <;> omega
    · split
      · exact r _ (q _)
      · exact r _ (q _)

theorem stn_nz {l : List Spo} {t : Int} {i : Nat} (h : ∀ s ∈ l, s.ok) (h0 : (stn l t i).2 = 0) : okG (stn l t i).1 := by
  have hv := stn_valid h h0
  refine ⟨hv, ?_⟩
  rw [← zero_nzV hv, stn_v h h0]
  refine nzV_prod fun x hx => ?_
  have hx2 := nums_valid h x hx
  rw [zero_nzV hx2]
  unfold nums at hx
  rw [List.mem_map] at hx
  obtain ⟨s, hs, rfl⟩ := hx
  exact num_nz (h s (List.mem_filter.1 hs).1) t

theorem table_ck {l : List Spo} {t : Int} (h : (table l t).2 = 0) : ck26 (table l t).1 = 0 ∧ (table l t).1.length = 8 := by
  obtain ⟨h1, h2, h3⟩ := table_ok h
  rw [h3]
  have hl : (rowOf l t).length = 8 := by simp [rowOf]
  refine ⟨?_, hl⟩
  unfold ck26
  rw [if_neg (by omega), if_neg (by omega), if_pos]
  rw [List.all_eq_true]
  intro c hc
  unfold rowOf at hc
  rw [List.mem_map] at hc
  obtain ⟨i, hi, rfl⟩ := hc
  exact decide_eq_true (stn_nz h1 (h2 i (List.mem_range.1 hi)))

theorem table_err {l : List Spo} {t : Int} (ht : 0 ≤ t ∧ t < 32) (hl : l.length ≤ 8) : (table l t).2 = 0 ∨ (table l t).2 = 8 ∨ (table l t).2 = 16 := by
  unfold table
  rw [if_neg (by omega), if_neg (by omega)]
  split
  · split
    · exact .inl rfl
    · exact .inr (.inr rfl)
  · exact .inr (.inl rfl)

theorem err1_cases {f : Nat → Int} {P : Int → Prop} (h : ∀ k, P (f k)) (h0 : P 0) : ∀ n, P (err1 f n)
  | 0 => h0
  | n + 1 => by
    rw [err1]
    split
    · exact err1_cases h h0 n
    · exact h n

theorem err1_cases' {f : Nat → Int} {P : Int → Prop} (h0 : P 0) : ∀ n, (∀ k, k < n → P (f k)) → P (err1 f n)
  | 0, _ => h0
  | n + 1, h => by
    rw [err1]
    split
    · exact err1_cases' h0 n fun k hk => h k (by omega)
    · exact h n (by omega)

theorem spoil_err {s : List (List Vis)} {l : List Spo} (h0 : ck35 s = 0) (hrow : ∀ r ∈ s, ck27 r = 0) (hl : l.length ≤ 8) (h : (spoil s l).2 ≠ 0) : ((spoil s l).2 = 8 ∨ (spoil s l).2 = 16) ∧ (spoil s l).1 = [] := by
  have hn := ck35_len h0
  have key : (spoil s l).2 = 0 ∨ (((spoil s l).2 = 8 ∨ (spoil s l).2 = 16) ∧ (spoil s l).1 = []) := by
    show (spo35 noch s l).2 = 0 ∨ _
    unfold spoil spo35
    rw [if_neg (by simp [h0])]
    split
    · rcases table_err (l := l) (t := 0) (by omega) hl with h | h | h
      · exact .inl h
      · exact .inr ⟨.inl h, rfl⟩
      · exact .inr ⟨.inr h, rfl⟩
    · rename_i hs0
      split
      · rename_i ht
        have : terr l s.length = 0 ∨ terr l s.length = 8 ∨ terr l s.length = 16 := err1_cases' (P := fun e => e = 0 ∨ e = 8 ∨ e = 16) (.inl rfl) _ fun k hk => table_err (by omega) hl
        rcases this with h | h
        · exact absurd h ht
        · exact .inr ⟨h, rfl⟩
      · rename_i ht
        have ht : terr l s.length = 0 := by simpa using ht
        split
        · rename_i ho
          have : err1 (fun t => (one35 noch s l t).2) s.length = 0 ∨ err1 (fun t => (one35 noch s l t).2) s.length = 16 := err1_cases' (P := fun e => e = 0 ∨ e = 16) (.inl rfl) _ fun k hk => by
            have ht0 := err1_all.1 ht k hk
            obtain ⟨c1, c2⟩ := table_ck ht0
            have e := one35_get (ch := noch) (s := s) (l := l) hk rfl
            simp only [noch] at e
            simp only [e]
            exact act26_err (hrow _ (List.getElem_mem hk)) c1 c2
          rcases this with h | h
          · exact absurd h ho
          · exact .inr ⟨.inr h, rfl⟩
        · exact .inl rfl
  rcases key with h' | h'
  · exact absurd h' h
  · exact h'

/-- What is known of a series and what is spoilt of it. -/
theorem spoil_rows {s : List (List Vis)} {l : List Spo} (h : (spoil s l).2 = 0) (hrow : ∀ r ∈ s, ck27 r = 0) : (spoil s l).1.length = s.length ∧ ∀ (t : Nat) (ht : t < s.length) (ht' : t < (spoil s l).1.length), (table l t).2 = 0 ∧ (spoil s l).1[t] = (act26 (table l t).1 s[t]).1 ∧ (act26 (table l t).1 s[t]).2 = 0 ∧ Acts (table l t).1 s[t] (spoil s l).1[t] ∧ ck27 (spoil s l).1[t] = 0 ∧ bas s[t] (spoil s l).1[t] = true := by
  obtain ⟨h1, h2⟩ := spo35_row h
  refine ⟨h1, fun t ht ht' => ?_⟩
  obtain ⟨q1, _, q3, q4⟩ := h2 t ht
  simp only [noch] at q3 q4
  have q4' : (spoil s l).1[t]? = some (act26 (table l t).1 s[t]).1 := q4
  rw [List.getElem?_eq_getElem ht'] at q4'
  simp only [Option.some.injEq] at q4'
  obtain ⟨c1, c2⟩ := table_ck q1
  have r0 := hrow _ (List.getElem_mem ht)
  obtain ⟨_, a2, a3⟩ := act26_ok q3
  refine ⟨q1, q4', q3, ?_, ?_, ?_⟩
  · rw [q4']; exact acts_of r0 c2 q3
  · rw [q4', a2]; exact act_ck27 r0 (ck26_0 c1).2.2 c2 a3
  · rw [q4', a2]
    unfold bas
    rw [decide_eq_true]
    rw [List.map_map]
    rfl

theorem clos_of {a b : List Vis} (h : ∀ c, (phase a c).2 = 0 → (phase b c).2 = 0 → (phase a c).1 = (phase b c).1) (h' : ∀ i j k n, (amp a i j k n).2 = 0 → (amp b i j k n).2 = 0 → (amp a i j k n).1 = (amp b i j k n).1) : clos a b = true := by
  rw [clos, Bool.and_eq_true]
  constructor
  · unfold phB
    rw [List.all_eq_true]
    intro t _
    exact decide_eq_true (h _)
  · refine amps_all fun i j k n _ _ _ _ => ?_
    rw [am2, Bool.and_eq_true]
    exact ⟨decide_eq_true (h' _ _ _ _), decide_eq_true (h' _ _ _ _)⟩

theorem clos_acts {g : List Cx} {a b : List Vis} (H : Acts g a b) : clos a b = true ∧ clos b a = true :=
  ⟨clos_of (fun c => (acts_phase H c).2) (fun i j k n => (acts_amp H i j k n).2), clos_of (fun c h1 h2 => ((acts_phase H c).2 h2 h1).symm) (fun i j k n h1 h2 => ((acts_amp H i j k n).2 h2 h1).symm)⟩

theorem bas_eqs {a b : List Vis} : bas a b = true ↔ a.map Vis.key = b.map Vis.key := by unfold bas; exact decide_eq_true_iff

theorem headD_get {α : Type} {x : List α} {d : α} (h : 0 < x.length) : x.headD d = x[0] := by
  cases x with
  | nil => simp at h
  | cons y r => rfl

theorem spoil_ck {s : List (List Vis)} {l : List Spo} (h0 : ck35 s = 0) (h : (spoil s l).2 = 0) (hrow : ∀ r ∈ s, ck27 r = 0) (hbas : ∀ (i j : Nat) (hi : i < s.length) (hj : j < s.length), bas s[i] s[j] = true) : ck35 (spoil s l).1 = 0 := by
  obtain ⟨h1, h2⟩ := spoil_rows h hrow
  have hn := ck35_len h0
  refine ck35_0 (by omega) (ferr_0 fun r hr => ?_) fun r hr => ?_
  · obtain ⟨t, ht, rfl⟩ := List.getElem_of_mem hr
    exact (h2 t (by omega) ht).2.2.2.2.1
  · obtain ⟨t, ht, rfl⟩ := List.getElem_of_mem hr
    have h0' : 0 < (spoil s l).1.length := by omega
    have e : (spoil s l).1.headD [] = (spoil s l).1[0] := headD_get h0'
    rw [e, bas_eqs]
    have b1 := bas_eqs.1 (h2 t (by omega) ht).2.2.2.2.2
    have b2 := bas_eqs.1 (h2 0 (by omega) h0').2.2.2.2.2
    have b3 := bas_eqs.1 (hbas t 0 (by omega) (by omega))
    rw [← b1, b3, b2]

theorem spoil_alike {s : List (List Vis)} {l : List Spo} (h0 : ck35 s = 0) (h : (spoil s l).2 = 0) (hrow : ∀ r ∈ s, ck27 r = 0) (hbas : ∀ (i j : Nat) (hi : i < s.length) (hj : j < s.length), bas s[i] s[j] = true) : alike35 s (spoil s l).1 = (true, 0) ∧ alike35 (spoil s l).1 s = (true, 0) := by
  obtain ⟨h1, h2⟩ := spoil_rows h hrow
  have hc := spoil_ck h0 h hrow hbas
  constructor
  · refine alike35_all h0 hc h1.symm fun t ht ht' => ?_
    obtain ⟨_, _, _, H, _, hb⟩ := h2 t ht ht'
    exact ⟨hb, (clos_acts H).1⟩
  · refine alike35_all hc h0 h1 fun t ht' ht => ?_
    obtain ⟨_, _, _, H, _, hb⟩ := h2 t ht ht'
    exact ⟨by rw [bas_eqs] at hb ⊢; exact hb.symm, (clos_acts H).2⟩

theorem perr_cases {m : Cx → Cx → Cx × Int} {u v : Nat → Cx} : ∀ n, (∀ k, k < n → (m (u k) (v k)).2 = 0 ∨ (m (u k) (v k)).2 = 16) → perr m u v n = 0 ∨ perr m u v n = 16
  | 0, _ => .inl rfl
  | n + 1, h => by
    rw [perr]
    split
    · exact perr_cases n fun k hk => h k (by omega)
    · exact h n (by omega)

theorem tinv_err {g : List Cx} (e : ck26 g = 0) : (tinv g).2 = 0 ∨ (tinv g).2 = 16 := by
  rw [tinv, if_neg (by simp [e])]
  unfold prods
  split
  · exact .inl rfl
  · refine perr_cases _ fun k hk => ?_
    have hm : gat g k ∈ g := by rw [gat_get hk]; exact List.getElem_mem hk
    obtain ⟨gv, gz⟩ := (ck26_0 e).2.2 _ hm
    rcases div_errJ one_validK gv gz with h | h
    · exact .inl h
    · exact .inr (by rw [h])

theorem undo_back {s : List (List Vis)} {l : List Spo} (h0 : ck35 s = 0) (h : (spoil s l).2 = 0) (hrow : ∀ r ∈ s, ck27 r = 0) (hbas : ∀ (i j : Nat) (hi : i < s.length) (hj : j < s.length), bas s[i] s[j] = true) : (undo (spoil s l).1 l).2 = 16 ∨ (undo (spoil s l).1 l).2 = 0 ∧ (undo (spoil s l).1 l).1 = s := by
  obtain ⟨h1, h2⟩ := spoil_rows h hrow
  have hc := spoil_ck h0 h hrow hbas
  obtain ⟨_, a2, _, _⟩ := spo35_ok h
  have key : (undo (spoil s l).1 l).2 = 16 ∨ (undo (spoil s l).1 l).2 = 0 := by
    show (spo35 tinv (spoil s l).1 l).2 = 16 ∨ (spo35 tinv (spoil s l).1 l).2 = 0
    generalize hb : (spoil s l).1 = b at *
    unfold spo35
    rw [if_neg (by simp [hc])]
    split
    · rename_i hs
      have hs' : s.length = 0 := by omega
      have : (spoil s l).2 = (table l 0).2 := by
        show (spo35 noch s l).2 = _
        unfold spo35
        rw [if_neg (by simp [h0]), if_pos hs']
      right
      show (table l 0).2 = 0
      rw [← this]; exact h
    · rw [if_neg (by rw [h1]; simpa using a2)]
      split
      · have : err1 (fun t => (one35 tinv b l t).2) b.length = 0 ∨ err1 (fun t => (one35 tinv b l t).2) b.length = 16 := err1_cases' (P := fun e => e = 0 ∨ e = 16) (.inl rfl) _ fun k hk => by
          obtain ⟨t0, _, _, _, c27, _⟩ := h2 k (by omega) hk
          obtain ⟨c1, c2⟩ := table_ck t0
          rcases tinv_err c1 with e | e
          · have := one35_get (s := b) hk e
            simp only [this]
            exact act26_err c27 (tinv_ck c1 e) (by rw [(tinv_ok c1 e).1]; exact c2)
          · have := one35_bad (s := b) (l := l) (t := k) (ch := tinv) (by rw [e]; simp)
            simp only [this]
            exact .inr e
        rcases this with h | h
        · exact .inr h
        · exact .inl h
      · exact .inr rfl
  rcases key with k | k
  · exact .inl k
  · refine .inr ⟨k, ?_⟩
    obtain ⟨u1, u2⟩ := spo35_row k
    have ul : (undo (spoil s l).1 l).1.length = (spoil s l).1.length := u1
    apply List.ext_getElem
    · rw [ul, h1]
    · intro t ht ht'
      have ht2 : t < (spoil s l).1.length := by omega
      obtain ⟨_, v2, v3, v4⟩ := u2 t ht2
      have v4' : (undo (spoil s l).1 l).1[t]? = some (act26 (tinv (table l t).1).1 (spoil s l).1[t]).1 := v4
      rw [List.getElem?_eq_getElem ht] at v4'
      simp only [Option.some.injEq] at v4'
      obtain ⟨t0, e1, e2, _, _, _⟩ := h2 t ht' ht2
      obtain ⟨c1, c2⟩ := table_ck t0
      rw [v4']
      rw [e1] at v3 ⊢
      refine act_inv c1 ?_ e2 v2 v3
      have := (ck27_0 (hrow _ (List.getElem_mem ht')))
      unfold all26
      rw [if_neg (by omega), if_pos]
      rw [List.all_eq_true]
      intro v hv
      rw [c2]
      exact decide_eq_true (this.2.1 v hv)
end Go.Pv
