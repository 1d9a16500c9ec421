/- Events are not noticed by closures, and undoing restores, in plain Lean. -/
import Derived.Test.YtilmadidjihfkaaPlCxm
namespace Go.Pv
open Go.Vc

def nzV (p : Rat × Rat) : Prop := p.1 * p.1 + p.2 * p.2 ≠ 0

theorem nzV_mul {p q : Rat × Rat} (hp : nzV p) (hq : nzV q) : nzV (mulV p q) := by
  unfold nzV mulV at *
  intro h
  have : (p.1 * p.1 + p.2 * p.2) * (q.1 * q.1 + q.2 * q.2) = 0 := by
    rw [← h]; grind
  grind

theorem nzV_prod {xs : List Cx} (h : ∀ x ∈ xs, nzV (val x)) : nzV (prodV xs) := by
  unfold prodV
  suffices H : ∀ (xs : List Cx) (p : Rat × Rat), nzV p → (∀ x ∈ xs, nzV (val x)) → nzV (xs.foldl (fun p x => mulV p (val x)) p) from H xs (1, 0) (by unfold nzV; grind) h
  intro xs
  induction xs with
  | nil => intro p hp _; exact hp
  | cons x xs ih => intro p hp h; exact ih _ (nzV_mul hp (h x (by simp))) (fun y hy => h y (by simp [hy]))

theorem zero_nzV {a : Cx} (ha : a.valid) : nzV (val a) ↔ ¬ a.zero := by
  constructor
  · intro h hz
    rw [zero_v ha] at hz
    exact h (by show vre a * vre a + vim a * vim a = 0; rw [hz.1, hz.2]; grind)
  · exact v_nz ha

theorem num_nz {s : Spo} (h : s.ok) (t : Int) : ¬ (num s t).zero := by
  have r : ∀ k, k < 4 → ¬ (rotN k one).zero := by decide
  have q : ∀ x : Int, quart x < 4 := quart_lt
  unfold num
  split
  · decide
  · split
    · rename_i h1
      rcases h.2.2.2.2.2 with h' | h'
      · exact h'.2.2.2
      · rcases h'.1 with h' | h' <;> omega
    · split
      · exact r _ (q _)
      · exact r _ (q _)

theorem stn_nz {l : List Spo} {t : Int} {i : Nat} (h : ∀ s ∈ l, s.ok) (h0 : (stn l t i).2 = 0) : okG (stn l t i).1 := by
  have hv := stn_valid h h0
  refine ⟨hv, ?_⟩
  rw [← zero_nzV hv, stn_v h h0]
  refine nzV_prod fun x hx => ?_
  have hx2 := nums_valid h x hx
  rw [zero_nzV hx2]
  unfold nums at hx
  rw [List.mem_map] at hx
  obtain ⟨s, hs, rfl⟩ := hx
  exact num_nz (h s (List.mem_filter.1 hs).1) t

theorem table_ck {l : List Spo} {t : Int} (h : (table l t).2 = 0) : ck26 (table l t).1 = 0 ∧ (table l t).1.length = 8 := by
  obtain ⟨h1, h2, h3⟩ := table_ok h
  rw [h3]
  have hl : (rowOf l t).length = 8 := by simp [rowOf]
  refine ⟨?_, hl⟩
  unfold ck26
  rw [if_neg (by omega), if_neg (by omega), if_pos]
  rw [List.all_eq_true]
  intro c hc
  unfold rowOf at hc
  rw [List.mem_map] at hc
  obtain ⟨i, hi, rfl⟩ := hc
  exact decide_eq_true (stn_nz h1 (h2 i (List.mem_range.1 hi)))

theorem table_err {l : List Spo} {t : Int} (ht : 0 ≤ t ∧ t < 32) (hl : l.length ≤ 8) : (table l t).2 = 0 ∨ (table l t).2 = 8 ∨ (table l t).2 = 16 := by
  unfold table
  rw [if_neg (by omega), if_neg (by omega)]
  split
  · split
    · exact .inl rfl
    · exact .inr (.inr rfl)
  · exact .inr (.inl rfl)

theorem err1_cases {f : Nat → Int} {P : Int → Prop} (h : ∀ k, P (f k)) (h0 : P 0) : ∀ n, P (err1 f n)
  | 0 => h0
  | n + 1 => by
    rw [err1]
    split
    · exact err1_cases h h0 n
    · exact h n

theorem err1_cases' {f : Nat → Int} {P : Int → Prop} (h0 : P 0) : ∀ n, (∀ k, k < n → P (f k)) → P (err1 f n)
  | 0, _ => h0
  | n + 1, h => by
    rw [err1]
    split
    · exact err1_cases' h0 n fun k hk => h k (by omega)
    · exact h n (by omega)

theorem spoil_err {s : List (List Vis)} {l : List Spo} (h0 : ck35 s = 0) (hrow : ∀ r ∈ s, ck27 r = 0) (hl : l.length ≤ 8) (h : (spoil s l).2 ≠ 0) : ((spoil s l).2 = 8 ∨ (spoil s l).2 = 16) ∧ (spoil s l).1 = [] := by
  have hn := ck35_len h0
  have key : (spoil s l).2 = 0 ∨ (((spoil s l).2 = 8 ∨ (spoil s l).2 = 16) ∧ (spoil s l).1 = []) := by
    show (spo35 noch s l).2 = 0 ∨ _
    unfold spoil spo35
    rw [if_neg (by simp [h0])]
    split
    · rcases table_err (l := l) (t := 0) (by omega) hl with h | h | h
      · exact .inl h
      · exact .inr ⟨.inl h, rfl⟩
      · exact .inr ⟨.inr h, rfl⟩
    · rename_i hs0
      split
      · rename_i ht
        have : terr l s.length = 0 ∨ terr l s.length = 8 ∨ terr l s.length = 16 := err1_cases' (P := fun e => e = 0 ∨ e = 8 ∨ e = 16) (.inl rfl) _ fun k hk => table_err (by omega) hl
        rcases this with h | h
        · exact absurd h ht
        · exact .inr ⟨h, rfl⟩
      · rename_i ht
        have ht : terr l s.length = 0 := by simpa using ht
        split
        · rename_i ho
          have : err1 (fun t => (one35 noch s l t).2) s.length = 0 ∨ err1 (fun t => (one35 noch s l t).2) s.length = 16 := err1_cases' (P := fun e => e = 0 ∨ e = 16) (.inl rfl) _ fun k hk => by
            have ht0 := err1_all.1 ht k hk
            obtain ⟨c1, c2⟩ := table_ck ht0
            have e := one35_get (ch := noch) (s := s) (l := l) hk rfl
            simp only [noch] at e
            simp only [e]
            exact act26_err (hrow _ (List.getElem_mem hk)) c1 c2
          rcases this with h | h
          · exact absurd h ho
          · exact .inr ⟨.inr h, rfl⟩
        · exact .inl rfl
  rcases key with h' | h'
  · exact absurd h' h
  · exact h'

/-- What is known of a series and what is spoilt of it. -/
theorem spoil_rows {s : List (List Vis)} {l : List Spo} (h : (spoil s l).2 = 0) (hrow : ∀ r ∈ s, ck27 r = 0) : (spoil s l).1.length = s.length ∧ ∀ (t : Nat) (ht : t < s.length) (ht' : t < (spoil s l).1.length), (table l t).2 = 0 ∧ (spoil s l).1[t] = (act26 (table l t).1 s[t]).1 ∧ (act26 (table l t).1 s[t]).2 = 0 ∧ Acts (table l t).1 s[t] (spoil s l).1[t] ∧ ck27 (spoil s l).1[t] = 0 ∧ bas s[t] (spoil s l).1[t] = true := by
  obtain ⟨h1, h2⟩ := spo35_row h
  refine ⟨h1, fun t ht ht' => ?_⟩
  obtain ⟨q1, _, q3, q4⟩ := h2 t ht
  simp only [noch] at q3 q4
  have q4' : (spoil s l).1[t]? = some (act26 (table l t).1 s[t]).1 := q4
  rw [List.getElem?_eq_getElem ht'] at q4'
  simp only [Option.some.injEq] at q4'
  obtain ⟨c1, c2⟩ := table_ck q1
  have r0 := hrow _ (List.getElem_mem ht)
  obtain ⟨_, a2, a3⟩ := act26_ok q3
  refine ⟨q1, q4', q3, ?_, ?_, ?_⟩
  · rw [q4']; exact acts_of r0 c2 q3
  · rw [q4', a2]; exact act_ck27 r0 (ck26_0 c1).2.2 c2 a3
  · rw [q4', a2]
    unfold bas
    rw [decide_eq_true]
    rw [List.map_map]
    rfl

theorem clos_of {a b : List Vis} (h : ∀ c, (phase a c).2 = 0 → (phase b c).2 = 0 → (phase a c).1 = (phase b c).1) (h' : ∀ i j k n, (amp a i j k n).2 = 0 → (amp b i j k n).2 = 0 → (amp a i j k n).1 = (amp b i j k n).1) : clos a b = true := by
  rw [clos, Bool.and_eq_true]
  constructor
  · unfold phB
    rw [List.all_eq_true]
    intro t _
    exact decide_eq_true (h _)
  · refine amps_all fun i j k n _ _ _ _ => ?_
    rw [am2, Bool.and_eq_true]
    exact ⟨decide_eq_true (h' _ _ _ _), decide_eq_true (h' _ _ _ _)⟩

theorem clos_acts {g : List Cx} {a b : List Vis} (H : Acts g a b) : clos a b = true ∧ clos b a = true :=
  ⟨clos_of (fun c => (acts_phase H c).2) (fun i j k n => (acts_amp H i j k n).2), clos_of (fun c h1 h2 => ((acts_phase H c).2 h2 h1).symm) (fun i j k n h1 h2 => ((acts_amp H i j k n).2 h2 h1).symm)⟩

theorem bas_eqs {a b : List Vis} : bas a b = true ↔ a.map Vis.key = b.map Vis.key := by unfold bas; exact decide_eq_true_iff

theorem headD_get {α : Type} {x : List α} {d : α} (h : 0 < x.length) : x.headD d = x[0] := by
  cases x with
  | nil => simp at h
  | cons y r => rfl

theorem spoil_ck {s : List (List Vis)} {l : List Spo} (h0 : ck35 s = 0) (h : (spoil s l).2 = 0) (hrow : ∀ r ∈ s, ck27 r = 0) (hbas : ∀ (i j : Nat) (hi : i < s.length) (hj : j < s.length), bas s[i] s[j] = true) : ck35 (spoil s l).1 = 0 := by
  obtain ⟨h1, h2⟩ := spoil_rows h hrow
  have hn := ck35_len h0
  refine ck35_0 (by omega) (ferr_0 fun r hr => ?_) fun r hr => ?_
  · obtain ⟨t, ht, rfl⟩ := List.getElem_of_mem hr
    exact (h2 t (by omega) ht).2.2.2.2.1
  · obtain ⟨t, ht, rfl⟩ := List.getElem_of_mem hr
    have h0' : 0 < (spoil s l).1.length := by omega
    have e : (spoil s l).1.headD [] = (spoil s l).1[0] := headD_get h0'
    rw [e, bas_eqs]
    have b1 := bas_eqs.1 (h2 t (by omega) ht).2.2.2.2.2
    have b2 := bas_eqs.1 (h2 0 (by omega) h0').2.2.2.2.2
    have b3 := bas_eqs.1 (hbas t 0 (by omega) (by omega))
    rw [← b1, b3, b2]

theorem spoil_alike {s : List (List Vis)} {l : List Spo} (h0 : ck35 s = 0) (h : (spoil s l).2 = 0) (hrow : ∀ r ∈ s, ck27 r = 0) (hbas : ∀ (i j : Nat) (hi : i < s.length) (hj : j < s.length), bas s[i] s[j] = true) : alike35 s (spoil s l).1 = (true, 0) ∧ alike35 (spoil s l).1 s = (true, 0) := by
  obtain ⟨h1, h2⟩ := spoil_rows h hrow
  have hc := spoil_ck h0 h hrow hbas
  constructor
  · refine alike35_all h0 hc h1.symm fun t ht ht' => ?_
    obtain ⟨_, _, _, H, _, hb⟩ := h2 t ht ht'
    exact ⟨hb, (clos_acts H).1⟩
  · refine alike35_all hc h0 h1 fun t ht' ht => ?_
    obtain ⟨_, _, _, H, _, hb⟩ := h2 t ht ht'
    exact ⟨by rw [bas_eqs] at hb ⊢; exact hb.symm, (clos_acts H).2⟩

theorem perr_cases {m : Cx → Cx → Cx × Int} {u v : Nat → Cx} : ∀ n, (∀ k, k < n → (m (u k) (v k)).2 = 0 ∨ (m (u k) (v k)).2 = 16) → perr m u v n = 0 ∨ perr m u v n = 16
  | 0, _ => .inl rfl
  | n + 1, h => by
    rw [perr]
    split
    · exact perr_cases n fun k hk => h k (by omega)
    · exact h n (by omega)

theorem tinv_err {g : List Cx} (e : ck26 g = 0) : (tinv g).2 = 0 ∨ (tinv g).2 = 16 := by
  rw [tinv, if_neg (by simp [e])]
  unfold prods
  split
  · exact .inl rfl
  · refine perr_cases _ fun k hk => ?_
    have hm : gat g k ∈ g := by rw [gat_get hk]; exact List.getElem_mem hk
    obtain ⟨gv, gz⟩ := (ck26_0 e).2.2 _ hm
    rcases div_errJ one_validK gv gz with h | h
    · exact .inl h
    · exact .inr (by rw [h])

theorem undo_back {s : List (List Vis)} {l : List Spo} (h0 : ck35 s = 0) (h : (spoil s l).2 = 0) (hrow : ∀ r ∈ s, ck27 r = 0) (hbas : ∀ (i j : Nat) (hi : i < s.length) (hj : j < s.length), bas s[i] s[j] = true) : (undo (spoil s l).1 l).2 = 16 ∨ (undo (spoil s l).1 l).2 = 0 ∧ (undo (spoil s l).1 l).1 = s := by
  obtain ⟨h1, h2⟩ := spoil_rows h hrow
  have hc := spoil_ck h0 h hrow hbas
  obtain ⟨_, a2, _, _⟩ := spo35_ok h
  have key : (undo (spoil s l).1 l).2 = 16 ∨ (undo (spoil s l).1 l).2 = 0 := by
    show (spo35 tinv (spoil s l).1 l).2 = 16 ∨ (spo35 tinv (spoil s l).1 l).2 = 0
    generalize hb : (spoil s l).1 = b at *
    unfold spo35
    rw [if_neg (by simp [hc])]
    split
    · rename_i hs
      have hs' : s.length = 0 := by omega
      have : (spoil s l).2 = (table l 0).2 := by
        show (spo35 noch s l).2 = _
        unfold spo35
        rw [if_neg (by simp [h0]), if_pos hs']
      right
      show (table l 0).2 = 0
      rw [← this]; exact h
    · rw [if_neg (by rw [h1]; simpa using a2)]
      split
      · have : err1 (fun t => (one35 tinv b l t).2) b.length = 0 ∨ err1 (fun t => (one35 tinv b l t).2) b.length = 16 := err1_cases' (P := fun e => e = 0 ∨ e = 16) (.inl rfl) _ fun k hk => by
          obtain ⟨t0, _, _, _, c27, _⟩ := h2 k (by omega) hk
          obtain ⟨c1, c2⟩ := table_ck t0
          rcases tinv_err c1 with e | e
          · have := one35_get (s := b) hk e
            simp only [this]
            exact act26_err c27 (tinv_ck c1 e) (by rw [(tinv_ok c1 e).1]; exact c2)
          · have := one35_bad (s := b) (l := l) (t := k) (ch := tinv) (by rw [e]; simp)
            simp only [this]
            exact .inr e
        rcases this with h | h
        · exact .inr h
        · exact .inl h
      · exact .inr rfl
  rcases key with k | k
  · exact .inl k
  · refine .inr ⟨k, ?_⟩
    obtain ⟨u1, u2⟩ := spo35_row k
    have ul : (undo (spoil s l).1 l).1.length = (spoil s l).1.length := u1
    apply List.ext_getElem
    · rw [ul, h1]
    · intro t ht ht'
      have ht2 : t < (spoil s l).1.length := by omega
      obtain ⟨_, v2, v3, v4⟩ := u2 t ht2
      have v4' : (undo (spoil s l).1 l).1[t]? = some (act26 (tinv (table l t).1).1 (spoil s l).1[t]).1 := v4
      rw [List.getElem?_eq_getElem ht] at v4'
      simp only [Option.some.injEq] at v4'
      obtain ⟨t0, e1, e2, _, _, _⟩ := h2 t ht' ht2
      obtain ⟨c1, c2⟩ := table_ck t0
      rw [v4']
      rw [e1] at v3 ⊢
      refine act_inv c1 ?_ e2 v2 v3
      have := (ck27_0 (hrow _ (List.getElem_mem ht')))
      unfold all26
      rw [if_neg (by omega), if_pos]
      rw [List.all_eq_true]
      intro v hv
      rw [c2]
      exact decide_eq_true (this.2.1 v hv)
end Go.Pv

/- Gains acting on ones; which triples there are. -/
namespace Go.Pv
open Go.Vc

theorem mem_tris {l : List Vis} {t : Tri} : ∀ {n : Nat}, t ∈ tris l n ↔ ∃ k, k < n ∧ isTri l k = true ∧ t = ⟨(k / 64 : Nat), (k / 8 % 8 : Nat), (k % 8 : Nat)⟩
  | 0 => by simp [tris]
  | n + 1 => by
    rw [tris, List.mem_append, mem_tris (n := n)]
    constructor
    · rintro (⟨k, h1, h2, h3⟩ | h)
      · exact ⟨k, by omega, h2, h3⟩
      · split at h
        · rename_i hi
          exact ⟨n, by omega, hi, by simpa using h⟩
        · simp at h
    · rintro ⟨k, h1, h2, h3⟩
      by_cases e : k = n
      · subst e
        right
        rw [if_pos h2]; simp [h3]
      · exact .inl ⟨k, by omega, h2, h3⟩

theorem tris_up {l : List Vis} {t : Tri} {n : Nat} (h : t ∈ tris l n) : t.a < t.b ∧ t.b < t.c := by
  obtain ⟨k, _, h2, rfl⟩ := mem_tris.1 h
  unfold isTri at h2
  simp only [Bool.and_eq_true, decide_eq_true_eq] at h2
  exact ⟨by show ((k / 64 : Nat) : Int) < ((k / 8 % 8 : Nat) : Int); omega, by show ((k / 8 % 8 : Nat) : Int) < ((k % 8 : Nat) : Int); omega⟩

theorem tris_has {l : List Vis} (hl : ∀ v ∈ l, v.good 8) {a b c : Int} (ha : 0 ≤ a) (hab : a < b) (hbc : b < c) (hc : c < 8) :
    (⟨a, b, c⟩ ∈ tris l 512) ↔ ((got a b l).isSome = true ∧ (got b c l).isSome = true ∧ (got a c l).isSome = true) := by
  obtain ⟨x, rfl⟩ : ∃ x : Nat, a = x := ⟨a.toNat, by omega⟩
  obtain ⟨y, rfl⟩ : ∃ y : Nat, b = y := ⟨b.toNat, by omega⟩
  obtain ⟨z, rfl⟩ : ∃ z : Nat, c = z := ⟨c.toNat, by omega⟩
  rw [got_some hl (by omega) (by omega), got_some hl (by omega) (by omega), got_some hl (by omega) (by omega), mem_tris]
  have e := isTri_at l (a := x) (b := y) (c := z) (by omega) (by omega) (by omega)
  constructor
  · rintro ⟨k, h1, h2, h3⟩
    simp only [Tri.mk.injEq] at h3
    have : k = x * 64 + y * 8 + z := by omega
    subst this
    rw [e] at h2
    simpa [Bool.and_eq_true, and_assoc] using h2
  · rintro ⟨h1, h2, h3⟩
    refine ⟨x * 64 + y * 8 + z, by omega, by rw [e, h1, h2, h3]; rfl, ?_⟩
    have e1 : (x * 64 + y * 8 + z) / 64 = x := by omega
    have e2 : (x * 64 + y * 8 + z) / 8 % 8 = y := by omega
    have e3 : (x * 64 + y * 8 + z) % 8 = z := by omega
    rw [e1, e2, e3]

/-- The phase of a triple is told unless a visibility lacks. -/
theorem phase_6 {l : List Vis} (h0 : ck27 l = 0) {a b c : Int} (hc : circle [a, b, c]) : (phase l [a, b, c]).2 ≠ 6 ↔ ((got a b l).isSome = true ∧ (got b c l).isSome = true ∧ (got a c l).isSome = true) := by
  obtain ⟨_, hgood, _⟩ := ck27_0 h0
  have hp : pairs [a, b, c] = [⟨a, b⟩, ⟨b, c⟩, ⟨c, a⟩] := by simp [pairs, List.range, List.range.loop]
  have hall : ((pairs [a, b, c]).all fun s => (got s.a s.b l).isSome) = true ↔ ((got a b l).isSome = true ∧ (got b c l).isSome = true ∧ (got a c l).isSome = true) := by
    rw [hp]
    simp only [List.all_cons, List.all_nil, Bool.and_true, Bool.and_eq_true]
    rw [got_swap hgood a c, Option.isSome_map]
  rw [← hall]
  rcases phase_cases h0 hc with ⟨h1, h2⟩ | ⟨h1, h2⟩
  · rw [h2]
    show (along27 l (pairs [a, b, c])).2 ≠ 6 ↔ _
    unfold along27
    by_cases H : ((pairs [a, b, c]).all fun s => (got s.a s.b l).isSome) = true
    · rw [if_pos H]
      split <;> simp [H]
    · rw [if_neg H]; simp [H]
  · have H : ((pairs [a, b, c]).all fun s => (got s.a s.b l).isSome) = true := by
      by_cases H : ((pairs [a, b, c]).all fun s => (got s.a s.b l).isSome) = true
      · exact H
      · unfold along27 at h1; rw [if_neg H] at h1; simp at h1
    simp only [H, iff_true]
    rcases h2 with h2 | h2
    · rw [h2]; decide
    · rw [h2.1]; decide

def onesOf (l : List Vis) : List Vis := l.map fun v => v.set one

theorem ones_ck {l : List Vis} (h0 : ck27 l = 0) : ck27 (onesOf l) = 0 := by
  obtain ⟨h1, h2, h3⟩ := ck27_0 h0
  have e : all26 (onesOf l) 8 = 0 := by
    unfold all26 onesOf
    rw [if_neg (by rw [List.length_map]; omega), if_pos]
    rw [List.all_eq_true]
    intro v hv
    rw [List.mem_map] at hv
    obtain ⟨u, hu, rfl⟩ := hv
    have hgood := h2 u hu
    exact decide_eq_true ⟨hgood.1, hgood.2.1, hgood.2.2.1, hgood.2.2.2.1, one_valid⟩
  unfold ck27
  rw [if_neg (by simp [e]), if_pos]
  unfold onesOf
  rw [List.map_map]
  exact h3

theorem ones_got (l : List Vis) (i j : Int) : got i j (onesOf l) = none ∨ got i j (onesOf l) = some one := by
  induction l with
  | nil => exact .inl rfl
  | cons v r ih =>
    show got i j (v.set one :: onesOf r) = none ∨ got i j (v.set one :: onesOf r) = some one
    unfold got
    split
    · exact .inr rfl
    · split
      · exact .inr rfl
      · exact ih

theorem ones_gD {l : List Vis} {s : Pr} (h : (got s.a s.b (onesOf l)).isSome = true) : gD (onesOf l) s = one := by
  unfold gD
  rcases ones_got l s.a s.b with h' | h'
  · rw [h'] at h; cases h
  · rw [h']; rfl

theorem ones_phase {g : List Cx} {l m : List Vis} (H : Acts g (onesOf l) m) {a b c : Int} (h : (phase m [a, b, c]).2 = 0) : (phase m [a, b, c]).1 = one := by
  by_cases hc : circle [a, b, c]
  · have ha := acts_along H (pairs [a, b, c])
    have hz : (along27 (onesOf l) (pairs [a, b, c])).2 = 0 := by
      rw [← ha]
      rcases phase_cases H.h1 hc with ⟨q1, q2⟩ | ⟨q1, _⟩
      · rw [q2] at h; exact absurd h q1
      · exact q1
    obtain ⟨_, hgood, _⟩ := ck27_0 H.h0
    obtain ⟨e1, e2, _⟩ := along27_0 hgood hz
    have hp : pairs [a, b, c] = [⟨a, b⟩, ⟨b, c⟩, ⟨c, a⟩] := by simp [pairs, List.range, List.range.loop]
    have e : phase (onesOf l) [a, b, c] = (one, 0) := by
      rw [phase, if_neg (by simp [H.h0]), if_neg (by simp [hc]), if_neg (by simp [hz]), e1]
      rw [hp] at e2 ⊢
      rw [List.map_cons, List.map_cons, List.map_cons, List.map_nil, ones_gD (e2 _ (by simp)), ones_gD (e2 _ (by simp)), ones_gD (e2 _ (by simp))]
      decide +kernel
    have := (acts_phase H [a, b, c]).2 (by rw [e]) h
    rw [← this, e]
  · have e2 : phase m [a, b, c] = (c0, 2) := by rw [phase, if_neg (by simp [H.h1]), if_pos hc]
    rw [e2] at h; simp at h

theorem ones_amp {g : List Cx} {l m : List Vis} (H : Acts g (onesOf l) m) {a b c d : Int} (h : (amp m a b c d).2 = 0) : (amp m a b c d).1 = ⟨1, 1⟩ := by
  have ha := acts_along H [⟨a, b⟩, ⟨c, d⟩, ⟨a, c⟩, ⟨b, d⟩]
  obtain ⟨_, hgood, _⟩ := ck27_0 H.h0
  rcases amp_cases H.h1 a b c d with ⟨q1, q2⟩ | ⟨q1, q2, q3⟩ | ⟨q1, q2, q3⟩
  · rw [q2] at h; simp at h
  · rw [q3] at h; exact absurd h q2
  · have hz : (along27 (onesOf l) [⟨a, b⟩, ⟨c, d⟩, ⟨a, c⟩, ⟨b, d⟩]).2 = 0 := by rw [← ha]; exact q2
    obtain ⟨_, e2, _⟩ := along27_0 hgood hz
    have e : amp (onesOf l) a b c d = (⟨1, 1⟩, 0) := by
      rw [amp, if_neg (by simp [H.h0]), if_neg (by simp [q1]), if_neg (by simp [hz])]
      rw [ones_gD (e2 _ (by simp)), ones_gD (e2 _ (by simp)), ones_gD (e2 _ (by simp)), ones_gD (e2 _ (by simp))]
      decide +kernel
    have := (acts_amp H a b c d).2 (by rw [e]) h
    rw [← this, e]

end Go.Pv

/- A visibility that is turned alone, in plain Lean: the triangles with its baseline notice it, nothing else does. -/
namespace Go.Pv
open Go.Vc

def pw : Nat → Z
  | 0 => (1, 0)
  | n + 1 => zmul (pw n) (0, 1)

theorem zn_rotN : ∀ (n : Nat) (a : Cx), zn (rotN n a) = zmul (pw n) (zn a)
  | 0, a => by rw [zmul_comm]; exact (zmul_one _).symm
  | n + 1, a => by
    rw [rotN, zn_rotN n, pw, zmul_assoc]
    congr 1
    unfold rot zn zmul
    simp

theorem rotN_den : ∀ (n : Nat) (a : Cx), (rotN n a).den = a.den
  | 0, _ => rfl
  | n + 1, a => by rw [rotN, rotN_den n]; rfl

theorem rot_validD {a : Cx} (h : a.valid) : (rot a).valid := by
  obtain ⟨h1, h2, h3, h4, h5⟩ := h
  refine ⟨h1, h2, ?_, h3, ?_⟩
  · unfold fits at *; simp only [rot]; omega
  · unfold g3 rot at *; simp only
    rw [Int.gcd_comm, Int.gcd_comm (-a.im), Int.gcd_neg] at *
    simpa [Int.gcd_comm] using h5

theorem rotN_validD : ∀ (n : Nat) {a : Cx}, a.valid → (rotN n a).valid
  | 0, _, h => h
  | n + 1, _, h => rotN_validD n (rot_validD h)

theorem rotN_ns : ∀ (n : Nat) (a : Cx), ns (rotN n a) = ns a
  | 0, _ => rfl
  | n + 1, a => by
    rw [rotN, rotN_ns n]
    unfold ns rot
    simp only
    grind

theorem rotN_ds (n : Nat) (a : Cx) : ds (rotN n a) = ds a := by unfold ds; rw [rotN_den]

/-- What becomes of a number from a to b, where that from i to j is turned. -/
def tw (i j : Int) (q : Nat) (a b : Int) (c : Cx) : Cx := if a = i ∧ b = j then rotN q c else if a = j ∧ b = i then conj (rotN q (conj c)) else c
def wt (i j : Int) (q : Nat) (a b : Int) : Z := if a = i ∧ b = j then pw q else if a = j ∧ b = i then zconj (pw q) else (1, 0)

theorem zn_tw (i j : Int) (q : Nat) (a b : Int) (c : Cx) : zn (tw i j q a b c) = zmul (wt i j q a b) (zn c) := by
  unfold tw wt
  split
  · exact zn_rotN q c
  · split
    · rw [show zn (conj (rotN q (conj c))) = zconj (zn (rotN q (conj c))) from rfl, zn_rotN, ← zmul_conj]
      congr 1
      unfold zconj zn conj
      simp
    · rw [zmul_comm, zmul_one]

theorem tw_ns (i j : Int) (q : Nat) (a b : Int) (c : Cx) : ns (tw i j q a b c) = ns c := by
  unfold tw
  split
  · exact rotN_ns q c
  · split
    · rw [ns_conj, rotN_ns, ns_conj]
    · rfl

theorem tw_ds (i j : Int) (q : Nat) (a b : Int) (c : Cx) : ds (tw i j q a b c) = ds c := by
  unfold tw
  split
  · exact rotN_ds q c
  · split
    · rw [ds_conj, rotN_ds, ds_conj]
    · rfl

/-- The visibilities from i to j are turned, and no others. -/
structure Dif (i j : Int) (q : Nat) (l m : List Vis) : Prop where
  h0 : ck27 l = 0
  h1 : ck27 m = 0
  st : ∀ a b, (got a b l = none ∧ got a b m = none) ∨ ∃ c, got a b l = some c ∧ got a b m = some (tw i j q a b c)

def dif (l : List Vis) (k : Nat) (q : Nat) : List Vis := l.set k ((l.getD k ⟨0, 0, c0, 0⟩).set (rotN q (l.getD k ⟨0, 0, c0, 0⟩).v))

theorem dif_cons (v : Vis) (r : List Vis) (k q : Nat) : dif (v :: r) (k + 1) q = v :: dif r k q := by simp [dif]

theorem dif_key (l : List Vis) (k q : Nat) : (dif l k q).map Vis.key = l.map Vis.key := by
  induction l generalizing k with
  | nil => rfl
  | cons v r ih =>
    cases k with
    | zero => rfl
    | succ k => rw [dif_cons, List.map_cons, List.map_cons, ih]

theorem dif_good {n : Int} {l : List Vis} (h : ∀ v ∈ l, v.good n) (k q : Nat) : ∀ v ∈ dif l k q, v.good n := by
  induction l generalizing k with
  | nil => simp [dif]
  | cons v r ih =>
    cases k with
    | zero =>
      intro u hu
      have : u = v.set (rotN q v.v) ∨ u ∈ r := by simpa [dif] using hu
      rcases this with rfl | hu
      · have g := h v (by simp)
        exact ⟨g.1, g.2.1, g.2.2.1, g.2.2.2.1, rotN_validD q g.2.2.2.2⟩
      · exact h u (by simp [hu])
    | succ k =>
      intro u hu
      rw [dif_cons] at hu
      rcases List.mem_cons.1 hu with rfl | hu
      · exact h _ (by simp)
      · exact ih (fun v hv => h v (by simp [hv])) k u hu

theorem dif_length (l : List Vis) (k q : Nat) : (dif l k q).length = l.length := by simp [dif]

theorem dif_ck {l : List Vis} (h : ck27 l = 0) (k q : Nat) : ck27 (dif l k q) = 0 := by
  obtain ⟨h1, h2, h3⟩ := ck27_0 h
  have e : all26 (dif l k q) 8 = 0 := by
    unfold all26
    rw [if_neg (by rw [dif_length]; omega), if_pos]
    rw [List.all_eq_true]
    intro v hv
    exact decide_eq_true (dif_good h2 k q v hv)
  unfold ck27
  rw [if_neg (by simp [e]), if_pos]
  rw [dif_key]
  exact h3

theorem dif_got {l : List Vis} (hl : ∀ v ∈ l, v.good 8) (hn : (l.map Vis.key).Nodup) {k : Nat} (hk : k < l.length) (q : Nat) (a b : Int) :
    (got a b l = none ∧ got a b (dif l k q) = none) ∨ ∃ c, got a b l = some c ∧ got a b (dif l k q) = some (tw l[k].i l[k].j q a b c) := by
  induction l generalizing k with
  | nil => simp at hk
  | cons v r ih =>
    have g := hl v (by simp)
    cases k with
    | zero =>
      have hij := g.2.1
      have e : got a b (dif (v :: r) 0 q) = if v.i = a ∧ v.j = b then some (rotN q v.v) else if v.i = b ∧ v.j = a then some (conj (rotN q v.v)) else got a b r := rfl
      rw [e]
      show (got a b (v :: r) = none ∧ _) ∨ ∃ c, _ ∧ _ = some (tw v.i v.j q a b c)
      rw [show got a b (v :: r) = if v.i = a ∧ v.j = b then some v.v else if v.i = b ∧ v.j = a then some (conj v.v) else got a b r from rfl]
      by_cases h1 : v.i = a ∧ v.j = b
      · rw [if_pos h1, if_pos h1]
        exact .inr ⟨_, rfl, by rw [tw, if_pos ⟨h1.1.symm, h1.2.symm⟩]⟩
      · rw [if_neg h1, if_neg h1]
        by_cases h2 : v.i = b ∧ v.j = a
        · rw [if_pos h2, if_pos h2]
          refine .inr ⟨_, rfl, ?_⟩
          rw [tw, if_neg (by omega), if_pos ⟨h2.2.symm, h2.1.symm⟩, conj_conj]
        · rw [if_neg h2, if_neg h2]
          cases got a b r with
          | none => exact .inl ⟨rfl, rfl⟩
          | some c => exact .inr ⟨c, rfl, by rw [tw, if_neg (by omega), if_neg (by omega)]⟩
    | succ k =>
      have hk' : k < r.length := by simpa using hk
      rw [dif_cons]
      have hg := hl r[k] (by simp)
      have hne : v.key ≠ r[k].key := by
        rw [List.map_cons, List.nodup_cons] at hn
        intro h
        exact hn.1 (by rw [h]; exact List.mem_map.2 ⟨r[k], List.getElem_mem hk', rfl⟩)
      have hne : ¬ (v.i = r[k].i ∧ v.j = r[k].j) := fun h => hne (by unfold Vis.key; rw [h.1, h.2])
      have h3 := g.2.1
      have h4 := hg.2.1
      show (got a b (v :: r) = none ∧ got a b (v :: dif r k q) = none) ∨ ∃ c, got a b (v :: r) = some c ∧ got a b (v :: dif r k q) = some (tw r[k].i r[k].j q a b c)
      unfold got
      by_cases h1 : v.i = a ∧ v.j = b
      · rw [if_pos h1, if_pos h1]
        exact .inr ⟨_, rfl, by rw [tw, if_neg (by omega), if_neg (by omega)]⟩
      · rw [if_neg h1, if_neg h1]
        by_cases h2 : v.i = b ∧ v.j = a
        · rw [if_pos h2, if_pos h2]
          exact .inr ⟨_, rfl, by rw [tw, if_neg (by omega), if_neg (by omega)]⟩
        · rw [if_neg h2, if_neg h2]
          exact ih (fun v hv => hl v (by simp [hv])) (by rw [List.map_cons, List.nodup_cons] at hn; exact hn.2) hk'

theorem dif_of {l : List Vis} (h : ck27 l = 0) {k : Nat} (hk : k < l.length) (q : Nat) : Dif l[k].i l[k].j q l (dif l k q) := by
  obtain ⟨h1, h2, h3⟩ := ck27_0 h
  exact ⟨h, dif_ck h k q, dif_got h2 h3 hk q⟩

section
variable {i j : Int} {q : Nat} {l m : List Vis}

theorem dif_gD (H : Dif i j q l m) {s : Pr} (h : (got s.a s.b l).isSome = true) : gD m s = tw i j q s.a s.b (gD l s) := by
  unfold gD
  rcases H.st s.a s.b with ⟨h1, h2⟩ | ⟨c, h1, h2⟩
  · rw [h1] at h; cases h
  · rw [h1, h2]; rfl

/-- Amplitudes do not notice it. -/
theorem dif_amp (H : Dif i j q l m) (a b c d : Int) (h : (amp l a b c d).2 = 0) (h' : (amp m a b c d).2 = 0) : (amp l a b c d).1 = (amp m a b c d).1 := by
  obtain ⟨k0, k1, k2, k3, k4⟩ := amp_ok H.h0 h
  obtain ⟨_, q1, q2, q3, q4⟩ := amp_ok H.h1 h'
  obtain ⟨_, hgood, _⟩ := ck27_0 H.h0
  obtain ⟨_, e2, e3⟩ := along27_0 hgood k0
  have x1 := dif_gD H (e2 ⟨a, b⟩ (by simp))
  have x2 := dif_gD H (e2 ⟨c, d⟩ (by simp))
  have x3 := dif_gD H (e2 ⟨a, c⟩ (by simp))
  have x4 := dif_gD H (e2 ⟨b, d⟩ (by simp))
  rw [x1, x2, x3, x4, tw_ns, tw_ns, tw_ns, tw_ns, tw_ds, tw_ds, tw_ds, tw_ds] at q4
  have hA := e3 ⟨a, b⟩ (by simp)
  have hB := e3 ⟨c, d⟩ (by simp)
  have hC := e3 ⟨a, c⟩ (by simp)
  have hD := e3 ⟨b, d⟩ (by simp)
  have u1 := prod4_pos (ds_pos hA.1) (ds_pos hB.1) (ns_pos hC.2) (ns_pos hD.2)
  generalize ds (gD l ⟨a, b⟩) * ds (gD l ⟨c, d⟩) * (ns (gD l ⟨a, c⟩) * ns (gD l ⟨b, d⟩)) = B at *
  generalize ns (gD l ⟨a, b⟩) * ns (gD l ⟨c, d⟩) * (ds (gD l ⟨a, c⟩) * ds (gD l ⟨b, d⟩)) = A at *
  have hfin : (amp l a b c d).1.num * (amp m a b c d).1.den = (amp m a b c d).1.num * (amp l a b c d).1.den := by
    have hB0 : B ≠ 0 := by omega
    apply Int.eq_of_mul_eq_mul_right hB0
    generalize (amp l a b c d).1.num = N at *
    generalize (amp l a b c d).1.den = D at *
    generalize (amp m a b c d).1.num = N' at *
    generalize (amp m a b c d).1.den = D' at *
    have t1 : N * D' * B = (N * B) * D' := by ac_rfl
    have t2 : N' * D * B = (N' * B) * D := by ac_rfl
    rw [t1, t2, k4, q4]
    ac_rfl
  have := frac_unique k1 k2 q1 q2 k3 q3 hfin
  cases hx : (amp l a b c d).1
  cases hy : (amp m a b c d).1
  rw [hx, hy] at this
  simp only at this
  simp [this.1, this.2]

theorem pairs3 (x y z : Int) : pairs [x, y, z] = [⟨x, y⟩, ⟨y, z⟩, ⟨z, x⟩] := by simp [pairs, List.range, List.range.loop]

/-- Both stations of the baseline are in the triangle. -/
def both2 (i j : Int) (t : Tri) : Prop := (i = t.a ∧ j = t.b) ∨ (i = t.b ∧ j = t.c) ∨ (i = t.a ∧ j = t.c)
instance (i j : Int) (t : Tri) : Decidable (both2 i j t) := by unfold both2; infer_instance

theorem nz_off {z w : Z} (hz : Int.gcd z.1 z.2 = 1) (hw : w = (0, 1) ∨ w = (-1, 0) ∨ w = (0, -1)) : ¬ par z (zmul w z) := by
  rintro ⟨s, t, hs, ht, e1, e2⟩
  obtain ⟨x, y⟩ := z
  simp only at hz e1 e2
  have hne : 0 < x * x + y * y := by
    have s1 := sq_nonneg x
    have s2 := sq_nonneg y
    by_cases h : x * x + y * y = 0
    · have t1 : x * x = 0 := by omega
      have t2 : y * y = 0 := by omega
      have x0 : x = 0 := by rcases Int.mul_eq_zero.1 t1 with h | h <;> exact h
      have y0 : y = 0 := by rcases Int.mul_eq_zero.1 t2 with h | h <;> exact h
      rw [x0, y0] at hz; simp at hz
    · omega
  have hp := Int.mul_pos hne hs
  have hp2 := Int.mul_pos hne ht
  rcases hw with rfl | rfl | rfl <;> simp only [zmul] at e1 e2
  · have : (x * x + y * y) * s = 0 := by
      have k1 : x * (x * s) = x * ((0 * x - 1 * y) * t) := by rw [e1]
      have k2 : y * (y * s) = y * ((0 * y + 1 * x) * t) := by rw [e2]
      grind
    omega
  · have : (x * x + y * y) * s + (x * x + y * y) * t = 0 := by
      have k1 : x * (x * s) = x * ((-1 * x - 0 * y) * t) := by rw [e1]
      have k2 : y * (y * s) = y * ((-1 * y + 0 * x) * t) := by rw [e2]
      grind
    omega
  · have : (x * x + y * y) * s = 0 := by
      have k1 : x * (x * s) = x * ((0 * x - -1 * y) * t) := by rw [e1]
      have k2 : y * (y * s) = y * ((0 * y + -1 * x) * t) := by rw [e2]
      grind
    omega

theorem pw_cases (h1 : 1 ≤ q) (h3 : q ≤ 3) : (pw q = (0, 1) ∨ pw q = (-1, 0) ∨ pw q = (0, -1)) ∧ (zconj (pw q) = (0, 1) ∨ zconj (pw q) = (-1, 0) ∨ zconj (pw q) = (0, -1)) := by
  obtain rfl | rfl | rfl : q = 1 ∨ q = 2 ∨ q = 3 := by omega
  all_goals decide

/-- A triangle notices it if both stations are its own. -/
theorem dif_phase (H : Dif i j q l m) (hij : i < j) (h1 : 1 ≤ q) (h3 : q ≤ 3) {t : Tri} (ta : 0 ≤ t.a) (tb : t.a < t.b) (tc : t.b < t.c) (t8 : t.c < 8) (hp : (phase l t.list).2 = 0) (hq : (phase m t.list).2 = 0) : (phase l t.list).1 = (phase m t.list).1 ↔ ¬ both2 i j t := by
  have hc : circle t.list := ⟨by simp [Tri.list], by simp [Tri.list], by simp [apart, Tri.list]; omega⟩
  obtain ⟨_, d1, g1, p1⟩ := phase_ok H.h0 hc hp
  obtain ⟨_, d2, g2, p2⟩ := phase_ok H.h1 hc hq
  have hal : (along27 l (pairs t.list)).2 = 0 := by
    rcases phase_cases H.h0 hc with ⟨q1, q2⟩ | ⟨q1, _⟩
    · rw [q2] at hp; exact absurd hp q1
    · exact q1
  obtain ⟨_, hgood, _⟩ := ck27_0 H.h0
  obtain ⟨_, e2, _⟩ := along27_0 hgood hal
  rw [show pairs t.list = [⟨t.a, t.b⟩, ⟨t.b, t.c⟩, ⟨t.c, t.a⟩] from pairs3 _ _ _] at e2 p1 p2
  have x1 := dif_gD H (e2 ⟨t.a, t.b⟩ (by simp))
  have x2 := dif_gD H (e2 ⟨t.b, t.c⟩ (by simp))
  have x3 := dif_gD H (e2 ⟨t.c, t.a⟩ (by simp))
  simp only [List.map_cons, List.map_nil, zprod_cons] at p1 p2
  rw [x1, x2, x3, zn_tw, zn_tw, zn_tw] at p2
  simp only at p2
  generalize zn (gD l ⟨t.a, t.b⟩) = A at *
  generalize zn (gD l ⟨t.b, t.c⟩) = B at *
  generalize zn (gD l ⟨t.c, t.a⟩) = C at *
  generalize zprod [] = O at *
  have e : zmul (zmul (wt i j q t.a t.b) A) (zmul (zmul (wt i j q t.b t.c) B) (zmul (zmul (wt i j q t.c t.a) C) O)) = zmul (zmul (wt i j q t.a t.b) (zmul (wt i j q t.b t.c) (wt i j q t.c t.a))) (zmul A (zmul B (zmul C O))) := by
    unfold zmul; ext <;> grind
  rw [e] at p2
  clear e x1 x2 x3
  generalize zmul A (zmul B (zmul C O)) = U at *
  have bad : ∀ w : Z, (w = (0, 1) ∨ w = (-1, 0) ∨ w = (0, -1)) → zmul (wt i j q t.a t.b) (zmul (wt i j q t.b t.c) (wt i j q t.c t.a)) = w → (phase l t.list).1 ≠ (phase m t.list).1 := by
    intro w hw ew he
    rw [ew] at p2
    rw [← he] at p2 
    exact nz_off g1 hw (par_trans p2 (par_mul (par_refl w) (par_symm p1)))
  have one2 : ∀ z : Z, zmul (1, 0) z = z := fun z => by rw [zmul_comm, zmul_one]
  obtain ⟨c1, c2⟩ := pw_cases h1 h3
  by_cases t1 : i = t.a ∧ j = t.b
  · refine ⟨fun he => absurd he (bad _ c1 ?_), fun h => absurd (.inl t1) h⟩
    rw [wt, if_pos ⟨t1.1.symm, t1.2.symm⟩, wt, if_neg (by omega), if_neg (by omega), wt, if_neg (by omega), if_neg (by omega), zmul_one, zmul_one]
  · by_cases t2 : i = t.b ∧ j = t.c
    · refine ⟨fun he => absurd he (bad _ c1 ?_), fun h => absurd (.inr (.inl t2)) h⟩
      rw [wt, if_neg (by omega), if_neg (by omega), wt, if_pos ⟨t2.1.symm, t2.2.symm⟩, wt, if_neg (by omega), if_neg (by omega), one2, zmul_one]
    · by_cases t3 : i = t.a ∧ j = t.c
      · refine ⟨fun he => absurd he (bad _ c2 ?_), fun h => absurd (.inr (.inr t3)) h⟩
        rw [wt, if_neg (by omega), if_neg (by omega), wt, if_neg (by omega), if_neg (by omega), wt, if_neg (by omega), if_pos ⟨t3.2.symm, t3.1.symm⟩, one2, one2]
      · refine ⟨fun _ h => ?_, fun _ => ?_⟩
        · rcases h with h | h | h
          · exact t1 h
          · exact t2 h
          · exact t3 h
        · rw [wt, if_neg (by omega), if_neg (by omega), wt, if_neg (by omega), if_neg (by omega), wt, if_neg (by omega), if_neg (by omega), one2, one2, one2] at p2
          exact cx_of_zn (par_unique (par_trans p1 (par_symm p2)) g1 g2) (d1.trans d2.symm)

theorem tri_in {l : List Vis} (h0 : ck27 l = 0) {t : Tri} (h : t ∈ (triples l).1) : 0 ≤ t.a ∧ t.a < t.b ∧ t.b < t.c ∧ t.c < 8 := by
  rw [triples, if_neg (by simp [h0])] at h
  obtain ⟨k, hk, h2, rfl⟩ := mem_tris.1 h
  unfold isTri at h2
  simp only [Bool.and_eq_true, decide_eq_true_eq] at h2
  simp only
  omega

/-- The triangle can be told, and has both stations. -/
def tell (i j : Int) (l m : List Vis) (t : Tri) : Bool := decide (both2 i j t) && (decide ((phase l t.list).2 = 0) && decide ((phase m t.list).2 = 0))
def told (i j : Int) (l m : List Vis) : Bool := (triples l).1.any (tell i j l m)

theorem dif_clos (H : Dif i j q l m) (hij : i < j) (h1 : 1 ≤ q) (h3 : q ≤ 3) : clos l m = !told i j l m := by
  have ha : amps l m = true := by
    refine amps_all fun i j k n _ _ _ _ => ?_
    rw [am2, Bool.and_eq_true]
    exact ⟨decide_eq_true (dif_amp H _ _ _ _), decide_eq_true (dif_amp H _ _ _ _)⟩
  rw [clos, ha, Bool.and_true]
  unfold phB told
  rw [List.not_any_eq_all_not]
  have : ∀ ts : List Tri, (∀ t ∈ ts, t ∈ (triples l).1) → ts.all (fun t => phT l m t.list) = ts.all fun t => !tell i j l m t := by
    intro ts
    induction ts with
    | nil => intro _; rfl
    | cons t r ih =>
      intro hts
      rw [List.all_cons, List.all_cons, ih fun t ht => hts t (by simp [ht])]
      congr 1
      obtain ⟨k1, k2, k3, k4⟩ := tri_in H.h0 (hts t (by simp))
      unfold phT tell
      by_cases hp : (phase l t.list).2 = 0
      · by_cases hq : (phase m t.list).2 = 0
        · have := dif_phase H hij h1 h3 k1 k2 k3 k4 hp hq
          by_cases h2 : both2 i j t
          · simp [hp, hq, this, h2]
          · simp [hp, hq, this, h2]
        · simp [hq]
      · simp [hp]
  exact this _ fun t h => h
end

theorem clos_self (l : List Vis) : clos l l = true := clos_of (fun _ _ _ => rfl) (fun _ _ _ _ _ _ => rfl)

/-- A series of which one visibility is turned. -/
def dif35 (s : List (List Vis)) (time k q : Nat) : List (List Vis) := s.set time (dif (s.getD time []) k q)

theorem dif35_get {s : List (List Vis)} {time k q : Nat} (t : Nat) (ht : t < s.length) (ht' : t < (dif35 s time k q).length) : (dif35 s time k q)[t] = if time = t then dif s[t] k q else s[t] := by
  have e : (dif35 s time k q)[t] = if time = t then dif (s.getD time []) k q else s[t] := List.getElem_set (by unfold dif35 at ht'; exact ht')
  rw [e]
  split
  · rename_i e
    subst e
    rw [getD_get ht]
  · rfl

theorem dif35_length (s : List (List Vis)) (time k q : Nat) : (dif35 s time k q).length = s.length := by simp [dif35]

theorem dif35_key {s : List (List Vis)} {time k q : Nat} (t : Nat) (ht : t < s.length) (ht' : t < (dif35 s time k q).length) : (dif35 s time k q)[t].map Vis.key = s[t].map Vis.key := by
  rw [dif35_get t ht]
  split
  · exact dif_key _ _ _
  · rfl

theorem dif35_ck {s : List (List Vis)} (h0 : ck35 s = 0) (hrow : ∀ r ∈ s, ck27 r = 0) (hbas : ∀ (i j : Nat) (hi : i < s.length) (hj : j < s.length), bas s[i] s[j] = true) (time k q : Nat) : ck35 (dif35 s time k q) = 0 := by
  have hn := ck35_len h0
  refine ck35_0 (by rw [dif35_length]; omega) (ferr_0 fun r hr => ?_) fun r hr => ?_
  · obtain ⟨t, ht, rfl⟩ := List.getElem_of_mem hr
    have ht' : t < s.length := by rw [dif35_length] at ht; exact ht
    rw [dif35_get t ht']
    split
    · exact dif_ck (hrow _ (List.getElem_mem ht')) _ _
    · exact hrow _ (List.getElem_mem ht')
  · obtain ⟨t, ht, rfl⟩ := List.getElem_of_mem hr
    have ht' : t < s.length := by rw [dif35_length] at ht; exact ht
    have h0' : 0 < (dif35 s time k q).length := by omega
    have h0s : 0 < s.length := by omega
    rw [headD_get h0', bas_eqs, dif35_key t ht' ht, dif35_key 0 h0s h0']
    exact bas_eqs.1 (hbas t 0 ht' h0s)

theorem dif35_alike {s : List (List Vis)} (h0 : ck35 s = 0) (hrow : ∀ r ∈ s, ck27 r = 0) (hbas : ∀ (i j : Nat) (hi : i < s.length) (hj : j < s.length), bas s[i] s[j] = true) {time k q : Nat} (ht : time < s.length) (hk : k < s[time].length) (h1 : 1 ≤ q) (h3 : q ≤ 3) :
    alike35 s (dif35 s time k q) = (!told s[time][k].i s[time][k].j s[time] (dif s[time] k q), 0) := by
  have hr := hrow _ (List.getElem_mem ht)
  have hg := (ck27_0 hr).2.1 _ (List.getElem_mem hk)
  have hc := dif_clos (dif_of hr hk q) hg.2.1 h1 h3
  have hck := dif35_ck h0 hrow hbas time k q
  have hbb : ∀ (t : Nat) (ht : t < s.length) (ht' : t < (dif35 s time k q).length), bas s[t] (dif35 s time k q)[t] = true := fun t ht ht' => by rw [bas_eqs, dif35_key t ht ht']
  have hl := dif35_length s time k q
  cases e : told s[time][k].i s[time][k].j s[time] (dif s[time] k q) with
  | false =>
    refine alike35_all h0 hck hl.symm fun t ht ht' => ⟨hbb t ht ht', ?_⟩
    rw [dif35_get t ht]
    split
    · rename_i e'; subst e'; rw [hc, e]; rfl
    · exact clos_self _
  | true =>
    refine alike35_bad h0 hck ⟨time, ht, by omega, .inr ?_⟩
    rw [dif35_get time ht, if_pos rfl, hc, e]; rfl
end Go.Pv
