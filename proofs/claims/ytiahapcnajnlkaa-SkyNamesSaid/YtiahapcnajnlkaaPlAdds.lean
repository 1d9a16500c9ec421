/- Skies one behind the other, merged skies, shifted skies, in plain Lean. -/
import Derived.Test.YtiahapcnajnlkaaPlSee
namespace Go.Pv
open Go.Vc

theorem sre_app (p : List Place) (i j : Nat) (l m : List Lamp) : sre p i j (l ++ m) = sre p i j l + sre p i j m := by simp [sre]
theorem sim_app (p : List Place) (i j : Nat) (l m : List Lamp) : sim p i j (l ++ m) = sim p i j l + sim p i j m := by simp [sim]

theorem g3_one (x y : Int) : g3 x y 1 = 1 := by simp [g3]

theorem valid_1 {x y : Int} (hx : fits x) (hy : fits y) : (⟨x, y, 1⟩ : Cx).valid := ⟨Int.le_refl 1, by show (1 : Int) ≤ 1000000000; decide, hx, hy, g3_one x y⟩

theorem norm_1 (x y : Int) : norm x y 1 = ⟨x, y, 1⟩ := norm_low (by decide) (g3_one x y)

theorem add_1 {x y u v : Int} (hx : fits x) (hy : fits y) (hu : fits u) (hv : fits v) (h1 : fits (x + u)) (h2 : fits (y + v)) : add ⟨x, y, 1⟩ ⟨u, v, 1⟩ = (⟨x + u, y + v, 1⟩, 0) := by
  rw [add, if_pos ⟨valid_1 hx hy, valid_1 hu hv⟩]
  simp only [Int.mul_one]
  rw [make_valid (by decide), norm_1, if_pos (valid_1 h1 h2)]

/-! ### Sums over cells -/

def cellOf (s : Lamp) : Nat := (s.y * 8 + s.x).toNat

theorem range_add (a b : Nat → Int) : ∀ n, ((List.range n).map fun c => a c + b c).sum = ((List.range n).map a).sum + ((List.range n).map b).sum
  | 0 => by simp
  | n + 1 => by
    have ih := range_add a b n
    simp only [List.range_succ, List.map_append, List.sum_append, List.map_cons, List.map_nil, List.sum_cons, List.sum_nil]
    omega

theorem range_at (g : Nat → Int) (c0 : Nat) : ∀ n, ((List.range n).map fun c => if c = c0 then g c else 0).sum = if c0 < n then g c0 else 0
  | 0 => by simp
  | n + 1 => by
    have ih := range_at g c0 n
    simp only [List.range_succ, List.map_append, List.sum_append, List.map_cons, List.map_nil, List.sum_cons, List.sum_nil, ih]
    by_cases h : n = c0
    · subst h; simp
    · by_cases h2 : c0 < n
      · rw [if_pos h2, if_neg h, if_pos (by omega)]; omega
      · rw [if_neg h2, if_neg h, if_neg (by omega)]; omega

section
variable {G : Nat → Int → Int} (h0 : ∀ c, G c 0 = 0) (hadd : ∀ c a b, G c (a + b) = G c a + G c b)
include h0 hadd

theorem sum_cells : ∀ (ls : List Lamp), (∀ s ∈ ls, 0 ≤ s.x ∧ s.x < 8 ∧ 0 ≤ s.y ∧ s.y < 8) → (ls.map fun s => G (cellOf s) s.f).sum = ((List.range 64).map fun c => G c (sumAt ls c)).sum
  | [], _ => by
    have : (fun c => G c (sumAt [] c)) = fun _ => 0 := by funext c; simp [sumAt, h0]
    rw [this]
    have : ∀ n, ((List.range n).map fun _ => (0 : Int)).sum = 0 := fun n => by
      induction n with
      | zero => rfl
      | succ n ih => simp only [List.range_succ, List.map_append, List.sum_append, ih]; rfl
    rw [this]; rfl
  | s :: r, h => by
    have ih := sum_cells r fun t ht => h t (by simp [ht])
    have hs := h s (by simp)
    have e : (fun c => G c (sumAt (s :: r) c)) = fun c => (if c = cellOf s then G c s.f else 0) + G c (sumAt r c) := by
      funext c
      have : sumAt (s :: r) c = (if s.y * 8 + s.x = (c : Int) then s.f else 0) + sumAt r c := by simp [sumAt]
      rw [this, hadd]
      congr 1
      by_cases hc : c = cellOf s
      · rw [if_pos hc, if_pos (by unfold cellOf at hc; omega)]
      · rw [if_neg hc, if_neg (by unfold cellOf at hc; omega), h0]
    rw [e, range_add, range_at (fun c => G c s.f), if_pos (by unfold cellOf; omega), ← ih]
    simp

omit hadd in
theorem sum_mg (ls : List Lamp) (hn : ∀ c, 0 ≤ sumAt ls c) : ∀ n, ((mg ls n).map fun s => G (cellOf s) s.f).sum = ((List.range n).map fun c => G c (sumAt ls c)).sum
  | 0 => rfl
  | n + 1 => by
    have ih := sum_mg ls hn n
    rw [mg_succ, List.map_append, List.sum_append, ih, List.range_succ, List.map_append, List.sum_append]
    congr 1
    split
    · have : cellOf ⟨((n % 8 : Nat) : Int), ((n / 8 : Nat) : Int), sumAt ls n⟩ = n := by unfold cellOf; simp only; omega
      simp only [List.map_cons, List.map_nil, List.sum_cons, List.sum_nil]
      rw [this]
    · rename_i hz
      have : sumAt ls n = 0 := by have := hn n; omega
      simp [this, h0]

theorem sum_merged (ls : List Lamp) (h : ∀ s ∈ ls, 0 ≤ s.x ∧ s.x < 8 ∧ 0 ≤ s.y ∧ s.y < 8 ∧ 0 ≤ s.f ∧ s.f ≤ 1000) : ((mg ls 64).map fun s => G (cellOf s) s.f).sum = (ls.map fun s => G (cellOf s) s.f).sum := by
  rw [sum_mg h0 ls (fun c => sumAt_nonneg ls (fun s hs => (h s hs).2.2.2.2.1) c), sum_cells h0 hadd ls fun s hs => ⟨(h s hs).1, (h s hs).2.1, (h s hs).2.2.1, (h s hs).2.2.2.1⟩]
end

theorem gt_add0 (q a b : Int) : gt q (a + b, 0) = ((gt q (a, 0)).1 + (gt q (b, 0)).1, (gt q (a, 0)).2 + (gt q (b, 0)).2) := by
  have := gt_add q (a, 0) (b, 0)
  simpa using this

theorem gt_zero (q : Int) : gt q (0, 0) = (0, 0) := by unfold gt; split <;> simp

theorem mem_mg_range {ls : List Lamp} {t : Lamp} (h : t ∈ mg ls 64) : 0 ≤ t.x ∧ t.x < 8 ∧ 0 ≤ t.y ∧ t.y < 8 := by
  rw [mem_mg] at h
  obtain ⟨c, hc, _, rfl⟩ := h
  simp only; omega

theorem seen1_cell (p : List Place) (i j : Nat) {s : Lamp} (h : 0 ≤ s.x ∧ s.x < 8 ∧ 0 ≤ s.y ∧ s.y < 8) : seen1 p i j s = gt (qs p i j ((cellOf s % 8 : Nat) : Int) ((cellOf s / 8 : Nat) : Int)) (s.f, 0) := by
  rw [seen1, show ((cellOf s % 8 : Nat) : Int) = s.x by unfold cellOf; omega, show ((cellOf s / 8 : Nat) : Int) = s.y by unfold cellOf; omega]

theorem sre_mg (p : List Place) (i j : Nat) {ls : List Lamp} (h : ∀ s ∈ ls, 0 ≤ s.x ∧ s.x < 8 ∧ 0 ≤ s.y ∧ s.y < 8 ∧ 0 ≤ s.f ∧ s.f ≤ 1000) : sre p i j (mg ls 64) = sre p i j ls ∧ sim p i j (mg ls 64) = sim p i j ls := by
  have k1 := sum_merged (G := fun c f => (gt (qs p i j ((c % 8 : Nat) : Int) ((c / 8 : Nat) : Int)) (f, 0)).1) (fun c => by simp [gt_zero]) (fun c a b => by simp [gt_add0]) ls h
  have k2 := sum_merged (G := fun c f => (gt (qs p i j ((c % 8 : Nat) : Int) ((c / 8 : Nat) : Int)) (f, 0)).2) (fun c => by simp [gt_zero]) (fun c a b => by simp [gt_add0]) ls h
  have e1 : ∀ l : List Lamp, (∀ s ∈ l, 0 ≤ s.x ∧ s.x < 8 ∧ 0 ≤ s.y ∧ s.y < 8) → sre p i j l = (l.map fun s => (gt (qs p i j ((cellOf s % 8 : Nat) : Int) ((cellOf s / 8 : Nat) : Int)) (s.f, 0)).1).sum := fun l hl => by
    unfold sre; congr 1; exact List.map_congr_left fun s hs => by rw [seen1_cell p i j (hl s hs)]
  have e2 : ∀ l : List Lamp, (∀ s ∈ l, 0 ≤ s.x ∧ s.x < 8 ∧ 0 ≤ s.y ∧ s.y < 8) → sim p i j l = (l.map fun s => (gt (qs p i j ((cellOf s % 8 : Nat) : Int) ((cellOf s / 8 : Nat) : Int)) (s.f, 0)).2).sum := fun l hl => by
    unfold sim; congr 1; exact List.map_congr_left fun s hs => by rw [seen1_cell p i j (hl s hs)]
  have hl : ∀ s ∈ ls, 0 ≤ s.x ∧ s.x < 8 ∧ 0 ≤ s.y ∧ s.y < 8 := fun s hs => ⟨(h s hs).1, (h s hs).2.1, (h s hs).2.2.1, (h s hs).2.2.2.1⟩
  have hm : ∀ s ∈ mg ls 64, 0 ≤ s.x ∧ s.x < 8 ∧ 0 ≤ s.y ∧ s.y < 8 := fun s hs => mem_mg_range hs
  exact ⟨by rw [e1 _ hm, e1 _ hl]; exact k1, by rw [e2 _ hm, e2 _ hl]; exact k2⟩

theorem turned_mg (p : List Place) {ls : List Lamp} (h : ∀ s ∈ ls, 0 ≤ s.x ∧ s.x < 8 ∧ 0 ≤ s.y ∧ s.y < 8 ∧ 0 ≤ s.f ∧ s.f ≤ 1000) (x y : Int) : turned p (mg ls 64) x y = turned p ls x y := by
  unfold turned
  refine List.map_congr_left fun q _ => ?_
  simp only [vis1, (sre_mg p q.1 q.2 h).1, (sre_mg p q.1 q.2 h).2]

theorem sumAt_mg {ls : List Lamp} (hn : ∀ c, 0 ≤ sumAt ls c) (c : Nat) : ∀ n, sumAt (mg ls n) c = if c < n then sumAt ls c else 0
  | 0 => by simp [mg, sumAt]
  | n + 1 => by
    have ih := sumAt_mg hn c n
    rw [mg_succ]
    split
    · rw [sumAt_snoc, ih]
      simp only
      by_cases h : c = n
      · subst h
        rw [if_neg (by omega), if_pos (by omega), if_pos (by omega)]; omega
      · rw [if_neg (show ¬ (((n / 8 : Nat) : Int) * 8 + ((n % 8 : Nat) : Int) = (c : Int)) by omega)]
        by_cases h2 : c < n
        · rw [if_pos h2, if_pos (by omega)]; omega
        · rw [if_neg h2, if_neg (by omega)]; omega
    · rename_i hz
      rw [List.append_nil, ih]
      by_cases h : c = n
      · subst h
        have := hn c
        rw [if_neg (by omega), if_pos (by omega)]; omega
      · by_cases h2 : c < n
        · rw [if_pos h2, if_pos (by omega)]
        · rw [if_neg h2, if_neg (by omega)]

theorem mg_congr {l m : List Lamp} (h : ∀ c, c < 64 → sumAt l c = sumAt m c) : mg l 64 = mg m 64 := by
  have : ∀ n, n ≤ 64 → mg l n = mg m n := fun n => by
    induction n with
    | zero => intro _; rfl
    | succ n ih => intro hn; rw [mg_succ, mg_succ, ih (by omega), h n (by omega)]
  exact this 64 (Nat.le_refl _)

/-- What merging gives is merged. -/
theorem merge_again {ls : List Lamp} (h : check ls = 0) (h2 : (merge ls).2 = 0) : (merge ls).1 = mg ls 64 ∧ check (mg ls 64) = 0 ∧ merge (mg ls 64) = (mg ls 64, 0) := by
  obtain ⟨hm1, hm2⟩ := check_mg h
  have hc : check (mg ls 64) = 0 := by
    by_cases hc : check (mg ls 64) = 0
    · exact hc
    · rw [if_neg hc, h2] at hm1; cases hm1
  rw [if_pos hc] at hm2
  obtain ⟨hlen, hrng⟩ := check_0 h
  have hn : ∀ c, 0 ≤ sumAt ls c := fun c => sumAt_nonneg ls (fun s hs => (hrng s hs).2.2.2.2.1) c
  have hs : ∀ c, c < 64 → sumAt (mg ls 64) c = sumAt ls c := fun c hc => by rw [sumAt_mg hn, if_pos hc]
  refine ⟨hm2, hc, ?_⟩
  have h3 : (List.range 64).all (fun c => decide (sumAt ls c ≤ 1000)) = true := by
    rw [merge, if_neg (by simp [h])] at h2
    split at h2
    · assumption
    · cases h2
  rw [merge, if_neg (by simp [hc]), if_pos, mg_congr hs]
  rw [List.all_eq_true] at h3 ⊢
  intro c hc
  rw [hs c (List.mem_range.1 hc)]
  exact h3 c hc

theorem merge_err {ls : List Lamp} (h : check ls = 0) : (merge ls).2 = 0 ∨ (merge ls).2 = 16 := by
  rw [merge, if_neg (by simp [h])]
  split
  · exact .inl rfl
  · exact .inr rfl

theorem check_app {l m : List Lamp} (hl : check l = 0) (hm : check m = 0) (h : l.length + m.length ≤ 16) : check (l ++ m) = 0 := by
  obtain ⟨_, h1⟩ := check_0 hl
  obtain ⟨_, h2⟩ := check_0 hm
  refine check_of (by simpa using h) fun s hs => ?_
  rcases List.mem_append.1 hs with hs | hs
  · exact h1 s hs
  · exact h2 s hs

theorem see_ok {p : List Place} {l : List Lamp} (hp : places p = 0) (hl : check l = 0) : see p l = (turned p l 0 0, 0) := by
  rw [see, if_neg (by simp [both41, hp, hl])]

/-! ### Shifted skies -/

theorem qs_mv (p : List Place) (i j : Nat) (x y dx dy : Int) : qs p i j (x + dx) (y + dy) = qs p i j dx dy + qs p i j x y := by
  unfold qs; grind

theorem seen_mv (p : List Place) (i j : Nat) (dx dy : Int) : ∀ l : List Lamp, (sre p i j (l.map (mv dx dy)), sim p i j (l.map (mv dx dy))) = gt (qs p i j dx dy) (sre p i j l, sim p i j l)
  | [] => by simp [sre, sim, gt_zero]
  | s :: r => by
    have ih := seen_mv p i j dx dy r
    have e : seen1 p i j (mv dx dy s) = gt (qs p i j dx dy) (seen1 p i j s) := by
      simp only [seen1, mv, gt_gt]
      rw [qs_mv]
    have h := gt_add (qs p i j dx dy) (seen1 p i j s) (sre p i j r, sim p i j r)
    simp only [sre, sim, List.map_cons, List.sum_cons, e] at *
    rw [h]
    simp only [Prod.mk.injEq]
    have ih1 := congrArg Prod.fst ih
    have ih2 := congrArg Prod.snd ih
    simp only at ih1 ih2
    exact ⟨by rw [← ih1], by rw [← ih2]⟩

theorem turned_mv (p : List Place) (l : List Lamp) (dx dy : Int) : turned p (l.map (mv dx dy)) 0 0 = turned p l dx dy := by
  unfold turned
  refine List.map_congr_left fun q _ => ?_
  have := seen_mv p q.1 q.2 dx dy l
  rw [vis1_0, vis1]
  have h1 := congrArg Prod.fst this
  have h2 := congrArg Prod.snd this
  simp only at h1 h2
  rw [h1, h2]

theorem mv_back (l : List Lamp) (dx dy : Int) : (l.map (mv dx dy)).map (mv (-dx) (-dy)) = l := by
  rw [List.map_map]
  have : (mv (-dx) (-dy)) ∘ (mv dx dy) = id := by
    funext s
    simp only [Function.comp, mv, id]
    congr 1 <;> omega
  rw [this]; simp

end Go.Pv
namespace Go.Pv
theorem shift_err {l : List Lamp} (h : check l = 0) (dx dy : Int) : (shift l dx dy).2 = 0 ∨ (shift l dx dy).2 = 16 := by
  rw [shift, if_neg (by simp [h])]
  split
  · exact .inl rfl
  · exact .inr rfl

theorem shift_ok {l : List Lamp} (h : check l = 0) {dx dy : Int} (h2 : (shift l dx dy).2 = 0) : (shift l dx dy).1 = l.map (mv dx dy) ∧ check (l.map (mv dx dy)) = 0 ∧ shift (l.map (mv dx dy)) (-dx) (-dy) = (l, 0) := by
  have h3 : l.all (inB dx dy) = true := by
    rw [shift, if_neg (by simp [h])] at h2
    split at h2
    · assumption
    · cases h2
  obtain ⟨hlen, hrng⟩ := check_0 h
  have hin : ∀ s ∈ l, -s.x ≤ dx ∧ dx < 8 - s.x ∧ -s.y ≤ dy ∧ dy < 8 - s.y := fun s hs => by
    have := List.all_eq_true.1 h3 s hs
    simpa [inB] using this
  have hc : check (l.map (mv dx dy)) = 0 := by
    refine check_of (by simpa using hlen) fun s hs => ?_
    rw [List.mem_map] at hs
    obtain ⟨t, ht, rfl⟩ := hs
    have h1 := hrng t ht
    have h2 := hin t ht
    simp only [mv]; omega
  refine ⟨by rw [shift, if_neg (by simp [h]), if_pos h3], hc, ?_⟩
  rw [shift, if_neg (by simp [hc]), if_pos, mv_back]
  rw [List.all_eq_true]
  intro s hs
  rw [List.mem_map] at hs
  obtain ⟨t, ht, rfl⟩ := hs
  have h1 := hrng t ht
  have : -(t.x + dx) ≤ -dx ∧ -dx < 8 - (t.x + dx) ∧ -(t.y + dy) ≤ -dy ∧ -dy < 8 - (t.y + dy) := by omega
  exact decide_eq_true this

theorem turnd_ok {p : List Place} {l : List Lamp} (hp : places p = 0) (hl : check l = 0) {x y : Int} (h : -8 ≤ x ∧ x ≤ 8 ∧ -8 ≤ y ∧ y ≤ 8) : turnd p l x y = (turned p l x y, 0) := by
  rw [turnd, if_neg (by simp [both41, hp, hl]), if_pos h]

theorem turn_quart {a : Cx} (ha : a.valid) (q : Int) : turn a (quart q) = (gtc q a, 0) := by
  rw [turn_gtc ha, gtc, gtc, gt_mod (show ((quart q : Nat) : Int) % 4 = q % 4 by rw [quart_mod]; omega)]
end Go.Pv
