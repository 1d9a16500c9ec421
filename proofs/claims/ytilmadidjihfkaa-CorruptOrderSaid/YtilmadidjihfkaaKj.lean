/- The law CorruptOrder, of the code. -/
import Derived.Test.YtilmadidjihfkaaKi
import Derived.Test.YtilmadidjihfkaaPlCxm
namespace Go.Pv
open Go.Vc
open Go.Proofs
set_option maxRecDepth 10000
set_option maxHeartbeats 4000000

theorem rev_step {l : List Spo} {k : Nat} (h : k < l.length) : l.reverse.take (k + 1) = l.reverse.take k ++ [l[l.length - 1 - k]'(by omega)] := by
  rw [List.take_succ_eq_append_getElem (by simpa using h)]
  simp [List.getElem_reverse]

theorem corruptOrder (s : List (List Vis)) (l : List Spo) (t : Int) (hn : s.length ≤ 9223372036854775807) (hs : ∀ l ∈ s, ∀ v ∈ l, Enc.ok v) (hl : ∀ s ∈ l, Enc.ok s) : Ret Try.prog 5 [sl s, sl l, i64 t] [] (.p (bl true)) := by
  refine ret (fn := Try.f5) (by kernel_rfl) (by kernel_rfl) rfl ?_
  refine ⟨[], _, law_alive, rfl, ?_⟩
  refine ⟨[], _, r_great35 s hn, rfl, ?_⟩
  refine ⟨fun h1 => ?_, fun h1 => ?_⟩
  rotate_left
  · rfl
  refine ⟨[], _, r_check35 s, rfl, ?_⟩
  refine ⟨fun h2 => ?_, fun h2 => ?_⟩
  rotate_left
  · rfl
  have h2 : ck35 s = 0 := by simpa using h2
  refine ⟨fun h3 => ?_, fun h3 => ?_⟩
  rotate_left
  · rfl
  have h3 : l.length ≤ 8 := by simp at h3; omega
  refine ⟨fun h4 => ?_, fun h4 => ?_⟩
  rotate_left
  · rfl
  have h4 : 0 ≤ t := by simpa using h4
  refine ⟨fun h5 => ?_, fun h5 => ?_⟩
  rotate_left
  · rfl
  have h5 : t ≤ l.length := by simpa using h5
  obtain ⟨n, rfl⟩ : ∃ n : Nat, t = n := ⟨t.toNat, by omega⟩
  have h5 : n ≤ l.length := by omega
  refine ⟨fun h => absurd h (by first | decide | simp), fun _ => ?_⟩
  refine ⟨Nat, { inv := fun k => k ≤ l.length, slots := [(9, fun k => i64 ((l.length : Int) - 1 - k))], rows := [(8, 25, 8, fun k => k, fun k => flat (l.reverse.take k))], mu := fun k => l.length - k }, 0, ⟨⟨?_, trivial⟩, ⟨⟨rfl, rfl⟩, trivial⟩, (by repeat' first | exact trivial | rfl | apply And.intro), Nat.zero_le _⟩, ?_⟩
  · show PV.v (.int _ (IntKind.i64.wrap _)) = _
    rw [wrap_id (by omega) (by omega)]; simp
  intro k hk
  have hk : k ≤ l.length := hk
  refine ⟨fun h6 => ?_, fun h6 => ?_⟩
  · have h6 : k < l.length := by
      have h6 : decide ((l.length : Int) - 1 - k ≥ 0) = true := h6
      simp at h6; omega
    refine ⟨l.length - 1 - k, by show (l.length : Int) - 1 - k = _; omega, by omega, by decide, Enc.cs (l[l.length - 1 - k]'(by omega)), idx (xs := l) (i := l.length - 1 - k) (by omega), rfl, ?_⟩
    refine ⟨⟨by show k + 1 ≤ _; omega, by show (k + 1) * 64 ≤ _; omega⟩, ?_⟩
    refine ⟨k + 1, by show _ < _; simp; omega, ⟨rfl, rfl⟩, ⟨?_, trivial⟩, ⟨⟨rfl, ?_⟩, trivial⟩, (by repeat' first | exact trivial | rfl | apply And.intro), h6⟩
    · show PV.v (.int _ (IntKind.i64.wrap _)) = _
      rw [wrap_id (by omega) (by omega)]
      show i64 _ = i64 ((l.length : Int) - 1 - ((k + 1 : Nat) : Int))
      rw [show (l.length : Int) - 1 - ((k + 1 : Nat) : Int) = (l.length : Int) - 1 - k - 1 by omega]
    · show _ ++ _ = flat (l.reverse.take (k + 1))
      rw [rev_step h6, flat_snoc]; rfl
  have h6 : k = l.length := by
    have h6 : decide ((l.length : Int) - 1 - k ≥ 0) = false := h6
    simp at h6; omega
  subst h6
  have er : l.reverse.take l.length = l.reverse := List.take_of_length_le (by simp)
  have hr : ∀ s ∈ l.reverse, Enc.ok s := fun s h => hl s (List.mem_reverse.1 h)
  refine ⟨[], _, k_spoil s l hs hl, rfl, ?_⟩
  refine ⟨[], resS (spoil s l.reverse), (by
    show Ret _ _ [sl s, .sl false l.length (flat (l.reverse.take l.length))] [] _
    rw [er]
    have := k_spoil s l.reverse hs hr
    rw [show sl l.reverse = .sl false l.length (flat l.reverse) by simp [sl]] at this
    exact this), rfl, ?_⟩
  have same : ∀ {a b : List (List Vis) × Int}, (∃ ch l, a = spo35 ch s l) → a.2 = 0 → Ret Try.prog 21 [sl a.1, sl b.1] [] (.p (bl (decide (a.1 = b.1)))) := by
    rintro a b ⟨ch, l, rfl⟩ h
    obtain ⟨q1, q2⟩ := spo35_len h
    exact r_same35 _ _ (by omega) (fun r hr => by have := q2 r hr; omega)
  have tl : (l.take n).length = n := by simp [h5]
  have dl : (l.drop n).length = l.length - n := by simp
  have ca : Ret Try.prog 20 [sl s, .sl false (n - 0) (((flat l).drop (0 * Enc.sz Spo)).take ((n - 0) * Enc.sz Spo))] [] (resS (spoil s (l.take n))) := by
    rw [flat_part]
    have := k_spoil s (l.take n) hs (fun x hx => hl x (List.mem_of_mem_take hx))
    rw [show sl (l.take n) = .sl false (n - 0) (flat ((l.drop 0).take (n - 0))) by simp [h5]] at this
    exact this
  have cb : (spoil s (l.take n)).2 = 0 → Ret Try.prog 20 [sl (spoil s (l.take n)).1, .sl false (l.length - n) (((flat l).drop (n * Enc.sz Spo)).take ((l.length - n) * Enc.sz Spo))] [] (resS (spoil (spoil s (l.take n)).1 (l.drop n))) := by
    intro h
    rw [flat_part]
    have := k_spoil (spoil s (l.take n)).1 (l.drop n) (spo35_enc h hs) (fun x hx => hl x (List.mem_of_mem_drop hx))
    rw [show sl (l.drop n) = .sl false (l.length - n) (flat ((l.drop n).take (l.length - n))) by rw [List.take_of_length_le (by simp)]; simp] at this
    exact this
  have step2 : (spoil s l).2 = 0 → (spoil s l.reverse).2 = 0 → (spoil s l).1 = (spoil s l.reverse).1 := spoil_rev
  refine ⟨fun h7 => ?_, fun h7 => ?_⟩
  focus
    have h7 : (spoil s l).2 = 0 := by simpa using h7
    refine ⟨fun h8 => ?_, fun h8 => ?_⟩
    focus
      have h8 : (spoil s l.reverse).2 = 0 := by simpa using h8
      refine ⟨[], _, same (a := spoil s l) (b := spoil s l.reverse) ⟨noch, l, rfl⟩ h7, rfl, ?_⟩
      refine ⟨fun q => absurd q ?_, fun _ => ?_⟩
      · show ¬ (!decide _) = true
        rw [step2 h7 h8]; simp
  all_goals
    refine ⟨flat_length _, n, rfl, Nat.zero_le _, h5, ?_⟩
    refine ⟨[], _, ca, rfl, ?_⟩
    refine ⟨fun h9 => ?_, fun h9 => ?_⟩
    · rfl
    have h9 : (spoil s (l.take n)).2 = 0 := by simpa using h9
    refine ⟨flat_length _, n, rfl, h5, Nat.le_refl _, ?_⟩
    refine ⟨[], _, cb h9, rfl, ?_⟩
    refine ⟨fun _ => ?_, fun h => absurd h (by first | decide | simp)⟩
    refine ⟨fun h10 => ?_, fun h10 => ?_⟩
    rotate_left
    · rfl
    have h10 : (spoil (spoil s (l.take n)).1 (l.drop n)).2 = 0 := by simpa using h10
    refine ⟨fun h11 => ?_, fun h11 => ?_⟩
    rotate_left
    · rfl
    have h11 : (spoil s l).2 = 0 := by simpa using h11
    have key := spoil_app (l := l.take n) (r := l.drop n) (by rw [List.take_append_drop]; exact h11) h9 h10
    rw [List.take_append_drop] at key
    refine ⟨[], _, same (a := spoil s l) (b := spoil (spoil s (l.take n)).1 (l.drop n)) ⟨noch, l, rfl⟩ h11, rfl, ?_⟩
    show SV.p (bl (decide _)) = _
    rw [key]; simp
end Go.Pv
