/- The law SkyDirty, of the code. -/
import Derived.Test.YtiahapcnajnlkaaSkH
import Derived.Test.YtiahapcnajnlkaaPlDir
namespace Go.Pv
open Go.Vc
open Go.Proofs
set_option maxRecDepth 10000
set_option maxHeartbeats 4000000

theorem w_square (xs : List (List Int)) (n : Nat) (hn : n ≤ 8) (h : xs.length = n) (hr : ∀ a ∈ xs, a.length = n) : Ret Try.prog 22 [sl xs, i64 n] [] (.p (bl true)) := by
  refine ret (fn := Try.f22) (by kernel_rfl) (by kernel_rfl) rfl ?_
  refine ⟨fun g => absurd g (by simp [h]), fun _ => ?_⟩
  refine ⟨Nat, { inv := fun k => k ≤ n, slots := [(5, fun k => i64 k)], mu := fun k => n - k }, 0, ⟨⟨rfl, trivial⟩, trivial, trivial, Nat.zero_le _⟩, ?_⟩
  intro k hk
  refine ⟨fun h2 => ?_, fun h2 => ?_⟩
  · simp at h2
    have hk' : k < xs.length := by omega
    refine ⟨k, rfl, hk', by decide, _, idx hk', rfl, ?_⟩
    refine ⟨fun g => absurd g (by simp [hr xs[k] (List.getElem_mem hk')]), fun _ => ?_⟩
    refine ⟨k + 1, by show _ < _; simp; omega, ⟨rfl, rfl⟩, ⟨by show PV.v (.int _ _) = _; rw [succ_w (by omega)], trivial⟩, trivial, trivial, h2⟩
  · rfl

theorem skyDirtyL (p : List Place) (l m : List Lamp) (n : Int) : Ret Try.prog 5 [sl p, sl l, sl m, i64 n] [] (.p (bl true)) := by
  refine ret (fn := Try.f5) (by kernel_rfl) (by kernel_rfl) rfl ?_
  refine ⟨[], _, w_alive, rfl, ?_⟩
  refine ⟨[], _, w_valid p l, rfl, ?_⟩
  refine ⟨fun h1 => ?_, fun h1 => ?_⟩
  rotate_left
  · rfl
  refine ⟨[], _, w_valid p m, rfl, ?_⟩
  refine ⟨fun h2 => ?_, fun h2 => ?_⟩
  rotate_left
  · rfl
  simp at h1 h2
  have hw : IntKind.i64.wrap ((l.length : Int) + m.length) = ((l.length + m.length : Nat) : Int) := by rw [wrap_id (by omega) (by omega)]; simp
  refine ⟨fun h3 => ?_, fun h3 => ?_⟩
  rotate_left
  · rfl
  rw [hw] at h3
  simp at h3
  refine ⟨fun n1 => ?_, fun n1 => ?_⟩
  rotate_left
  · rfl
  refine ⟨fun n2 => ?_, fun n2 => ?_⟩
  rotate_left
  · rfl
  refine ⟨fun h4 => ?_, fun h4 => ?_⟩
  · rfl
  simp at n1 n2
  obtain ⟨n, rfl⟩ : ∃ k : Nat, n = k := ⟨n.toNat, by omega⟩
  have hn1 : 1 ≤ n := by omega
  have hn8' : n ≤ 8 := by omega
  obtain ⟨hp, hl⟩ := both_0 h1.2.2
  obtain ⟨_, hm⟩ := both_0 h2.2.2
  obtain ⟨hn8, hn2, hpl⟩ := places_0 hp
  have hlm := check_app hl hm (by omega)
  refine ⟨[], _, skyDirtyE (dirty_ok hp hl hn1 hn8'), rfl, ?_⟩
  refine ⟨[], _, skyDirtyE (dirty_ok hp hm hn1 hn8'), rfl, ?_⟩
  refine ⟨flat_length l, ⟨by show 0 + _ ≤ _; omega, by show (0 + _) * 24 ≤ _; omega⟩, false, by simp, ?_⟩
  refine ⟨flat_length m, ⟨by show 0 + _ + _ ≤ _; omega, by show (0 + _ + _) * 24 ≤ _; omega⟩, ?_⟩
  have eb : PV.sl false (0 + l.length + m.length) (flat l ++ flat m) = sl (l ++ m) := by rw [← flat_append, Nat.zero_add, ← List.length_append]
  refine ⟨[], resI (image p (l ++ m) n, 0), ?_, rfl, ?_⟩
  · show Ret Try.prog 21 [sl p, .sl false (0 + l.length + m.length) (flat l ++ flat m), i64 n] [] _
    rw [eb]
    exact skyDirtyE (dirty_ok hp hlm hn1 hn8')
  have sq : ∀ l : List Lamp, ∀ a ∈ image p l n, a.length = n := fun l a ha => by simp [image] at ha; obtain ⟨k, _, rfl⟩ := ha; simp
  refine ⟨fun _ => ?_, fun h => absurd h (by first | decide | simp)⟩
  refine ⟨fun _ => ?_, fun h => absurd h (by first | decide | simp)⟩
  refine ⟨fun _ => ?_, fun h => absurd h (by first | decide | simp)⟩
  refine ⟨[], _, w_square (image p l n) n hn8' (image_length p l n) (sq l), rfl, ?_⟩
  refine ⟨fun _ => ?_, fun h => absurd h (by first | decide | simp)⟩
  refine ⟨[], _, w_square (image p m n) n hn8' (image_length p m n) (sq m), rfl, ?_⟩
  refine ⟨fun _ => ?_, fun h => absurd h (by first | decide | simp)⟩
  refine ⟨[], _, w_square (image p (l ++ m) n) n hn8' (image_length p (l ++ m) n) (sq (l ++ m)), rfl, ?_⟩
  refine ⟨fun h => absurd h (by first | decide | simp), fun _ => ?_⟩
  refine ⟨Nat, { inv := fun y => y ≤ n, slots := [(16, fun y => i64 y)], mu := fun y => n - y }, 0, ⟨⟨rfl, trivial⟩, trivial, (by repeat' first | exact trivial | rfl | apply And.intro), Nat.zero_le _⟩, ?_⟩
  intro y hy
  have img : ∀ (l : List Lamp) (y x : Nat) (h : y < (image p l n).length) (h' : x < (image p l n)[y].length), (image p l n)[y][x] = bright p l x y := fun l y x h h' => by simp [image]
  have len2 : ∀ (l : List Lamp) (y : Nat) (h : y < (image p l n).length), (image p l n)[y].length = n := fun l y h => by simp [image]
  refine ⟨fun g1 => ?_, fun g1 => ?_⟩
  · simp at g1
    have ya : ∀ l : List Lamp, y < (image p l n).length := fun l => by rw [image_length]; exact g1
    refine ⟨Nat, { inv := fun x => x ≤ n, slots := [(17, fun x => i64 x)], mu := fun x => n - x }, 0, ⟨⟨rfl, trivial⟩, trivial, (by repeat' first | exact trivial | rfl | apply And.intro), Nat.zero_le _⟩, ?_⟩
    intro x hx
    refine ⟨fun g2 => ?_, fun g2 => ?_⟩
    · simp at g2
      have yl := ya l
      have ym := ya m
      have yn := ya (l ++ m)
      have xl : x < (image p l n)[y].length := by rw [len2]; exact g2
      have xm : x < (image p m n)[y].length := by rw [len2]; exact g2
      have xn : x < (image p (l ++ m) n)[y].length := by rw [len2]; exact g2
      have b1 := bright_bound hp hl x y
      have b2 := bright_bound hp hm x y
      refine ⟨y, rfl, yl, by decide, _, idx yl, rfl, ?_⟩
      refine ⟨x, rfl, xl, by decide, _, idx xl, rfl, ?_⟩
      refine ⟨y, rfl, ym, by decide, _, idx ym, rfl, ?_⟩
      refine ⟨x, rfl, xm, by decide, _, idx xm, rfl, ?_⟩
      refine ⟨y, rfl, yn, by decide, _, idx yn, rfl, ?_⟩
      refine ⟨x, rfl, xn, by decide, _, idx xn, rfl, ?_⟩
      refine ⟨fun g3 => absurd g3 ?_, fun _ => ?_⟩
      · rw [img, img, img, bright_app, wrap_id (by omega) (by omega)]; simp
      refine ⟨x + 1, by show _ < _; simp; omega, ⟨rfl, rfl⟩, ⟨by show PV.v (.int _ _) = _; rw [succ_w (by omega)], trivial⟩, trivial, (by repeat' first | exact trivial | rfl | apply And.intro), g2⟩
    · simp at g2
      refine ⟨y + 1, by show _ < _; simp; omega, ⟨rfl, rfl⟩, ⟨by show PV.v (.int _ _) = _; rw [succ_w (by omega)], trivial⟩, trivial, (by repeat' first | exact trivial | rfl | apply And.intro), g1⟩
  · refine ⟨fun g2 => ?_, fun g2 => ?_⟩
    · rfl
    simp at g2
    obtain ⟨s, rfl⟩ : ∃ s, l = [s] := by
      match l, g2 with
      | [s], _ => exact ⟨s, rfl⟩
    obtain ⟨_, hrng⟩ := check_0 hl
    have hs := hrng s (by simp)
    have hl0 : (0 : Nat) < [s].length := by simp
    refine ⟨0, rfl, hl0, by decide, _, idx hl0, rfl, ?_⟩
    refine ⟨by decide, ?_⟩
    have hmost := most_eq (f := s.f) ⟨hs.2.2.2.2.1, hs.2.2.2.2.2⟩ hn2 hn8
    have hB : 0 ≤ s.f * ((prs p.length).length : Int) ∧ s.f * ((prs p.length).length : Int) ≤ 28000 := ⟨Int.mul_nonneg hs.2.2.2.2.1 (by omega), by
      have := Int.mul_le_mul hs.2.2.2.2.2 (show ((prs p.length).length : Int) ≤ 28 by have := prs_le hn8; omega) (by omega) (by omega)
      omega⟩
    refine ⟨Nat, { inv := fun y => y ≤ n, slots := [(19, fun y => i64 y)], mu := fun y => n - y }, 0, ⟨⟨rfl, trivial⟩, trivial, (by repeat' first | exact trivial | rfl | apply And.intro), Nat.zero_le _⟩, ?_⟩
    intro y hy
    refine ⟨fun g3 => ?_, fun g3 => ?_⟩
    · simp at g3
      have ya : y < (image p [s] n).length := by rw [image_length]; exact g3
      refine ⟨Nat, { inv := fun x => x ≤ n, slots := [(20, fun x => i64 x)], mu := fun x => n - x }, 0, ⟨⟨rfl, trivial⟩, trivial, (by repeat' first | exact trivial | rfl | apply And.intro), Nat.zero_le _⟩, ?_⟩
      intro x hx
      refine ⟨fun g4 => ?_, fun g4 => ?_⟩
      · simp at g4
        have xa : x < (image p [s] n)[y].length := by rw [len2]; exact g4
        obtain ⟨k1, k2⟩ := bright_one (p := p) (s := s) hs.2.2.2.2.1 x y
        have ei := img [s] y x ya xa
        refine ⟨y, rfl, ya, by decide, _, idx ya, rfl, ?_⟩
        refine ⟨x, rfl, xa, by decide, _, idx xa, rfl, ?_⟩
        refine ⟨fun _ => ?_, fun g5 => absurd g5 ?_⟩
        rotate_left
        · show ¬ decide ((image p [s] n)[y][x] > IntKind.i64.wrap ((IntKind.i64.wrap (IntKind.i64.wrap (s.f * (p.length : Int)) * IntKind.i64.wrap ((p.length : Int) - 1))).tdiv 2)) = true
          rw [hmost, ei]; simp; omega
        refine ⟨y, rfl, ya, by decide, _, idx ya, rfl, ?_⟩
        refine ⟨x, rfl, xa, by decide, _, idx xa, rfl, ?_⟩
        refine ⟨fun _ => ?_, fun g6 => absurd g6 ?_⟩
        rotate_left
        · show ¬ decide ((image p [s] n)[y][x] < IntKind.i64.wrap (0 - IntKind.i64.wrap ((IntKind.i64.wrap (IntKind.i64.wrap (s.f * (p.length : Int)) * IntKind.i64.wrap ((p.length : Int) - 1))).tdiv 2))) = true
          rw [hmost, ei, wrap_id (by omega) (by omega)]; simp; omega
        refine ⟨0, rfl, hl0, by decide, _, idx hl0, rfl, ?_⟩
        refine ⟨fun e1 => ?_, fun e1 => ?_⟩
        · refine ⟨0, rfl, hl0, by decide, _, idx hl0, rfl, ?_⟩
          refine ⟨fun e2 => ?_, fun e2 => ?_⟩
          · refine ⟨y, rfl, ya, by decide, _, idx ya, rfl, ?_⟩
            refine ⟨x, rfl, xa, by decide, _, idx xa, rfl, ?_⟩
            refine ⟨fun g7 => absurd g7 ?_, fun _ => ?_⟩
            · show ¬ ((image p [s] n)[y][x] != IntKind.i64.wrap ((IntKind.i64.wrap (IntKind.i64.wrap (s.f * (p.length : Int)) * IntKind.i64.wrap ((p.length : Int) - 1))).tdiv 2)) = true
              have f1 : (x : Int) = s.x := by simpa using e1
              have f2 : (y : Int) = s.y := by simpa using e2
              rw [hmost, ei, k2 f1 f2]; simp
            refine ⟨x + 1, by show _ < _; simp; omega, ⟨rfl, rfl⟩, ⟨by show PV.v (.int _ _) = _; rw [succ_w (by omega)], trivial⟩, trivial, (by repeat' first | exact trivial | rfl | apply And.intro), g4⟩
          · refine ⟨x + 1, by show _ < _; simp; omega, ⟨rfl, rfl⟩, ⟨by show PV.v (.int _ _) = _; rw [succ_w (by omega)], trivial⟩, trivial, (by repeat' first | exact trivial | rfl | apply And.intro), g4⟩
        · refine ⟨x + 1, by show _ < _; simp; omega, ⟨rfl, rfl⟩, ⟨by show PV.v (.int _ _) = _; rw [succ_w (by omega)], trivial⟩, trivial, (by repeat' first | exact trivial | rfl | apply And.intro), g4⟩
      · simp at g4
        refine ⟨y + 1, by show _ < _; simp; omega, ⟨rfl, rfl⟩, ⟨by show PV.v (.int _ _) = _; rw [succ_w (by omega)], trivial⟩, trivial, (by repeat' first | exact trivial | rfl | apply And.intro), g3⟩
    · rfl
end Go.Pv
