/- The sky's examples, and the law SkySees, of the code. -/
import Derived.Test.YtiahapcnajnlkaaSkE
namespace Go.Pv
open Go.Vc
open Go.Proofs
set_option maxRecDepth 10000

def givenP : List Place := [⟨0, 0⟩, ⟨1, 0⟩, ⟨0, 2⟩]

theorem w_given : Ret Try.prog 31 [] [] (.p (sl givenP)) := by
  refine ret (fn := Try.f31) (by kernel_rfl) (by kernel_rfl) rfl ?_
  rfl

instance : Enc (Int × Int) where
  sz := 2
  cs a := [i64 a.1, i64 a.2]
  ok a := I64 a.1 ∧ I64 a.2
  len _ := rfl
  pos := by decide

def three (a b c : Int × Int) : List Vis := [⟨0, 1, ⟨a.1, a.2, 1⟩, 1⟩, ⟨0, 2, ⟨b.1, b.2, 1⟩, 1⟩, ⟨1, 2, ⟨c.1, c.2, 1⟩, 1⟩]

/-- These visibilities have what is wanted. -/
theorem w_has (a b c : Int × Int) : Ret Try.prog 32 [sl (three a b c), i64 0, sl [a, b, c]] [] (.p (bl true)) := by
  refine ret (fn := Try.f32) (by kernel_rfl) (by kernel_rfl) rfl ?_
  refine ⟨fun _ => ?_, fun h => absurd h (by first | decide | simp)⟩
  refine ⟨fun h => absurd h (by simp [three]), fun _ => ?_⟩
  refine ⟨Nat, { inv := fun k => k ≤ 3, slots := [(7, fun k => i64 k)], mu := fun k => 3 - k }, 0, ⟨⟨rfl, trivial⟩, trivial, trivial, Nat.zero_le _⟩, ?_⟩
  intro k hk
  have key : ∀ v : Vis, eqPL (Enc.cs v) (Enc.cs v) = true := fun v => by rw [eqPL_vi]; simp
  refine ⟨fun h2 => ?_, fun h2 => ?_⟩
  · simp at h2
    refine ⟨by decide, by decide, ?_⟩
    refine ⟨k, rfl, by show k < 3; omega, by decide, _, idx (xs := three a b c) (by show k < 3; omega), rfl, ?_⟩
    refine ⟨k, rfl, by show k < 3; omega, by decide, _, idx (xs := [a, b, c]) (by show k < 3; omega), rfl, ?_⟩
    refine ⟨k, rfl, by show k < 3; omega, by decide, _, idx (xs := [a, b, c]) (by show k < 3; omega), rfl, ?_⟩
    obtain rfl | rfl | rfl : k = 0 ∨ k = 1 ∨ k = 2 := by omega
    · refine ⟨fun h3 => ?_, fun h3 => ?_⟩
      · exact absurd (show (!eqPL (Enc.cs (⟨0, 1, ⟨a.1, a.2, 1⟩, 1⟩ : Vis)) (Enc.cs (⟨0, 1, ⟨a.1, a.2, 1⟩, 1⟩ : Vis))) = true from h3) (by rw [key]; simp)
      refine ⟨0 + 1, by show _ < _; simp, ⟨rfl, rfl⟩, ⟨by show PV.v (.int _ _) = _; rw [succ_w (by omega)], trivial⟩, trivial, trivial, by decide⟩
    · refine ⟨fun h3 => ?_, fun h3 => ?_⟩
      · exact absurd (show (!eqPL (Enc.cs (⟨0, 2, ⟨b.1, b.2, 1⟩, 1⟩ : Vis)) (Enc.cs (⟨0, 2, ⟨b.1, b.2, 1⟩, 1⟩ : Vis))) = true from h3) (by rw [key]; simp)
      refine ⟨1 + 1, by show _ < _; simp, ⟨rfl, rfl⟩, ⟨by show PV.v (.int _ _) = _; rw [succ_w (by omega)], trivial⟩, trivial, trivial, by decide⟩
    · refine ⟨fun h3 => ?_, fun h3 => ?_⟩
      · exact absurd (show (!eqPL (Enc.cs (⟨1, 2, ⟨c.1, c.2, 1⟩, 1⟩ : Vis)) (Enc.cs (⟨1, 2, ⟨c.1, c.2, 1⟩, 1⟩ : Vis))) = true from h3) (by rw [key]; simp)
      refine ⟨2 + 1, by show _ < _; simp, ⟨rfl, rfl⟩, ⟨by show PV.v (.int _ _) = _; rw [succ_w (by omega)], trivial⟩, trivial, trivial, by decide⟩
  · rfl

theorem skySeeE {p : List Place} {l : List Lamp} {r : List Vis × Int} (h : see p l = r) : Ret Try.prog 18 [sl p, sl l] [] (resV r) := h ▸ (skySee p l).frz
theorem skyDirtyE {p : List Place} {l : List Lamp} {n : Int} {r : List (List Int) × Int} (h : dirty p l n = r) : Ret Try.prog 21 [sl p, sl l, i64 n] [] (resI r) := h ▸ skyDirty p l n

theorem w_alive : Ret Try.prog 16 [] [] (.p (bl true)) := by
  refine ret (fn := Try.f16) (by kernel_rfl) (by kernel_rfl) rfl ?_
  refine ⟨[], _, w_given, rfl, ?_⟩
  refine ⟨[], _, skySeeE (p := givenP) (l := [⟨1, 0, 5⟩]) (r := (three (0, 5) (5, 0) (0, -5), 0)) (by decide +kernel), rfl, ?_⟩
  refine ⟨[], _, w_given, rfl, ?_⟩
  refine ⟨⟨by decide, by decide⟩, rfl, false, by decide, by decide, ?_⟩
  refine ⟨[], _, skySeeE (p := givenP) (l := [⟨1, 0, 5⟩, ⟨0, 0, 2⟩]) (r := (three (2, 5) (7, 0) (2, -5), 0)) (by decide +kernel), rfl, ?_⟩
  refine ⟨[], _, w_given, rfl, ?_⟩
  refine ⟨[], _, skyDirtyE (p := givenP) (l := [⟨1, 0, 5⟩]) (n := 2) (r := ([[5, 15], [-5, -5]], 0)) (by decide +kernel), rfl, ?_⟩
  refine ⟨[], _, w_has (0, 5) (5, 0) (0, -5), rfl, ?_⟩
  refine ⟨fun _ => ?_, fun h => absurd h (by first | decide | simp)⟩
  refine ⟨[], _, w_has (2, 5) (7, 0) (2, -5), rfl, ?_⟩
  refine ⟨fun _ => ?_, fun h => absurd h (by first | decide | simp)⟩
  refine ⟨fun _ => ?_, fun h => absurd h (by first | decide | simp)⟩
  refine ⟨[], _, refSameImage [[5, 15], [-5, -5]] [[5, 15], [-5, -5]] (by decide) (by decide), rfl, ?_⟩
  rfl

theorem skySees (p : List Place) (l : List Lamp) (dx dy n : Int) : Ret Try.prog 6 [sl p, sl l, i64 dx, i64 dy, i64 n] [] (.p (bl true)) := by
  refine ret (fn := Try.f6) (by kernel_rfl) (by kernel_rfl) rfl ?_
  refine ⟨[], _, great p l, rfl, ?_⟩
  refine ⟨fun h1 => ?_, fun h1 => ?_⟩
  · rfl
  simp at h1
  refine ⟨[], _, (skySee p l).frz, rfl, ?_⟩
  refine ⟨[], _, refSee p l, rfl, ?_⟩
  refine ⟨[], _, skyTurned p l dx dy, rfl, ?_⟩
  refine ⟨[], _, refTurnd p l dx dy, rfl, ?_⟩
  refine ⟨[], _, skyDirty p l n, rfl, ?_⟩
  refine ⟨[], _, refDirty p l n, rfl, ?_⟩
  refine ⟨[], _, skyCheck l, rfl, ?_⟩
  refine ⟨[], _, refCheck l, rfl, ?_⟩
  have hm : ∀ n, n ≤ 20 → (prs n).length ≤ 1000 := fun n hn => by
    have h := prs_length n
    have : n * (n - 1) ≤ 20 * 20 := Nat.mul_le_mul hn (by omega)
    omega
  have hl1 : (see p l).1.length ≤ 1000000 := by
    have := hm p.length (by omega)
    rw [see]; split
    · simp
    · simp only [turned_length]; omega
  have hl2 : (turnd p l dx dy).1.length ≤ 1000000 := by
    have := hm p.length (by omega)
    rw [turnd]; split
    · simp
    split
    · simp only [turned_length]; omega
    · simp
  have hl3 : (dirty p l n).1.length ≤ 1000000 ∧ ∀ a ∈ (dirty p l n).1, a.length ≤ 1000000 := by
    rw [dirty]; split
    · simp
    split
    · refine ⟨by simp [image]; omega, fun a ha => ?_⟩
      simp [image] at ha
      obtain ⟨k, hk, rfl⟩ := ha
      simp; omega
    · simp
  refine ⟨fun h2 => ?_, fun h2 => ?_⟩
  rotate_left
  · simp at h2
  refine ⟨[], _, skyPlaces p, rfl, ?_⟩
  refine ⟨[], _, refPlaces p, rfl, ?_⟩
  refine ⟨fun h3 => ?_, fun h3 => ?_⟩
  rotate_left
  · simp at h3
  refine ⟨[], _, refSameVis (see p l).1 (see p l).1 hl1, rfl, ?_⟩
  refine ⟨fun h4 => ?_, fun h4 => ?_⟩
  rotate_left
  · simp at h4
  refine ⟨fun h5 => ?_, fun h5 => ?_⟩
  rotate_left
  · simp at h5
  refine ⟨[], _, refSameVis (turnd p l dx dy).1 (turnd p l dx dy).1 hl2, rfl, ?_⟩
  refine ⟨fun h6 => ?_, fun h6 => ?_⟩
  rotate_left
  · simp at h6
  refine ⟨fun h7 => ?_, fun h7 => ?_⟩
  rotate_left
  · simp at h7
  refine ⟨[], _, refSameImage (dirty p l n).1 (dirty p l n).1 hl3.1 hl3.2, rfl, ?_⟩
  refine ⟨fun h8 => ?_, fun h8 => ?_⟩
  rotate_left
  · simp at h8
  show SV.p (bl _) = _
  simp
end Go.Pv
