/- The gains' examples, and the law GainNorms, of the code. -/
import Derived.Test.YteihdjifhnkhpaaGf
import Derived.Test.YteihdjifhnkhpaaPlNorms
namespace Go.Pv
open Go.Vc
open Go.Proofs
set_option maxRecDepth 10000
set_option maxHeartbeats 4000000

theorem w_of (x y z : Int) : Ret Try.prog 33 [i64 x, i64 y, i64 z] [] (.p (cx ⟨x, y, z⟩)) := by
  refine ret (fn := Try.f33) (by kernel_rfl) (by kernel_rfl) rfl ?_
  rfl

theorem g_actE {g : List Cx} {l : List Vis} {r : List Vis × Int} (h : act26 g l = r) (hg : ∀ c ∈ g, Enc.ok c) (hl : ∀ v ∈ l, Enc.ok v) : Ret Try.prog 10 [sl g, sl l] [] (resV r) := h ▸ g_act g l hg hl
theorem g_alikeE {g h : List Cx} {r : Bool × Int} (e : alike g h = r) (hg : ∀ c ∈ g, Enc.ok c) (hh : ∀ c ∈ h, Enc.ok c) : Ret Try.prog 21 [sl g, sl h] [] (resB r) := e ▸ g_alike g h hg hh
theorem r_same26Y (xs : List Vis) (hn : xs.length ≤ 1000000) : Ret Try.prog 14 [sl xs, sl xs] [] (.p (bl true)) := by
  have := r_same26 xs xs hn
  simpa using this

instance (a : Cx) : Decidable (Enc.ok a) := by show Decidable (I64 _ ∧ I64 _ ∧ I64 _); unfold I64; infer_instance
instance (a : Vis) : Decidable (Enc.ok a) := by show Decidable (I64 _ ∧ I64 _ ∧ Enc.ok a.v ∧ I64 _); unfold I64; infer_instance

def exG : List Cx := [⟨1, 0, 1⟩, ⟨0, 1, 1⟩]
def exH : List Cx := [⟨0, 1, 1⟩, ⟨-1, 0, 1⟩]

theorem w_alive : Ret Try.prog 15 [] [] (.p (bl true)) := by
  refine ret (fn := Try.f15) (by kernel_rfl) (by kernel_rfl) rfl ?_
  refine ⟨[], _, w_of 1 0 1, rfl, ?_⟩
  refine ⟨[], _, w_of 0 1 1, rfl, ?_⟩
  refine ⟨[], _, w_of 0 1 1, rfl, ?_⟩
  refine ⟨[], _, w_of (-1) 0 1, rfl, ?_⟩
  refine ⟨[], _, w_of 2 0 1, rfl, ?_⟩
  refine ⟨[], _, g_actE (g := exG) (l := [⟨0, 1, ⟨2, 0, 1⟩, 5⟩]) (r := ([⟨0, 1, ⟨0, -2, 1⟩, 5⟩], 0)) (by decide +kernel) (by decide) (by decide), rfl, ?_⟩
  refine ⟨[], _, g_alikeE (g := exG) (h := exH) (r := (true, 0)) (by decide +kernel) (by decide) (by decide), rfl, ?_⟩
  refine ⟨fun _ => ?_, fun h => absurd h (by first | decide | simp)⟩
  refine ⟨[], _, w_of 0 (-2) 1, rfl, ?_⟩
  refine ⟨[], _, r_same26Y [⟨0, 1, ⟨0, -2, 1⟩, 5⟩] (by decide), rfl, ?_⟩
  refine ⟨fun _ => ?_, fun h => absurd h (by first | decide | simp)⟩
  refine ⟨fun _ => ?_, fun h => absurd h (by first | decide | simp)⟩
  rfl

theorem gainNorms (g : List Cx) (l : List Vis) (hg : ∀ c ∈ g, Enc.ok c) (hl : ∀ v ∈ l, Enc.ok v) : Ret Try.prog 4 [sl g, sl l] [] (.p (bl true)) := by
  refine ret (fn := Try.f4) (by kernel_rfl) (by kernel_rfl) rfl ?_
  refine ⟨[], _, w_alive, rfl, ?_⟩
  refine ⟨[], _, r_check26 g, rfl, ?_⟩
  refine ⟨fun h1 => ?_, fun h1 => ?_⟩
  rotate_left
  · rfl
  simp at h1
  refine ⟨[], _, r_all l g.length, rfl, ?_⟩
  refine ⟨fun h2 => ?_, fun h2 => ?_⟩
  rotate_left
  · rfl
  simp at h2
  refine ⟨fun h3 => ?_, fun h3 => ?_⟩
  · rfl
  obtain ⟨c1, c2, c3⟩ := ck26_0 h1
  obtain ⟨l1, l2⟩ := all26_0 h2
  refine ⟨[], _, g_act g l hg hl, rfl, ?_⟩
  refine ⟨fun h4 => ?_, fun h4 => ?_⟩
  · simp at h4
    have e16 : (act26 g l).2 = 16 := by
      rcases act26_err' h1 h2 with h | h
      · exact absurd h h4
      · rw [h]
    refine ⟨fun _ => ?_, fun h => absurd h (by first | decide | simp)⟩
    show SV.p (bl _) = _
    rw [e16]; rfl
  simp at h4
  have hlen := act26_len h4
  obtain ⟨_, hmap, hok⟩ := act26_ok h4
  refine ⟨fun h5 => ?_, fun h5 => ?_⟩
  · rw [hlen] at h5
    simp at h5
  refine ⟨Nat, { inv := fun k => k ≤ l.length, slots := [(8, fun k => i64 k)], mu := fun k => l.length - k }, 0, ⟨⟨rfl, trivial⟩, trivial, (by repeat' first | exact trivial | rfl | apply And.intro), Nat.zero_le _⟩, ?_⟩
  intro k hk
  refine ⟨fun h6 => ?_, fun h6 => ?_⟩
  · simp at h6
    have h6' : k < (act26 g l).1.length := by omega
    have hgd := l2 l[k] (List.getElem_mem h6)
    have ha : (act1 g l[k]).2 = 0 := hok _ (List.getElem_mem h6)
    have hw : (act26 g l).1[k] = l[k].set (act1 g l[k]).1 := by
      have : (act26 g l).1[k]? = some (l[k].set (act1 g l[k]).1) := by rw [hmap, List.getElem?_map, List.getElem?_eq_getElem h6]; rfl
      rw [List.getElem?_eq_getElem h6'] at this
      exact Option.some.inj this
    have hwv := act1_valid h1 hgd ha
    have hgd' := hgd
    unfold Vis.good at hgd'
    obtain ⟨i, hi⟩ : ∃ a : Nat, l[k].i = a := ⟨l[k].i.toNat, by omega⟩
    obtain ⟨j, hj⟩ : ∃ a : Nat, l[k].j = a := ⟨l[k].j.toNat, by omega⟩
    have hil : i < g.length := by omega
    have hjl : j < g.length := by omega
    have ei : at_ g l[k].i = g[i] := by rw [hi, at_get hil]
    have ej : at_ g l[k].j = g[j] := by rw [hj, at_get hjl]
    have w1 : (act26 g l).1[k].i = l[k].i := by rw [hw]; rfl
    have w2 : (act26 g l).1[k].j = l[k].j := by rw [hw]; rfl
    have w3 : (act26 g l).1[k].n = l[k].n := by rw [hw]; rfl
    have w4 : (act26 g l).1[k].v = (act1 g l[k]).1 := by rw [hw]; rfl
    refine ⟨k, rfl, h6, by decide, _, idx h6, rfl, ?_⟩
    refine ⟨k, rfl, h6', by decide, _, idx h6', rfl, ?_⟩
    refine ⟨fun _ => ?_, fun q => absurd q (by simp [w1])⟩
    refine ⟨fun _ => ?_, fun q => absurd q (by simp [w2])⟩
    refine ⟨fun _ => ?_, fun q => absurd q (by simp [w3])⟩
    refine ⟨[], _, r_check (act26 g l).1[k].v, rfl, ?_⟩
    refine ⟨fun q => absurd q ?_, fun _ => ?_⟩
    · rw [w4, chk_ne]; simp [hwv]
    refine ⟨[], _, r_norm l[k].v, rfl, ?_⟩
    refine ⟨[], _, r_norm (act26 g l).1[k].v, rfl, ?_⟩
    refine ⟨i, hi, hil, by decide, _, idx hil, rfl, ?_⟩
    refine ⟨[], _, r_norm g[i], rfl, ?_⟩
    refine ⟨j, hj, hjl, by decide, _, idx hjl, rfl, ?_⟩
    refine ⟨[], _, r_norm g[j], rfl, ?_⟩
    refine ⟨fun n1 => ?_, fun n1 => ?_⟩
    rotate_left
    · refine ⟨k + 1, by show _ < _; simp; omega, ⟨rfl, rfl⟩, ⟨by show PV.v (.int _ _) = _; rw [succ_w (by omega)], trivial⟩, trivial, (by repeat' first | exact trivial | rfl | apply And.intro), h6⟩
    refine ⟨fun n2 => ?_, fun n2 => ?_⟩
    rotate_left
    · refine ⟨k + 1, by show _ < _; simp; omega, ⟨rfl, rfl⟩, ⟨by show PV.v (.int _ _) = _; rw [succ_w (by omega)], trivial⟩, trivial, (by repeat' first | exact trivial | rfl | apply And.intro), h6⟩
    refine ⟨fun n3 => ?_, fun n3 => ?_⟩
    rotate_left
    · refine ⟨k + 1, by show _ < _; simp; omega, ⟨rfl, rfl⟩, ⟨by show PV.v (.int _ _) = _; rw [succ_w (by omega)], trivial⟩, trivial, (by repeat' first | exact trivial | rfl | apply And.intro), h6⟩
    refine ⟨fun n4 => ?_, fun n4 => ?_⟩
    rotate_left
    · refine ⟨k + 1, by show _ < _; simp; omega, ⟨rfl, rfl⟩, ⟨by show PV.v (.int _ _) = _; rw [succ_w (by omega)], trivial⟩, trivial, (by repeat' first | exact trivial | rfl | apply And.intro), h6⟩
    simp at n1 n2 n3 n4
    refine ⟨fun n5 => ?_, fun n5 => ?_⟩
    · refine ⟨k + 1, by show _ < _; simp; omega, ⟨rfl, rfl⟩, ⟨by show PV.v (.int _ _) = _; rw [succ_w (by omega)], trivial⟩, trivial, (by repeat' first | exact trivial | rfl | apply And.intro), h6⟩
    have n5 : decide ((if (nrm g[j]).1.den > _ then (nrm g[j]).1.den else _) > 10000) = false := n5
    simp only [gt_iff_lt, decide_eq_false_iff_not, Int.not_lt] at n5
    simp only [← gt_iff_lt, le_max_if] at n5
    rw [w4] at n2 n5
    have key := act1_norms h1 hgd ha n1 n2 (by rw [ei]; exact n3) (by rw [ej]; exact n4)
    obtain ⟨x1, x2, x3⟩ := nrm_frac hgd'.2.2.2.2 n1
    obtain ⟨y1, y2, y3⟩ := nrm_frac hwv n2
    obtain ⟨p1, p2, p3⟩ := nrm_frac (c3 _ (List.getElem_mem hil)).1 n3
    obtain ⟨q1, q2, q3⟩ := nrm_frac (c3 _ (List.getElem_mem hjl)).1 n4
    rw [ei, ej] at key
    refine ⟨fun q => absurd q ?_, fun _ => ?_⟩
    · show ¬ (IntKind.i64.wrap (IntKind.i64.wrap (IntKind.i64.wrap ((nrm l[k].v).1.num * (nrm g[i]).1.num) * (nrm g[j]).1.num) * (nrm (act26 g l).1[k].v).1.den) != IntKind.i64.wrap (IntKind.i64.wrap (IntKind.i64.wrap ((nrm l[k].v).1.den * (nrm g[i]).1.den) * (nrm g[j]).1.den) * (nrm (act26 g l).1[k].v).1.num)) = true
      rw [w4, four_bound (by omega) (by omega) (by omega) (by omega), four_bound (by omega) (by omega) (by omega) (by omega), key]
      simp
    refine ⟨k + 1, by show _ < _; simp; omega, ⟨rfl, rfl⟩, ⟨by show PV.v (.int _ _) = _; rw [succ_w (by omega)], trivial⟩, trivial, (by repeat' first | exact trivial | rfl | apply And.intro), h6⟩
  · rfl
end Go.Pv
