/- Stations moved, in plain Lean. -/
import Derived.Test.YtiahapcnajnlkaaPlAdds
namespace Go.Pv
open Go.Vc

def mvP (dx dy : Int) (a : Place) : Place := ⟨a.x + dx, a.y + dy⟩

theorem turned_congr {p p' : List Place} (hn : p'.length = p.length) {l : List Lamp} (h : ∀ i j x y, i < p.length → j < p.length → qs p' i j x y % 4 = qs p i j x y % 4) : turned p' l 0 0 = turned p l 0 0 := by
  unfold turned
  rw [hn]
  refine List.map_congr_left fun q hq => ?_
  have hm := mem_prs hq
  have e : ∀ s, seen1 p' q.1 q.2 s = seen1 p q.1 q.2 s := fun s => gt_mod (h q.1 q.2 s.x s.y (by omega) hm.2) _
  have e1 : sre p' q.1 q.2 l = sre p q.1 q.2 l := by unfold sre; congr 1; exact List.map_congr_left fun s _ => by rw [e]
  have e2 : sim p' q.1 q.2 l = sim p q.1 q.2 l := by unfold sim; congr 1; exact List.map_congr_left fun s _ => by rw [e]
  rw [vis1_0, vis1_0, e1, e2]

theorem turned_mvP (p : List Place) (l : List Lamp) (dx dy : Int) : turned (p.map (mvP dx dy)) l 0 0 = turned p l 0 0 := by
  refine turned_congr (by simp) fun i j x y hi hj => ?_
  have h1 : plc (p.map (mvP dx dy)) i = mvP dx dy (plc p i) := by rw [plc_get (by simpa using hi), plc_get hi]; simp
  have h2 : plc (p.map (mvP dx dy)) j = mvP dx dy (plc p j) := by rw [plc_get (by simpa using hj), plc_get hj]; simp
  rw [qs, qs, h1, h2]
  congr 1
  simp only [mvP]
  congr 2 <;> omega

theorem plc_set {p : List Place} {w : Nat} (hw : w < p.length) (a : Place) {i : Nat} : plc (p.set w a) i = if i = w then a else plc p i := by
  unfold plc
  by_cases h : i = w
  · subst h; simp [hw]
  · rw [if_neg h]
    simp [List.getElem?_set_ne (Ne.symm h)]

theorem turned_set (p : List Place) (l : List Lamp) (dx dy : Int) {w : Nat} (hw : w < p.length) : turned (p.set w ⟨p[w].x + 4 * dx, p[w].y - 4 * dy⟩) l 0 0 = turned p l 0 0 := by
  refine turned_congr (by simp) fun i j x y hi hj => ?_
  have hp := plc_get hw
  rw [qs, qs, plc_set hw, plc_set hw]
  have key : ∀ (u v d e : Int), (x * (u + 4 * d) + y * (v + 4 * e)) % 4 = (x * u + y * v) % 4 := fun u v d e => by
    rw [show x * (u + 4 * d) + y * (v + 4 * e) = x * u + y * v + 4 * (x * d + y * e) by grind]
    omega
  by_cases h1 : j = w
  · by_cases h2 : i = w
    · rw [if_pos h1, if_pos h2, h1, h2]; simp
    · rw [if_pos h1, if_neg h2, h1, hp]
      have := key (p[w].x - (plc p i).x) (p[w].y - (plc p i).y) dx (-dy)
      rw [← this]; congr 1
      simp only
      congr 2 <;> omega
  · by_cases h2 : i = w
    · rw [if_neg h1, if_pos h2, h2, hp]
      have := key ((plc p j).x - p[w].x) ((plc p j).y - p[w].y) (-dx) dy
      rw [← this]; congr 1
      simp only
      congr 2 <;> omega
    · rw [if_neg h1, if_neg h2]

theorem see_pair {p : List Place} {l : List Lamp} (hp : places p = 0) (hl : check l = 0) {i j : Nat} (hi : i < p.length) (hj : j < p.length) : see [p[i], p[j]] l = ([⟨0, 1, ⟨sre p i j l, sim p i j l, 1⟩, 1⟩], 0) := by
  obtain ⟨_, _, hpl⟩ := places_0 hp
  have hpp : places [p[i], p[j]] = 0 := by
    refine places_of (by simp) (by simp) fun a ha => ?_
    simp only [List.mem_cons, List.not_mem_nil, or_false] at ha
    rcases ha with rfl | rfl
    · exact hpl _ (List.getElem_mem hi)
    · exact hpl _ (List.getElem_mem hj)
  rw [see_ok hpp hl]
  have e : ∀ s, seen1 [p[i], p[j]] 0 1 s = seen1 p i j s := fun s => by
    unfold seen1 qs
    rw [plc_get hi, plc_get hj]
    rfl
  have e1 : sre [p[i], p[j]] 0 1 l = sre p i j l := by unfold sre; congr 1; exact List.map_congr_left fun s _ => by rw [e]
  have e2 : sim [p[i], p[j]] 0 1 l = sim p i j l := by unfold sim; congr 1; exact List.map_congr_left fun s _ => by rw [e]
  show ((prs 2).map (vis1 [p[i], p[j]] l 0 0), (0 : Int)) = _
  rw [show prs 2 = [(0, 1)] by decide, List.map_singleton, vis1_0, e1, e2]
  rfl
end Go.Pv
