/- Complex numbers with rational parts: what the machine's numbers mean. -/
import Derived.Test.YteihdjifhnkhpaaPlNorms
namespace Go.Pv
open Go.Vc

def vre (c : Cx) : Rat := (c.re : Rat) / (c.den : Rat)
def vim (c : Cx) : Rat := (c.im : Rat) / (c.den : Rat)

theorem cast_ne {n : Int} (h : 0 < n) : (n : Rat) ≠ 0 := by
  intro e
  have : (n : Rat) = ((0 : Int) : Rat) := by rw [e]; rfl
  rw [Rat.intCast_inj] at this
  omega

theorem vden {c : Cx} (h : c.valid) : (c.den : Rat) ≠ 0 := cast_ne (by have := h.1; omega)

theorem norm_v {x y z : Int} (hz : 0 < z) : vre (norm x y z) = (x : Rat) / (z : Rat) ∧ vim (norm x y z) = (y : Rat) / (z : Rat) := by
  obtain ⟨g, hg, e1, e2, e3, hd, _⟩ := norm_spec (x := x) (y := y) hz
  have hg' : ((g : Int) : Rat) ≠ 0 := cast_ne (by omega)
  have hd' : ((norm x y z).den : Rat) ≠ 0 := cast_ne hd
  have c1 : (x : Rat) = ((norm x y z).re : Rat) * ((g : Int) : Rat) := by rw [← Rat.intCast_mul, ← e1]
  have c2 : (y : Rat) = ((norm x y z).im : Rat) * ((g : Int) : Rat) := by rw [← Rat.intCast_mul, ← e2]
  have c3 : (z : Rat) = ((norm x y z).den : Rat) * ((g : Int) : Rat) := by rw [← Rat.intCast_mul, ← e3]
  unfold vre vim
  rw [c1, c2, c3]
  generalize ((norm x y z).re : Rat) = a at *
  generalize ((norm x y z).im : Rat) = b at *
  generalize ((norm x y z).den : Rat) = c at *
  generalize ((g : Int) : Rat) = d at *
  constructor <;> grind

theorem make_v {x y z : Int} (hz : 0 < z) (h : (make x y z).2 = 0) : vre (make x y z).1 = (x : Rat) / (z : Rat) ∧ vim (make x y z).1 = (y : Rat) / (z : Rat) ∧ (make x y z).1.valid := by
  obtain ⟨h1, h2⟩ := make_ok hz h
  rw [h1]
  exact ⟨(norm_v hz).1, (norm_v hz).2, h2⟩

/-- Numbers with the same value are the same. -/
theorem v_inj {a b : Cx} (ha : a.valid) (hb : b.valid) (h1 : vre a = vre b) (h2 : vim a = vim b) : a = b := by
  have da := vden ha
  have db := vden hb
  unfold vre at h1
  unfold vim at h2
  refine Cx.eq_of ha hb ?_ ?_
  · rw [← Rat.intCast_inj, Rat.intCast_mul, Rat.intCast_mul]; grind
  · rw [← Rat.intCast_inj, Rat.intCast_mul, Rat.intCast_mul]; grind

theorem mul_v {a b : Cx} (ha : a.valid) (hb : b.valid) (h : (mul a b).2 = 0) : vre (mul a b).1 = vre a * vre b - vim a * vim b ∧ vim (mul a b).1 = vre a * vim b + vim a * vre b ∧ (mul a b).1.valid := by
  have da := vden ha
  have db := vden hb
  rw [mul, if_pos ⟨ha, hb⟩] at h ⊢
  obtain ⟨h1, h2, h3⟩ := make_v (mul_pos' ha.1 hb.1) h
  rw [h1, h2]
  unfold vre vim
  simp only [Rat.intCast_mul, Rat.intCast_sub, Rat.intCast_add]
  exact ⟨by grind, by grind, h3⟩

theorem add_v {a b : Cx} (ha : a.valid) (hb : b.valid) (h : (add a b).2 = 0) : vre (add a b).1 = vre a + vre b ∧ vim (add a b).1 = vim a + vim b ∧ (add a b).1.valid := by
  have da := vden ha
  have db := vden hb
  rw [add, if_pos ⟨ha, hb⟩] at h ⊢
  obtain ⟨h1, h2, h3⟩ := make_v (mul_pos' ha.1 hb.1) h
  rw [h1, h2]
  unfold vre vim
  simp only [Rat.intCast_mul, Rat.intCast_sub, Rat.intCast_add]
  exact ⟨by grind, by grind, h3⟩

theorem sub_v {a b : Cx} (ha : a.valid) (hb : b.valid) (h : (sub a b).2 = 0) : vre (sub a b).1 = vre a - vre b ∧ vim (sub a b).1 = vim a - vim b ∧ (sub a b).1.valid := by
  have da := vden ha
  have db := vden hb
  rw [sub, if_pos ⟨ha, hb⟩] at h ⊢
  obtain ⟨h1, h2, h3⟩ := make_v (mul_pos' ha.1 hb.1) h
  rw [h1, h2]
  unfold vre vim
  simp only [Rat.intCast_mul, Rat.intCast_sub, Rat.intCast_add]
  exact ⟨by grind, by grind, h3⟩

theorem conj_v (a : Cx) : vre (conj a) = vre a ∧ vim (conj a) = - vim a := by
  unfold vre vim conj
  simp only [Rat.intCast_neg]
  exact ⟨trivial, by grind⟩

theorem zero_v {a : Cx} (ha : a.valid) : a.zero ↔ vre a = 0 ∧ vim a = 0 := by
  have da := vden ha
  have z : ∀ n : Int, (n : Rat) = 0 ↔ n = 0 := fun n => by
    rw [← Rat.intCast_inj]; rfl
  unfold vre vim Cx.zero
  rw [← z a.re, ← z a.im]
  constructor
  · rintro ⟨h1, h2⟩; exact ⟨by rw [h1]; grind, by rw [h2]; grind⟩
  · rintro ⟨h1, h2⟩; exact ⟨by grind, by grind⟩

theorem ns_pos_of {a : Cx} (hz : ¬ a.zero) : 0 < a.re * a.re + a.im * a.im := ns_pos hz

theorem v_nz {a : Cx} (ha : a.valid) (hz : ¬ a.zero) : vre a * vre a + vim a * vim a ≠ 0 := by
  have da := vden ha
  have hp : ((a.re * a.re + a.im * a.im : Int) : Rat) ≠ 0 := cast_ne (ns_pos_of hz)
  simp only [Rat.intCast_mul, Rat.intCast_add] at hp
  unfold vre vim
  intro e
  apply hp
  have : ((a.re : Rat) * a.re + (a.im : Rat) * a.im) = ((a.re : Rat) / a.den * (a.re / a.den) + (a.im : Rat) / a.den * (a.im / a.den)) * ((a.den : Rat) * a.den) := by grind
  rw [this, e]; grind

theorem div_v {a b : Cx} (ha : a.valid) (hb : b.valid) (hz : ¬ b.zero) (h : (div a b).2 = 0) :
    vre (div a b).1 * (vre b * vre b + vim b * vim b) = vre a * vre b + vim a * vim b ∧ vim (div a b).1 * (vre b * vre b + vim b * vim b) = vim a * vre b - vre a * vim b ∧ (div a b).1.valid := by
  have da := vden ha
  have db := vden hb
  have hp : ((b.re * b.re + b.im * b.im : Int) : Rat) ≠ 0 := cast_ne (ns_pos_of hz)
  have hpos : 0 < (b.re * b.re + b.im * b.im) * a.den := Int.mul_pos (ns_pos_of hz) (by have := ha.1; omega)
  rw [div, if_pos ⟨ha, hb⟩, if_neg hz] at h ⊢
  obtain ⟨h1, h2, h3⟩ := make_v hpos h
  rw [h1, h2]
  unfold vre vim
  simp only [Rat.intCast_mul, Rat.intCast_sub, Rat.intCast_add] at hp ⊢
  exact ⟨by grind, by grind, h3⟩

/-- A product is 0 only if a factor is. -/
theorem v_mul_nz {a b c : Cx} (ha : a.valid) (hb : b.valid) (hc : c.valid) (za : ¬ a.zero) (zb : ¬ b.zero) (h1 : vre c = vre a * vre b - vim a * vim b) (h2 : vim c = vre a * vim b + vim a * vre b) : ¬ c.zero := by
  intro hz
  rw [zero_v hc] at hz
  have na := v_nz ha za
  have nb := v_nz hb zb
  have : (vre a * vre a + vim a * vim a) * (vre b * vre b + vim b * vim b) = 0 := by
    have e : (vre a * vre a + vim a * vim a) * (vre b * vre b + vim b * vim b) = vre c * vre c + vim c * vim c := by rw [h1, h2]; grind
    rw [e, hz.1, hz.2]; grind
  grind
end Go.Pv
