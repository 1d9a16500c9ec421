/- The VC generator's small functions say what they should: each in plain logical words. -/
import Derived.Test.YtilmadidjihfkaaVcDef
import Derived.Deep.AppendSrc
import Derived.StillTail
namespace Go.Vc
open Go.RowKit (Below)

theorem fV_iff (y : Value) (k : Value → Prop) : fV y k ↔ k y := by cases y <;> exact Iff.rfl
theorem fSV_iff (x : SV) (k : SV → Prop) : fSV x k ↔ k x := by cases x <;> simp only [fSV, fV_iff]
theorem fL_iff {α : Type} (l : List α) (k : List α → Prop) : fL l k ↔ k l := by
  induction l generalizing k with
  | nil => exact Iff.rfl
  | cons x r ih => simp only [fL, ih]

theorem len_eq {α : Type} (l : List α) : len l = l.length := by
  induction l with
  | nil => rfl
  | cons x r ih => simp only [len, List.length_cons, ih]

def Tab.get (T : Tab) (t : Nat) : Option Ty :=
  match T with
  | [] => none
  | (n, ty) :: r => if n = t then some ty else Tab.get r t

theorem find_iff (T : Tab) (t : Nat) (k : Ty → Prop) : T.find t k ↔ ∃ ty, T.get t = some ty ∧ k ty := by
  induction T with
  | nil => simp [Tab.find, Tab.get]
  | cons p r ih =>
    obtain ⟨n, ty⟩ := p
    by_cases h : n = t
    · subst h; simp [Tab.find, Tab.get]
    · have : Nat.beq n t = false := by rw [Bool.eq_false_iff]; intro h'; exact h (Nat.eq_of_beq_eq_true h')
      simp [Tab.find, Tab.get, this, h, ih]

theorem at_iff (obs : Obs) (i : Nat) (k : Ob → Prop) : obs.at i k ↔ ∃ ob, obs[i]? = some ob ∧ k ob := by
  induction obs generalizing i with
  | nil => simp [Obs.at]
  | cons o r ih => cases i <;> simp [Obs.at, ih]

theorem upd_iff (obs : Obs) (i : Nat) (o : Ob) (k : Obs → Prop) : obs.upd i o k ↔ i < obs.length ∧ k (obs.set i o) := by
  induction obs generalizing i k with
  | nil => simp [Obs.upd]
  | cons x r ih => cases i <;> simp [Obs.upd, ih]

theorem snoc_iff (obs : Obs) (o : Ob) (k : Obs → Prop) : obs.snoc o k ↔ k (obs ++ [o]) := by
  induction obs generalizing k with
  | nil => simp [Obs.snoc]
  | cons x r ih => simp [Obs.snoc, ih]

theorem box_iff (obs : Obs) (i : Nat) (k : Prop) : obs.box i k ↔ ∃ ob, obs[i]? = some ob ∧ ob.live = true ∧ ob.row = none ∧ k := by
  unfold Obs.box
  rw [at_iff]
  constructor
  · rintro ⟨ob, h, hk⟩
    refine ⟨ob, h, ?_⟩
    split at hk
    · exact ⟨‹_›, ‹_›, hk⟩
    · exact hk.elim
  · rintro ⟨ob, h, h1, h2, hk⟩
    exact ⟨ob, h, by simp only [h1, h2]; exact hk⟩

def truncL (us : Us) (i : Nat) : Us := us.filter fun p => decide (p.2 ≤ i)

theorem trunc_iff (us : Us) (i : Nat) (k : Us → Prop) : trunc us i k ↔ k (truncL us i) := by
  induction us generalizing k with
  | nil => simp [trunc, truncL]
  | cons p r ih =>
    obtain ⟨u, n⟩ := p
    by_cases h : n ≤ i
    · have : Nat.ble n i = true := by rw [Nat.ble_eq]; exact h
      simp only [trunc, this, cond_true, ih, truncL, List.filter_cons, h, decide_true, if_true]
    · have : Nat.ble n i = false := by rw [Bool.eq_false_iff]; intro h'; rw [Nat.ble_eq] at h'; exact h h'
      simp only [trunc, this, cond_false, ih, truncL, List.filter_cons, h, decide_false]; simp

theorem ofConst_iff (y : Value) (k : SV → Prop) : ofConst y k ↔ k (match y with | .bool b => .kb b | y => .v y) := by
  cases y <;> exact Iff.rfl

theorem cond_prop (b : Bool) (p q : Prop) : (bif b then p else q) ↔ (b = true → p) ∧ (b = false → q) := by cases b <;> simp
theorem cond_false_iff (b : Bool) (p : Prop) : (bif b then p else False) ↔ b = true ∧ p := by cases b <;> simp

theorem oneCells_iff (l : List Value) : oneCells l = true ↔ ∀ v ∈ l, v.oneCell' = true := by
  induction l with
  | nil => simp [oneCells]
  | cons x r ih => cases x <;> simp [oneCells, Value.oneCell', ih]

theorem cellsOf_iff (y : Value) (k : List Value → Prop) : cellsOf y k ↔ (∀ vs, y ≠ .tuple vs) ∧ k y.cells.toList := by
  cases y <;> simp [cellsOf, Value.cells, fL_iff]

theorem ofCells_spec {agg : Bool} {l : List Value} {k : SV → Prop} (h : ofCells agg l k) :
    (agg = true ∧ k (.v (.agg l.toArray))) ∨ (agg = false ∧ ∃ x, l = [x] ∧ k (.v x)) := by
  unfold ofCells at h
  cases agg with
  | true => exact .inl ⟨rfl, (fL_iff _ _).1 h⟩
  | false =>
    refine .inr ⟨rfl, ?_⟩
    simp only at h
    split at h
    · exact ⟨_, rfl, (fV_iff _ _).1 h⟩
    · exact h.elim

theorem nth_iff (l : List Value) (i : Nat) (k : Value → Prop) : nth l i k ↔ ∃ x, l[i]? = some x ∧ k x := by
  induction l generalizing i with
  | nil => simp [nth]
  | cons o r ih => cases i <;> simp [nth, ih]

theorem Le.refl (w : World) : Le w w := Below.refl _ _
theorem Le.trans {a b c : World} (h : Le a b) (k : Le b c) : Le a c := Below.trans h (k.mono h.size)
theorem Le.heap {u w : World} (h : Le u w) {b : Nat} {o : Obj} (hb : u.heap[b]? = some o) : w.heap[b]? = some o := by
  rw [Below.block h b (Array.getElem?_eq_some_iff.1 hb).1]; exact hb
theorem Le.cell {u w : World} (h : Le u w) {a : Addr} {v : Value} (hc : u.cell? a = some v) : w.cell? a = some v := by
  rw [Below.cell h (World.block_lt_of_cell? u a hc)]; exact hc
theorem Le.alloc (w : World) (o : Obj) : Le w (w.alloc o) := (Below.refl _ _).alloc (Nat.le_refl _) _
theorem Le.drew (w : World) : Le w w.drew := (Below.refl _ _).drew

theorem LeAll_iff (us : Us) (w : World) : LeAll us w ↔ ∀ p ∈ us, Le p.1 w := by
  induction us with
  | nil => simp [LeAll]
  | cons p r ih => simp [LeAll, ih]

theorem LeAll.mono {us : Us} {w w' : World} (h : LeAll us w) (hl : Le w w') : LeAll us w' := by
  rw [LeAll_iff] at *
  exact fun p hp => (h p hp).trans hl

theorem Cells.mono {u w : World} (h : Le u w) {a : Option Addr} {o : Nat} {cs : List Value} (hc : Cells u a o cs) : Cells w a o cs := by
  obtain ⟨ad, rfl, hh⟩ := hc
  exact ⟨ad, rfl, fun j c hj => h.cell (hh j c hj)⟩

theorem Addr.add_add (a : Addr) (m n : Nat) : (a.add m).add n = a.add (m + n) := by
  unfold Addr.add
  by_cases hm : m = 0 <;> by_cases hn : n = 0 <;> simp [hm, hn, Nat.add_assoc]

theorem Addr.add0 (b o : Nat) (n : Nat) : (⟨b, o, none⟩ : Addr).add n = ⟨b, o + n, none⟩ := by
  unfold Addr.add; split <;> simp_all

end Go.Vc
