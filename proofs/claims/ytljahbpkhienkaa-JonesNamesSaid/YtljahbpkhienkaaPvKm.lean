/- Arguments of a law, opened; data written as cells. -/
import Derived.Test.YtljahbpkhienkaaPvIm
import Derived.ProofKit
import Derived.Deep.Slices
import Derived.OpenShut
import Derived.ChangeOld
import Derived.Below
import Derived.Carry
namespace Go.Pv
open Go.Vc
open Go.ChangeShapes Go.WideShapes Go.ChangeAt Go.RowKit

abbrev i64 (n : Int) : PV := .v (.int .i64 n)
abbrev u8 (n : Int) : PV := .v (.int .u8 n)
abbrev bl (b : Bool) : PV := .v (.bool b)

def I64 (n : Int) : Prop := -9223372036854775808 ≤ n ∧ n ≤ 9223372036854775807

/-- Data that are written as cells. -/
class Enc (α : Type) where
  sz : Nat
  cs : α → List PV
  ok : α → Prop
  len : ∀ x, (cs x).length = sz
  pos : 0 < sz

section
variable {α : Type} [Enc α]

def flat (xs : List α) : List PV := (xs.map Enc.cs).flatten

@[simp] theorem flat_nil : flat ([] : List α) = [] := rfl
theorem flat_cons (x : α) (xs : List α) : flat (x :: xs) = Enc.cs x ++ flat xs := by simp [flat]
theorem flat_append (xs ys : List α) : flat (xs ++ ys) = flat xs ++ flat ys := by simp [flat]
theorem flat_snoc (xs : List α) (y : α) : flat (xs ++ [y]) = flat xs ++ Enc.cs y := by simp [flat]

theorem flat_length : ∀ xs : List α, (flat xs).length = xs.length * Enc.sz α
  | [] => by simp
  | x :: r => by rw [flat_cons, List.length_append, flat_length r, Enc.len, List.length_cons, Nat.add_mul]; omega

theorem flat_drop : ∀ (xs : List α) (i : Nat), (flat xs).drop (i * Enc.sz α) = flat (xs.drop i)
  | [], i => by simp
  | x :: r, 0 => by simp
  | x :: r, i + 1 => by
    rw [flat_cons, List.drop_succ_cons, ← flat_drop r i, Nat.add_mul, Nat.add_comm (i * Enc.sz α), List.drop_append, Enc.len]
    simp [Enc.len]

theorem flat_take : ∀ (xs : List α) (i : Nat), (flat xs).take (i * Enc.sz α) = flat (xs.take i)
  | [], i => by simp
  | x :: r, 0 => by simp
  | x :: r, i + 1 => by
    rw [flat_cons, List.take_succ_cons, flat_cons, ← flat_take r i, Nat.add_mul, Nat.add_comm (i * Enc.sz α), List.take_append, Enc.len, List.take_of_length_le (by rw [Enc.len]; omega)]
    simp

/-- The cells of element i. -/
theorem idx {xs : List α} {i : Nat} (h : i < xs.length) : ((flat xs).drop (i * Enc.sz α)).take (Enc.sz α) = Enc.cs xs[i] := by
  rw [flat_drop, List.drop_eq_getElem_cons h, flat_cons]
  rw [show Enc.sz α = (Enc.cs xs[i]).length from (Enc.len _).symm]
  exact List.take_left

theorem flat_part (xs : List α) (a b : Nat) : ((flat xs).drop (a * Enc.sz α)).take ((b - a) * Enc.sz α) = flat ((xs.drop a).take (b - a)) := by
  rw [flat_drop, flat_take]

/-- A store into element i. -/
theorem flat_put {xs : List α} {i : Nat} (h : i < xs.length) (y : α) : spl (flat xs) (i * Enc.sz α) (Enc.cs y) = flat (xs.set i y) := by
  unfold spl
  rw [Enc.len, flat_take, show i * Enc.sz α + Enc.sz α = (i + 1) * Enc.sz α by rw [Nat.add_mul]; omega, flat_drop]
  rw [List.set_eq_take_append_cons_drop, if_pos h, flat_append, flat_cons, List.append_assoc]

/-- A store into a part of element i. -/
theorem flat_put_part {xs : List α} {i o : Nat} (h : i < xs.length) (l : List PV) (y : α) (hy : spl (Enc.cs xs[i]) o l = Enc.cs y) (ho : o + l.length ≤ Enc.sz α) : spl (flat xs) (i * Enc.sz α + o) l = flat (xs.set i y) := by
  rw [← flat_put h, ← hy]
  have e1 : flat xs = flat (xs.take i) ++ (Enc.cs xs[i] ++ flat (xs.drop (i + 1))) := by
    rw [← flat_cons, ← List.drop_eq_getElem_cons h, ← flat_append, List.take_append_drop]
  have hl : (flat (xs.take i)).length = i * Enc.sz α := by rw [flat_length, List.length_take, Nat.min_eq_left (by omega)]
  have hcl := Enc.len xs[i]
  generalize flat (xs.take i) = A at *
  generalize flat (xs.drop (i + 1)) = C at *
  generalize Enc.cs xs[i] = M at *
  rw [e1]
  unfold spl
  have hml : (M.take o ++ l ++ M.drop (o + l.length)).length = Enc.sz α := by simp; omega
  rw [hml, ← hl]
  have hA : ∀ k, (A ++ (M ++ C)).take (A.length + k) = A ++ (M ++ C).take k := fun k => by rw [List.take_append, List.take_of_length_le (by omega)]; congr 2; omega
  have hD : ∀ k, (A ++ (M ++ C)).drop (A.length + k) = (M ++ C).drop k := fun k => by rw [List.drop_append, List.drop_of_length_le (by omega), List.nil_append]; congr 1; omega
  have h0 := hA 0
  rw [Nat.add_zero, List.take_zero, List.append_nil] at h0
  rw [h0, hA, Nat.add_assoc, hD, hD]
  rw [List.take_append, List.drop_append, List.drop_append, hcl, show o - Enc.sz α = 0 by omega, show o + l.length - Enc.sz α = 0 by omega, Nat.sub_self]
  rw [List.drop_of_length_le (l := M) (i := Enc.sz α) (by omega)]
  simp

theorem reps_flat (z : α) : ∀ n : Nat, reps n (Enc.cs z) = flat (List.replicate n z)
  | 0 => rfl
  | n + 1 => by rw [List.replicate_succ, flat_cons, ← reps_flat z n]; simp [reps, List.replicate_succ]

end

/-- A slice. -/
abbrev sl {α : Type} [Enc α] (xs : List α) : PV := .sl false xs.length (flat xs)

instance : Enc Int where
  sz := 1
  cs x := [i64 x]
  ok x := I64 x
  len _ := rfl
  pos := Nat.one_pos

instance {α : Type} [Enc α] : Enc (List α) where
  sz := 1
  cs xs := [sl xs]
  ok xs := xs.length ≤ maxLen ∧ ∀ x ∈ xs, Enc.ok x
  len _ := rfl
  pos := Nat.one_pos

theorem wrap_id {n : Int} (h0 : -9223372036854775808 ≤ n) (h1 : n ≤ 9223372036854775807) : IntKind.i64.wrap n = n := by
  rw [IntKind.wrap_i64]
  omega

/-! ### Opening -/

def layB (P : Program) : List Field → Nat → Nat → Bool
  | [], o, n => o == n
  | f :: r, o, n => f.offset == o && layB P r (o + P.cellsOf f.type) n

/-- Whatever is read at this type is told by Q. -/
def Opens (P : Program) (t : TypeId) (Q : List PV → Prop) : Prop :=
  ∀ {H : Type} (enc : TypeId × Value → H) (w : World) (base : Nat) (spare : Nat → Bool) (held : Bool) (fuel : Nat) (cs : List Value) (x : DataW H × List MemPlace), DataW.trod enc P w base spare held fuel t cs = some x →
    ∃ l, RepL (Rep w (fun b => b < w.heap.size)) l cs ∧ Ones cs ∧ Q l ∧ cs.length = P.cellsOf t

def IsInt (l : List PV) : Prop := ∃ n, l = [i64 n] ∧ I64 n
def IsU8 (l : List PV) : Prop := ∃ n, l = [u8 n] ∧ 0 ≤ n ∧ n ≤ 255

theorem opens_int {P : Program} {t : TypeId} (h : P.underlying t = some (.int .i64)) (hc : P.cellsOf t = 1) : Opens P t IsInt := by
  intro H enc w base spare held fuel cs x hx
  obtain ⟨n, rfl, _, hw⟩ := DataW.trod_int h hx
  refine ⟨[i64 n], repL_cons (.v _) repL_nil, fun y hy => by simp at hy; subst hy; rfl, ⟨n, rfl, ?_⟩, by simp [hc]⟩
  simp only [Lit.wf, Bool.and_eq_true, decide_eq_true_eq] at hw
  exact hw

theorem opens_u8 {P : Program} {t : TypeId} (h : P.underlying t = some (.int .u8)) (hc : P.cellsOf t = 1) : Opens P t IsU8 := by
  intro H enc w base spare held fuel cs x hx
  obtain ⟨n, rfl, _, hw⟩ := DataW.trod_int h hx
  refine ⟨[u8 n], repL_cons (.v _) repL_nil, fun y hy => by simp at hy; subst hy; rfl, ⟨n, rfl, ?_⟩, by simp [hc]⟩
  simp only [Lit.wf, Bool.and_eq_true, decide_eq_true_eq] at hw
  exact hw

/-- Parts one behind the other. -/
def Parts : List (List PV → Prop) → List PV → Prop
  | [], l => l = []
  | Q :: r, l => ∃ l1 l2, l = l1 ++ l2 ∧ Q l1 ∧ Parts r l2

theorem parts_of {w : World} {S : Nat → Prop} {P : Program} : ∀ (fs : List Field) (Qs : List (List PV → Prop)) (o n : Nat) (cs : List Value), layB P fs o n = true → n = cs.length → fs.length = Qs.length →
    (∀ (i : Nat) (f : Field) (Q : List PV → Prop), fs[i]? = some f → Qs[i]? = some Q → ∃ l, RepL (Rep w S) l ((cs.drop f.offset).take (P.cellsOf f.type)) ∧ Ones ((cs.drop f.offset).take (P.cellsOf f.type)) ∧ Q l ∧ ((cs.drop f.offset).take (P.cellsOf f.type)).length = P.cellsOf f.type) →
    ∃ l, RepL (Rep w S) l (cs.drop o) ∧ Ones (cs.drop o) ∧ Parts Qs l
  | [], [], o, n, cs, hl, hn, _, _ => by
    simp only [layB, beq_iff_eq] at hl
    rw [List.drop_eq_nil_of_le (by omega)]
    exact ⟨[], repL_nil, fun y hy => by simp at hy, rfl⟩
  | [], _ :: _, _, _, _, _, _, h, _ => by simp at h
  | _ :: _, [], _, _, _, _, _, h, _ => by simp at h
  | f :: r, Q :: Qr, o, n, cs, hl, hn, hlen, h => by
    simp only [layB, Bool.and_eq_true, beq_iff_eq] at hl
    obtain ⟨l1, a1, a2, a3, a4⟩ := h 0 f Q rfl rfl
    obtain ⟨l2, b1, b2, b3⟩ := parts_of r Qr (o + P.cellsOf f.type) n cs hl.2 hn (by simpa using hlen) fun i g R hg hR => h (i + 1) g R (by simpa using hg) (by simpa using hR)
    rw [hl.1] at a1 a2 a4
    have e : cs.drop o = (cs.drop o).take (P.cellsOf f.type) ++ cs.drop (o + P.cellsOf f.type) := by
      rw [← List.drop_drop, List.take_append_drop]
    rw [e]
    refine ⟨l1 ++ l2, repL_app a1 b1, fun y hy => ?_, l1, l2, rfl, a3, b3⟩
    rcases List.mem_append.1 hy with hy | hy
    · exact a2 y hy
    · exact b2 y hy

theorem opens_struct {P : Program} {t : TypeId} {fs : Array Field} (Qs : List (List PV → Prop)) (hu : P.underlying t = some (.struct fs)) (hlay : layB P fs.toList 0 (P.cellsOf t) = true) (hlen : fs.toList.length = Qs.length)
    (h : ∀ (i : Nat) (f : Field) (Q : List PV → Prop), fs.toList[i]? = some f → Qs[i]? = some Q → Opens P f.type Q) : Opens P t (Parts Qs) := by
  intro H enc w base spare held fuel cs x hx
  obtain ⟨xs, n, rfl, rfl, hcl, hxs, hf⟩ := DataW.trod_struct hu hx
  obtain ⟨l, h1, h2, h3⟩ := parts_of (w := w) (S := fun b => b < w.heap.size) fs.toList Qs 0 (P.cellsOf t) cs hlay hcl.symm hlen (by
    intro i f Q hi hQ
    have hi' : fs[i]? = some f := by simpa using hi
    have hil : i < xs.length := by rw [hxs]; exact (Array.getElem?_eq_some_iff.1 hi').1
    have hr := hf i f hi'
    rw [List.getElem?_eq_getElem hil] at hr
    exact h i f Q hi hQ enc w base spare held n _ _ hr)
  rw [List.drop_zero] at h1 h2
  exact ⟨l, h1, h2, h3, hcl⟩

theorem parts_arr {w : World} {S : Nat → Prop} {c : Nat} {Q : List PV → Prop} : ∀ (n : Nat) (o : Nat) (cs : List Value), cs.length = (o + n) * c →
    (∀ i, i < o + n → ∃ l, RepL (Rep w S) l ((cs.drop (i * c)).take c) ∧ Ones ((cs.drop (i * c)).take c) ∧ Q l ∧ ((cs.drop (i * c)).take c).length = c) →
    ∃ l, RepL (Rep w S) l (cs.drop (o * c)) ∧ Ones (cs.drop (o * c)) ∧ Parts (List.replicate n Q) l
  | 0, o, cs, hl, _ => by
    rw [List.drop_eq_nil_of_le (by rw [hl]; simp)]
    exact ⟨[], repL_nil, fun y hy => by simp at hy, rfl⟩
  | n + 1, o, cs, hl, h => by
    obtain ⟨l1, a1, a2, a3, a4⟩ := h o (by omega)
    obtain ⟨l2, b1, b2, b3⟩ := parts_arr n (o + 1) cs (by rw [hl]; congr 1; omega) fun i hi => h i (by omega)
    have e : cs.drop (o * c) = (cs.drop (o * c)).take c ++ cs.drop ((o + 1) * c) := by
      rw [show (o + 1) * c = o * c + c by rw [Nat.add_mul]; omega, ← List.drop_drop, List.take_append_drop]
    rw [e]
    refine ⟨l1 ++ l2, repL_app a1 b1, fun y hy => ?_, l1, l2, rfl, a3, b3⟩
    rcases List.mem_append.1 hy with hy | hy
    · exact a2 y hy
    · exact b2 y hy

theorem opens_array {P : Program} {t e : TypeId} {n : Nat} {Q : List PV → Prop} (hu : P.underlying t = some (.array n e)) (hc : P.cellsOf t = n * P.cellsOf e) (h : Opens P e Q) : Opens P t (Parts (List.replicate n Q)) := by
  intro H enc w base spare held fuel cs x hx
  obtain ⟨xs, m, rfl, rfl, hcl, hxs, hf⟩ := DataW.trod_array hu hx
  obtain ⟨l, h1, h2, h3⟩ := parts_arr (w := w) (S := fun b => b < w.heap.size) (c := P.cellsOf e) (Q := Q) n 0 cs (by rw [hcl, hc]; simp) (by
    intro i hi
    have hr := hf i (by omega)
    rw [List.getElem?_eq_getElem (by omega)] at hr
    exact h enc w base spare held m _ _ hr)
  rw [Nat.zero_mul, List.drop_zero] at h1 h2
  exact ⟨l, h1, h2, h3, hcl⟩

/-- A slice of elements that are told by Q. -/
def IsSl (Q : List PV → Prop) (l : List PV) : Prop := ∃ ls : List (List PV), l = [.sl false ls.length ls.flatten] ∧ ls.length ≤ maxLen ∧ ∀ x ∈ ls, Q x

theorem opens_slice {P : Program} {t e : TypeId} {Q : List PV → Prop} (hu : P.underlying t = some (.slice e)) (hc : P.cellsOf t = 1) (he : 0 < P.cellsOf e) (h : Opens P e Q) : Opens P t (IsSl Q) := by
  intro H enc w base spare held fuel cs x hx
  rcases Go.Deep.open_slice hu hx with ⟨rfl, _⟩ | ⟨ad, len, cap, m, n, D, Pl, rfl, hb, hl, hm, hmm, _, hel⟩
  · exact ⟨[.sl false 0 []], repL_cons (Rep.nil0 _) repL_nil, fun y hy => by simp at hy; subst hy; rfl, ⟨[], by simp, by simp, by simp⟩, by simp [hc]⟩
  · have hlm : len ≤ m := by rw [hmm]; split <;> omega
    -- the elements, one behind the other
    have all : ∀ k, k ≤ len → ∃ (ls : List (List PV)) (xs : List Value), ls.length = k ∧ xs.length = k * P.cellsOf e ∧ RepL (Rep w (fun b => b < w.heap.size)) ls.flatten xs ∧ Ones xs ∧ (∀ (j : Nat) (v : Value), xs[j]? = some v → w.cell? (ad.add j) = some v) ∧ ∀ x ∈ ls, Q x := by
      intro k
      induction k with
      | zero => exact fun _ => ⟨[], [], rfl, by simp, repL_nil, fun y hy => by simp at hy, fun j v hj => by simp at hj, fun x hx => by cases hx⟩
      | succ k ih =>
        intro hk
        obtain ⟨ls, xs, i1, i2, i3, i4, i5, i6⟩ := ih (by omega)
        obtain ⟨cs', h1, h2⟩ := hel k (by omega)
        obtain ⟨_, hlen, hcell⟩ := World.cells?_some h1
        obtain ⟨l, j1, j2, j3, j4⟩ := h enc w base spare held n cs' _ h2
        refine ⟨ls ++ [l], xs ++ cs', by simp [i1], by rw [List.length_append, i2, j4, Nat.add_mul]; omega, by simpa using repL_app i3 j1, fun y hy => ?_, fun j v hj => ?_, fun y hy => ?_⟩
        · rcases List.mem_append.1 hy with hy | hy
          · exact i4 y hy
          · exact j2 y hy
        · by_cases hjl : j < xs.length
          · rw [List.getElem?_append_left hjl] at hj; exact i5 j v hj
          · rw [List.getElem?_append_right (by omega)] at hj
            have hlt : j - xs.length < cs'.length := (List.getElem?_eq_some_iff.1 hj).1
            have := hcell (j - xs.length) (by omega)
            rw [Go.Deep.add_add, i2] at this
            rw [show k * P.cellsOf e + (j - k * P.cellsOf e) = j by omega] at this
            rw [this, ← i2, hj]
        · rcases List.mem_append.1 hy with hy | hy
          · exact i6 y hy
          · simp at hy; subst hy; exact j3
    obtain ⟨ls, xs, i1, i2, i3, i4, i5, i6⟩ := all len (Nat.le_refl _)
    refine ⟨[.sl false ls.length ls.flatten], repL_cons ?_ repL_nil, fun y hy => by simp at hy; subst hy; rfl, ⟨ls, rfl, by omega, i6⟩, by simp [hc]⟩
    by_cases h0 : len = 0
    · subst h0
      have : ls = [] := List.eq_nil_of_length_eq_zero i1
      subst this
      exact .nil _ _ _ (by simp) (by simp)
    · rw [i1]
      refine .sl ?_ hl (by simp) i3.1 i4 i5 i3.2
      have h1 : 0 < xs.length := by rw [i2]; exact Nat.mul_pos (by omega) he
      have h2 := i5 0 xs[0] (List.getElem?_eq_getElem h1)
      rw [show ad.add 0 = ad from rfl] at h2
      unfold World.cell? at h2
      cases hh : w.heap[ad.block]? with
      | none => simp [hh] at h2
      | some o => exact (Array.getElem?_eq_some_iff.1 hh).1

/-! ### By checks that run -/

def intB (P : Program) (t : TypeId) : Bool := (match P.underlying t with | some (.int .i64) => true | _ => false) && P.cellsOf t == 1
def u8B (P : Program) (t : TypeId) : Bool := (match P.underlying t with | some (.int .u8) => true | _ => false) && P.cellsOf t == 1
def structB (P : Program) (t : TypeId) (ts : List TypeId) : Bool := match P.underlying t with
  | some (.struct fs) => fs.toList.map (·.type) == ts && layB P fs.toList 0 (P.cellsOf t)
  | _ => false
def arrB (P : Program) (t : TypeId) (n : Nat) (e : TypeId) : Bool := (match P.underlying t with | some (.array n' e') => n' == n && e' == e | _ => false) && P.cellsOf t == n * P.cellsOf e
def sliceB (P : Program) (t e : TypeId) : Bool := (match P.underlying t with | some (.slice e') => e' == e | _ => false) && P.cellsOf t == 1 && Nat.blt 0 (P.cellsOf e)

theorem intB_und {P : Program} {t : TypeId} (h : intB P t = true) : P.underlying t = some (.int .i64) ∧ P.cellsOf t = 1 := by
  simp only [intB, Bool.and_eq_true, beq_iff_eq] at h
  refine ⟨?_, h.2⟩
  have h1 := h.1
  split at h1
  · assumption
  · cases h1

theorem u8B_und {P : Program} {t : TypeId} (h : u8B P t = true) : P.underlying t = some (.int .u8) ∧ P.cellsOf t = 1 := by
  simp only [u8B, Bool.and_eq_true, beq_iff_eq] at h
  refine ⟨?_, h.2⟩
  have h1 := h.1
  split at h1
  · assumption
  · cases h1

theorem sliceB_und {P : Program} {t e : TypeId} (h : sliceB P t e = true) : P.underlying t = some (.slice e) ∧ P.cellsOf t = 1 ∧ 0 < P.cellsOf e := by
  simp only [sliceB, Bool.and_eq_true, beq_iff_eq, Nat.blt_eq] at h
  refine ⟨?_, h.1.2, h.2⟩
  have h1 := h.1.1
  split at h1
  · rename_i e' he
    rw [he, beq_iff_eq.1 h1]
  · cases h1

theorem arrB_und {P : Program} {t e : TypeId} {n : Nat} (h : arrB P t n e = true) : P.underlying t = some (.array n e) ∧ P.cellsOf t = n * P.cellsOf e := by
  simp only [arrB, Bool.and_eq_true, beq_iff_eq] at h
  refine ⟨?_, h.2⟩
  have h1 := h.1
  split at h1
  · rename_i n' e' he
    simp only [Bool.and_eq_true, beq_iff_eq] at h1
    rw [he, h1.1, h1.2]
  · cases h1

theorem opens_structB {P : Program} {t : TypeId} {ts : List TypeId} (Qs : List (List PV → Prop)) (h : structB P t ts = true) (hl : ts.length = Qs.length) (hq : ∀ (i : Nat) (u : TypeId) (Q : List PV → Prop), ts[i]? = some u → Qs[i]? = some Q → Opens P u Q) : Opens P t (Parts Qs) := by
  unfold structB at h
  split at h
  · rename_i fs hu
    simp only [Bool.and_eq_true, beq_iff_eq] at h
    refine opens_struct Qs hu h.2 (by rw [← hl, ← h.1]; simp) fun i f Q hf hQ => hq i f.type Q ?_ hQ
    rw [← h.1, List.getElem?_map, hf]; rfl
  · cases h

/-! ### Typed -/

/-- A type is that of α. -/
def Is (P : Program) (t : TypeId) (α : Type) [Enc α] : Prop := Opens P t (fun l => ∃ x : α, l = Enc.cs x ∧ Enc.ok x)

theorem is_of {P : Program} {t : TypeId} {α : Type} [Enc α] {Q : List PV → Prop} (h : Opens P t Q) (hq : ∀ l, Q l → ∃ x : α, l = Enc.cs x ∧ Enc.ok x) : Is P t α := by
  intro H enc w base spare held fuel cs x hx
  obtain ⟨l, h1, h2, h3, h4⟩ := h enc w base spare held fuel cs x hx
  exact ⟨l, h1, h2, hq l h3, h4⟩

theorem is_int {P : Program} {t : TypeId} (h : intB P t = true) : Is P t Int :=
  is_of (opens_int (intB_und h).1 (intB_und h).2) fun l ⟨n, h1, h2⟩ => ⟨n, h1, h2⟩

theorem flat_of {α : Type} [Enc α] : ∀ (ls : List (List PV)), (∀ l ∈ ls, ∃ x : α, l = Enc.cs x ∧ Enc.ok x) → ∃ xs : List α, ls.flatten = flat xs ∧ xs.length = ls.length ∧ ∀ x ∈ xs, Enc.ok x
  | [], _ => ⟨[], rfl, rfl, fun x hx => by cases hx⟩
  | l :: r, h => by
    obtain ⟨x, rfl, hx⟩ := h l (by simp)
    obtain ⟨xs, h1, h2, h3⟩ := flat_of r fun l hl => h l (by simp [hl])
    refine ⟨x :: xs, by rw [List.flatten_cons, h1, flat_cons], by simp [h2], fun y hy => ?_⟩
    rcases List.mem_cons.1 hy with rfl | hy
    · exact hx
    · exact h3 y hy

theorem is_slice {P : Program} {t e : TypeId} {α : Type} [Enc α] (hb : sliceB P t e = true) (h : Is P e α) : Is P t (List α) :=
  is_of (opens_slice (sliceB_und hb).1 (sliceB_und hb).2.1 (sliceB_und hb).2.2 h) fun l ⟨ls, h1, h2, h3⟩ => by
    obtain ⟨xs, e1, e2, e3⟩ := flat_of ls h3
    exact ⟨xs, by rw [h1, e1, ← e2]; rfl, ⟨by omega, e3⟩⟩

/-- An argument that fills one cell. -/
theorem arg_cell {P : Program} {t : TypeId} {α : Type} [Enc α] (h : Is P t α) {H : Type} {enc : TypeId × Value → H} {w : World} {v : Value} {d : DataW H} {p : List MemPlace} (hp : Plain v) (ht : DataW.Trod enc P w 0 (fun _ => true) true t v d p) {f : α → PV} (hf : ∀ x, Enc.cs x = [f x]) :
    ∃ x : α, Rep w (fun b => b < w.heap.size) (f x) v ∧ Enc.ok x := by
  obtain ⟨fuel, hx⟩ := ht
  obtain ⟨l, h1, h2, ⟨x, rfl, hok⟩, _⟩ := h enc w 0 _ true fuel _ _ hx
  rw [hp.2, hf] at h1
  exact ⟨x, h1.2 0 _ _ rfl rfl, hok⟩

/-- An argument that is a struct or an array. -/
theorem arg_agg {P : Program} {t : TypeId} {α : Type} [Enc α] (h : Is P t α) {H : Type} {enc : TypeId × Value → H} {w : World} {cs : Array Value} {d : DataW H} {p : List MemPlace} (ht : DataW.Trod enc P w 0 (fun _ => true) true t (.agg cs) d p) :
    ∃ x : α, Rep w (fun b => b < w.heap.size) (.agg (Enc.cs x)) (.agg cs) ∧ Enc.ok x := by
  obtain ⟨fuel, hx⟩ := ht
  obtain ⟨l, h1, h2, ⟨x, rfl, hok⟩, _⟩ := h enc w 0 _ true fuel _ _ hx
  have : Rep w (fun b => b < w.heap.size) (.agg (Enc.cs x)) (.agg cs.toList.toArray) := .agg h1.1 h2 h1.2
  exact ⟨x, this, hok⟩

theorem arg_slice {P : Program} {t e : TypeId} {α : Type} [Enc α] (hb : sliceB P t e = true) (h : Is P t (List α)) {H : Type} {enc : TypeId × Value → H} {w : World} {r : Reach} {b : Nat} {v : Value} {d : DataW H} {p : List MemPlace} (hv : Value.okWide P w r b t v) (ht : DataW.Trod enc P w 0 (fun _ => true) true t v d p) :
    ∃ xs : List α, Rep w (fun b => b < w.heap.size) (sl xs) v ∧ Enc.ok xs := by
  obtain ⟨a, len, cap, rfl⟩ := okWide_slice (sliceB_und hb).1 hv
  exact arg_cell h ⟨rfl, rfl⟩ ht (f := fun xs => sl xs) fun _ => rfl

theorem arg_int {P : Program} {t : TypeId} (hb : intB P t = true) {H : Type} {enc : TypeId × Value → H} {w : World} {r : Reach} {b : Nat} {v : Value} {d : DataW H} {p : List MemPlace} (hv : Value.okWide P w r b t v) (ht : DataW.Trod enc P w 0 (fun _ => true) true t v d p) :
    ∃ x : Int, Rep w (fun b => b < w.heap.size) (i64 x) v ∧ I64 x := by
  obtain ⟨n, rfl⟩ := okWide_int (intB_und hb).1 hv
  exact arg_cell (is_int hb) ⟨rfl, rfl⟩ ht (f := fun x => i64 x) fun _ => rfl

theorem arg_struct {P : Program} {t : TypeId} {ts : List TypeId} {α : Type} [Enc α] (hb : structB P t ts = true) (h : Is P t α) {H : Type} {enc : TypeId × Value → H} {w : World} {r : Reach} {b : Nat} {v : Value} {d : DataW H} {p : List MemPlace} (hv : Value.okWide P w r b t v) (ht : DataW.Trod enc P w 0 (fun _ => true) true t v d p) :
    ∃ x : α, Rep w (fun b => b < w.heap.size) (.agg (Enc.cs x)) v ∧ Enc.ok x := by
  unfold structB at hb
  split at hb
  · rename_i fs hu
    obtain ⟨cs, rfl, _⟩ := okWide_struct hu hv
    exact arg_agg h ht
  · cases hb

theorem arg_arr {P : Program} {t e : TypeId} {n : Nat} {α : Type} [Enc α] (hb : arrB P t n e = true) (h : Is P t α) {H : Type} {enc : TypeId × Value → H} {w : World} {r : Reach} {b : Nat} {v : Value} {d : DataW H} {p : List MemPlace} (hv : Value.okWide P w r b t v) (ht : DataW.Trod enc P w 0 (fun _ => true) true t v d p) :
    ∃ x : α, Rep w (fun b => b < w.heap.size) (.agg (Enc.cs x)) v ∧ Enc.ok x := by
  have hu := (arrB_und hb).1
  unfold Value.okWide at hv
  rw [hu] at hv
  obtain ⟨cs, rfl, _⟩ := hv
  exact arg_agg h ht

/-- The arguments read as they did. -/
theorem below_all {H : Type} {enc : TypeId × Value → H} {P : Program} (hl : laidOutB P = true) {W W' : World} (hb : Below W.heap.size W W') : ∀ {ts : List TypeId} {vs : List Value} {ds : List (DataW H)} {ps : List MemPlace}, (ts.all fun t => P.readableRec t && decide (t < P.types.size)) = true → DataW.TrodAll enc P W 0 (fun _ => true) true ts vs ds ps → DataW.TrodAll enc P W' 0 (fun b => decide (b < W.heap.size)) true ts vs ds ps
  | [], vs, ds, ps, _, h => by
    obtain ⟨rfl, rfl, rfl⟩ := trodAll_nil h
    exact trodAll_mk0
  | t :: ts, vs, ds, ps, hr, h => by
    obtain ⟨v, vs', d, ds', p, q, rfl, rfl, rfl, h0, h1⟩ := trodAll_cons h
    simp only [List.all_cons, Bool.and_eq_true, decide_eq_true_eq] at hr
    have lt : ∀ x ∈ p, x.block < W.heap.size := by obtain ⟨m, hm⟩ := h0; exact DataW.trod_lt m _ _ _ hm
    exact trodAll_cons_mk (Below.trod hl hr.1.1 hr.1.2 h0 hb lt) (below_all hl hb hr.2 h1)

/-- What the frame of a law wants. -/
theorem walk_of {P : Program} {f : FuncId} {args : List PV} (h : Ret P f args [] (.p (bl true))) {w : World} {xs : List Value} (hr : RepL (Rep w (fun b => b < w.heap.size)) args xs) :
    Calls P f xs.toArray w fun e w' => e = .returned (.bool true) ∧ Below w.heap.size w w' := by
  refine (h w _ xs (fun _ h => h) hr).mono ?_
  rintro e w' ⟨v, ρ, S', rfl, hW, hd⟩
  exact ⟨by rw [den_pv hd], hW.toLe⟩

end Go.Pv

/- Contracts in other forms; loops over elements; small facts. -/
namespace Go.Pv
open Go.Vc
open Go.RowKit (Below)

/-- A row of the call's own that nobody changes any more. -/
theorem Ret.frz {P : Program} {f : FuncId} {args : List PV} {e : TypeId} {sz n : Nat} {cs : List PV} {x : PV} (h : Ret P f args [.row e sz n false cs] (.tup [.ob 0, .p x])) : Ret P f args [] (.tup [.p (.sl false n cs), .p x]) := by
  intro w S xs hlt hrep
  refine (h w S xs hlt hrep).mono ?_
  rintro ed w' ⟨v, ρ, S', rfl, hW, hd⟩
  obtain ⟨y, hy, hrep⟩ := frozen_spec (ob := .row e sz n false cs) (k := fun y => y = .sl false n cs) rfl (hW.objs 0 _ rfl)
  subst hy
  have hkill := (hW.kill 0).more (S' := fun b => S' b ∨ Owns w' (.row e sz n false cs) (ρ 0) b) (fun _ h => .inl h) (by
    intro b hb
    rcases hb with hb | hb
    · exact hW.lt b hb
    · exact (hW.objs 0 _ rfl).lt rfl hb) (by
    intro b hb
    rcases hb with hb | hb
    · exact .inl hb
    · refine .inr ⟨(hW.own 0 _ b rfl rfl hb).1, fun j oj hj lj bj => ?_⟩
      cases j with
      | zero => simp at hj; subst hj; cases lj
      | succ j => simp at hj)
  refine ⟨v, ρ, _, rfl, hkill.shrink (by simp) (fun i o h => by simp at h) (fun i o h => by simp at h) (fun i v hp => by cases hp), ?_⟩
  cases hd with
  | tup hl hh =>
    rename_i vs
    match vs, hl with
    | [a, b], _ =>
      have h0 := hh 0 _ a rfl rfl
      have h1 := hh 1 _ b rfl rfl
      have h2 : a = ρ 0 := by
        generalize hz : (SV.ob 0) = z at h0
        cases h0 <;> cases hz
        rfl
      subst h2
      have : DenL ρ (Lt 0) w' (fun b => S' b ∨ Owns w' (.row e sz n false cs) (ρ 0) b) [.p (.sl false n cs), .p x] [ρ 0, b] := by
        refine denL_cons (.p hrep) (denL_cons ?_ denL_nil)
        cases h1 with
        | p h1 => exact .p (h1.mono (fun _ _ => rfl) (fun _ h => .inl h))
      exact .tup this.1 this.2

theorem all_take_succ {α : Type} (p : α → Bool) {l : List α} {k : Nat} (hk : k < l.length) : (l.take (k + 1)).all p = ((l.take k).all p && p l[k]) := by
  rw [List.take_succ_eq_append_getElem hk, List.all_append]; simp

theorem succ_w {k : Nat} (h : k < 1099511627776) : IntKind.i64.wrap ((k : Int) + 1) = ((k + 1 : Nat) : Int) := by
  rw [wrap_id (by omega) (by omega)]; simp

theorem fill_set {α : Type} (xs : List α) (z y : α) (n k : Nat) (hk : xs.length = k) (h : k < n) : (xs ++ List.replicate (n - k) z).set k y = (xs ++ [y]) ++ List.replicate (n - (k + 1)) z := by
  subst hk
  rw [show n - xs.length = (n - (xs.length + 1)) + 1 by omega, List.replicate_succ, List.set_append_right _ _ (Nat.le_refl _)]
  simp

end Go.Pv
