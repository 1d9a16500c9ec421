/- What the operations do: reading and computing. -/
import Derived.Test.YtilmadidjihfkaaPvA
set_option linter.unusedSimpArgs false
namespace Go.Pv
open Go.Vc
open Go.RowKit (Below)

section
variable {P : Program} {T : Tab} {N : Nat} {sl : Slots} {obs : Obs} {n : Nat → Prop} {ρ : Nat → Value} {S : Nat → Prop} {S0 : Fr} {a : Act} {w w0 : World}

theorem intBin_spec {kd : IntKind} {op : BinOp} {x y : Int} {kk : SV → Prop} (h : intBin kd op x y kk) (t : TypeId) (w : World) :
    ∃ v, kk (.p (.v v)) ∧ (binOp op t (.int kd x) (.int kd y)).run P w = .ok v w := by
  unfold intBin at h
  cases op <;> simp only at h <;> first
    | exact ⟨_, h, by simp [binOp, Op.intArith, Op.intCmp]⟩
    | exact ⟨_, h.2, by simp [binOp, Op.intDiv, h.1]⟩
    | exact h.elim

theorem run_eqGuard_int (op : BinOp) (t : TypeId) (x y : Operand) (k k' : IntKind) (m n : Int) (w : World) : (eqGuard op t x y (.int k m) (.int k' n)).run P w = .ok () w := by
  cases op <;> simp [eqGuard]
theorem run_eqGuard_bool (op : BinOp) (t : TypeId) (x y : Operand) (m n : Bool) (w : World) : (eqGuard op t x y (.bool m) (.bool n)).run P w = .ok () w := by
  cases op <;> simp [eqGuard]

theorem allI_rep : ∀ {l : List PV} {xs : List Value}, allI l = true → RepL (Rep w S) l xs → allI64 xs = true ∧ ∀ {l' : List PV} {ys : List Value}, allI l' = true → RepL (Rep w S) l' ys → eqPL l l' = eqL xs ys
  | [], xs, _, hr => by
    have : xs = [] := List.eq_nil_of_length_eq_zero (by simpa using hr.1.symm)
    subst this
    refine ⟨rfl, fun {l' ys} h' hr' => ?_⟩
    cases l' with
    | nil =>
      have : ys = [] := List.eq_nil_of_length_eq_zero (by simpa using hr'.1.symm)
      subst this; rfl
    | cons x r =>
      obtain ⟨v, rs, rfl, _⟩ := repL_uncons hr'
      rfl
  | x :: r, xs, h, hr => by
    obtain ⟨v, rs, rfl, h1, h2⟩ := repL_uncons hr
    unfold allI at h
    split at h
    · rename_i hh; cases hh
    · rename_i n r' hh
      cases hh
      cases h1
      obtain ⟨i1, i2⟩ := allI_rep h h2
      refine ⟨by simpa [allI64] using i1, fun {l' ys} h' hr' => ?_⟩
      cases l' with
      | nil =>
        have : ys = [] := List.eq_nil_of_length_eq_zero (by simpa using hr'.1.symm)
        subst this; rfl
      | cons y s =>
        obtain ⟨v, ss, rfl, h3, h4⟩ := repL_uncons hr'
        unfold allI at h'
        split at h'
        · rename_i hh; cases hh
        · rename_i m r'' hh
          cases hh
          cases h3
          simp [eqPL, eqL, eqP, eqV, i2 h' h4]
        · cases h'
    · cases h

theorem vcBin_spec (hT : TabOk P T) {op : BinOp} {t : TypeId} {x y : PV} {kk : SV → Prop} (h : vcBin T op t x y kk) {vx vy : Value} (hx : Rep w S x vx) (hy : Rep w S y vy) (ox oy : Operand) :
    ∃ v, kk (.p (.v v)) ∧ (eqGuard op t ox oy vx vy).run P w = .ok () w ∧ (binOp op t vx vy).run P w = .ok v w := by
  unfold vcBin at h
  split at h
  · cases hx; cases hy
    obtain ⟨v, h1, h2⟩ := intBin_spec (P := P) h t w
    exact ⟨v, h1, run_eqGuard_int _ _ _ _ _ _ _ _ _, h2⟩
  · cases hx; cases hy
    obtain ⟨v, h1, h2⟩ := intBin_spec (P := P) h t w
    exact ⟨v, h1, run_eqGuard_int _ _ _ _ _ _ _ _ _, h2⟩
  · rename_i p q
    cases hx; cases hy
    rw [find_iff] at h
    obtain ⟨ty, ht, h⟩ := h
    have hty := hT t ty ht
    split at h
    · rename_i hk
      have hu := kd_bool hty hk
      have hq : (Op.equal t (.bool p) (.bool q)).run P w = .ok (p == q) w := run_equalIn_bool' w 9999 t p q hu
      unfold boolBin at h
      split at h
      · exact ⟨_, h, run_eqGuard_bool _ _ _ _ _ _ _, by simp only [binOp, Sem.run_bind, hq, Result.andThen_ok]; rfl⟩
      · exact ⟨_, h, run_eqGuard_bool _ _ _ _ _ _ _, by simp only [binOp, Sem.run_bind, hq, Result.andThen_ok]; rfl⟩
      · exact h.elim
    · exact h.elim
  · rename_i lx ly
    rw [find_iff] at h
    obtain ⟨ty, ht, h⟩ := h
    have hty := hT t ty ht
    simp only [cond_false_iff, Bool.and_eq_true, len_eq] at h
    obtain ⟨⟨⟨⟨⟨hf, h1⟩, h2⟩, h3⟩, h4⟩, h⟩ := h
    cases hx with
    | agg hlx h1x hhx =>
    rename_i xs
    cases hy with
    | agg hly h1y hhy =>
    rename_i ys
    have h3 : xs.length = ty.size := by rw [← hlx]; exact Nat.eq_of_beq_eq_true h3
    have h4 : ys.length = ty.size := by rw [← hly]; exact Nat.eq_of_beq_eq_true h4
    obtain ⟨a1, a2⟩ := allI_rep (w := w) (S := S) h1 ⟨hlx, hhx⟩
    obtain ⟨b1, _⟩ := allI_rep (w := w) (S := S) h2 ⟨hly, hhy⟩
    have heq := a2 h2 ⟨hly, hhy⟩
    obtain ⟨hfl, hgd, hag⟩ := kd_flat hty hf
    obtain ⟨d, hd, hda⟩ := hty.und
    have hfv : ∀ l, flatVal P t l = .agg l.toArray := by
      intro l
      rw [hag] at hda
      unfold flatVal
      rw [hd]
      cases d <;> simp at hda <;> rfl
    have he := flat_eq 8 t hfl 10000 (by omega) xs ys w a1 b1 (by rw [h3, hty.cellsOf]) (by rw [h4, hty.cellsOf])
    rw [hfv, hfv] at he
    unfold aggBin at h
    rw [heq] at h
    split at h
    · exact ⟨_, h, run_eqGuard_agg w _ _ _ _ _ _ hgd, by rw [run_eql_struct, he]; rfl⟩
    · exact ⟨_, h, run_eqGuard_agg w _ _ _ _ _ _ hgd, by rw [run_neq_struct, he]; rfl⟩
    · exact h.elim
  · exact h.elim

/-- Loading cells that are there. -/
theorem run_loadCells {t : TypeId} {ty : Ty} (hty : TyOk P t ty) {ad : Addr} {xs : List Value} (hn : xs.length = ty.size) (hc : ∀ (j : Nat) (c : Value), xs[j]? = some c → w.cell? (ad.add j) = some c) {v : Value}
    (hv : (isAggK ty.kd = true ∧ v = .agg xs.toArray) ∨ (isAggK ty.kd = false ∧ xs = [v])) : (Instr.loadAt t (.pointer (some ad))).run P w = .ok v w := by
  simp [Instr.loadAt, Instr.sureAddr, run_loadVar hty w ad xs hn hc v hv]

theorem sub_get {cur xs : List Value} {o m j : Nat} {c : Value} (ht : cur.take xs.length = xs) (h : ((xs.drop o).take m)[j]? = some c) : cur[o + j]? = some c := by
  rw [List.getElem?_take] at h
  split at h
  · rw [List.getElem?_drop, ← ht, List.getElem?_take] at h
    split at h
    · exact h
    · cases h
  · cases h

theorem Ones.sub {xs : List Value} (h : Ones xs) (o m : Nat) : Ones ((xs.drop o).take m) := fun x hx => h x (List.mem_of_mem_drop (List.mem_of_mem_take hx))

theorem hasN_get {cs : List NC} {h : Option (Nat × SV)} : ∀ {l : List SV} {o j : Nat} {y : SV}, hasN cs h o l → l[j]? = some y → NCat cs h (o + j) y
  | [], _, _, _, _, hj => by simp at hj
  | z :: r, o, j, y, hh, hj => by
    cases j with
    | zero => simp at hj; subst hj; exact hh.1
    | succ j =>
      have := hasN_get hh.2 (by simpa using hj)
      rwa [show o + (j + 1) = o + 1 + j by omega]

theorem ncat_den {cs : List NC} {h : Option (Nat × SV)} {xs : List Value} (h3 : ∀ j c v, cs[j]? = some c → xs[j]? = some v → Off h j → NcOk w S c v) (h4 : ∀ p y, h = some (p, y) → ∃ v, xs[p]? = some v ∧ Den ρ n w S y v) {q : Nat} {y : SV} {v : Value} (hy : NCat cs h q y) (hv : xs[q]? = some v) : Den ρ n w S y v := by
  unfold NCat at hy
  split at hy
  · rename_i p z
    rcases hy with ⟨rfl, rfl⟩ | ⟨hne, x, rfl, hc⟩
    · obtain ⟨v', hv', hd⟩ := h4 _ _ rfl
      rw [hv] at hv'
      cases hv'
      exact hd
    · have := h3 q _ v hc hv (by rintro p' y' he; cases he; exact hne)
      exact .p this
  · obtain ⟨x, rfl, hc⟩ := hy
    have := h3 q _ v hc hv (by rintro p' y' he; cases he)
    exact .p this

theorem loadOb_spec {ob : Ob} {x : Value} (hob : ObOk ρ n w S ob x) (hl : ob.live = true) {b : Nat} (hb : blk x = some b) {t : TypeId} {ty : Ty} (hty : TyOk P t ty) {o : Nat} {kk : SV → Prop} (h : loadOb ob o ty kk) :
    ∃ sv v, kk sv ∧ Den ρ n w S sv v ∧ (Instr.loadAt t (.pointer (some ⟨b, o, none⟩))).run P w = .ok v w := by
  obtain ⟨cur, e, xs, hg, hle, ht, h1, hd⟩ := hob.cells hl hb
  have hc : ∀ (j : Nat) (c : Value), ((xs.drop o).take ty.size)[j]? = some c → w.cell? ((⟨b, o, none⟩ : Addr).add j) = some c := by
    intro j c hj
    rw [Addr.add0, cell_of_row w b (o + j) cur e (0, 0) hg]
    have := sub_get ht hj
    simpa using this
  have R : ∀ cs, RepL (Rep w S) cs xs → loadR cs o ty kk → ∃ sv v, kk sv ∧ Den ρ n w S sv v ∧ (Instr.loadAt t (.pointer (some ⟨b, o, none⟩))).run P w = .ok v w := by
    intro cs hd h
    obtain ⟨l, hl', hn, h⟩ := h
    have hr := repL_take (repL_drop hd o) ty.size
    rw [hl'] at hr
    obtain ⟨sv, v, hk, hden, hv⟩ := ofCellsP_spec (ρ := ρ) (n := n) h hr (h1.sub o ty.size)
    exact ⟨sv, v, hk, hden, run_loadCells hty (by rw [← hr.1]; exact hn) hc hv⟩
  cases ob with
  | box t' cs =>
    simp only [loadOb, loadS, fL_iff, cond_false_iff, len_eq] at h
    have hr := denL_take (denL_drop hd o) ty.size
    obtain ⟨sv, v, hk, hden, hv⟩ := ofCellsS_spec h.2 hr (h1.sub o ty.size)
    exact ⟨sv, v, hk, hden, run_loadCells hty (by rw [← hr.1]; exact Nat.eq_of_beq_eq_true h.1) hc hv⟩
  | arr t' cs => exact R cs hd h
  | row e' sz m ex cs => exact R cs hd h
  | nest e' sz m cs hole =>
    obtain ⟨_, hlen, h3, h4⟩ := hd
    obtain ⟨l, hN, hn, hfit, h⟩ := h
    have hr : DenL ρ n w S l ((xs.drop o).take ty.size) := by
      refine ⟨by rw [hn, List.length_take, List.length_drop]; omega, fun j p x hp hx => ?_⟩
      rw [List.getElem?_take] at hx
      split at hx
      · rw [List.getElem?_drop] at hx
        exact ncat_den h3 h4 (hasN_get hN hp) hx
      · cases hx
    obtain ⟨sv, v, hk, hden, hv⟩ := ofCellsS_spec h hr (h1.sub o ty.size)
    exact ⟨sv, v, hk, hden, run_loadCells hty (by rw [← hr.1]; exact hn) hc hv⟩
  | dead => exact h.elim

theorem isVar_blk {ob : Ob} {x : Value} (hob : ObOk ρ n w S ob x) (hv : isVar ob = true) : ob.live = true ∧ ∃ b, x = .pointer (some ⟨b, 0, none⟩) ∧ blk x = some b := by
  cases ob with
  | box t cs => obtain ⟨b, xs, rfl, _⟩ := hob; exact ⟨rfl, b, rfl, rfl⟩
  | arr t cs => obtain ⟨b, xs, rfl, _⟩ := hob; exact ⟨rfl, b, rfl, rfl⟩
  | row e sz m ex cs => cases hv
  | nest e sz m cs h => cases hv
  | dead => cases hv

/-- Cells that nobody changes. -/
theorem fp_load {l : List PV} {ad : Addr} {xs : List Value} (hl : l.length = xs.length) (h1 : Ones xs) (hc : ∀ (j : Nat) (x : Value), xs[j]? = some x → w.cell? (ad.add j) = some x) (hh : ∀ (j : Nat) (p : PV) (x : Value), l[j]? = some p → xs[j]? = some x → Rep w S p x) {t : TypeId} {ty : Ty} (hty : TyOk P t ty) {m : List PV} (hm : l.take ty.size = m) (hn : m.length = ty.size) {kk : SV → Prop} (h : ofCellsP (isAggK ty.kd) m kk) :
    ∃ sv v, kk sv ∧ Den ρ n w S sv v ∧ (Instr.loadAt t (.pointer (some ad))).run P w = .ok v w := by
  have hr : RepL (Rep w S) (l.take ty.size) (xs.take ty.size) := repL_take ⟨hl, hh⟩ _
  rw [hm] at hr
  obtain ⟨sv, v, hk, hden, hv⟩ := ofCellsP_spec (ρ := ρ) (n := n) h hr (fun x hx => h1 x (List.mem_of_mem_take hx))
  refine ⟨sv, v, hk, hden, run_loadCells hty (by rw [← hr.1]; exact hn) (fun j c hj => ?_) hv⟩
  rw [List.getElem?_take] at hj
  split at hj
  · exact hc j c hj
  · cases hj

theorem vcLoad_spec (hT : TabOk P T) (hW : SatW w0 S0 obs ρ S w) (hn' : ∀ i, i < obs.length → n i) {t : TypeId} {x : SV} {kk : SV → Prop} (h : vcLoad T t x obs kk) {vx : Value} (hd : Den ρ n w S x vx) :
    ∃ sv v, kk sv ∧ Den ρ n w S sv v ∧ (Instr.loadAt t vx).run P w = .ok v w := by
  unfold vcLoad at h
  rw [find_iff] at h
  obtain ⟨ty, ht, h⟩ := h
  have hty := hT t ty ht
  cases hd with
  | ob hi =>
    simp only at h
    rw [at_iff] at h
    obtain ⟨ob, hi, h⟩ := h
    rw [cond_false_iff] at h
    have hob := (hW.objs _ ob hi).mono (n' := n) (fun _ _ _ => rfl) (fun _ _ => rfl) (fun _ h => h) hn' (fun _ _ => rfl)
    obtain ⟨hl, b, hx, hb⟩ := isVar_blk hob h.1
    have := loadOb_spec hob hl hb hty h.2
    rw [hx]
    exact this
  | pt hi hb =>
    rename_i i o b
    simp only at h
    rw [at_iff] at h
    obtain ⟨ob, hi, h⟩ := h
    have hl : ob.live = true := by cases ob <;> first | rfl | exact h.elim
    exact loadOb_spec ((hW.objs _ ob hi).mono (n' := n) (fun _ _ _ => rfl) (fun _ _ => rfl) (fun _ h => h) hn' (fun _ _ => rfl)) hl hb hty h
  | p hr =>
    cases hr with
    | fp hS hl h1 hc hh =>
      rename_i lit l xs ad
      cases lit with
      | true =>
        simp only [loadF, fL_iff, cond_false_iff, len_eq] at h
        exact fp_load hl h1 hc hh hty rfl (Nat.eq_of_beq_eq_true h.1) h.2
      | false =>
        obtain ⟨m, hm, hn, h⟩ := h
        exact fp_load hl h1 hc hh hty (by simpa using hm) hn h
    | _ => exact h.elim
  | _ => exact h.elim

theorem vcUn_spec {uop : UnOp} {x : SV} {vx : Value} {k : SV → Prop} (h : vcUn uop x k) (hd : Den ρ n w S x vx) : ∃ sv v, k sv ∧ Den ρ n w S sv v ∧ (Op.unary uop vx).run P w = .ok v w := by
  unfold vcUn at h
  split at h
  · cases hd with
    | p hr => cases hr; exact ⟨_, _, h, .p (.v _), by simp [Op.unary, Op.intArith]⟩
  · cases hd with
    | p hr => cases hr; exact ⟨_, _, h, .p (.v _), by simp [Op.unary]⟩
  · cases hd; exact ⟨_, _, h, .kb _, by simp [Op.unary]⟩
  · cases hd; exact ⟨_, _, h, .kb _, by simp [Op.unary]⟩
  · exact h.elim

theorem run_fieldAt {s : TypeId} {ty : Ty} (hty : TyOk P s ty) {fs : List (Nat × Nat × Nat)} {fl : Bool} (hk : ty.kd = .struct fs fl) {f o e n : Nat} (hf : fs[f]? = some (o, e, n)) (ad : Addr) (w : World) :
    (Instr.fieldAt s (.pointer (some ad)) f).run P w = .ok (.pointer (some (ad.add o))) w := by
  obtain ⟨fields, hu, hm, hz⟩ := kd_struct hty hk
  have hlen : f < fields.size := by
    have h1 := (List.getElem?_eq_some_iff.1 hf).1
    rw [← hm] at h1
    simpa using h1
  have hff : fields[f]? = some fields[f] := by simp [hlen]
  have hfo : (fields[f].offset, fields[f].type, P.cellsOf fields[f].type) = (o, e, n) := by
    rw [← hm] at hf
    simpa [hlen] using hf
  have hnz := hz (o, e, n) (List.mem_of_getElem? hf)
  simp only [Prod.mk.injEq] at hfo
  obtain ⟨ho, he, hn⟩ := hfo
  have hcn : P.cellsOf fields[f].type ≠ 0 := by rw [hn]; exact hnz
  have hsz : (sizeOf fields[f].type).run P w = .ok (P.cellsOf fields[f].type) w := by
    cases hi : P.info? fields[f].type with
    | none => simp [Program.cellsOf, hi] at hcn
    | some i => simp [sizeOf, typeInfo, hi, Program.cellsOf]
  simp only [Instr.fieldAt, Sem.run_bind, run_underlying hu, Result.andThen_ok, hff, Instr.sureAddr, Sem.run_pure, fieldPlace, hsz, hcn, if_false, ho]

theorem drop_head {α : Type} {l : List α} {f : Nat} {x : α} {r : List α} (h : l.drop f = x :: r) : l[f]? = some x := by
  have := congrArg (·[0]?) h
  simpa using this

theorem Rep.fp_drop {l : List PV} {lit : Bool} {ad : Addr} {xs : List Value} (hS : S ad.block) (hl : l.length = xs.length) (h1 : Ones xs) (hc : ∀ (j : Nat) (x : Value), xs[j]? = some x → w.cell? (ad.add j) = some x) (hh : ∀ (j : Nat) (p : PV) (x : Value), l[j]? = some p → xs[j]? = some x → Rep w S p x) (o : Nat) : Rep w S (.fp lit (l.drop o)) (.pointer (some (ad.add o))) := by
  have hr := repL_drop (w := w) (S := S) ⟨hl, hh⟩ o
  refine .fp (by rw [addr_add_block]; exact hS) hr.1 (fun x hx => h1 x (List.mem_of_mem_drop hx)) (fun j x hj => ?_) hr.2
  rw [List.getElem?_drop] at hj
  rw [Addr.add_add]
  exact hc _ x hj

theorem fDrop_iff (lit : Bool) (o : Nat) (l : List PV) (k : List PV → Prop) : fDrop lit o l k ↔ k (l.drop o) := by
  cases lit <;> simp [fDrop, fL_iff]

theorem vcFieldAddr_spec (hT : TabOk P T) (hW : SatW w0 S0 obs ρ S w) (hn' : ∀ i, i < obs.length → n i) {s f : Nat} {x : SV} {kk : SV → Prop} (h : vcFieldAddr T s x f obs kk) {vx : Value} (hd : Den ρ n w S x vx) :
    ∃ sv v, kk sv ∧ Den ρ n w S sv v ∧ (Instr.fieldAt s vx f).run P w = .ok v w := by
  unfold vcFieldAddr at h
  rw [find_iff] at h
  obtain ⟨ty, ht, h⟩ := h
  have hty := hT s ty ht
  split at h
  · rename_i fs fl hk
    split at h
    · rename_i o e m _ hdr
      have hf := drop_head hdr
      cases hd with
      | ob hi =>
        simp only at h
        rw [at_iff] at h
        obtain ⟨ob, hi', h⟩ := h
        rw [cond_false_iff] at h
        obtain ⟨hl, b, hx, hb⟩ := isVar_blk (hW.objs _ ob hi') h.1
        refine ⟨_, _, h.2, .pt hi hb, ?_⟩
        rw [hx, run_fieldAt hty hk hf _ w, Addr.add0, Nat.zero_add]
      | pt hi hb =>
        exact ⟨_, _, h, .pt hi hb, by rw [run_fieldAt hty hk hf _ w, Addr.add0]⟩
      | p hr =>
        cases hr with
        | fp hS hl h1 hc hh =>
          simp only [fDrop_iff] at h
          exact ⟨_, _, h, .p (Rep.fp_drop hS hl h1 hc hh o), run_fieldAt hty hk hf _ w⟩
        | _ => exact h.elim
      | _ => exact h.elim
    · exact h.elim
  · exact h.elim

theorem run_indexAt_arr {t e n esz : Nat} (hu : P.underlying t = some (.array n e)) (hs : ∀ w : World, (sizeOf e).run P w = .ok esz w) (ad : Addr) (kd : IntKind) (m : Nat) (hm : m < n) (w : World) :
    (Instr.indexAt t (.pointer (some ad)) (.int kd (m : Int))).run P w = .ok (.pointer (some (ad.add (m * esz)))) w := by
  have h1 : (0 : Int) ≤ (m : Int) ∧ (m : Int) < (n : Int) := ⟨by omega, by omega⟩
  simp only [Instr.indexAt, asIntOf, Sem.run_bind, Sem.run_pure, Result.andThen_ok, run_underlying hu, Instr.sureAddr, h1, and_self, if_true, hs, Int.toNat_natCast]

theorem run_indexAt_slice {t e esz : Nat} (hu : P.underlying t = some (.slice e)) (hs : ∀ w : World, (sizeOf e).run P w = .ok esz w) (ad : Addr) (l c : Nat) (kd : IntKind) (m : Nat) (hm : m < l) (w : World) :
    (Instr.indexAt t (.slice (some ad) l c) (.int kd (m : Int))).run P w = .ok (.pointer (some (ad.add (m * esz)))) w := by
  have h1 : (0 : Int) ≤ (m : Int) ∧ (m : Int) < (l : Int) := ⟨by omega, by omega⟩
  simp only [Instr.indexAt, asIntOf, Sem.run_bind, Sem.run_pure, Result.andThen_ok, run_underlying hu, h1, and_self, if_true, hs, Int.toNat_natCast]

/-- A pointer to some of the cells. -/
theorem Rep.fp_sub {l : List PV} {lit : Bool} {ad : Addr} {xs : List Value} (hS : S ad.block) (hl : l.length = xs.length) (h1 : Ones xs) (hc : ∀ (j : Nat) (x : Value), xs[j]? = some x → w.cell? (ad.add j) = some x) (hh : ∀ (j : Nat) (p : PV) (x : Value), l[j]? = some p → xs[j]? = some x → Rep w S p x) (o m : Nat) : Rep w S (.fp lit ((l.drop o).take m)) (.pointer (some (ad.add o))) := by
  have hr := repL_take (repL_drop (w := w) (S := S) ⟨hl, hh⟩ o) m
  refine .fp (by rw [addr_add_block]; exact hS) hr.1 (h1.sub o m) (fun j x hj => ?_) hr.2
  rw [List.getElem?_take] at hj
  split at hj
  · rw [List.getElem?_drop] at hj
    rw [Addr.add_add]
    exact hc _ x hj
  · cases hj

theorem vcIndexAddr_spec (hT : TabOk P T) (hW : SatW w0 S0 obs ρ S w) (hn' : ∀ i, i < obs.length → n i) {t : Nat} {x : SV} {j : Int} (kd : IntKind) {kk : SV → Prop} (h : vcIndexAddr T t x j obs kk) {vx : Value} (hd : Den ρ n w S x vx) :
    ∃ sv v, kk sv ∧ Den ρ n w S sv v ∧ (Instr.indexAt t vx (.int kd j)).run P w = .ok v w := by
  unfold vcIndexAddr at h
  rw [find_iff] at h
  obtain ⟨ty, ht, h⟩ := h
  have hty := hT t ty ht
  split at h
  · rename_i n0 e esz fl hk
    obtain ⟨hu, hs⟩ := kd_arr hty hk
    cases hd with
    | ob hi =>
      simp only at h
      rw [at_iff] at h
      obtain ⟨ob, hi', h⟩ := h
      rw [cond_false_iff] at h
      obtain ⟨hv, m, rfl, hm, h⟩ := h
      obtain ⟨hl, b, hx, hb⟩ := isVar_blk (hW.objs _ ob hi') hv
      refine ⟨_, _, h, .pt hi hb, ?_⟩
      rw [hx, run_indexAt_arr hu hs _ kd m hm w, Addr.add0, Nat.zero_add]
    | pt hi hb =>
      obtain ⟨m, rfl, hm, h⟩ := h
      exact ⟨_, _, h, .pt hi hb, by rw [run_indexAt_arr hu hs _ kd m hm w, Addr.add0]⟩
    | p hr =>
      cases hr with
      | fp hS hl h1 hc hh =>
        obtain ⟨m, rfl, hm, c, rfl, hcl, h⟩ := h
        exact ⟨_, _, h, .p (Rep.fp_sub hS hl h1 hc hh _ _), run_indexAt_arr hu hs _ kd m hm w⟩
      | _ => exact h.elim
    | _ => exact h.elim
  · rename_i e hk
    have hu := kd_slice hty hk
    rw [find_iff] at h
    obtain ⟨te, hte, h⟩ := h
    have hs : ∀ w : World, (sizeOf e).run P w = .ok te.size w := fun w => Vc.run_sizeOf (hT e te hte) w
    cases hd with
    | p hr =>
      cases hr with
      | nil ex _ _ _ _ =>
        obtain ⟨m, rfl, hm, _⟩ := h
        omega
      | sl hS hn hex hl h1 hc hh =>
        obtain ⟨m, rfl, hm, h0, c, rfl, hcl, h⟩ := h
        exact ⟨_, _, h, .p (Rep.fp_sub hS hl h1 hc hh _ _), run_indexAt_slice hu hs _ _ _ kd m hm w⟩
      | _ => exact h.elim
    | ob hi =>
      simp only at h
      rw [at_iff] at h
      obtain ⟨ob, hi', h⟩ := h
      split at h
      · rename_i e' sz n0 ex cs
        rw [cond_false_iff] at h
        obtain ⟨hsz, m, rfl, hm, h⟩ := h
        have hsz : sz = te.size := Nat.eq_of_beq_eq_true hsz
        obtain ⟨xs, hrow, _⟩ := hW.objs _ _ hi'
        rcases hrow.2 with ⟨_, rfl⟩ | ⟨g, cap, cur, hx, _⟩
        · omega
        · refine ⟨_, _, h, .pt hi (by rw [hx]; rfl), ?_⟩
          rw [hx, run_indexAt_slice hu hs _ n0 cap kd m hm w, Addr.add0, Nat.zero_add, hsz]
      · rename_i e' sz n0 cs hole
        rw [cond_false_iff] at h
        obtain ⟨hsz, m, rfl, hm, h⟩ := h
        have hsz : sz = te.size := Nat.eq_of_beq_eq_true hsz
        obtain ⟨xs, hrow, _⟩ := hW.objs _ _ hi'
        rcases hrow.2 with ⟨_, rfl⟩ | ⟨g, cap, cur, hx, _⟩
        · omega
        · refine ⟨_, _, h, .pt hi (by rw [hx]; rfl), ?_⟩
          rw [hx, run_indexAt_slice hu hs _ n0 cap kd m hm w, Addr.add0, Nat.zero_add, hsz]
      · exact h.elim
    | _ => exact h.elim
  · exact h.elim

theorem part_spec {t : TypeId} {te : Ty} (hte : TyOk P t te) {cs : List Value} {o : Nat} {v : Value} (_ : ((cs.drop o).take te.size).length = te.size)
    (hv : (isAggK te.kd = true ∧ v = .agg ((cs.drop o).take te.size).toArray) ∨ (isAggK te.kd = false ∧ (cs.drop o).take te.size = [v])) (w : World) :
    (part t cs.toArray o).run P w = .ok v w := by
  have hx : (cs.toArray.extract o (o + te.size)) = ((cs.drop o).take te.size).toArray := by
    apply Array.ext'
    simp [Array.toList_extract]
  rcases hv with ⟨ha, rfl⟩ | ⟨ha, hx1⟩
  · simp only [part, Sem.run_bind, run_isAgg hte, ha, Result.andThen_ok, if_true, Vc.run_sizeOf hte, hx, Sem.run_pure]
  · have h0 : cs.toArray[o]? = some v := by
      have h1 := congrArg (·[0]?) hx1
      simp only [List.getElem?_take, List.getElem?_drop, Nat.add_zero] at h1
      split at h1
      · simpa using h1
      · simp at h1
    simp only [part, Sem.run_bind, run_isAgg hte, ha, Result.andThen_ok, Bool.false_eq_true, if_false, h0, Sem.run_pure]

theorem vcField_spec (hT : TabOk P T) {t f : Nat} {x : SV} {k : SV → Prop} (h : vcField T t f x k) {vx : Value} (hd : Den ρ n w S x vx) : ∃ sv v, k sv ∧ Den ρ n w S sv v ∧ (Instr.field t vx f).run P w = .ok v w := by
  unfold vcField at h
  rw [find_iff] at h
  obtain ⟨ty, ht, h⟩ := h
  split at h
  · rename_i fs fl hk
    split at h
    · rename_i o e m _ hdr
      have hf := drop_head hdr
      rw [find_iff] at h
      obtain ⟨te, hte, h⟩ := h
      obtain ⟨fields, hu, hm, hz⟩ := kd_struct (hT _ _ ht) hk
      have hlen : f < fields.size := by
        have h1 := (List.getElem?_eq_some_iff.1 hf).1
        rw [← hm] at h1
        simpa using h1
      have hff : fields[f]? = some fields[f] := by simp [hlen]
      have hfo : (fields[f].offset, fields[f].type, P.cellsOf fields[f].type) = (o, e, m) := by
        rw [← hm] at hf
        simpa [hlen] using hf
      simp only [Prod.mk.injEq] at hfo
      have run : ∀ (xs : List Value) (v : Value), ((xs.drop o).take te.size).length = te.size → ((isAggK te.kd = true ∧ v = .agg ((xs.drop o).take te.size).toArray) ∨ (isAggK te.kd = false ∧ (xs.drop o).take te.size = [v])) → (Instr.field t (.agg xs.toArray) f).run P w = .ok v w := by
        intro xs v h1 h2
        simp only [Instr.field, Sem.run_bind, run_underlying hu, Result.andThen_ok, hff, hfo.1, hfo.2.1, asAgg, Sem.run_pure, part_spec (hT _ _ hte) h1 h2 w]
      cases hd with
      | p hr =>
        cases hr with
        | agg hl h1 hh =>
          simp only [fL_iff, cond_false_iff, len_eq] at h
          have hr := repL_take (repL_drop (w := w) (S := S) ⟨hl, hh⟩ o) te.size
          obtain ⟨sv, v, hk, hden, hv⟩ := ofCellsP_spec (ρ := ρ) (n := n) h.2 hr (Ones.sub h1 o _)
          exact ⟨sv, v, hk, hden, run _ v (by rw [← hr.1]; exact Nat.eq_of_beq_eq_true h.1) hv⟩
        | _ => exact h.elim
      | ag hl h1 hh =>
        simp only [fL_iff, cond_false_iff, len_eq] at h
        have hr := denL_take (denL_drop (⟨hl, hh⟩ : DenL ρ n w S _ _) o) te.size
        obtain ⟨sv, v, hk, hden, hv⟩ := ofCellsS_spec h.2 hr (Ones.sub h1 o _)
        exact ⟨sv, v, hk, hden, run _ v (by rw [← hr.1]; exact Nat.eq_of_beq_eq_true h.1) hv⟩
      | _ => exact h.elim
    · exact h.elim
  · exact h.elim

theorem vcIndex_spec (hT : TabOk P T) {t : Nat} {x : PV} {j : Int} (kd : IntKind) {k : SV → Prop} (h : vcIndex T t x j k) {vx : Value} (hr : Rep w S x vx) : ∃ sv v, k sv ∧ Den ρ n w S sv v ∧ (Instr.index t vx (.int kd j)).run P w = .ok v w := by
  unfold vcIndex at h
  cases hr with
  | agg hl h1 hh =>
    simp only [find_iff] at h
    obtain ⟨ty, ht, h⟩ := h
    split at h
    · rename_i n' e esz fl hk
      obtain ⟨te, hte, m, rfl, hm, l, hll, hn, h⟩ := h
      obtain ⟨hu, hs⟩ := kd_arr (hT _ _ ht) hk
      have hr := repL_take (repL_drop (w := w) (S := S) ⟨hl, hh⟩ (m * esz)) te.size
      rw [hll] at hr
      obtain ⟨sv, v, hk, hden, hv⟩ := ofCellsP_spec (ρ := ρ) (n := n) h hr (Ones.sub h1 _ _)
      refine ⟨sv, v, hk, hden, ?_⟩
      have h1 : (0 : Int) ≤ (m : Int) ∧ (m : Int) < (n' : Int) := ⟨by omega, by omega⟩
      simp only [Instr.index, asIntOf, Sem.run_bind, Sem.run_pure, Result.andThen_ok, run_underlying hu, h1, and_self, if_true, hs, Int.toNat_natCast, part_spec (hT _ _ hte) (by rw [← hr.1]; exact hn) hv w]
    · exact h.elim
  | _ => exact h.elim

theorem vcLen_spec (hT : TabOk P T) (hW : SatW w0 S0 obs ρ S w) (hn' : ∀ i, i < obs.length → n i) {t : Nat} {x : SV} {kk : SV → Prop} (h : vcLen T t x obs kk) {vx : Value} (hd : Den ρ n w S x vx) (ty : TypeId) :
    ∃ v, kk (.p (.v v)) ∧ (Builtin.len_ #[t] ty #[vx]).run P w = .ok v w := by
  unfold vcLen at h
  rw [find_iff] at h
  obtain ⟨tt, ht, h⟩ := h
  have hty := hT t tt ht
  split at h
  · rename_i e hk
    have hu := kd_slice hty hk
    cases hd with
    | p hr =>
      cases hr with
      | nil ex _ _ _ _ => exact ⟨_, h, by simp [Builtin.len_, run_underlying hu, goInt]⟩
      | sl hS hn hex hl h1 hc hh => exact ⟨_, h, by simp [Builtin.len_, run_underlying hu, goInt]⟩
      | _ => exact h.elim
    | nil => exact ⟨_, h, by simp [Builtin.len_, run_underlying hu, goInt]⟩
    | ob hi =>
      simp only at h
      rw [at_iff] at h
      obtain ⟨ob, hi', h⟩ := h
      split at h
      · obtain ⟨xs, hrow, _⟩ := hW.objs _ _ hi'
        rcases hrow.2 with ⟨h1, rfl⟩ | ⟨g, cap, cur, h1, _⟩
        · exact ⟨_, h, by rw [h1]; simp [Builtin.len_, run_underlying hu, goInt]⟩
        · exact ⟨_, h, by rw [h1]; simp [Builtin.len_, run_underlying hu, goInt]⟩
      · obtain ⟨xs, hrow, _⟩ := hW.objs _ _ hi'
        rcases hrow.2 with ⟨h1, rfl⟩ | ⟨g, cap, cur, h1, _⟩
        · exact ⟨_, h, by rw [h1]; simp [Builtin.len_, run_underlying hu, goInt]⟩
        · exact ⟨_, h, by rw [h1]; simp [Builtin.len_, run_underlying hu, goInt]⟩
      · exact h.elim
    | _ => exact h.elim
  · rename_i n0 e z fl hk
    obtain ⟨hu, _⟩ := kd_arr hty hk
    exact ⟨_, h, by simp [Builtin.len_, run_underlying hu, goInt]⟩
  · exact h.elim

theorem maxL_spec : ∀ (l : List SV) (xs : List Value) (x : Int) {kk : Int → Prop}, DenL ρ n w S l xs → maxL x l kk → ∃ m, kk m ∧ (xs.foldlM Builtin.max2 (.int .i64 x)).run P w = .ok (.int .i64 m) w
  | [], xs, x, kk, hd, h => by
    have : xs = [] := List.eq_nil_of_length_eq_zero (by simpa using hd.1.symm)
    subst this
    exact ⟨x, h, by simp⟩
  | s :: r, xs, x, kk, hd, h => by
    obtain ⟨v, rs, rfl, h1, h2⟩ := denL_uncons hd
    simp only [maxL] at h
    split at h
    · cases h1 with
      | p hr =>
        cases hr
        obtain ⟨m, hk, hr⟩ := maxL_spec r rs _ h2 h
        exact ⟨m, hk, by simp only [List.foldlM_cons, Builtin.max2, Sem.run_bind, Sem.run_pure, Result.andThen_ok]; exact hr⟩
    · exact h.elim

theorem vcMax_spec {l : List SV} {xs : List Value} {kk : SV → Prop} (hd : DenL ρ n w S l xs) (h : vcMax l kk) (ts : Array TypeId) (ty : TypeId) : ∃ v, kk (.p (.v v)) ∧ (Builtin.max_ ts ty xs.toArray).run P w = .ok v w := by
  unfold vcMax at h
  split at h
  · rename_i x r
    obtain ⟨v, rs, rfl, h1, h2⟩ := denL_uncons hd
    cases h1 with
    | p hr =>
      cases hr
      obtain ⟨m, hk, hr⟩ := maxL_spec (P := P) r rs x h2 h
      exact ⟨_, hk, by simp only [Builtin.max_]; exact hr⟩
  · exact h.elim

theorem spl_eq (cs : List Value) (o : Nat) (xs : List Value) : spl cs o xs = splice cs o xs := rfl

theorem spl_den {cs l : List SV} {xs ys : List Value} (h : DenL ρ n w S cs xs) (h' : DenL ρ n w S l ys) (o : Nat) : DenL ρ n w S (spl cs o l) (splice xs o ys) := by
  unfold spl splice
  rw [h'.1]
  exact denL_app (denL_app (denL_take h _) h') (denL_drop h _)

theorem spl_rep {cs l : List PV} {xs ys : List Value} (h : RepL (Rep w S) cs xs) (h' : RepL (Rep w S) l ys) (o : Nat) : RepL (Rep w S) (spl cs o l) (splice xs o ys) := by
  unfold spl splice
  rw [h'.1]
  exact repL_app (repL_app (repL_take h _) h') (repL_drop h _)

theorem Ones.splice {xs ys : List Value} (h : Ones xs) (h' : Ones ys) (o : Nat) : Ones (splice xs o ys) := by
  intro x hx
  unfold Vc.splice at hx
  simp only [List.mem_append] at hx
  rcases hx with (hx | hx) | hx
  · exact h x (List.mem_of_mem_take hx)
  · exact h' x hx
  · exact h x (List.mem_of_mem_drop hx)

theorem putS_spec (hρ : ∀ i, n i → Plain (ρ i)) {pl : List (Nat × Nat)} : ∀ {ps : List (Nat × SV)} {vs : List (Nat × Value)} {cs : List SV} {xs : List Value} {k : List SV → Prop}, putS cs pl ps k → DenPs ρ n w S ps vs → DenL ρ n w S cs xs → Ones xs →
    ∃ l ys, k l ∧ DenL ρ n w S l ys ∧ Ones ys ∧ putParts xs pl vs (fun z => z = ys)
  | [], [], cs, xs, k, h, _, hd, h1 => ⟨cs, xs, h, hd, h1, rfl⟩
  | [], _ :: _, _, _, _, _, h, _, _ => h.elim
  | _ :: _, [], _, _, _, _, h, _, _ => h.elim
  | (i, y) :: r, (j, v) :: s, cs, xs, k, h, hp, hd, h1 => by
    obtain ⟨rfl, hdy, hp⟩ := hp
    simp only [putS] at h
    split at h
    · rename_i o m _ hdr
      obtain ⟨l, h, hl, ho, hnt⟩ := cellsS_spec hρ hdy h
      rw [cond_false_iff, fL_iff, Bool.and_eq_true, len_eq, len_eq, Nat.ble_eq] at h
      obtain ⟨⟨h2, h3⟩, h⟩ := h
      obtain ⟨l', ys, hk, hd', ho', hpp⟩ := putS_spec hρ h hp (spl_den hd hl o) (Ones.splice h1 ho o)
      refine ⟨l', ys, hk, hd', ho', ?_⟩
      simp only [putParts, hdr]
      rw [cellsOf_iff]
      refine ⟨hnt, ?_⟩
      rw [cond_false_iff, fL_iff, Bool.and_eq_true, len_eq, len_eq, Nat.ble_eq, ← hl.1, ← hd.1]
      exact ⟨⟨h2, h3⟩, hpp⟩
    · exact h.elim

theorem rowParts_spec {pl : List (Nat × Nat)} : ∀ {ps : List (Nat × SV)} {vs : List (Nat × Value)} {cs : List PV} {xs : List Value} {k : List PV → Prop}, rowParts cs pl ps k → DenPs ρ n w S ps vs → RepL (Rep w S) cs xs → Ones xs →
    ∃ l ys, k l ∧ RepL (Rep w S) l ys ∧ Ones ys ∧ putParts xs pl vs (fun z => z = ys)
  | [], [], cs, xs, k, h, _, hd, h1 => ⟨cs, xs, h, hd, h1, rfl⟩
  | [], _ :: _, _, _, _, _, h, _, _ => h.elim
  | _ :: _, [], _, _, _, _, h, _, _ => h.elim
  | (i, y) :: r, (j, v) :: s, cs, xs, k, h, hp, hd, h1 => by
    obtain ⟨rfl, hdy, hp⟩ := hp
    simp only [rowParts] at h
    split at h
    · rename_i o m _ hdr
      obtain ⟨y', h, hr⟩ := toP_spec hdy h
      obtain ⟨l, h, hl, ho, hnt⟩ := cellsP_spec hr h
      rw [cond_false_iff, fL_iff, Bool.and_eq_true, len_eq, len_eq, Nat.ble_eq] at h
      obtain ⟨⟨h2, h3⟩, h⟩ := h
      obtain ⟨l', ys, hk, hd', ho', hpp⟩ := rowParts_spec h hp (spl_rep hd hl o) (Ones.splice h1 ho o)
      refine ⟨l', ys, hk, hd', ho', ?_⟩
      simp only [putParts, hdr]
      rw [cellsOf_iff]
      refine ⟨hnt, ?_⟩
      rw [cond_false_iff, fL_iff, Bool.and_eq_true, len_eq, len_eq, Nat.ble_eq, ← hl.1, ← hd.1]
      exact ⟨⟨h2, h3⟩, hpp⟩
    · exact h.elim

theorem zS_den (x : Value) : Den ρ n w S (zS x) x := by
  unfold zS
  split
  · exact .nil
  · exact .p (.v _)

theorem zP_rep (x : Value) : Rep w S (zP x) x := by
  unfold zP
  split
  · exact Rep.nil0 _
  · exact .v _

theorem mapZS_den (z : List Value) : DenL ρ n w S (mapZS z) z := by
  rw [mapZS_eq]
  refine ⟨by simp, fun j p x hp hx => ?_⟩
  rw [List.getElem?_map, hx] at hp
  cases hp
  exact zS_den x

theorem mapZ_rep (z : List Value) : RepL (Rep w S) (mapZ z) z := by
  rw [mapZ_eq]
  refine ⟨by simp, fun j p x hp hx => ?_⟩
  rw [List.getElem?_map, hx] at hp
  cases hp
  exact zP_rep x

end
end Go.Pv
