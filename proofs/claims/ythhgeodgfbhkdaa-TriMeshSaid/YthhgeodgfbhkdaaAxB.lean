/- The abstract executor 'AX', soundness (1): tries; how abstract values and blocks lie in a world. -/
import Derived.Test.YthhgeodgfbhkdaaAxP
set_option linter.unusedVariables false
set_option linter.unusedSimpArgs false
set_option linter.unusedSectionVars false
namespace Go.AX

/-! ## Tries -/
theorem nbeq {a b : Nat} (h : a ≠ b) : Nat.beq a b = false := Bool.eq_false_iff.2 fun e => h (Nat.eq_of_beq_eq_true e)
theorem paF_inv : ∀ (f k : Nat), k ≤ f → ∀ (g j : Nat), j ≤ g → paF f k = paF g j → k = j
  | 0, k, hk, 0, j, hj, _ => by omega
  | 0, k, hk, g + 1, j, hj, h => by
    have hk0 : k = 0 := by omega
    subst hk0
    change Pa.e = paS (paF g) j at h
    unfold paS at h
    by_cases h0 : j = 0
    · exact h0.symm
    · have : Nat.beq j 0 = false := nbeq h0
      rw [this] at h
      cases hb : Nat.beq (j % 2) 1 <;> rw [hb] at h <;> cases h
  | f + 1, k, hk, 0, j, hj, h => by
    have hj0 : j = 0 := by omega
    subst hj0
    change paS (paF f) k = Pa.e at h
    unfold paS at h
    by_cases h0 : k = 0
    · exact h0
    · have : Nat.beq k 0 = false := nbeq h0
      rw [this] at h
      cases hb : Nat.beq (k % 2) 1 <;> rw [hb] at h <;> cases h
  | f + 1, k, hk, g + 1, j, hj, h => by
    change paS (paF f) k = paS (paF g) j at h
    unfold paS at h
    by_cases hk0 : k = 0
    · by_cases hj0 : j = 0
      · omega
      · subst hk0
        have h2 : Nat.beq j 0 = false := nbeq hj0
        rw [h2] at h
        cases hb : Nat.beq (j % 2) 1 <;> rw [hb] at h <;> cases h
    · have h1 : Nat.beq k 0 = false := nbeq hk0
      rw [h1] at h
      by_cases hj0 : j = 0
      · subst hj0
        cases hb : Nat.beq (k % 2) 1 <;> rw [hb] at h <;> cases h
      · have h2 : Nat.beq j 0 = false := nbeq hj0
        rw [h2] at h
        cases hb : Nat.beq (k % 2) 1 <;> cases hc : Nat.beq (j % 2) 1 <;> rw [hb, hc] at h <;> simp only [cond_false, cond_true, Pa.l.injEq, Pa.r.injEq, reduceCtorEq] at h
        · have e := paF_inv f (k / 2 - 1) (by omega) g (j / 2 - 1) (by omega) h
          have e1 : k % 2 ≠ 1 := by intro e; rw [e] at hb; cases hb
          have e2 : j % 2 ≠ 1 := by intro e; rw [e] at hc; cases hc
          omega
        · have e := paF_inv f (k / 2) (by omega) g (j / 2) (by omega) h
          have e1 : k % 2 = 1 := Nat.eq_of_beq_eq_true hb
          have e2 : j % 2 = 1 := Nat.eq_of_beq_eq_true hc
          omega
theorem pa_inj {k j : Nat} (h : pa k = pa j) : k = j := paF_inv k k (Nat.le_refl _) j j (Nat.le_refl _) h
theorem pa_eq (k j : Nat) : (pa k = pa j) = (k = j) := propext ⟨pa_inj, fun h => by rw [h]⟩

namespace Tr
variable {α : Type}
theorem get_e (t : Tr α) : t.get .e = t.root := rfl
theorem get_l (t : Tr α) (p : Pa) : t.get (.l p) = t.left.get p := rfl
theorem get_r (t : Tr α) (p : Pa) : t.get (.r p) = t.right.get p := rfl
theorem put_e (t : Tr α) (v : α) : t.put .e v = .n t.left (some v) t.right := rfl
theorem put_l (t : Tr α) (p : Pa) (v : α) : t.put (.l p) v = .n (t.left.put p v) t.root t.right := rfl
theorem put_r (t : Tr α) (p : Pa) (v : α) : t.put (.r p) v = .n t.left t.root (t.right.put p v) := rfl
theorem get_put (p q : Pa) : ∀ (t : Tr α) (v : α), (t.put p v).get q = if p = q then some v else t.get q := by
  induction p generalizing q with
  | e => intro t v; cases q <;> simp [put_e, get_e, get_l, get_r, root, left, right]
  | l p ih =>
    intro t v
    cases q with
    | e => simp [put_l, get_e, root]
    | l q => rw [put_l, get_l, get_l]; simp only [left]; rw [ih]; simp
    | r q => simp [put_l, get_r, right]
  | r p ih =>
    intro t v
    cases q with
    | e => simp [put_r, get_e, root]
    | r q => rw [put_r, get_r, get_r]; simp only [right]; rw [ih]; simp
    | l q => simp [put_r, get_l, left]
theorem get_empty (p : Pa) : (Tr.e : Tr α).get p = none := by
  induction p with
  | e => rfl
  | l p ih => exact ih
  | r p ih => exact ih
end Tr

theorem AH.get_push_same (H : AH) (b : AB) : (H.push b).get H.nx = some b := by simp [AH.get, AH.push, Tr.get_put]
theorem AH.get_push_ne (H : AH) (b : AB) {i : Nat} (h : i ≠ H.nx) : (H.push b).get i = H.get i := by
  simp only [AH.get, AH.push, Tr.get_put, pa_eq]; rw [if_neg (by omega)]
theorem AH.get_set_same (H : AH) (i : Nat) (b : AB) : (H.set i b).get i = some b := by simp [AH.get, AH.set, Tr.get_put]
theorem AH.get_set_ne (H : AH) (j : Nat) (b : AB) {i : Nat} (h : i ≠ j) : (H.set j b).get i = H.get i := by
  simp only [AH.get, AH.set, Tr.get_put, pa_eq]; rw [if_neg (by omega)]
theorem AH.nx_push (H : AH) (b : AB) : (H.push b).nx = H.nx + 1 := rfl
theorem AH.nx_set (H : AH) (i : Nat) (b : AB) : (H.set i b).nx = H.nx := rfl

/-! ## Values in a world -/
/-- How abstract blocks lie in a world: which block each is; how many elements of room a row that grew has behind what is known; which numbers are given; what a loop's record bears. -/
structure M where
  bk : Nat → Nat
  sp : Nat → Nat
  dm : Nat → Prop
  lp : Nat → Loop

structure M.Le (m m' : M) : Prop where
  dm : ∀ i, m.dm i → m'.dm i
  bk : ∀ i, m.dm i → m'.bk i = m.bk i
  sp : ∀ i, m.dm i → m'.sp i = m.sp i
  lp : ∀ i, m.dm i → m'.lp i = m.lp i

theorem M.Le.refl (m : M) : m.Le m := ⟨fun _ h => h, fun _ _ => rfl, fun _ _ => rfl, fun _ _ => rfl⟩
theorem M.Le.trans {a b c : M} (h : a.Le b) (k : b.Le c) : a.Le c :=
  ⟨fun i hi => k.dm i (h.dm i hi), fun i hi => (k.bk i (h.dm i hi)).trans (h.bk i hi), fun i hi => (k.sp i (h.dm i hi)).trans (h.sp i hi), fun i hi => (k.lp i (h.dm i hi)).trans (h.lp i hi)⟩

mutual
inductive VR (m : M) : Value → Value → Prop
  | bool (b : Bool) : VR m (.bool b) (.bool b)
  | int (k : IntKind) (n : Int) : VR m (.int k n) (.int k n)
  | float (k : FloatKind) (n : Nat) : VR m (.float k n) (.float k n)
  | str (s : ByteArray) : VR m (.string s) (.string s)
  | ptr0 : VR m (.pointer none) (.pointer none)
  | ptr (b o : Nat) (h : m.dm b) : VR m (.pointer (some ⟨b, o, none⟩)) (.pointer (some ⟨m.bk b, o, none⟩))
  | sl0 (l c : Nat) : VR m (.slice none l c) (.slice none l c)
  | sl (b o l c : Nat) (h : m.dm b) : VR m (.slice (some ⟨b, o, none⟩) l c) (.slice (some ⟨m.bk b, o, none⟩) l c)
  | slr (b o l c : Nat) (h : m.dm b) : VR m (.slice (some ⟨b, o, some 0⟩) l c) (.slice (some ⟨m.bk b, o, none⟩) l (c + m.sp b))
  | sle (b o : Nat) (a : Addr) (c : Nat) : VR m (.slice (some ⟨b, o, some 1⟩) 0 0) (.slice (some a) 0 c)
  | map0 : VR m (.map none) (.map none)
  | map (r : Nat) (h : m.dm r) : VR m (.map (some r)) (.map (some (m.bk r)))
  | func (fn : Fn) (xs ys xs' ys' : Array Value) (hf : ∀ l, fn ≠ .yield l) (hx : VRL m xs.toList xs'.toList) (hy : VRL m ys.toList ys'.toList) : VR m (.func fn xs ys) (.func fn xs' ys')
  | yield (l : Nat) (h : m.dm l) : VR m (.func (.yield l) #[] #[]) (.func (.yield (m.bk l)) #[] #[])
  | nilFunc : VR m .nilFunc .nilFunc
  | nilIface : VR m .nilIface .nilIface
  | iface (t : TypeId) (v v' : Value) (h : VR m v v') : VR m (.iface t v) (.iface t v')
  | agg (xs xs' : Array Value) (h : VRL m xs.toList xs'.toList) : VR m (.agg xs) (.agg xs')
  | tuple (xs xs' : Array Value) (h : VRL m xs.toList xs'.toList) : VR m (.tuple xs) (.tuple xs')
  | top (v' : Value) (h : AX.flat v' = true) : VR m (.chan none) v'
inductive VRL (m : M) : List Value → List Value → Prop
  | nil : VRL m [] []
  | cons (v v' : Value) (l l' : List Value) (h : VR m v v') (hl : VRL m l l') : VRL m (v :: l) (v' :: l')
end

mutual
theorem VR.mono {m m' : M} (hm : m.Le m') : ∀ {v v' : Value}, VR m v v' → VR m' v v'
  | _, _, .bool b => .bool b
  | _, _, .int k n => .int k n
  | _, _, .float k n => .float k n
  | _, _, .str s => .str s
  | _, _, .ptr0 => .ptr0
  | _, _, .ptr b o h => by rw [← hm.bk b h]; exact .ptr b o (hm.dm b h)
  | _, _, .sl0 l c => .sl0 l c
  | _, _, .sl b o l c h => by rw [← hm.bk b h]; exact .sl b o l c (hm.dm b h)
  | _, _, .slr b o l c h => by rw [← hm.bk b h, ← hm.sp b h]; exact .slr b o l c (hm.dm b h)
  | _, _, .sle b o a c => .sle b o a c
  | _, _, .map0 => .map0
  | _, _, .map r h => by rw [← hm.bk r h]; exact .map r (hm.dm r h)
  | _, _, .func fn xs ys xs' ys' hf hx hy => .func fn xs ys xs' ys' hf (VRL.mono hm hx) (VRL.mono hm hy)
  | _, _, .yield l h => by rw [← hm.bk l h]; exact .yield l (hm.dm l h)
  | _, _, .nilFunc => .nilFunc
  | _, _, .nilIface => .nilIface
  | _, _, .iface t v v' h => .iface t v v' (VR.mono hm h)
  | _, _, .agg xs xs' h => .agg xs xs' (VRL.mono hm h)
  | _, _, .tuple xs xs' h => .tuple xs xs' (VRL.mono hm h)
  | _, _, .top v' h => .top v' h
theorem VRL.mono {m m' : M} (hm : m.Le m') : ∀ {l l' : List Value}, VRL m l l' → VRL m' l l'
  | _, _, .nil => .nil
  | _, _, .cons v v' l l' h hl => .cons v v' l l' (VR.mono hm h) (VRL.mono hm hl)
end

namespace VRL
variable {m : M}
theorem length {l l' : List Value} (h : VRL m l l') : l'.length = l.length := by
  induction l generalizing l' with
  | nil => cases h; rfl
  | cons v l ih => cases h with | cons _ v' _ l'' hv hl => simp [ih hl]
theorem get {l l' : List Value} (h : VRL m l l') (i : Nat) {v : Value} (hv : l[i]? = some v) : ∃ v', l'[i]? = some v' ∧ VR m v v' := by
  induction l generalizing l' i with
  | nil => simp at hv
  | cons x l ih =>
    cases h with
    | cons _ x' _ l'' hx hl =>
      cases i with
      | zero => simp at hv; subst hv; exact ⟨x', by simp, hx⟩
      | succ i => simp at hv; obtain ⟨v', h1, h2⟩ := ih hl i hv; exact ⟨v', by simpa using h1, h2⟩
theorem append {a a' b b' : List Value} (h : VRL m a a') (k : VRL m b b') : VRL m (a ++ b) (a' ++ b') := by
  induction a generalizing a' with
  | nil => cases h; exact k
  | cons v l ih => cases h with | cons _ v' _ l'' hv hl => exact .cons _ _ _ _ hv (ih hl)
theorem take {l l' : List Value} (h : VRL m l l') (n : Nat) : VRL m (l.take n) (l'.take n) := by
  induction n generalizing l l' with
  | zero => exact .nil
  | succ n ih => cases h with
    | nil => exact .nil
    | cons v v' l l' hv hl => exact .cons _ _ _ _ hv (ih hl)
theorem drop {l l' : List Value} (h : VRL m l l') (n : Nat) : VRL m (l.drop n) (l'.drop n) := by
  induction n generalizing l l' with
  | zero => exact h
  | succ n ih => cases h with
    | nil => exact .nil
    | cons v v' l l' hv hl => exact ih hl
theorem of_get {l l' : List Value} (hl : l'.length = l.length) (h : ∀ (i : Nat) (v : Value), l[i]? = some v → ∃ v', l'[i]? = some v' ∧ VR m v v') : VRL m l l' := by
  induction l generalizing l' with
  | nil => cases l' with | nil => exact .nil | cons _ _ => simp at hl
  | cons v l ih => cases l' with
    | nil => simp at hl
    | cons v' l' =>
      obtain ⟨x, h1, h2⟩ := h 0 v (by simp)
      simp at h1; subst h1
      exact .cons _ _ _ _ h2 (ih (by simpa using hl) fun i x hx => by simpa using h (i + 1) x (by simpa using hx))
end VRL

mutual
theorem VR.of_clo (m : M) : ∀ (d : Nat) (v : Value), clo d v = true → VR m v v
  | 0, v, h => by cases v <;> first | (simp [clo] at h; done) | exact .bool _ | exact .int _ _ | exact .str _ | exact .float _ _ | exact .nilFunc | exact .nilIface | skip
                  case pointer a => cases a <;> first | exact .ptr0 | simp [clo] at h
                  case slice a l c => cases a <;> first | exact .sl0 _ _ | simp [clo] at h
                  case map r => cases r <;> first | exact .map0 | simp [clo] at h
  | d + 1, v, h => by
    cases v with
    | bool b => exact .bool _
    | int k n => exact .int _ _
    | float k b => exact .float _ _
    | string s => exact .str _
    | complex _ _ _ => simp [clo] at h
    | pointer a => cases a <;> first | exact .ptr0 | simp [clo] at h
    | slice a l c => cases a <;> first | exact .sl0 _ _ | simp [clo] at h
    | map r => cases r <;> first | exact .map0 | simp [clo] at h
    | chan r => simp [clo] at h
    | nilFunc => exact .nilFunc
    | nilIface => exact .nilIface
    | iface t v => exact .iface _ _ _ (VR.of_clo m d v (by simpa [clo] using h))
    | agg cs => exact .agg _ _ (VRL.of_clo m d cs.toList (by simpa [clo] using h))
    | tuple cs => exact .tuple _ _ (VRL.of_clo m d cs.toList (by simpa [clo] using h))
    | func fn xs ys =>
      simp only [clo, Bool.and_eq_true] at h
      obtain ⟨⟨h1, h2⟩, h3⟩ := h
      exact .func _ _ _ _ _ (fun l e => by subst e; simp at h1) (VRL.of_clo m d _ h2) (VRL.of_clo m d _ h3)
theorem VRL.of_clo (m : M) : ∀ (d : Nat) (l : List Value), l.all (clo d) = true → VRL m l l
  | _, [], _ => .nil
  | d, v :: l, h => by
    simp only [List.all_cons, Bool.and_eq_true] at h
    exact .cons _ _ _ _ (VR.of_clo m d v h.1) (VRL.of_clo m d l h.2)
end

theorem VR.eq_of_clo {m : M} : ∀ (d : Nat) {v v' : Value}, clo d v = true → VR m v v' → v' = v := by
  intro d
  induction d with
  | zero => intro v v' h hv; cases hv <;> first | rfl | simp [clo] at h
  | succ d ih =>
    have L : ∀ (l l' : List Value), l.all (clo d) = true → VRL m l l' → l' = l := by
      intro l
      induction l with
      | nil => intro l' _ h; cases h; rfl
      | cons v l ihl =>
        intro l' h hl
        simp only [List.all_cons, Bool.and_eq_true] at h
        cases hl with | cons _ v' _ l'' hv hl => rw [ih h.1 hv, ihl _ h.2 hl]
    intro v v' h hv
    cases hv <;> first | rfl | (simp [clo] at h; done) | skip
    case func fn xs ys xs' ys' hf hx hy =>
      simp only [clo, Bool.and_eq_true] at h
      rw [Array.toList_inj.1 (L _ _ h.1.2 hx), Array.toList_inj.1 (L _ _ h.2 hy)]
    case iface t v v' hv => rw [ih (by simpa [clo] using h) hv]
    case agg xs xs' hx => rw [Array.toList_inj.1 (L _ _ (by simpa [clo] using h) hx)]
    case tuple xs xs' hx => rw [Array.toList_inj.1 (L _ _ (by simpa [clo] using h) hx)]
theorem VRL.eq_of_clo {m : M} (d : Nat) : ∀ {l l' : List Value}, l.all (clo d) = true → VRL m l l' → l' = l := by
  intro l
  induction l with
  | nil => intro l' _ h; cases h; rfl
  | cons v l ihl =>
    intro l' h hl
    simp only [List.all_cons, Bool.and_eq_true] at h
    cases hl with | cons _ v' _ l'' hv hl => rw [VR.eq_of_clo d h.1 hv, ihl h.2 hl]

theorem VR.flat {m : M} {v v' : Value} (h : VR m v v') : flat v' = flat v := by cases h <;> first | rfl | assumption
theorem VR.cells {m : M} {v v' : Value} (h : VR m v v') : VRL m v.cells.toList v'.cells.toList := by
  have h0 := h
  cases h <;> first | assumption | exact .cons _ _ _ _ h0 .nil | skip
  case top hf => cases v' <;> first | exact .cons _ _ _ _ h0 .nil | (simp [AX.flat] at hf)

end Go.AX
