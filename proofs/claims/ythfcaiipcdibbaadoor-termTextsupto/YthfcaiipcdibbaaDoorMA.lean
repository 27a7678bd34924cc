import Derived.Lib.ItoaNum
/- Terms, their order and their texts, as plain Lean: no program in sight. -/
namespace Tm
inductive T where
  | mk (k n : Int) (l : List T)
deriving Inhabited

def T.k : T → Int | .mk k _ _ => k
def T.n : T → Int | .mk _ n _ => n
def T.l : T → List T | .mk _ _ l => l

theorem T.k_mk (k n : Int) (l : List T) : (T.mk k n l).k = k := rfl
theorem T.n_mk (k n : Int) (l : List T) : (T.mk k n l).n = n := rfl
theorem T.l_mk (k n : Int) (l : List T) : (T.mk k n l).l = l := rfl

theorem T.ind {p : T → Prop} (h : ∀ k n l, (∀ x ∈ l, p x) → p (.mk k n l)) : ∀ t, p t :=
  fun t => T.rec (motive_1 := p) (motive_2 := fun l => ∀ x ∈ l, p x) (fun k n l ih => h k n l ih) (fun x hx => by cases hx)
    (fun a l ha hl x hx => by
      rcases List.mem_cons.1 hx with rfl | hx
      · exact ha
      · exact hl x hx) t

mutual
def size : T → Nat
  | .mk _ _ l => 1 + sizes l
def sizes : List T → Nat
  | [] => 0
  | a :: l => size a + sizes l
end
theorem size_pos (t : T) : 1 ≤ size t := by cases t; simp only [size]; omega
theorem size_le_sizes {l : List T} {x : T} (h : x ∈ l) : size x ≤ sizes l := by
  induction l with
  | nil => cases h
  | cons a l ih =>
    rcases List.mem_cons.1 h with rfl | h
    · simp only [sizes]; omega
    · have := ih h; simp only [sizes]; omega
theorem sizes_append (a b : List T) : sizes (a ++ b) = sizes a + sizes b := by
  induction a with
  | nil => simp [sizes]
  | cons x a ih => simp only [List.cons_append, sizes, ih]; omega
theorem length_le_sizes (l : List T) : l.length ≤ sizes l := by
  induction l with
  | nil => simp [sizes]
  | cons a l ih => have := size_pos a; simp only [List.length_cons, sizes]; omega

def arity (k : Int) : Int := if k = 1 ∨ k = 2 then 0 else if k = 3 ∨ k = 4 ∨ k = 6 then 2 else if k = 5 then 1 else -1
def okHead (k n : Int) (len : Nat) : Bool := decide (0 ≤ n) && decide (n ≤ 2147483647) && decide ((len : Int) = arity k) && !(decide (k = 3 ∨ k = 6) && decide (n ≠ 0))
mutual
def valid : T → Bool
  | .mk k n l => okHead k n l.length && valids l
def valids : List T → Bool
  | [] => true
  | a :: l => valid a && valids l
end
theorem valids_iff {l : List T} : valids l = true ↔ ∀ x ∈ l, valid x = true := by
  induction l with
  | nil => simp [valids]
  | cons a l ih => simp [valids, ih]
theorem valids_eq_all (l : List T) : valids l = l.all valid := by
  induction l with
  | nil => simp [valids]
  | cons a l ih => simp [valids, ih]

def isKey (t : T) : Bool := !(decide (t.k = 3) || decide (t.k = 4))

/-- What a valid term looks like. -/
inductive Shape : T → Prop
  | data {n} (h0 : 0 ≤ n) (h1 : n ≤ 2147483647) : Shape (.mk 1 n [])
  | key {n} (h0 : 0 ≤ n) (h1 : n ≤ 2147483647) : Shape (.mk 2 n [])
  | seal_ {a b} (ha : valid a = true) (hb : valid b = true) : Shape (.mk 3 0 [a, b])
  | box_ {n a b} (h0 : 0 ≤ n) (h1 : n ≤ 2147483647) (ha : valid a = true) (hb : valid b = true) : Shape (.mk 4 n [a, b])
  | kdf {n a} (h0 : 0 ≤ n) (h1 : n ≤ 2147483647) (ha : valid a = true) : Shape (.mk 5 n [a])
  | mac {a b} (ha : valid a = true) (hb : valid b = true) : Shape (.mk 6 0 [a, b])

theorem shape_of {t : T} (h : valid t = true) : Shape t := by
  obtain ⟨k, n, l⟩ := t
  simp only [valid, okHead, Bool.and_eq_true, decide_eq_true_eq, Bool.not_eq_true', Bool.and_eq_false_iff, decide_eq_false_iff_not] at h
  obtain ⟨⟨⟨⟨h0, h1⟩, h2⟩, h3⟩, h4⟩ := h
  have hv := valids_iff.1 h4
  unfold arity at h2
  split at h2
  · have hl : l = [] := List.eq_nil_of_length_eq_zero (by omega)
    subst hl
    rename_i hk
    rcases hk with rfl | rfl
    · exact .data h0 h1
    · exact .key h0 h1
  · split at h2
    · rename_i hk
      obtain ⟨a, b, rfl⟩ : ∃ a b, l = [a, b] := by
        match l, h2 with
        | [a, b], _ => exact ⟨a, b, rfl⟩
        | [], h => simp at h
        | [_], h => simp at h
        | _ :: _ :: _ :: _, h => simp at h; omega
      have ha := hv a (by simp)
      have hb := hv b (by simp)
      rcases hk with rfl | rfl | rfl
      · obtain rfl : n = 0 := by
          rcases h3 with h3 | h3
          · exact absurd (Or.inl rfl) h3
          · simpa using h3
        exact .seal_ ha hb
      · exact .box_ h0 h1 ha hb
      · obtain rfl : n = 0 := by
          rcases h3 with h3 | h3
          · exact absurd (Or.inr rfl) h3
          · simpa using h3
        exact .mac ha hb
    · split at h2
      · rename_i hk
        subst hk
        obtain ⟨a, rfl⟩ : ∃ a, l = [a] := by
          match l, h2 with
          | [a], _ => exact ⟨a, rfl⟩
          | [], h => simp at h
          | _ :: _ :: _, h => simp at h; omega
        exact .kdf h0 h1 (hv a (by simp))
      · omega

/-! ### The order -/
mutual
def cmp : T → T → Int
  | .mk k n l, .mk k' n' l' => if k = k' then (if n = n' then cmps l l' else if n < n' then -1 else 1) else if k < k' then -1 else 1
def cmps : List T → List T → Int
  | [], [] => 0
  | [], _ :: _ => -1
  | _ :: _, [] => 1
  | a :: l, b :: m => if cmp a b = 0 then cmps l m else cmp a b
end

theorem cmp_range : ∀ a b : T, cmp a b = -1 ∨ cmp a b = 0 ∨ cmp a b = 1 := by
  intro a
  induction a using T.ind with
  | h k n l ih =>
    rintro ⟨k', n', l'⟩
    have hl : ∀ l : List T, (∀ x ∈ l, ∀ b, cmp x b = -1 ∨ cmp x b = 0 ∨ cmp x b = 1) → ∀ l', cmps l l' = -1 ∨ cmps l l' = 0 ∨ cmps l l' = 1 := by
      intro l
      induction l with
      | nil => intro _ l'; cases l' <;> simp [cmps]
      | cons a l ih2 =>
        intro h l'
        cases l' with
        | nil => simp [cmps]
        | cons b m =>
          simp only [cmps]
          split
          · exact ih2 (fun x hx => h x (List.mem_cons_of_mem _ hx)) m
          · exact h a (List.mem_cons_self) b
    simp only [cmp]
    split
    · split
      · exact hl l ih l'
      · split <;> simp
    · split <;> simp

theorem cmps_eq_zero {l : List T} (h : ∀ x ∈ l, ∀ b, cmp x b = 0 → x = b) : ∀ l', cmps l l' = 0 → l = l' := by
  induction l with
  | nil => intro l' h'; cases l' with | nil => rfl | cons _ _ => simp [cmps] at h'
  | cons a l ih =>
    intro l' h'
    cases l' with
    | nil => simp [cmps] at h'
    | cons b m =>
      simp only [cmps] at h'
      split at h'
      · rename_i h0
        rw [h a List.mem_cons_self b h0, ih (fun x hx => h x (List.mem_cons_of_mem _ hx)) m h']
      · rename_i h0; exact absurd h' h0

theorem eq_of_cmp : ∀ a b : T, cmp a b = 0 → a = b := by
  intro a
  induction a using T.ind with
  | h k n l ih =>
    rintro ⟨k', n', l'⟩ h
    simp only [cmp] at h
    split at h
    · split at h
      · rename_i hk hn
        rw [hk, hn, cmps_eq_zero ih l' h]
      · split at h <;> simp at h
    · split at h <;> simp at h

theorem cmp_self : ∀ a : T, cmp a a = 0 := by
  intro a
  induction a using T.ind with
  | h k n l ih =>
    simp only [cmp, if_true]
    induction l with
    | nil => simp [cmps]
    | cons a l ih2 => simp only [cmps]; rw [if_pos (ih a List.mem_cons_self)]; exact ih2 (fun x hx => ih x (List.mem_cons_of_mem _ hx))
theorem cmp_eq_zero {a b : T} : cmp a b = 0 ↔ a = b := ⟨eq_of_cmp a b, fun h => h ▸ cmp_self a⟩
theorem cmps_zero {l m : List T} : cmps l m = 0 ↔ l = m := by
  constructor
  · exact cmps_eq_zero (fun x _ b h => eq_of_cmp x b h) m
  · rintro rfl
    induction l with
    | nil => simp [cmps]
    | cons a l ih => simp only [cmps, cmp_self, if_true]; exact ih

theorem cmp_neg : ∀ a b : T, cmp a b = - cmp b a := by
  intro a
  induction a using T.ind with
  | h k n l ih =>
    rintro ⟨k', n', l'⟩
    have hl : ∀ l : List T, (∀ x ∈ l, ∀ b, cmp x b = - cmp b x) → ∀ l', cmps l l' = - cmps l' l := by
      intro l
      induction l with
      | nil => intro _ l'; cases l' <;> simp [cmps]
      | cons a l ih2 =>
        intro h l'
        cases l' with
        | nil => simp [cmps]
        | cons b m =>
          simp only [cmps]
          have h1 := h a List.mem_cons_self b
          by_cases h0 : cmp a b = 0
          · rw [if_pos h0, if_pos (by omega), ih2 (fun x hx => h x (List.mem_cons_of_mem _ hx)) m]
          · rw [if_neg h0, if_neg (by omega), h1]
    simp only [cmp]
    by_cases hk : k = k'
    · subst hk
      simp only [if_true]
      by_cases hn : n = n'
      · subst hn; simp only [if_true]; exact hl l ih l'
      · rw [if_neg hn, if_neg (show ¬ n' = n from fun h => hn h.symm)]
        by_cases h : n < n'
        · rw [if_pos h, if_neg (by omega)]
        · rw [if_neg h, if_pos (by omega)]; rfl
    · rw [if_neg hk, if_neg (show ¬ k' = k from fun h => hk h.symm)]
      by_cases h : k < k'
      · rw [if_pos h, if_neg (by omega)]
      · rw [if_neg h, if_pos (by omega)]; rfl

theorem cmps_trans {l : List T} (h : ∀ x ∈ l, ∀ b c, cmp x b = -1 → cmp b c = -1 → cmp x c = -1) : ∀ m p, cmps l m = -1 → cmps m p = -1 → cmps l p = -1 := by
  induction l with
  | nil =>
    intro m p h1 h2
    cases m with
    | nil => simp [cmps] at h1
    | cons b m => cases p with
      | nil => simp [cmps] at h2
      | cons c p => simp [cmps]
  | cons a l ih =>
    intro m p h1 h2
    cases m with
    | nil => simp [cmps] at h1
    | cons b m =>
      cases p with
      | nil => simp [cmps] at h2
      | cons c p =>
        simp only [cmps] at h1 h2 ⊢
        by_cases hab : cmp a b = 0
        · obtain rfl := eq_of_cmp _ _ hab
          rw [if_pos (cmp_self _)] at h1
          by_cases hbc : cmp a c = 0
          · rw [if_pos hbc] at h2 ⊢; exact ih (fun x hx => h x (List.mem_cons_of_mem _ hx)) m p h1 h2
          · rw [if_neg hbc] at h2 ⊢; exact h2
        · rw [if_neg hab] at h1
          by_cases hbc : cmp b c = 0
          · obtain rfl := eq_of_cmp _ _ hbc
            rw [if_neg hab]; exact h1
          · rw [if_neg hbc] at h2
            have := h a List.mem_cons_self b c h1 h2
            rw [if_neg (by omega)]; exact this

theorem cmp_trans : ∀ a b c : T, cmp a b = -1 → cmp b c = -1 → cmp a c = -1 := by
  intro a
  induction a using T.ind with
  | h k n l ih =>
    rintro ⟨k1, n1, l1⟩ ⟨k2, n2, l2⟩ h1 h2
    simp only [cmp] at h1 h2 ⊢
    by_cases e1 : k = k1
    · subst e1
      simp only [if_true] at h1
      by_cases e2 : k = k2
      · subst e2
        simp only [if_true] at h2 ⊢
        by_cases f1 : n = n1
        · subst f1
          simp only [if_true] at h1
          by_cases f2 : n = n2
          · subst f2; simp only [if_true] at h2 ⊢; exact cmps_trans ih l1 l2 h1 h2
          · rw [if_neg f2] at h2 ⊢; exact h2
        · rw [if_neg f1] at h1
          have g1 : n < n1 := by
            by_cases g : n < n1
            · exact g
            · rw [if_neg g] at h1; simp at h1
          by_cases f2 : n1 = n2
          · subst f2; rw [if_neg f1, if_pos g1]
          · rw [if_neg f2] at h2
            have g2 : n1 < n2 := by
              by_cases g : n1 < n2
              · exact g
              · rw [if_neg g] at h2; simp at h2
            rw [if_neg (by omega), if_pos (by omega)]
      · rw [if_neg e2] at h2 ⊢; exact h2
    · rw [if_neg e1] at h1
      have g1 : k < k1 := by
        by_cases g : k < k1
        · exact g
        · rw [if_neg g] at h1; simp at h1
      by_cases e2 : k1 = k2
      · subst e2; rw [if_neg e1, if_pos g1]
      · rw [if_neg e2] at h2
        have g2 : k1 < k2 := by
          by_cases g : k1 < k2
          · exact g
          · rw [if_neg g] at h2; simp at h2
        rw [if_neg (by omega), if_pos (by omega)]

def lt (a b : T) : Prop := cmp a b = -1
theorem lt_trans {a b c : T} (h1 : lt a b) (h2 : lt b c) : lt a c := cmp_trans a b c h1 h2
theorem lt_irrefl (a : T) : ¬ lt a a := by unfold lt; rw [cmp_self]; decide
theorem lt_tri (a b : T) : lt a b ∨ a = b ∨ lt b a := by
  rcases cmp_range a b with h | h | h
  · exact .inl h
  · exact .inr (.inl (eq_of_cmp _ _ h))
  · exact .inr (.inr (by unfold lt; rw [cmp_neg, h]))
instance : DecidableEq T := fun a b => if h : cmp a b = 0 then isTrue (eq_of_cmp _ _ h) else isFalse (fun e => h (cmp_eq_zero.2 e))

end Tm

/- Texts of terms, and that they tell valid terms apart. -/
set_option linter.unusedSimpArgs false
namespace Tm
open Go.Lib (decDigits)

def name (k : Int) : List UInt8 :=
  if k = 1 then [100] else if k = 2 then [107] else if k = 3 then [115, 101, 97, 108] else if k = 4 then [98, 111, 120] else if k = 5 then [107, 100, 102] else [109, 97, 99]
def counted (k : Int) : Bool := decide (k = 1) || decide (k = 2) || decide (k = 4) || decide (k = 5)
def dig (n : Int) : List UInt8 := decDigits n.toNat
def headText (k n : Int) : List UInt8 := name k ++ (if counted k = true then dig n else [])
mutual
def text : T → List UInt8
  | .mk k n l => headText k n ++ (if k = 1 ∨ k = 2 then [] else 40 :: (joins l ++ [41]))
def joins : List T → List UInt8
  | [] => []
  | a :: l => text a ++ joins1 l
def joins1 : List T → List UInt8
  | [] => []
  | a :: l => 44 :: (text a ++ joins1 l)
end

def isDig (c : UInt8) : Bool := decide (48 ≤ c.toNat) && decide (c.toNat ≤ 57)
/-- A text goes on with no digit. -/
def Stop (x : List UInt8) : Prop := ∀ c l, x = c :: l → isDig c = false

theorem dec_digits (u : Nat) : ∀ c ∈ decDigits u, isDig c = true := by
  induction u using Nat.strongRecOn with
  | _ u ih =>
    rw [decDigits]
    split
    · rename_i h
      intro c hc
      obtain rfl : c = UInt8.ofNat (48 + u) := by simpa using hc
      have : (UInt8.ofNat (48 + u)).toNat = 48 + u := by simp; omega
      simp only [isDig, this]; simp; omega
    · rename_i h
      intro c hc
      rcases List.mem_append.1 hc with hc | hc
      · exact ih (u / 10) (by omega) c hc
      · obtain rfl : c = UInt8.ofNat (48 + u % 10) := by simpa using hc
        have : (UInt8.ofNat (48 + u % 10)).toNat = 48 + u % 10 := by simp; omega
        simp only [isDig, this]; simp; omega
theorem dec_ne_nil (u : Nat) : decDigits u ≠ [] := by
  rw [decDigits]; split <;> simp
theorem dec_inj : ∀ u v : Nat, decDigits u = decDigits v → u = v := by
  intro u
  induction u using Nat.strongRecOn with
  | _ u ih =>
    intro v h
    rw [decDigits.eq_1 u, decDigits.eq_1 v] at h
    have hof : ∀ a b : Nat, a < 10 → b < 10 → UInt8.ofNat (48 + a) = UInt8.ofNat (48 + b) → a = b := by
      intro a b ha hb e
      have := congrArg UInt8.toNat e
      simp at this
      omega
    split at h <;> split at h
    · rename_i h1 h2
      exact hof u v h1 h2 (by simpa using h)
    · rename_i h1 h2
      have hl := congrArg List.length h
      have := dec_ne_nil (v / 10)
      have : 1 ≤ (decDigits (v / 10)).length := by
        cases hd : decDigits (v / 10) with
        | nil => exact absurd hd this
        | cons => simp
      simp only [List.length_append, List.length_cons, List.length_nil] at hl
      omega
    · rename_i h1 h2
      have hl := congrArg List.length h
      have := dec_ne_nil (u / 10)
      have : 1 ≤ (decDigits (u / 10)).length := by
        cases hd : decDigits (u / 10) with
        | nil => exact absurd hd this
        | cons => simp
      simp only [List.length_append, List.length_cons, List.length_nil] at hl
      omega
    · rename_i h1 h2
      obtain ⟨ha, hb⟩ := List.append_inj' h rfl
      have := ih (u / 10) (by omega) (v / 10) ha
      have := hof (u % 10) (v % 10) (by omega) (by omega) (by simpa using hb)
      omega

theorem split_digits : ∀ (p q x y : List UInt8), (∀ c ∈ p, isDig c = true) → (∀ c ∈ q, isDig c = true) → Stop x → Stop y → p ++ x = q ++ y → p = q ∧ x = y
  | [], [], x, y, _, _, _, _, h => ⟨rfl, h⟩
  | [], d :: q, x, y, _, hq, hx, _, h => by
    have := hx d (q ++ y) (by simpa using h)
    rw [hq d (by simp)] at this
    cases this
  | c :: p, [], x, y, hp, _, _, hy, h => by
    have := hy c (p ++ x) (by simpa using h.symm)
    rw [hp c (by simp)] at this
    cases this
  | c :: p, d :: q, x, y, hp, hq, hx, hy, h => by
    simp only [List.cons_append, List.cons.injEq] at h
    obtain ⟨rfl, h⟩ := h
    obtain ⟨rfl, rfl⟩ := split_digits p q x y (fun c hc => hp c (by simp [hc])) (fun c hc => hq c (by simp [hc])) hx hy h
    exact ⟨rfl, rfl⟩

theorem dig_split {n m : Int} (hn : 0 ≤ n) (hm : 0 ≤ m) {x y : List UInt8} (hx : Stop x) (hy : Stop y) (h : dig n ++ x = dig m ++ y) : n = m ∧ x = y := by
  obtain ⟨h1, h2⟩ := split_digits _ _ _ _ (dec_digits _) (dec_digits _) hx hy h
  exact ⟨by have := dec_inj _ _ h1; omega, h2⟩

theorem dig_head (n : Int) : ∃ c l, dig n = c :: l ∧ isDig c = true := by
  unfold dig
  cases h : decDigits n.toNat with
  | nil => exact absurd h (dec_ne_nil _)
  | cons c l => exact ⟨c, l, rfl, dec_digits _ c (by rw [h]; simp)⟩

theorem stop_cons {c : UInt8} {l : List UInt8} (h : isDig c = false) : Stop (c :: l) := by
  intro d m e
  simp only [List.cons.injEq] at e
  obtain ⟨rfl, _⟩ := e
  exact h

/-! ### The six texts -/
theorem text_data (n : Int) : text (.mk 1 n []) = 100 :: dig n := by simp [text, headText, name, counted]
theorem text_key (n : Int) : text (.mk 2 n []) = 107 :: dig n := by simp [text, headText, name, counted]
theorem text_seal (a b : T) : text (.mk 3 0 [a, b]) = 115 :: 101 :: 97 :: 108 :: 40 :: (text a ++ 44 :: (text b ++ [41])) := by simp [text, headText, name, counted, joins, joins1]
theorem text_box (n : Int) (a b : T) : text (.mk 4 n [a, b]) = 98 :: 111 :: 120 :: (dig n ++ 40 :: (text a ++ 44 :: (text b ++ [41]))) := by simp [text, headText, name, counted, joins, joins1]
theorem text_kdf (n : Int) (a : T) : text (.mk 5 n [a]) = 107 :: 100 :: 102 :: (dig n ++ 40 :: (text a ++ [41])) := by simp [text, headText, name, counted, joins, joins1]
theorem text_mac (a b : T) : text (.mk 6 0 [a, b]) = 109 :: 97 :: 99 :: 40 :: (text a ++ 44 :: (text b ++ [41])) := by simp [text, headText, name, counted, joins, joins1]

theorem not_dig_100 (n : Int) (x y : List UInt8) : dig n ++ x ≠ 100 :: y := by
  obtain ⟨c, l, h, hc⟩ := dig_head n
  rw [h]
  intro e
  simp only [List.cons_append, List.cons.injEq] at e
  rw [e.1] at hc
  exact absurd hc (by decide)

theorem text_split : ∀ a : T, valid a = true → ∀ b : T, valid b = true → ∀ x y : List UInt8, Stop x → Stop y → text a ++ x = text b ++ y → a = b ∧ x = y := by
  intro a
  induction a using T.ind with
  | h k n l ih =>
    intro ha b hb x y hx hy h
    have s40 : ∀ l, Stop (40 :: l) := fun l => stop_cons (by decide)
    have s41 : ∀ l, Stop (41 :: l) := fun l => stop_cons (by decide)
    have s44 : ∀ l, Stop (44 :: l) := fun l => stop_cons (by decide)
    have two : ∀ {a1 a2 b1 b2 : T} {x y : List UInt8}, (∀ b : T, valid b = true → ∀ x y : List UInt8, Stop x → Stop y → text a1 ++ x = text b ++ y → a1 = b ∧ x = y) →
        (∀ b : T, valid b = true → ∀ x y : List UInt8, Stop x → Stop y → text a2 ++ x = text b ++ y → a2 = b ∧ x = y) → valid b1 = true → valid b2 = true →
        text a1 ++ 44 :: (text a2 ++ 41 :: x) = text b1 ++ 44 :: (text b2 ++ 41 :: y) → a1 = b1 ∧ a2 = b2 ∧ x = y := by
      intro a1 a2 b1 b2 x y h1 h2 v1 v2 e
      obtain ⟨e1, e⟩ := h1 b1 v1 _ _ (s44 _) (s44 _) e
      simp only [List.cons.injEq, true_and] at e
      obtain ⟨e2, e⟩ := h2 b2 v2 _ _ (s41 _) (s41 _) e
      simp only [List.cons.injEq, true_and] at e
      exact ⟨e1, e2, e⟩
    cases shape_of ha with
    | data h0 h1 =>
      cases shape_of hb with
      | data g0 g1 =>
        simp only [text_data, List.cons_append, List.cons.injEq, true_and] at h
        obtain ⟨rfl, rfl⟩ := dig_split h0 g0 hx hy h
        exact ⟨rfl, rfl⟩
      | _ => simp [text_data, text_key, text_seal, text_box, text_kdf, text_mac] at h
    | key h0 h1 =>
      cases shape_of hb with
      | key g0 g1 =>
        simp only [text_key, List.cons_append, List.cons.injEq, true_and] at h
        obtain ⟨rfl, rfl⟩ := dig_split h0 g0 hx hy h
        exact ⟨rfl, rfl⟩
      | kdf g0 g1 ga =>
        simp only [text_key, text_kdf, List.cons_append, List.cons.injEq, true_and] at h
        exact absurd h (not_dig_100 _ _ _)
      | _ => simp [text_data, text_key, text_seal, text_box, text_kdf, text_mac] at h
    | seal_ va vb =>
      cases shape_of hb with
      | seal_ ga gb =>
        simp only [text_seal, List.cons_append, List.cons.injEq, true_and, List.append_assoc, List.nil_append] at h
        obtain ⟨rfl, rfl, rfl⟩ := two (fun b => ih _ (by simp) va b) (fun b => ih _ (by simp) vb b) ga gb h
        exact ⟨rfl, rfl⟩
      | _ => simp [text_data, text_key, text_seal, text_box, text_kdf, text_mac] at h
    | box_ h0 h1 va vb =>
      cases shape_of hb with
      | box_ g0 g1 ga gb =>
        simp only [text_box, List.cons_append, List.cons.injEq, true_and, List.append_assoc, List.nil_append] at h
        obtain ⟨e, h2⟩ := dig_split h0 g0 (s40 _) (s40 _) h
        subst e
        clear h
        have h := h2
        simp only [List.cons.injEq, true_and] at h
        obtain ⟨rfl, rfl, rfl⟩ := two (fun b => ih _ (by simp) va b) (fun b => ih _ (by simp) vb b) ga gb h
        exact ⟨rfl, rfl⟩
      | _ => simp [text_data, text_key, text_seal, text_box, text_kdf, text_mac] at h
    | kdf h0 h1 va =>
      cases shape_of hb with
      | kdf g0 g1 ga =>
        simp only [text_kdf, List.cons_append, List.cons.injEq, true_and, List.append_assoc, List.nil_append] at h
        obtain ⟨e, h2⟩ := dig_split h0 g0 (s40 _) (s40 _) h
        subst e
        clear h
        have h := h2
        simp only [List.cons.injEq, true_and] at h
        obtain ⟨rfl, h3⟩ := ih _ (by simp) va _ ga _ _ (s41 _) (s41 _) h
        simp only [List.cons.injEq, true_and] at h3
        exact ⟨rfl, h3⟩
      | key g0 g1 =>
        simp only [text_key, text_kdf, List.cons_append, List.cons.injEq, true_and] at h
        exact absurd h.symm (not_dig_100 _ _ _)
      | _ => simp [text_data, text_key, text_seal, text_box, text_kdf, text_mac] at h
    | mac va vb =>
      cases shape_of hb with
      | mac ga gb =>
        simp only [text_mac, List.cons_append, List.cons.injEq, true_and, List.append_assoc, List.nil_append] at h
        obtain ⟨rfl, rfl, rfl⟩ := two (fun b => ih _ (by simp) va b) (fun b => ih _ (by simp) vb b) ga gb h
        exact ⟨rfl, rfl⟩
      | _ => simp [text_data, text_key, text_seal, text_box, text_kdf, text_mac] at h

theorem text_inj {a b : T} (ha : valid a = true) (hb : valid b = true) (h : text a = text b) : a = b :=
  (text_split a ha b hb [] [] (fun c l e => by cases e) (fun c l e => by cases e) (by rw [h])).1
end Tm

/- Sorted lists of terms; subterms; what is built from a list; the closure. -/
set_option linter.unusedSimpArgs false
namespace Tm

/-! ### Sorted lists -/
def Sorted (l : List T) : Prop := l.Pairwise lt
theorem Sorted.nil : Sorted [] := List.Pairwise.nil
theorem sorted_cons {a : T} {l : List T} : Sorted (a :: l) ↔ (∀ x ∈ l, lt a x) ∧ Sorted l := List.pairwise_cons
theorem Sorted.nodup {l : List T} (h : Sorted l) : l.Nodup := List.Pairwise.imp (fun {a b} hab e => by subst e; exact lt_irrefl _ hab) h

theorem sorted_ext : ∀ {l m : List T}, Sorted l → Sorted m → (∀ x, x ∈ l ↔ x ∈ m) → l = m
  | [], [], _, _, _ => rfl
  | [], b :: m, _, _, h => by have := (h b).2 List.mem_cons_self; cases this
  | a :: l, [], _, _, h => by have := (h a).1 List.mem_cons_self; cases this
  | a :: l, b :: m, hl, hm, h => by
    obtain ⟨ha, hl'⟩ := sorted_cons.1 hl
    obtain ⟨hb, hm'⟩ := sorted_cons.1 hm
    have e : a = b := by
      rcases List.mem_cons.1 ((h a).1 List.mem_cons_self) with e | e
      · exact e
      · rcases List.mem_cons.1 ((h b).2 List.mem_cons_self) with e' | e'
        · exact e'.symm
        · exact absurd (lt_trans (ha b e') (hb a e)) (lt_irrefl a)
    subst e
    congr 1
    refine sorted_ext hl' hm' fun x => ⟨fun hx => ?_, fun hx => ?_⟩
    · rcases List.mem_cons.1 ((h x).1 (List.mem_cons_of_mem _ hx)) with e | e
      · subst e; exact absurd (ha x hx) (lt_irrefl x)
      · exact e
    · rcases List.mem_cons.1 ((h x).2 (List.mem_cons_of_mem _ hx)) with e | e
      · subst e; exact absurd (hb x hx) (lt_irrefl x)
      · exact e

def has (l : List T) (t : T) : Bool := l.any fun x => decide (cmp x t = 0)
theorem has_iff {l : List T} {t : T} : has l t = true ↔ t ∈ l := by
  simp only [has, List.any_eq_true, decide_eq_true_eq, cmp_eq_zero]
  exact ⟨fun ⟨x, hx, e⟩ => e ▸ hx, fun h => ⟨t, h, rfl⟩⟩

def ins (t : T) : List T → List T
  | [] => [t]
  | x :: l => if cmp t x < 0 then t :: x :: l else x :: ins t l
def put (l : List T) (t : T) : List T := if has l t = true then l else ins t l

theorem mem_ins {t x : T} : ∀ {l : List T}, x ∈ ins t l ↔ x = t ∨ x ∈ l
  | [] => by simp [ins]
  | a :: l => by
    simp only [ins]
    split
    · simp
    · simp only [List.mem_cons, mem_ins (l := l)]
      constructor
      · rintro (h | h | h) <;> simp [h]
      · rintro (h | h | h) <;> simp [h]
theorem mem_put {l : List T} {t x : T} : x ∈ put l t ↔ x = t ∨ x ∈ l := by
  unfold put
  split
  · rename_i h
    constructor
    · exact .inr
    · rintro (rfl | h')
      · exact has_iff.1 h
      · exact h'
  · exact mem_ins
theorem lt_of_neg {a b : T} (h : cmp a b < 0) : lt a b := by rcases cmp_range a b with e | e | e <;> unfold lt <;> omega
theorem sorted_ins {t : T} : ∀ {l : List T}, Sorted l → t ∉ l → Sorted (ins t l)
  | [], _, _ => by simp [ins, Sorted]
  | a :: l, h, hn => by
    obtain ⟨ha, hl⟩ := sorted_cons.1 h
    simp only [ins]
    split
    · rename_i hlt
      refine sorted_cons.2 ⟨fun x hx => ?_, h⟩
      rcases List.mem_cons.1 hx with rfl | hx
      · exact lt_of_neg hlt
      · exact lt_trans (lt_of_neg hlt) (ha x hx)
    · rename_i hlt
      have hta : lt a t := by
        rcases lt_tri t a with g | g | g
        · unfold lt at g; omega
        · exact absurd (g ▸ List.mem_cons_self) hn
        · exact g
      refine sorted_cons.2 ⟨fun x hx => ?_, sorted_ins hl (fun hx => hn (List.mem_cons_of_mem _ hx))⟩
      rcases mem_ins.1 hx with rfl | hx
      · exact hta
      · exact ha x hx
theorem sorted_put {l : List T} (h : Sorted l) (t : T) : Sorted (put l t) := by
  unfold put
  split
  · exact h
  · rename_i hn
    exact sorted_ins h (fun hx => hn (has_iff.2 hx))
theorem ins_length (t : T) : ∀ l : List T, (ins t l).length = l.length + 1
  | [] => rfl
  | a :: l => by simp only [ins]; split <;> simp [ins_length t l]
theorem put_length_le (l : List T) (t : T) : l.length ≤ (put l t).length ∧ (put l t).length ≤ l.length + 1 := by
  unfold put; split
  · omega
  · rw [ins_length]; omega

def putAll (l m : List T) : List T := m.foldl put l
theorem putAll_cons (l : List T) (a : T) (m : List T) : putAll l (a :: m) = putAll (put l a) m := rfl
theorem putAll_append (l m p : List T) : putAll l (m ++ p) = putAll (putAll l m) p := List.foldl_append
theorem putAll_snoc (l m : List T) (a : T) : putAll l (m ++ [a]) = put (putAll l m) a := by rw [putAll_append]; rfl
theorem mem_putAll {x : T} : ∀ {m l : List T}, x ∈ putAll l m ↔ x ∈ l ∨ x ∈ m
  | [], l => by simp [putAll]
  | a :: m, l => by
    rw [putAll_cons, mem_putAll (m := m), mem_put]
    simp only [List.mem_cons]
    constructor
    · rintro ((h | h) | h) <;> simp [h]
    · rintro (h | h | h) <;> simp [h]
theorem sorted_putAll : ∀ {m l : List T}, Sorted l → Sorted (putAll l m)
  | [], _, h => h
  | a :: m, _, h => sorted_putAll (m := m) (sorted_put h a)
theorem putAll_length_le : ∀ (m l : List T), l.length ≤ (putAll l m).length ∧ (putAll l m).length ≤ l.length + m.length
  | [], l => by simp [putAll]
  | a :: m, l => by
    have h1 := put_length_le l a
    have h2 := putAll_length_le m (put l a)
    rw [putAll_cons]
    simp only [List.length_cons]
    omega
/-- The sorted list of what a list holds. -/
def sortU (l : List T) : List T := putAll [] l
theorem mem_sortU {l : List T} {x : T} : x ∈ sortU l ↔ x ∈ l := by unfold sortU; rw [mem_putAll]; simp
theorem sorted_sortU (l : List T) : Sorted (sortU l) := sorted_putAll Sorted.nil
theorem sortU_of_mem {l m : List T} (hs : Sorted l) (h : ∀ x, x ∈ l ↔ x ∈ m) : l = sortU m := sorted_ext hs (sorted_sortU m) fun x => by rw [h, mem_sortU]

/-! ### Subterms -/
mutual
def subs : T → List T
  | .mk k n l => .mk k n l :: subsL l
def subsL : List T → List T
  | [] => []
  | a :: l => subs a ++ subsL l
end
theorem mem_subsL {x : T} : ∀ {l : List T}, x ∈ subsL l ↔ ∃ a ∈ l, x ∈ subs a
  | [] => by simp [subsL]
  | a :: l => by simp [subsL, mem_subsL (l := l)]
theorem self_mem_subs (t : T) : t ∈ subs t := by cases t; simp [subs]
theorem mem_subs {x : T} {k n : Int} {l : List T} : x ∈ subs (.mk k n l) ↔ x = .mk k n l ∨ ∃ a ∈ l, x ∈ subs a := by
  simp only [subs, List.mem_cons, mem_subsL]
theorem subs_trans : ∀ {t x y : T}, x ∈ subs y → y ∈ subs t → x ∈ subs t := by
  intro t
  induction t using T.ind with
  | h k n l ih =>
    intro x y h1 h2
    rcases mem_subs.1 h2 with rfl | ⟨a, ha, h2⟩
    · exact h1
    · exact mem_subs.2 (.inr ⟨a, ha, ih a ha h1 h2⟩)
mutual
theorem subs_length : ∀ t : T, (subs t).length = size t
  | .mk k n l => by simp only [subs, List.length_cons, size, subsL_length l]; omega
theorem subsL_length : ∀ l : List T, (subsL l).length = sizes l
  | [] => rfl
  | a :: l => by simp only [subsL, List.length_append, sizes, subs_length a, subsL_length l]
end
theorem valid_subs {t : T} : valid t = true → ∀ x ∈ subs t, valid x = true := by
  induction t using T.ind with
  | h k n l ih =>
    intro h x hx
    rcases mem_subs.1 hx with rfl | ⟨a, ha, hx⟩
    · exact h
    · have : valids l = true := by simp only [valid, Bool.and_eq_true] at h; exact h.2
      exact ih a ha (valids_iff.1 this a ha) x hx
theorem size_subs {t : T} : ∀ x ∈ subs t, size x ≤ size t := by
  induction t using T.ind with
  | h k n l ih =>
    intro x hx
    rcases mem_subs.1 hx with rfl | ⟨a, ha, hx⟩
    · exact Nat.le_refl _
    · have := ih a ha x hx
      have := size_le_sizes ha
      simp only [size]; omega
def subterms (t : T) : List T := sortU (subs t)
/-- As the specification collects them. -/
theorem subterms_cons (k n : Int) (l : List T) : subterms (.mk k n l) = l.foldl (fun out a => putAll out (subterms a)) [.mk k n l] := by
  have hs : ∀ (l : List T) (o : List T), Sorted o → Sorted (l.foldl (fun out a => putAll out (subterms a)) o) := by
    intro l
    induction l with
    | nil => intro o h; exact h
    | cons a l ih => intro o h; exact ih _ (sorted_putAll h)
  have hm : ∀ (l : List T) (o : List T) (x : T), x ∈ l.foldl (fun out a => putAll out (subterms a)) o ↔ x ∈ o ∨ x ∈ subsL l := by
    intro l
    induction l with
    | nil => intro o x; simp [subsL]
    | cons a l ih =>
      intro o x
      rw [List.foldl_cons, ih (putAll o (subterms a)) x, mem_putAll, show subterms a = sortU (subs a) from rfl, mem_sortU]
      simp only [subsL, List.mem_append, or_assoc]
  refine (sortU_of_mem (hs l _ (by simp [Sorted])) fun x => ?_).symm
  rw [hm]; simp [subs]

/-! ### What is built -/
inductive Built (P : T → Prop) : T → Prop
  | base {t} (h : P t) : Built P t
  | data {t} (h : t.k = 1) : Built P t
  | make {t} (h : t.k ≠ 2) (hl : ∀ x ∈ t.l, Built P x) : Built P t
theorem Built.mono {P Q : T → Prop} (h : ∀ t, P t → Q t) {t : T} (hb : Built P t) : Built Q t := by
  induction hb with
  | base hp => exact .base (h _ hp)
  | data h1 => exact .data h1
  | make h1 _ ih => exact .make h1 ih
theorem Built.join {P : T → Prop} {t : T} (hb : Built (Built P) t) : Built P t := by
  induction hb with
  | base hp => exact hp
  | data h1 => exact .data h1
  | make h1 _ ih => exact .make h1 ih

mutual
def built (S : List T) : T → Bool
  | .mk k n l => has S (.mk k n l) || decide (k = 1) || (!decide (k = 2) && builts S l)
def builts (S : List T) : List T → Bool
  | [] => true
  | a :: l => built S a && builts S l
end
theorem builts_eq_all (S l : List T) : builts S l = l.all (built S) := by
  induction l with
  | nil => simp [builts]
  | cons a l ih => simp [builts, ih]
theorem built_iff {S : List T} : ∀ {t : T}, built S t = true ↔ Built (· ∈ S) t := by
  intro t
  induction t using T.ind with
  | h k n l ih =>
    simp only [built, Bool.or_eq_true, Bool.and_eq_true, decide_eq_true_eq, Bool.not_eq_true', decide_eq_false_iff_not, has_iff, builts_eq_all, List.all_eq_true]
    constructor
    · rintro ((h | h) | ⟨h, hl⟩)
      · exact .base h
      · exact .data h
      · exact .make h fun x hx => (ih x hx).1 (hl x hx)
    · intro h
      cases h with
      | base h => exact .inl (.inl h)
      | data h => exact .inl (.inr h)
      | make h hl => exact .inr ⟨h, fun x hx => (ih x hx).2 (hl x hx)⟩
theorem built_congr {S S' : List T} (h : ∀ x, x ∈ S ↔ x ∈ S') (t : T) : built S t = built S' t := by
  rw [Bool.eq_iff_iff, built_iff, built_iff]
  exact ⟨Built.mono fun x hx => (h x).1 hx, Built.mono fun x hx => (h x).2 hx⟩

/-! ### The closure -/
def Lock (k : Int) : Prop := k = 3 ∨ k = 4
instance (k : Int) : Decidable (Lock k) := inferInstanceAs (Decidable (_ ∨ _))
def Closed (C : T → Prop) : Prop := ∀ k n a b, Lock k → C (.mk k n [a, b]) → Built C a → C b
def Cl (I : List T) (t : T) : Prop := ∀ C : T → Prop, (∀ x ∈ I, C x) → Closed C → C t
theorem Cl.mem {I : List T} {t : T} (h : t ∈ I) : Cl I t := fun _ hI _ => hI t h
theorem Cl.closed (I : List T) : Closed (Cl I) := fun k n a b hk h hb C hI hC => hC k n a b hk (h C hI hC) (hb.mono fun _ h => h C hI hC)
theorem Cl.mono {I J : List T} (h : ∀ x ∈ I, Cl J x) {t : T} (ht : Cl I t) : Cl J t := ht (Cl J) h (Cl.closed J)
def Knows (I : List T) (t : T) : Prop := Built (Cl I) t

/-- What a step opens. -/
def opens (S : List T) : List T → List T
  | [] => []
  | .mk k _ (a :: b :: _) :: r => if Lock k ∧ built S a = true then b :: opens S r else opens S r
  | _ :: r => opens S r
def step (S : List T) : List T := putAll S (opens S S)
def closeN : Nat → List T → List T
  | 0, S => S
  | n + 1, S => if (step S).length = S.length then S else closeN n (step S)
def close (I : List T) : List T := closeN (sizes I + 1) (sortU I)
def knows (I : List T) (t : T) : Bool := built (close I) t

theorem opens_append (S p q : List T) : opens S (p ++ q) = opens S p ++ opens S q := by
  induction p with
  | nil => rfl
  | cons a p ih =>
    obtain ⟨k, n, l⟩ := a
    match l with
    | [] => simp only [List.cons_append, opens, ih]
    | [_] => simp only [List.cons_append, opens, ih]
    | x :: y :: r =>
      simp only [List.cons_append, opens, ih]
      split <;> simp
theorem mem_opens {S : List T} {x : T} : ∀ {r : List T}, x ∈ opens S r → ∃ k n a r', .mk k n (a :: x :: r') ∈ r ∧ Lock k ∧ built S a = true := by
  intro r
  induction r with
  | nil => intro h; cases h
  | cons t r ih =>
    obtain ⟨k, n, l⟩ := t
    intro h
    have up : x ∈ opens S r → ∃ k' n' a r', T.mk k' n' (a :: x :: r') ∈ T.mk k n l :: r ∧ Lock k' ∧ built S a = true := fun h => by
      obtain ⟨k, n, a, r', h1, h2⟩ := ih h
      exact ⟨k, n, a, r', List.mem_cons_of_mem _ h1, h2⟩
    match l, h, up with
    | [], h, up => exact up (by simpa only [opens] using h)
    | [_], h, up => exact up (by simpa only [opens] using h)
    | a :: b :: r', h, up =>
      simp only [opens] at h
      split at h
      · rename_i hk
        rcases List.mem_cons.1 h with rfl | h
        · exact ⟨k, n, a, r', List.mem_cons_self, hk⟩
        · exact up h
      · exact up h
theorem opens_mem {S : List T} {k n : Int} {a x : T} {r' : List T} (hk : Lock k) (hb : built S a = true) : ∀ {r : List T}, .mk k n (a :: x :: r') ∈ r → x ∈ opens S r := by
  intro r
  induction r with
  | nil => intro h; cases h
  | cons t r ih =>
    intro h
    rcases List.mem_cons.1 h with rfl | h
    · simp only [opens, hk, hb, and_self, if_true, List.mem_cons, true_or]
    · have := ih h
      obtain ⟨k1, n1, l1⟩ := t
      match l1 with
      | [] => simpa only [opens] using this
      | [_] => simpa only [opens] using this
      | _ :: _ :: _ => simp only [opens]; split <;> simp [this]
theorem opens_length (S : List T) : ∀ r, (opens S r).length ≤ r.length := by
  intro r
  induction r with
  | nil => simp [opens]
  | cons t r ih =>
    obtain ⟨k, n, l⟩ := t
    match l with
    | [] => simp only [opens, List.length_cons]; omega
    | [_] => simp only [opens, List.length_cons]; omega
    | _ :: _ :: _ => simp only [opens]; split <;> simp only [List.length_cons] <;> omega

/-- Two lists without repetition: the one within the other. -/
theorem length_le_of_subset {l m : List T} (h : l.Nodup) (hs : ∀ x ∈ l, x ∈ m) : l.length ≤ m.length := by
  induction l generalizing m with
  | nil => simp
  | cons a l ih =>
    have ha := hs a List.mem_cons_self
    obtain ⟨h1, h2⟩ := List.nodup_cons.1 h
    have := ih (m := m.erase a) h2 fun x hx => (List.mem_erase_of_ne (fun e => h1 (by rw [← e]; exact hx))).2 (hs x (List.mem_cons_of_mem _ hx))
    rw [List.length_erase_of_mem ha] at this
    have : 1 ≤ m.length := List.length_pos_of_mem ha
    simp only [List.length_cons]; omega

theorem sorted_step {S : List T} (h : Sorted S) : Sorted (step S) := sorted_putAll h
theorem step_fix {S : List T} (h : Sorted S) (hl : (step S).length = S.length) : step S = S := by
  have hsub : ∀ x ∈ S, x ∈ step S := fun x hx => mem_putAll.2 (.inl hx)
  refine sorted_ext (sorted_step h) h fun x => ⟨fun hx => ?_, hsub x⟩
  by_cases hxS : x ∈ S
  · exact hxS
  · have := length_le_of_subset (l := x :: S) (m := step S) (List.nodup_cons.2 ⟨hxS, h.nodup⟩) (fun y hy => by
      rcases List.mem_cons.1 hy with rfl | hy
      · exact hx
      · exact hsub y hy)
    simp only [List.length_cons] at this
    omega
theorem closed_of_fix {S : List T} (h : step S = S) : Closed (· ∈ S) := by
  intro k n a b hk hm hb
  have : b ∈ step S := mem_putAll.2 (.inr (opens_mem hk (built_iff.2 hb) hm))
  rwa [h] at this

/-- A set of valid terms, all subterms of the items, steps within the closure. -/
structure Part (I S : List T) : Prop where
  sorted : Sorted S
  items : ∀ x ∈ I, x ∈ S
  within : ∀ x ∈ S, Cl I x
  subs : ∀ x ∈ S, x ∈ subsL I

theorem Cl.subs {I : List T} {x : T} (h : Cl I x) : x ∈ subsL I :=
  h (· ∈ subsL I) (fun x hx => mem_subsL.2 ⟨x, hx, self_mem_subs x⟩) fun k n a b _ hm _ => by
    obtain ⟨t, ht, hm⟩ := mem_subsL.1 hm
    exact mem_subsL.2 ⟨t, ht, subs_trans (mem_subs.2 (.inr ⟨b, by simp, self_mem_subs b⟩)) hm⟩
theorem valid_subsL {I : List T} (hI : ∀ x ∈ I, valid x = true) {x : T} (hx : x ∈ subsL I) : valid x = true := by
  obtain ⟨t, ht, hx⟩ := mem_subsL.1 hx
  exact valid_subs (hI t ht) x hx
theorem size_subsL {I : List T} {x : T} (hx : x ∈ subsL I) : size x ≤ sizes I := by
  obtain ⟨t, ht, hx⟩ := mem_subsL.1 hx
  exact Nat.le_trans (size_subs x hx) (size_le_sizes ht)
theorem valid_two {k n : Int} {a b : T} {r : List T} (hk : Lock k) (h : valid (.mk k n (a :: b :: r)) = true) : r = [] := by
  rcases hk with rfl | rfl <;> cases shape_of h <;> rfl

theorem Part.step {I S : List T} (hI : ∀ x ∈ I, valid x = true) (h : Part I S) : Part I (step S) := by
  have hw : ∀ x ∈ Tm.step S, Cl I x := by
    intro x hx
    rcases mem_putAll.1 hx with hx | hx
    · exact h.within x hx
    · obtain ⟨k, n, a, r', hm, hk, hb⟩ := mem_opens hx
      have hv := valid_subsL hI (h.subs _ hm)
      obtain rfl := valid_two hk hv
      exact Cl.closed I k n a x hk (h.within _ hm) ((built_iff.1 hb).mono fun t ht => h.within t ht)
  exact ⟨sorted_step h.sorted, fun x hx => mem_putAll.2 (.inl (h.items x hx)), hw, fun x hx => (hw x hx).subs⟩
theorem Part.start (I : List T) : Part I (sortU I) :=
  ⟨sorted_sortU I, fun _ hx => mem_sortU.2 hx, fun _ hx => Cl.mem (mem_sortU.1 hx), fun _ hx => (Cl.mem (mem_sortU.1 hx)).subs⟩
theorem Part.length {I S : List T} (h : Part I S) : S.length ≤ sizes I := by
  rw [← subsL_length]; exact length_le_of_subset h.sorted.nodup h.subs
/-- Whatever part is its own step is the closure. -/
theorem Part.mem_iff {I S : List T} (h : Part I S) (hf : Tm.step S = S) (x : T) : x ∈ S ↔ Cl I x :=
  ⟨h.within x, fun hx => hx (· ∈ S) h.items (closed_of_fix hf)⟩

theorem closeN_part {I : List T} (hI : ∀ x ∈ I, valid x = true) : ∀ n S, Part I S → sizes I < S.length + n → Part I (closeN n S) ∧ step (closeN n S) = closeN n S
  | 0, S, h, hn => by have := h.length; omega
  | n + 1, S, h, hn => by
    simp only [closeN]
    split
    · rename_i e; exact ⟨h, step_fix h.sorted e⟩
    · rename_i e
      have h1 : S.length ≤ (step S).length := (putAll_length_le _ _).1
      exact closeN_part hI n (step S) (h.step hI) (by omega)
theorem close_part {I : List T} (hI : ∀ x ∈ I, valid x = true) : Part I (close I) ∧ step (close I) = close I := closeN_part hI _ _ (Part.start I) (by omega)
theorem mem_close {I : List T} (hI : ∀ x ∈ I, valid x = true) (x : T) : x ∈ close I ↔ Cl I x := (close_part hI).1.mem_iff (close_part hI).2 x
theorem sorted_close {I : List T} (hI : ∀ x ∈ I, valid x = true) : Sorted (close I) := (close_part hI).1.sorted
theorem close_eq {I S : List T} (hI : ∀ x ∈ I, valid x = true) (hs : Sorted S) (h : ∀ x, x ∈ S ↔ Cl I x) : S = close I :=
  sorted_ext hs (sorted_close hI) fun x => by rw [h, mem_close hI]
theorem knows_iff {I : List T} (hI : ∀ x ∈ I, valid x = true) (t : T) : knows I t = true ↔ Knows I t := by
  unfold knows Knows
  rw [built_iff]
  exact ⟨Built.mono fun x hx => (mem_close hI x).1 hx, Built.mono fun x hx => (mem_close hI x).2 hx⟩
/-- The specification's rounds. -/
theorem closeN_round {I : List T} (hI : ∀ x ∈ I, valid x = true) {S : List T} (h : Part I S) (hf : (step S).length = S.length) : S = close I :=
  close_eq hI h.sorted (h.mem_iff (step_fix h.sorted hf))

/-! ### The laws -/
theorem close_mem {I : List T} (hI : ∀ x ∈ I, valid x = true) {x : T} (h : x ∈ I) : x ∈ close I := (mem_close hI x).2 (Cl.mem h)
theorem close_mono {I J : List T} (hI : ∀ x ∈ I, valid x = true) (hJ : ∀ x ∈ J, valid x = true) (h : ∀ x ∈ I, x ∈ J) {x : T} (hx : x ∈ close I) : x ∈ close J :=
  (mem_close hJ x).2 (Cl.mono (fun y hy => Cl.mem (h y hy)) ((mem_close hI x).1 hx))
theorem close_valid {I : List T} (hI : ∀ x ∈ I, valid x = true) {x : T} (hx : x ∈ close I) : valid x = true := valid_subsL hI ((mem_close hI x).1 hx).subs
theorem close_idem {I : List T} (hI : ∀ x ∈ I, valid x = true) : close (close I) = close I := by
  have hc : ∀ x ∈ close I, valid x = true := fun x hx => close_valid hI hx
  refine (close_eq hc (sorted_close hI) fun x => ?_).symm
  rw [mem_close hI]
  exact ⟨fun h => Cl.mem ((mem_close hI x).2 h), fun h => Cl.mono (fun y hy => (mem_close hI y).1 hy) h⟩
theorem knows_mono {I J : List T} (hI : ∀ x ∈ I, valid x = true) (hJ : ∀ x ∈ J, valid x = true) (h : ∀ x ∈ I, x ∈ J) {t : T} (hk : knows I t = true) : knows J t = true :=
  (knows_iff hJ t).2 (((knows_iff hI t).1 hk).mono fun _ hx => Cl.mono (fun y hy => Cl.mem (h y hy)) hx)
theorem knows_cut {I : List T} {t : T} (hI : ∀ x ∈ I, valid x = true) (ht : valid t = true) (hk : knows I t = true) (u : T) : knows (I ++ [t]) u = knows I u := by
  have hJ : ∀ x ∈ I ++ [t], valid x = true := fun x hx => by
    rcases List.mem_append.1 hx with h | h
    · exact hI x h
    · rw [List.mem_singleton.1 h]; exact ht
  rw [Bool.eq_iff_iff, knows_iff hJ, knows_iff hI]
  have hK := (knows_iff hI t).1 hk
  refine ⟨fun h => Built.join (h.mono fun x hx => ?_), fun h => h.mono fun x hx => Cl.mono (fun y hy => Cl.mem (by simp [hy])) hx⟩
  refine hx (Built (Cl I)) (fun y hy => ?_) ?_
  · rcases List.mem_append.1 hy with h | h
    · exact .base (Cl.mem h)
    · rw [List.mem_singleton.1 h]; exact hK
  · intro k n a b hkk hm hb
    cases hm with
    | base hm => exact .base (Cl.closed I k n a b hkk hm hb.join)
    | data h1 => rcases hkk with rfl | rfl <;> simp [T.k] at h1
    | make _ hl => exact hl b (by simp [T.l])
theorem not_knows_key {I : List T} (hI : ∀ x ∈ I, valid x = true) {n : Int} (h : .mk 2 n [] ∉ subsL I) : knows I (.mk 2 n []) = false := by
  rw [Bool.eq_false_iff]
  intro hk
  cases (knows_iff hI _).1 hk with
  | base h' => exact h h'.subs
  | data h' => simp [T.k] at h'
  | make h' => exact h' rfl
theorem knows_make {I : List T} (hI : ∀ x ∈ I, valid x = true) {k n : Int} {l : List T} (hk : k ≠ 2) (hl : ∀ x ∈ l, knows I x = true) : knows I (.mk k n l) = true :=
  (knows_iff hI _).2 (.make hk fun x hx => (knows_iff hI x).1 (hl x hx))
theorem knows_open {k n : Int} {a b : T} (hk : Lock k) (hv : valid (.mk k n [a, b]) = true) (ha : valid a = true) : knows [.mk k n [a, b], a] b = true :=
  (knows_iff (fun x hx => by rcases List.mem_cons.1 hx with rfl | hx; exact hv; rw [List.mem_singleton.1 hx]; exact ha) _).2
    (.base (Cl.closed _ k n a b hk (Cl.mem (by simp)) (.base (Cl.mem (by simp)))))
end Tm
namespace Tm
/-! ### Two lists, place by place -/
theorem cmps_at : ∀ {l m : List T} (j : Nat) (h1 : j < l.length) (h2 : j < m.length), l.take j = m.take j → cmp l[j] m[j] ≠ 0 → cmps l m = cmp l[j] m[j]
  | a :: l, b :: m, 0, _, _, _, h => by simp only [List.getElem_cons_zero] at h ⊢; simp only [cmps]; rw [if_neg h]
  | a :: l, b :: m, j + 1, h1, h2, ht, h => by
    simp only [List.take_succ_cons, List.cons.injEq] at ht
    simp only [cmps, ht.1, cmp_self, if_true]
    exact cmps_at j (by simpa using h1) (by simpa using h2) ht.2 h
theorem cmps_end : ∀ {l m : List T} (j : Nat), l.take j = m.take j → (l.length ≤ j ∨ m.length ≤ j) → cmps l m = if l.length < m.length then -1 else if m.length < l.length then 1 else 0
  | [], [], _, _, _ => by simp [cmps]
  | [], b :: m, 0, _, _ => by simp [cmps]
  | [], b :: m, j + 1, h, _ => by simp at h
  | a :: l, [], 0, _, _ => by simp [cmps]
  | a :: l, [], j + 1, h, _ => by simp at h
  | a :: l, b :: m, 0, _, h => by simp at h
  | a :: l, b :: m, j + 1, h, hl => by
    simp only [List.take_succ_cons, List.cons.injEq] at h
    simp only [cmps, h.1, cmp_self, if_true, List.length_cons, Nat.add_lt_add_iff_right]
    exact cmps_end j h.2 (by simpa using hl)
theorem take_succ_eq {l m : List T} {j : Nat} (h1 : j < l.length) (h2 : j < m.length) (h : l.take j = m.take j) (hc : cmp l[j] m[j] = 0) : l.take (j + 1) = m.take (j + 1) := by
  rw [List.take_succ_eq_append_getElem h1, List.take_succ_eq_append_getElem h2, h, cmp_eq_zero.1 hc]
end Tm
namespace Tm
/-! ### Insertion, from the left -/
theorem ins_snoc_none {t x : T} : ∀ {l : List T}, (∀ y ∈ l, ¬ cmp t y < 0) → ins t (l ++ [x]) = l ++ ins t [x]
  | [], _ => rfl
  | a :: l, h => by
    simp only [List.cons_append, ins]
    rw [if_neg (h a List.mem_cons_self), ins_snoc_none fun y hy => h y (List.mem_cons_of_mem _ hy)]
    rfl
theorem ins_none {t : T} {l : List T} (h : ∀ y ∈ l, ¬ cmp t y < 0) : ins t l = l ++ [t] := by
  induction l with
  | nil => rfl
  | cons a l ih =>
    simp only [ins]
    rw [if_neg (h a List.mem_cons_self), ih fun y hy => h y (List.mem_cons_of_mem _ hy)]
    rfl
theorem ins_snoc_some {t x : T} : ∀ {l : List T}, (∃ y ∈ l, cmp t y < 0) → ins t (l ++ [x]) = ins t l ++ [x]
  | [], h => by obtain ⟨y, hy, _⟩ := h; cases hy
  | a :: l, h => by
    simp only [List.cons_append, ins]
    by_cases ha : cmp t a < 0
    · rw [if_pos ha, if_pos ha]; rfl
    · rw [if_neg ha, if_neg ha]
      have : ∃ y ∈ l, cmp t y < 0 := by
        obtain ⟨y, hy, h1⟩ := h
        rcases List.mem_cons.1 hy with rfl | hy
        · exact absurd h1 ha
        · exact ⟨y, hy, h1⟩
      rw [ins_snoc_some this]; rfl
/-- What the specification's loop has put down behind some elements. -/
def PutAt (t : T) (l : List T) (p : Bool) (out : List T) : Prop :=
  (∀ x ∈ l, cmp t x ≠ 0) ∧ ((p = false ∧ out = l ∧ ∀ x ∈ l, ¬ cmp t x < 0) ∨ (p = true ∧ out = ins t l ∧ ∃ y ∈ l, cmp t y < 0))
theorem PutAt.nil (t : T) : PutAt t [] false [] := ⟨fun x hx => (by cases hx), .inl ⟨rfl, rfl, fun x hx => (by cases hx)⟩⟩
theorem PutAt.place {t x : T} {l out : List T} (h : PutAt t l false out) (hx : cmp t x < 0) : PutAt t (l ++ [x]) true (out ++ [t] ++ [x]) := by
  obtain ⟨h0, ⟨_, rfl, h1⟩ | ⟨h, _⟩⟩ := h
  · refine ⟨fun y hy => ?_, .inr ⟨rfl, ?_, x, by simp, hx⟩⟩
    · rcases List.mem_append.1 hy with hy | hy
      · exact h0 y hy
      · rw [List.mem_singleton.1 hy]; omega
    · rw [ins_snoc_none h1]; simp [ins, hx]
  · cases h
theorem PutAt.go {t x : T} {l out : List T} {p : Bool} (h : PutAt t l p out) (hx : cmp t x ≠ 0) (hp : p = true ∨ ¬ cmp t x < 0) : PutAt t (l ++ [x]) p (out ++ [x]) := by
  obtain ⟨h0, h⟩ := h
  refine ⟨fun y hy => ?_, ?_⟩
  · rcases List.mem_append.1 hy with hy | hy
    · exact h0 y hy
    · rw [List.mem_singleton.1 hy]; exact hx
  · rcases h with ⟨rfl, rfl, h1⟩ | ⟨rfl, rfl, h1⟩
    · refine .inl ⟨rfl, rfl, fun y hy => ?_⟩
      rcases List.mem_append.1 hy with hy | hy
      · exact h1 y hy
      · rw [List.mem_singleton.1 hy]; exact hp.resolve_left (by simp)
    · refine .inr ⟨rfl, (ins_snoc_some h1).symm, ?_⟩
      obtain ⟨y, hy, h2⟩ := h1
      exact ⟨y, by simp [hy], h2⟩
theorem PutAt.has {t : T} {l out : List T} {p : Bool} (h : PutAt t l p out) : has l t = false := by
  rw [Bool.eq_false_iff]
  intro hh
  exact h.1 t (has_iff.1 hh) (cmp_self t)
theorem PutAt.done {t : T} {l out : List T} (h : PutAt t l true out) : out = put l t := by
  unfold put
  rw [if_neg (by rw [h.has]; simp)]
  obtain ⟨_, ⟨h, _⟩ | ⟨_, h, _⟩⟩ := h
  · cases h
  · exact h
theorem PutAt.last {t : T} {l out : List T} (h : PutAt t l false out) : out ++ [t] = put l t := by
  unfold put
  rw [if_neg (by rw [h.has]; simp)]
  obtain ⟨_, ⟨_, rfl, h⟩ | ⟨h, _⟩⟩ := h
  · rw [ins_none h]
  · cases h
theorem PutAt.length {t : T} {l out : List T} {p : Bool} (h : PutAt t l p out) : out.length ≤ l.length + 1 := by
  obtain ⟨_, ⟨_, rfl, h⟩ | ⟨_, rfl, _⟩⟩ := h
  · omega
  · rw [ins_length]; omega
theorem put_same {t : T} {l : List T} {j : Nat} (h1 : j < l.length) (h : cmp t l[j] = 0) : put l t = l := by
  unfold put
  rw [if_pos (has_iff.2 (by rw [cmp_eq_zero.1 h]; exact List.getElem_mem h1))]
theorem has_take_succ {l : List T} {t : T} {j : Nat} (hj : j < l.length) (h : has (l.take j) t = false) (hc : cmp l[j] t ≠ 0) : has (l.take (j + 1)) t = false := by
  unfold has at *
  rw [List.take_succ_eq_append_getElem hj, List.any_append, h]
  simpa using hc
theorem has_of {l : List T} {t : T} {j : Nat} (hj : j < l.length) (hc : cmp l[j] t = 0) : has l t = true := has_iff.2 (by rw [← cmp_eq_zero.1 hc]; exact List.getElem_mem hj)
theorem builts_take_succ {S l : List T} {j : Nat} (hj : j < l.length) (h : builts S (l.take j) = true) (hc : built S l[j] = true) : builts S (l.take (j + 1)) = true := by
  rw [builts_eq_all] at *
  rw [List.take_succ_eq_append_getElem hj, List.all_append, h]
  simpa using hc
theorem builts_false {S l : List T} {j : Nat} (hj : j < l.length) (hc : built S l[j] = false) : builts S l = false := by
  rw [builts_eq_all, List.all_eq_false]
  exact ⟨l[j], List.getElem_mem hj, by simp [hc]⟩
theorem valids_take_succ {l : List T} {j : Nat} (hj : j < l.length) (h : valids (l.take j) = true) (hc : valid l[j] = true) : valids (l.take (j + 1)) = true := by
  rw [valids_eq_all] at *
  rw [List.take_succ_eq_append_getElem hj, List.all_append, h]
  simpa using hc
theorem valids_false {l : List T} {j : Nat} (hj : j < l.length) (hc : valid l[j] = false) : valids l = false := by
  rw [valids_eq_all, List.all_eq_false]
  exact ⟨l[j], List.getElem_mem hj, by simp [hc]⟩
end Tm
namespace Tm
theorem opens_one {S : List T} {t : T} (hv : valid t = true) : (∃ a b, t.l = [a, b] ∧ Lock t.k ∧ opens S [t] = if built S a = true then [b] else []) ∨ (¬ Lock t.k ∧ opens S [t] = []) := by
  cases shape_of hv with
  | seal_ va vb => exact .inl ⟨_, _, rfl, .inl rfl, by simp only [opens, Lock]; split <;> simp_all⟩
  | box_ h0 h1 va vb => exact .inl ⟨_, _, rfl, .inr rfl, by simp only [opens, Lock]; split <;> simp_all⟩
  | data h0 h1 => exact .inr ⟨by simp [Lock, T.k], rfl⟩
  | key h0 h1 => exact .inr ⟨by simp [Lock, T.k], rfl⟩
  | kdf h0 h1 va => exact .inr ⟨by simp [Lock, T.k], rfl⟩
  | mac va vb => exact .inr ⟨by simp [Lock, T.k], by simp only [opens, Lock]; simp⟩
theorem opens_take_succ {S : List T} {j : Nat} (h : j < S.length) : opens S (S.take (j + 1)) = opens S (S.take j) ++ opens S [S[j]] := by
  rw [List.take_succ_eq_append_getElem h, opens_append]
theorem putAll_take_succ {o l : List T} {j : Nat} (h : j < l.length) : putAll o (l.take (j + 1)) = put (putAll o (l.take j)) l[j] := by
  rw [List.take_succ_eq_append_getElem h, putAll_snoc]
/-- The specification's Subterms, behind some elements. -/
def subAt (t : T) (l : List T) : List T := l.foldl (fun out a => putAll out (subterms a)) [t]
theorem subAt_take_succ {t : T} {l : List T} {j : Nat} (h : j < l.length) : subAt t (l.take (j + 1)) = putAll (subAt t (l.take j)) (subterms l[j]) := by
  unfold subAt
  rw [List.take_succ_eq_append_getElem h, List.foldl_append]; rfl
theorem subterms_length (t : T) : (subterms t).length ≤ size t := by
  unfold subterms sortU
  have := (putAll_length_le (subs t) []).2
  rw [subs_length] at this
  simpa using this
theorem subAt_length (t : T) (l : List T) : (subAt t l).length ≤ 1 + sizes l := by
  have : ∀ (l o : List T), (l.foldl (fun out a => putAll out (subterms a)) o).length ≤ o.length + sizes l := by
    intro l
    induction l with
    | nil => intro o; simp [sizes]
    | cons a l ih =>
      intro o
      have h1 := ih (putAll o (subterms a))
      have h2 := (putAll_length_le (subterms a) o).2
      have h3 := subterms_length a
      simp only [List.foldl_cons, sizes]; omega
  exact this l [t]
end Tm
namespace Tm
/-! ### Texts: lengths; put together one by one -/
theorem dec_length : ∀ (k u : Nat), 1 ≤ k → u < 10 ^ k → (Go.Lib.decDigits u).length ≤ k
  | 0, _, h, _ => by omega
  | k + 1, u, _, h => by
    rw [Go.Lib.decDigits]
    split
    · simp
    · rename_i h10
      have hk : 1 ≤ k := by
        rcases Nat.eq_zero_or_pos k with e | e
        · subst e; simp at h; omega
        · exact e
      have := dec_length k (u / 10) hk (by rw [Nat.pow_succ] at h; omega)
      simp only [List.length_append, List.length_cons, List.length_nil]; omega
theorem dig_length {n : Int} (h1 : n ≤ 2147483647) : (dig n).length ≤ 10 := dec_length 10 n.toNat (by omega) (by omega)
theorem headText_length {k n : Int} (h1 : n ≤ 2147483647) : (headText k n).length ≤ 14 := by
  unfold headText name
  have := dig_length h1
  simp only [List.length_append]
  repeat' split
  all_goals simp only [List.length_cons, List.length_nil]
  all_goals omega
theorem joins_take_succ : ∀ {l : List T} {j : Nat} (h : j < l.length), joins (l.take (j + 1)) = if j = 0 then text l[j] else joins (l.take j) ++ 44 :: text l[j] := by
  have h1 : ∀ (l : List T) (a : T), joins1 (l ++ [a]) = joins1 l ++ 44 :: text a := by
    intro l a
    induction l with
    | nil => simp [joins1]
    | cons b l ih => simp [joins1, ih]
  intro l j h
  rw [List.take_succ_eq_append_getElem h]
  cases l with
  | nil => simp at h
  | cons a l =>
    cases j with
    | zero => simp [joins, joins1]
    | succ j =>
      rw [if_neg (by omega)]
      simp only [List.take_succ_cons, List.cons_append, joins, h1, List.append_assoc]
theorem joins1_length (l : List T) (h : ∀ x ∈ l, (text x).length ≤ 20 * size x) : (joins1 l).length ≤ 20 * sizes l + l.length := by
  induction l with
  | nil => simp [joins1]
  | cons a l ih =>
    have h1 := h a List.mem_cons_self
    have h2 := ih fun x hx => h x (List.mem_cons_of_mem _ hx)
    simp only [joins1, sizes, List.length_cons, List.length_append]; omega
theorem joins_length (l : List T) (h : ∀ x ∈ l, (text x).length ≤ 20 * size x) : (joins l).length ≤ 20 * sizes l + l.length := by
  cases l with
  | nil => simp [joins]
  | cons a l =>
    have h1 := h a List.mem_cons_self
    have h2 := joins1_length l fun x hx => h x (List.mem_cons_of_mem _ hx)
    simp only [joins, sizes, List.length_cons, List.length_append]; omega
theorem text_length {t : T} : valid t = true → (text t).length ≤ 20 * size t := by
  induction t using T.ind with
  | h k n l ih =>
    intro hv
    have hn : n ≤ 2147483647 ∧ l.length ≤ 2 ∧ valids l = true := by
      have hs : valids l = true := by simp only [valid, Bool.and_eq_true] at hv; exact hv.2
      cases shape_of hv <;> exact ⟨by omega, by simp, hs⟩
    have h1 := headText_length (k := k) hn.1
    have h2 := joins_length l fun x hx => ih x hx (valids_iff.1 hn.2.2 x hx)
    simp only [text, size, List.length_append]
    split
    · simp; omega
    · simp only [List.length_cons, List.length_append, List.length_nil]; omega
end Tm
