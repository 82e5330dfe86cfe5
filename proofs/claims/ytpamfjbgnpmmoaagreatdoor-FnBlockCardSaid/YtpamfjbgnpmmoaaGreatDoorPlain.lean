/- Forms as plain data: trees, their texts, reading and writing, and that the two are inverse. No program is in sight. -/
import Init
namespace Go.Proofs.YtpamfjbgnpmmoaaGreatDoor

/-- A form that is read: an atom's text and the parts. -/
inductive Tree where
  | node (atom : ByteArray) (parts : List Tree)
  deriving Inhabited

def Tree.atom : Tree → ByteArray | .node a _ => a
def Tree.parts : Tree → List Tree | .node _ ps => ps

mutual
def Tree.sz : Tree → Nat
  | .node _ ps => 1 + Tree.szL ps
def Tree.szL : List Tree → Nat
  | [] => 0
  | p :: ps => p.sz + Tree.szL ps
end

mutual
def Tree.size : Tree → Nat
  | .node _ ps => if ps.isEmpty then 1 else Tree.sizeL ps
def Tree.sizeL : List Tree → Nat
  | [] => 0
  | p :: ps => p.size + Tree.sizeL ps
end

mutual
def Tree.depth : Tree → Nat
  | .node _ ps => if ps.isEmpty then 0 else Tree.depthL ps + 1
def Tree.depthL : List Tree → Nat
  | [] => 0
  | p :: ps => max p.depth (Tree.depthL ps)
end

def atomB (c : UInt8) : Bool := (97 ≤ c && c ≤ 122) || (48 ≤ c && c ≤ 57) || c == 43 || c == 45 || c == 42 || c == 62

mutual
def Tree.text : Tree → List UInt8
  | .node a ps => if ps.isEmpty then a.data.toList else 40 :: Tree.textL ps
def Tree.textL : List Tree → List UInt8
  | [] => [41]
  | p :: ps => p.text ++ (if ps.isEmpty then [41] else 32 :: Tree.textL ps)
end

mutual
def Tree.good : Tree → Bool
  | .node a ps => if ps.isEmpty then !a.data.toList.isEmpty && a.data.toList.all atomB else a.data.toList.isEmpty && Tree.goodL ps
def Tree.goodL : List Tree → Bool
  | [] => true
  | p :: ps => p.good && Tree.goodL ps
end

mutual
def rdT : Nat → Nat → List UInt8 → Option (Tree × List UInt8)
  | 0, _, _ => none
  | f + 1, d, s =>
    match s with
    | 40 :: r => if d = 60 then none else rdL f d [] r
    | _ => if (s.takeWhile atomB).isEmpty then none else some (.node ⟨(s.takeWhile atomB).toArray⟩ [], s.dropWhile atomB)
def rdL : Nat → Nat → List Tree → List UInt8 → Option (Tree × List UInt8)
  | 0, _, _, _ => none
  | f + 1, d, acc, s =>
    match rdT f (d + 1) s with
    | some (p, 41 :: r) => some (.node ⟨#[]⟩ (acc ++ [p]), r)
    | some (p, 32 :: r) => rdL f d (acc ++ [p]) r
    | _ => none
end

def parse (s : List UInt8) : Option Tree :=
  if 12000 < s.length then none else
  match rdT (2 * s.length + 2) 0 s with
  | some (t, []) => some t
  | _ => none

theorem takeWhile_dropWhile (p : UInt8 → Bool) (l : List UInt8) : l.takeWhile p ++ l.dropWhile p = l := List.takeWhile_append_dropWhile

theorem rdT_paren (f d : Nat) (r : List UInt8) : rdT (f + 1) d (40 :: r) = if d = 60 then none else rdL f d [] r := by simp only [rdT]

theorem rdT_atom (f d : Nat) (s : List UInt8) (h : s.head? ≠ some 40) : rdT (f + 1) d s =
    if (s.takeWhile atomB).isEmpty then none else some (.node ⟨(s.takeWhile atomB).toArray⟩ [], s.dropWhile atomB) := by
  simp only [rdT]
  split
  · simp at h
  · rfl

theorem rdL_close {f d : Nat} {acc : List Tree} {s r : List UInt8} {p : Tree} (h : rdT f (d + 1) s = some (p, 41 :: r)) :
    rdL (f + 1) d acc s = some (.node ⟨#[]⟩ (acc ++ [p]), r) := by simp only [rdL, h]

theorem rdL_space {f d : Nat} {acc : List Tree} {s r : List UInt8} {p : Tree} (h : rdT f (d + 1) s = some (p, 32 :: r)) :
    rdL (f + 1) d acc s = rdL f d (acc ++ [p]) r := by simp only [rdL, h]

theorem rdL_none {f d : Nat} {acc : List Tree} {s : List UInt8} (h : ∀ p c r, rdT f (d + 1) s = some (p, c :: r) → c ≠ 41 ∧ c ≠ 32) :
    rdL (f + 1) d acc s = none := by
  simp only [rdL]
  split
  · rename_i hh; exact absurd rfl (h _ _ _ hh).1
  · rename_i hh; exact absurd rfl (h _ _ _ hh).2
  · rfl

theorem textL_cons (p : Tree) (ps : List Tree) : Tree.textL (p :: ps) = p.text ++ (if ps.isEmpty then [41] else 32 :: Tree.textL ps) := by simp only [Tree.textL]

/-- What is read is good, is not too deep, and is the text that was read. -/
theorem rd_sound (f : Nat) : (∀ d s t r, rdT f d s = some (t, r) → d ≤ 60 → t.good = true ∧ s = t.text ++ r ∧ d + t.depth ≤ 60) ∧
    (∀ d acc s t r, rdL f d acc s = some (t, r) → d < 60 → ∃ qs, qs ≠ [] ∧ t = .node ⟨#[]⟩ (acc ++ qs) ∧ Tree.goodL qs = true ∧ s = Tree.textL qs ++ r ∧ d + 1 + Tree.depthL qs ≤ 60) := by
  induction f with
  | zero => exact ⟨fun d s t r h => by simp [rdT] at h, fun d acc s t r h => by simp [rdL] at h⟩
  | succ f ih =>
    obtain ⟨ih1, ih2⟩ := ih
    refine ⟨fun d s t r h hd => ?_, fun d acc s t r h hd => ?_⟩
    · by_cases hs : s.head? = some 40
      · obtain ⟨s', rfl⟩ : ∃ s', s = 40 :: s' := by
          cases s with
          | nil => simp at hs
          | cons c s' => simp at hs; exact ⟨s', by rw [hs]⟩
        rw [rdT_paren] at h
        split at h
        · simp at h
        · rename_i hne
          obtain ⟨qs, hq, rfl, hg, hs', hdp⟩ := ih2 _ _ _ _ _ h (by omega)
          have he : qs.isEmpty = false := by cases qs <;> simp_all
          refine ⟨by simp [Tree.good, he, hg], ?_, ?_⟩
          · rw [hs']; simp [Tree.text, he]
          · simp [Tree.depth, he]; omega
      · rw [rdT_atom _ _ _ hs] at h
        split at h
        · simp at h
        · rename_i hne
          simp only [Option.some.injEq, Prod.mk.injEq] at h
          obtain ⟨rfl, rfl⟩ := h
          refine ⟨?_, ?_, by simp [Tree.depth]; omega⟩
          · simp only [Tree.good, List.isEmpty_nil, if_true, Bool.and_eq_true]
            exact ⟨by simpa using hne, by simp⟩
          · simp [Tree.text]
    · have key : ∀ p c s', rdT f (d + 1) s = some (p, c :: s') → p.good = true ∧ s = p.text ++ c :: s' ∧ d + 1 + p.depth ≤ 60 := fun p c s' hh => ih1 _ _ _ _ hh (by omega)
      simp only [rdL] at h
      split at h
      · rename_i p s' hh
        obtain ⟨k1, k2, k3⟩ := key _ _ _ hh
        simp only [Option.some.injEq, Prod.mk.injEq] at h
        obtain ⟨rfl, rfl⟩ := h
        exact ⟨[p], by simp, rfl, by simp [Tree.goodL, k1], by rw [k2]; simp [Tree.textL], by simp [Tree.depthL]; omega⟩
      · rename_i p s' hh
        obtain ⟨k1, k2, k3⟩ := key _ _ _ hh
        obtain ⟨qs, hq, rfl, hg, hs', hdp⟩ := ih2 _ _ _ _ _ h hd
        have he : qs.isEmpty = false := by cases qs <;> simp_all
        exact ⟨p :: qs, by simp, by simp, by simp [Tree.goodL, k1, hg], by rw [k2, hs']; simp [textL_cons, he], by simp [Tree.depthL]; omega⟩
      · simp at h

theorem good_text_head : ∀ t : Tree, t.good = true → ∃ c r, t.text = c :: r ∧ (atomB c = true ∨ c = 40)
  | .node a ps, h => by
    simp only [Tree.good] at h
    simp only [Tree.text]
    by_cases he : ps.isEmpty = true
    · simp only [he, if_true, Bool.and_eq_true] at h ⊢
      obtain ⟨h1, h2⟩ := h
      cases hl : a.data.toList with
      | nil => simp [hl] at h1
      | cons c r => rw [hl] at h2; simp at h2; exact ⟨c, r, rfl, .inl h2.1⟩
    · simp only [he]; exact ⟨40, _, by simp; rfl, .inr rfl⟩

theorem takeWhile_all (p : UInt8 → Bool) (l r : List UInt8) (h : l.all p = true) (hr : ∀ c, r.head? = some c → p c = false) : (l ++ r).takeWhile p = l ∧ (l ++ r).dropWhile p = r := by
  induction l with
  | nil =>
    cases r with
    | nil => simp
    | cons c r => have := hr c rfl; simp [this]
  | cons x l ih =>
    simp at h
    obtain ⟨i1, i2⟩ := ih (by simpa using h.2)
    simp [h.1, i1, i2]

mutual
/-- The text of a good tree is read back. -/
theorem rd_text : ∀ (t : Tree) (f d : Nat) (r : List UInt8), t.good = true → d + t.depth ≤ 60 → 2 * (t.text ++ r).length + 2 ≤ f → (∀ c, r.head? = some c → atomB c = false) →
    rdT f d (t.text ++ r) = some (t, r)
  | .node a ps, f, d, r, hg, hd, hf, hr => by
    obtain ⟨f, rfl⟩ : ∃ g, f = g + 1 := ⟨f - 1, by omega⟩
    by_cases he : ps.isEmpty = true
    · have hps : ps = [] := by simpa using he
      subst hps
      simp only [Tree.good, he, if_true, Bool.and_eq_true] at hg
      obtain ⟨h1, h2⟩ := hg
      have ht : Tree.text (.node a []) = a.data.toList := by simp [Tree.text]
      rw [ht] at hf ⊢
      have hhead : (a.data.toList ++ r).head? ≠ some 40 := by
        cases hl : a.data.toList with
        | nil => simp [hl] at h1
        | cons c l =>
          rw [hl] at h2
          simp at h2
          simp
          intro hc
          subst hc
          exact absurd h2.1 (by decide)
      rw [rdT_atom _ _ _ hhead]
      obtain ⟨k1, k2⟩ := takeWhile_all atomB a.data.toList r h2 hr
      rw [k1, k2]
      simp at h1
      simp [h1]
    · have hne : ps ≠ [] := by simpa using he
      simp only [Tree.good, he] at hg
      simp only [Tree.depth, he] at hd
      simp at hg hd
      have ht : Tree.text (.node a ps) = 40 :: Tree.textL ps := by simp [Tree.text, hne]
      rw [ht] at hf ⊢
      rw [List.cons_append, rdT_paren, if_neg (by omega)]
      rw [rd_textL ps f d [] r hne hg.2 (by omega) (by simp at hf ⊢; omega)]
      have ha : a = ⟨#[]⟩ := by
        cases a with
        | mk data => simp at hg; rw [hg.1]
      rw [ha]; rfl
theorem rd_textL : ∀ (ps : List Tree) (f d : Nat) (acc : List Tree) (r : List UInt8), ps ≠ [] → Tree.goodL ps = true → d + 1 + Tree.depthL ps ≤ 60 → 2 * (Tree.textL ps ++ r).length + 3 ≤ f →
    rdL f d acc (Tree.textL ps ++ r) = some (.node ⟨#[]⟩ (acc ++ ps), r)
  | [], _, _, _, _, hne, _, _, _ => absurd rfl hne
  | p :: ps, f, d, acc, r, _, hg, hd, hf => by
    obtain ⟨f, rfl⟩ : ∃ g, f = g + 1 := ⟨f - 1, by omega⟩
    simp only [Tree.goodL, Bool.and_eq_true] at hg
    simp only [Tree.depthL] at hd
    rw [textL_cons] at hf ⊢
    by_cases he : ps.isEmpty = true
    · have hps : ps = [] := by simpa using he
      subst hps
      simp only [List.isEmpty_nil, if_true] at hf ⊢
      have := rd_text p f (d + 1) (41 :: r) hg.1 (by omega) (by simp at hf ⊢; omega) (by intro c hc; simp at hc; subst hc; decide)
      rw [List.append_assoc, List.singleton_append, rdL_close this]
    · have hne : ps ≠ [] := by simpa using he
      simp only [he] at hf ⊢
      have h2 := rd_text p f (d + 1) (32 :: (Tree.textL ps ++ r)) hg.1 (by omega) (by simp at hf ⊢; omega) (by intro c hc; simp at hc; subst hc; decide)
      have h3 := rd_textL ps f d (acc ++ [p]) r hne hg.2 (by omega) (by simp at hf ⊢; omega)
      have e : (p.text ++ if false = true then [41] else 32 :: Tree.textL ps) ++ r = p.text ++ 32 :: (Tree.textL ps ++ r) := by simp
      rw [e, rdL_space h2, h3]
      simp
end

theorem parse_iff (s : List UInt8) (t : Tree) : parse s = some t ↔ s = t.text ∧ t.good = true ∧ t.depth ≤ 60 ∧ s.length ≤ 12000 := by
  unfold parse
  constructor
  · intro h
    split at h
    · simp at h
    · split at h
      · rename_i t' hh
        simp only [Option.some.injEq] at h
        subst h
        obtain ⟨h1, h2, h3⟩ := (rd_sound _).1 _ _ _ _ hh (by omega)
        exact ⟨by simpa using h2, h1, by omega, by omega⟩
      · simp at h
  · rintro ⟨rfl, hg, hd, hl⟩
    rw [if_neg (by omega)]
    have := rd_text t (2 * t.text.length + 2) 0 [] hg (by omega) (by simp) (by simp)
    rw [List.append_nil] at this
    rw [this]

theorem parse_text {t : Tree} (hg : t.good = true) (hd : t.depth ≤ 60) (hl : t.text.length ≤ 12000) : parse t.text = some t := (parse_iff _ _).2 ⟨rfl, hg, hd, hl⟩
theorem Tree.sizeL_take (ps : List Tree) (k : Nat) (p : Tree) (h : ps[k]? = some p) : Tree.sizeL (ps.take (k + 1)) = Tree.sizeL (ps.take k) + p.size := by
  induction ps generalizing k with
  | nil => simp at h
  | cons q ps ih =>
    cases k with
    | zero => simp at h; subst h; simp [Tree.sizeL]
    | succ k => simp at h; simp only [List.take_succ_cons, Tree.sizeL, ih k h]; omega

theorem Tree.sizeL_take_le (ps : List Tree) (k : Nat) : Tree.sizeL (ps.take k) ≤ Tree.sizeL ps := by
  induction ps generalizing k with
  | nil => simp
  | cons q ps ih => cases k with
    | zero => simp [Tree.sizeL]
    | succ k => simp only [List.take_succ_cons, Tree.sizeL]; have := ih k; omega

theorem Tree.sz_part (ps : List Tree) (k : Nat) (p : Tree) (h : ps[k]? = some p) : p.sz ≤ Tree.szL ps := by
  induction ps generalizing k with
  | nil => simp at h
  | cons q ps ih => cases k with
    | zero => simp at h; subst h; simp [Tree.szL]
    | succ k => simp at h; have := ih k h; simp only [Tree.szL]; omega

theorem Tree.length_le_szL (ps : List Tree) : ps.length ≤ Tree.szL ps := by
  induction ps with
  | nil => simp
  | cons q ps ih => cases q; simp only [List.length_cons, Tree.szL, Tree.sz]; omega

mutual
theorem Tree.size_le_sz : ∀ t : Tree, t.size ≤ t.sz
  | .node a ps => by
    have := Tree.sizeL_le_szL ps
    simp only [Tree.size, Tree.sz]
    split <;> omega
theorem Tree.sizeL_le_szL : ∀ ps : List Tree, Tree.sizeL ps ≤ Tree.szL ps
  | [] => by simp [Tree.sizeL]
  | p :: ps => by
    have := Tree.size_le_sz p
    have := Tree.sizeL_le_szL ps
    simp only [Tree.sizeL, Tree.szL]; omega
end


theorem Tree.depthL_take (ps : List Tree) (k : Nat) (p : Tree) (h : ps[k]? = some p) : Tree.depthL (ps.take (k + 1)) = max (Tree.depthL (ps.take k)) p.depth := by
  induction ps generalizing k with
  | nil => simp at h
  | cons q ps ih =>
    cases k with
    | zero => simp at h; subst h; simp [Tree.depthL]
    | succ k => simp at h; simp only [List.take_succ_cons, Tree.depthL, ih k h]; omega

mutual
theorem Tree.depth_le_sz : ∀ t : Tree, t.depth ≤ t.sz
  | .node a ps => by
    have := Tree.depthL_le_szL ps
    simp only [Tree.depth, Tree.sz]
    split <;> omega
theorem Tree.depthL_le_szL : ∀ ps : List Tree, Tree.depthL ps ≤ Tree.szL ps
  | [] => by simp [Tree.depthL]
  | p :: ps => by
    have := Tree.depth_le_sz p
    have := Tree.depthL_le_szL ps
    simp only [Tree.depthL, Tree.szL]; omega
end

theorem Tree.depthL_take_le (ps : List Tree) (k : Nat) : Tree.depthL (ps.take k) ≤ Tree.szL ps := by
  have h : Tree.depthL (ps.take k) ≤ Tree.depthL ps := by
    induction ps generalizing k with
    | nil => simp
    | cons q ps ih => cases k with
      | zero => simp [Tree.depthL]
      | succ k => simp only [List.take_succ_cons, Tree.depthL]; have := ih k; omega
  exact Nat.le_trans h (Tree.depthL_le_szL ps)

theorem max_if (a b : Nat) : (if (a : Int) < (b : Int) then (b : Int) else (a : Int)) = ((max a b : Nat) : Int) := by split <;> omega

theorem max_ifN (a b : Nat) : (if a < b then (b : Int) else (a : Int)) = ((max a b : Nat) : Int) := by split <;> omega

theorem max_if' (k a b : Nat) (h : k = 0 → a = 0) : (if (if k = 0 then -1 else (a : Int)) < (b : Int) then (b : Int) else if k = 0 then -1 else (a : Int)) = if k + 1 = 0 then -1 else ((max a b : Nat) : Int) := by
  by_cases hk : k = 0
  · have := h hk; simp [hk, this]; omega
  · simp [hk]; split <;> omega

/-- A part of a good tree is good. -/
theorem Tree.good_part (ps : List Tree) (k : Nat) (p : Tree) (h : ps[k]? = some p) (hg : Tree.goodL ps = true) : p.good = true := by
  induction ps generalizing k with
  | nil => simp at h
  | cons q ps ih =>
    simp only [Tree.goodL, Bool.and_eq_true] at hg
    cases k with
    | zero => simp at h; subst h; exact hg.1
    | succ k => simp at h; exact ih k h hg.2

theorem Tree.good_parts {a : ByteArray} {ps : List Tree} (h : (Tree.node a ps).good = true) : Tree.goodL ps = true ∧ (ps = [] ↔ a.data.toList ≠ []) := by
  simp only [Tree.good] at h
  by_cases he : ps = []
  · subst he
    simp at h
    exact ⟨rfl, by simp; intro h0; rw [h0] at h; simp at h⟩
  · have : ps.isEmpty = false := by simpa using he
    rw [this] at h
    simp at h
    exact ⟨h.2, by simp [he, h.1]⟩

mutual
theorem Tree.sz_le_text : ∀ t : Tree, t.good = true → t.sz ≤ 2 * t.text.length
  | .node a ps, h => by
    obtain ⟨h1, h2⟩ := Tree.good_parts h
    simp only [Tree.sz, Tree.text]
    by_cases he : ps = []
    · subst he
      have : 0 < a.data.toList.length := List.length_pos_iff.2 (h2.1 rfl)
      simp only [Tree.szL, List.isEmpty_nil, if_true]; omega
    · have hi : ps.isEmpty = false := by simpa using he
      have := Tree.szL_le_text ps he h1
      rw [hi]
      simp only [Bool.false_eq_true, if_false, List.length_cons]; omega
theorem Tree.szL_le_text : ∀ ps : List Tree, ps ≠ [] → Tree.goodL ps = true → Tree.szL ps ≤ 2 * (Tree.textL ps).length
  | [], h, _ => absurd rfl h
  | p :: ps, _, hg => by
    simp only [Tree.goodL, Bool.and_eq_true] at hg
    have h1 := Tree.sz_le_text p hg.1
    rw [textL_cons]
    simp only [Tree.szL]
    by_cases he : ps = []
    · subst he; simp [Tree.szL]; omega
    · have hi : ps.isEmpty = false := by simpa using he
      have h2 := Tree.szL_le_text ps he hg.2
      rw [hi]; simp; omega
end

theorem parse_good {s : List UInt8} {t : Tree} (h : parse s = some t) : t.good = true := ((parse_iff _ _).1 h).2.1

theorem parse_sz {s : List UInt8} {t : Tree} (h : parse s = some t) : t.sz ≤ 24000 := by
  obtain ⟨rfl, hg, _, hl⟩ := (parse_iff _ _).1 h
  have := Tree.sz_le_text t hg; omega

/-! Names and numerals. -/
def digB (c : UInt8) : Bool := decide (48 ≤ c) && decide (c ≤ 57)

def digsB (d : List UInt8) : Bool := d.all digB

def nameB : List UInt8 → Bool
  | c :: r => decide (97 ≤ c) && decide (c ≤ 122) && decide (r.length ≤ 3) && digsB r
  | [] => false

def stripM : List UInt8 → List UInt8
  | 45 :: r => r
  | l => l

def digitsB (d : List UInt8) : Bool := decide (1 ≤ d.length ∧ d.length ≤ 3) && digsB d && decide (d.head? ≠ some 48)

def numB (l : List UInt8) : Bool := decide (l = [48]) || digitsB (stripM l)

def digV (d : List UInt8) : Nat := d.foldl (fun n c => 10 * n + (c.toNat - 48)) 0

/-- The number of a numeral. -/
def numV (l : List UInt8) : Int := if l.head? = some 45 then -(digV (stripM l) : Int) else (digV (stripM l) : Int)

theorem all_of {p : UInt8 → Bool} {l : List UInt8} (h : ∀ j, j < l.length → (l[j]?).any p = true) : l.all p = true := by
  rw [List.all_eq_true]
  intro x hx
  obtain ⟨j, hj, rfl⟩ := List.mem_iff_getElem.1 hx
  simpa [List.getElem?_eq_getElem hj] using h j hj

theorem all_no {p : UInt8 → Bool} {l : List UInt8} {k : Nat} {c : UInt8} (h : l[k]? = some c) (hc : p c = false) : l.all p = false := by
  rw [List.all_eq_false]
  exact ⟨c, List.mem_of_getElem? h, by simp [hc]⟩

theorem digV_snoc (d : List UInt8) (c : UInt8) : digV (d ++ [c]) = 10 * digV d + (c.toNat - 48) := by
  unfold digV; rw [List.foldl_append]; rfl

theorem digV_lt (d : List UInt8) (h : digsB d = true) : digV d < 10 ^ d.length := by
  suffices ∀ (d : List UInt8) (n : Nat), d.all digB = true → d.foldl (fun n c => 10 * n + (c.toNat - 48)) n < (n + 1) * 10 ^ d.length by
    have := this d 0 h; simpa [digV] using this
  intro d
  induction d with
  | nil => intro n _; simp
  | cons c d ih =>
    intro n h
    simp only [List.all_cons, Bool.and_eq_true] at h
    have hc : c.toNat ≤ 57 := by have := h.1; unfold digB at this; simp [UInt8.le_iff_toNat_le] at this; omega
    have := ih (10 * n + (c.toNat - 48)) h.2
    simp only [List.foldl_cons, List.length_cons, Nat.pow_succ]
    refine Nat.lt_of_lt_of_le this ?_
    have e : (n + 1) * (10 ^ d.length * 10) = (10 * (n + 1)) * 10 ^ d.length := by
      rw [Nat.mul_comm (10 ^ d.length) 10, ← Nat.mul_assoc, Nat.mul_comm (n + 1) 10]
    rw [e]
    exact Nat.mul_le_mul_right _ (by omega)

/-! Heads and types. -/
/-- The first part, if that is an atom. -/
def Tree.hd : Tree → ByteArray
  | .node _ [] => ⟨#[]⟩
  | .node _ (p :: _) => p.atom

def Tree.isB (t : Tree) (h : List UInt8) (n : Nat) : Bool := decide (t.parts.length = n) && decide (t.hd.data.toList = h)

def Tree.isType : Tree → Bool
  | .node a [] => decide (a.data.toList = [105])
  | .node _ [h, x, y] => (decide (h.atom.data.toList = [62]) || decide (h.atom.data.toList = [42])) && x.isType && y.isType
  | .node _ _ => false

def Tree.typed (t : Tree) : Bool := t.isType && decide (t.size ≤ 16)

def Tree.order : Tree → Nat
  | .node _ [h, x, y] => max (if h.atom.data.toList = [62] then x.order + 1 else x.order) y.order
  | .node _ _ => 0

/-! Target types. -/
/-- An unknown type, as the program tells it. -/
def unkI : List UInt8 → Bool
  | 97 :: d => digsB d && (decide (d = [48]) || (decide (d ≠ []) && decide (d.head? ≠ some 48)))
  | _ => false

/-- An unknown type, as the reference tells it. -/
def unkS : List UInt8 → Bool
  | 97 :: d => decide (d = [48]) || digitsB d
  | _ => false

mutual
def Tree.target (u : List UInt8 → Bool) (hidden opn : Bool) : Tree → Bool
  | .node a [] => decide (a.data.toList = [105]) || (hidden && decide (a.data.toList = [118])) || (opn && u a.data.toList)
  | .node _ (h :: ps) =>
    if h.atom.data.toList = [101] then decide (ps.length = 1) && Tree.targetL u true opn ps
    else (decide (h.atom.data.toList = [116]) || decide (h.atom.data.toList = [99])) && Tree.targetL u hidden opn ps
def Tree.targetL (u : List UInt8 → Bool) (hidden opn : Bool) : List Tree → Bool
  | [] => true
  | p :: ps => p.target u hidden opn && Tree.targetL u hidden opn ps
end

mutual
/-- Every atom has at most m bytes. -/
def Tree.atomsLe (m : Nat) : Tree → Prop
  | .node a ps => a.size ≤ m ∧ Tree.atomsLeL m ps
def Tree.atomsLeL (m : Nat) : List Tree → Prop
  | [] => True
  | p :: ps => Tree.atomsLe m p ∧ Tree.atomsLeL m ps
end

theorem Tree.atomsLe_part (m : Nat) (ps : List Tree) (i : Nat) (p : Tree) (h : ps[i]? = some p) (hg : Tree.atomsLeL m ps) : Tree.atomsLe m p := by
  induction ps generalizing i with
  | nil => simp at h
  | cons q ps ih =>
    simp only [Tree.atomsLeL] at hg
    cases i with
    | zero => simp at h; subst h; exact hg.1
    | succ i => simp at h; exact ih i h hg.2
end Go.Proofs.YtpamfjbgnpmmoaaGreatDoor
