/- Orders and atoms of types; a list's search of the laws. -/
import Derived.Test.YtoihkjnfklogpaaSides
import Derived.Test.YtoihkjnfklogpaaPlainS
namespace Go.Proofs.Ytoihkjnfklogpaa
open Go.RowKit

theorem hasText_any (l : List ByteArray) (s : ByteArray) (o : Option Addr) (n c : Nat) (w : World) (h : Strs w o n l) (hn : n ≤ 1000000000) :
    Calls Try.prog 21 #[.slice o n c, .string s] w fun e w' => e = .returned (.bool (hasS l s)) ∧ w = w' := by
  have H := Lib.hid h
  have hl := Lib.hid h.1
  clear h
  go_enter Try.func21, Try.ntmps21
  go_wp2
  go_loop [5] (fun i => ∃ k : Nat, k ≤ n ∧ i = .int .i64 k ∧ Hid (hasS (l.take k) s = false)) (fun i => n - (intOf i).toNat)
  case atStart => exact ⟨0, Nat.zero_le _, rfl, rfl⟩
  case round =>
    obtain ⟨k, hk, rfl, HN⟩ := hrel
    by_cases hlt : k < n
    · obtain ⟨b, off, x, rfl, hx, hc⟩ := H.out.at hlt
      have HX := Lib.hid hx
      clear hx
      by_cases hs : x.toList = s.toList
      · have hb : (x.toList == s.toList) = true := by simpa using hs
        have HS : Hid (hasS l s = true) := by
          show _ = _
          rw [hasS_iff]
          have : x = s := by simpa [toList_inj] using hb
          rw [← this]; exact List.mem_of_getElem? HX.out
        clear hs
        go_wp2
        go_ret
        exact ⟨ret_bool HS.out.symm, rfl⟩
      · have hb : (x.toList == s.toList) = false := by simpa using hs
        have HS : Hid (hasS (l.take (k + 1)) s = false) := by
          show _ = _
          have hlk : k < l.length := by rw [← hl.out]; exact hlt
          have hxk : l[k] = x := by have := HX.out; rw [List.getElem?_eq_getElem hlk] at this; exact Option.some.inj this
          rw [List.take_succ_eq_append_getElem hlk, hxk]
          have := HN.out
          unfold hasS at this ⊢
          rw [List.any_append, this]
          simp [hb]
        clear hs
        go_wp2
        go_round
        case rel => exact ⟨k + 1, by omega, by go_num, HS⟩
        case measure => simp [intOf]; omega
    · have HS : Hid (hasS l s = false) := by
        show _ = _
        have := HN.out
        rwa [List.take_of_length_le (by rw [← hl.out]; omega)] at this
      go_wp2
      go_ret
      exact ⟨ret_bool HS.out.symm, rfl⟩

theorem mem_addS {l : List ByteArray} {s x : ByteArray} : x ∈ addS l s ↔ x ∈ l ∨ x = s := by
  unfold addS
  by_cases h : hasS l s = true
  · rw [if_pos h]
    constructor
    · exact .inl
    · rintro (h' | rfl)
      · exact h'
      · exact hasS_iff.1 h
  · rw [if_neg h]; simp

theorem mem_foldAdd {m : List ByteArray} : ∀ {l : List ByteArray} {x : ByteArray}, x ∈ m.foldl addS l ↔ x ∈ l ∨ x ∈ m := by
  induction m with
  | nil => intro l x; simp
  | cons s m ih => intro l x; rw [List.foldl_cons, ih, mem_addS, List.mem_cons, or_assoc]

theorem leaf_of_atom {p : Tree} (hg : p.good = true) (h : p.atom.data.toList ≠ []) : p = .node p.atom [] := by
  obtain ⟨a, ps⟩ := p
  rw [(Tree.good_parts hg).2.2 h]; rfl

theorem order_facts (n : Nat) : ∀ t : Tree, t.sz ≤ n → t.good = true → t.isType = true → t.order < t.size ∧ (t.order = 0 ↔ (⟨#[62]⟩ : ByteArray) ∉ t.atoms) := by
  induction n with
  | zero => intro t h; cases t; simp [Tree.sz] at h
  | succ n ih =>
    intro t hn hg ht
    obtain ⟨a, ps⟩ := t
    rcases isType_cases ht with rfl | ⟨p, x, y, rfl, hx, hy, hp⟩
    · refine ⟨by simp [Tree.order, Tree.size], ?_⟩
      simp only [Tree.isType, decide_eq_true_eq] at ht
      constructor
      · intro _ h
        simp [Tree.atoms] at h
        rw [← h] at ht
        exact absurd ht (by decide)
      · intro _; simp [Tree.order]
    · simp only [Tree.sz, Tree.szL] at hn
      have hgl := (Tree.good_parts hg).1
      simp only [Tree.goodL, Bool.and_eq_true, and_true] at hgl
      obtain ⟨x1, x2⟩ := ih x (by omega) hgl.2.1 hx
      obtain ⟨y1, y2⟩ := ih y (by omega) hgl.2.2 hy
      have hpl := leaf_of_atom hgl.1 (by rcases hp with h | h <;> rw [h] <;> simp)
      have hps : p.size = 1 := by rw [hpl]; simp [Tree.size]
      have hpa : p.atoms = [p.atom] := by rw [hpl]; simp [Tree.atoms, Tree.atom]
      have hsz : (Tree.node a [p, x, y]).size = 1 + x.size + y.size := by simp [Tree.size, Tree.sizeL, hps]; omega
      have hat : (Tree.node a [p, x, y]).atoms = p.atom :: (x.atoms ++ y.atoms) := by simp [Tree.atoms, Tree.atomsL, hpa]
      rw [hsz, hat]
      rcases hp with hp | hp
      · have ho : (Tree.node a [p, x, y]).order = max (x.order + 1) y.order := by simp [Tree.order, hp]
        have hpe : p.atom = ⟨#[62]⟩ := by rw [bts_eq hp]; rfl
        rw [ho]
        refine ⟨by omega, ?_⟩
        rw [hpe]
        simp
      · have ho : (Tree.node a [p, x, y]).order = max x.order y.order := by simp [Tree.order, hp]
        have hpe : p.atom ≠ ⟨#[62]⟩ := by intro e; rw [e] at hp; exact absurd hp (by decide)
        rw [ho]
        refine ⟨by omega, ?_⟩
        simp only [List.mem_cons, List.mem_append, not_or]
        constructor
        · intro h; exact ⟨fun e => hpe e.symm, x2.1 (by omega), y2.1 (by omega)⟩
        · rintro ⟨-, h1, h2⟩; have := x2.2 h1; have := y2.2 h2; omega

theorem ptype_facts {s : List UInt8} {t : Tree} (h : ptype s = some t) : t.good = true ∧ t.isType = true ∧ t.size ≤ 16 ∧ parse s = some t ∧ s = t.text := by
  obtain ⟨h1, h2⟩ := ptype_some.1 h
  unfold Tree.typed at h2
  simp only [Bool.and_eq_true, decide_eq_true_eq] at h2
  exact ⟨parse_good h1, h2.1, h2.2, h1, ((parse_iff _ _).1 h1).1⟩

theorem atomsOf_parse {s : List UInt8} {t : Tree} (h : parse s = some t) : atomsOf s = some (t.atoms.foldl addS []) := by unfold atomsOf; rw [h]; rfl

/-- A type is the type of numbers, of functions or of pairs. -/
theorem type_kinds {s : List UInt8} {t : Tree} (h : ptype s = some t) : (s = [105] ∧ (sidesOf s [62]).isSome = false ∧ (sidesOf s [42]).isSome = false) ∨ (s ≠ [105] ∧ (sidesOf s [62]).isSome = !(sidesOf s [42]).isSome) := by
  obtain ⟨hg, ht, hz, hp, he⟩ := ptype_facts h
  have e1 : ∀ z, sidesOf s z = sideT t z := fun z => by unfold sidesOf; rw [h]; rfl
  rw [e1, e1]
  obtain ⟨a, ps⟩ := t
  rcases isType_cases ht with rfl | ⟨p, x, y, rfl, hx, hy, hpp⟩
  · left
    simp only [Tree.isType, decide_eq_true_eq] at ht
    exact ⟨by rw [he, text_leaf, ht], rfl, rfl⟩
  · right
    refine ⟨?_, ?_⟩
    · rw [he]; simp [Tree.text]
    · unfold sideT
      rcases hpp with h1 | h1 <;> simp [h1]
end Go.Proofs.Ytoihkjnfklogpaa
