/- Replacing atoms of a form by a form: of the program (with its two functions that are handed on) and of the reference. -/
import Derived.Test.YtginaebioijcpaaMake
import Derived.Test.YtginaebioijcpaaRow2
import Derived.Test.YtginaebioijcpaaPlainS
import Derived.Deep.RegionHeld3
import Derived.Deep.RegionWith
import Derived.Deep.RegionLaw
namespace Go.Proofs.Ytginaebioijcpaa
open Go.RowKit

/-- A text is an atom, however long. -/
def isAtomL (l : List UInt8) : Bool := decide (l ≠ []) && l.all atomB

set_option maxRecDepth 100000 in
set_option maxHeartbeats 400000 in
theorem isAtomS_any (s : ByteArray) (w : World) (hs : s.size ≤ 1000000000) :
    Calls Try.prog 67 #[.string s] w fun e w' => e = .returned (.bool (isAtomL s.data.toList)) ∧ w = w' := by
  go_enter Try.func67, Try.ntmps67
  go_wp2
  go_loop [6] (fun i => ∃ k : Nat, k ≤ s.size ∧ i = .int .i64 k ∧ (∀ j, j < k → (s.data.toList[j]?).any atomB = true)) (fun i => s.size - (intOf i).toNat)
  case atStart => exact ⟨0, Nat.zero_le _, rfl, fun j hj => by omega⟩
  case round =>
    obtain ⟨k, hk, rfl, hall⟩ := hrel
    have HA := Lib.hid hall
    clear hall
    by_cases hlt : k < s.size
    · have hb : s.data.toList[k]? = some s[k] := by rw [List.getElem?_eq_getElem (by simpa using hlt)]; rfl
      have HB := Lib.hid hb
      clear hb
      have HC := Lib.hid (fun W => isAtomByte_any s[k] W)
      by_cases hat : atomB s[k] = true
      · rw [hat] at HC
        have HD := Lib.hid hat
        clear hat
        go_wp2_with fail
        refine (HC.out _).mono ?_
        rintro e w' ⟨rfl, rfl⟩
        go_wp2
        go_round
        case rel => exact ⟨k + 1, by omega, by go_num, fun j hj => by
          by_cases h : j = k
          · subst h; rw [HB.out]; simpa using HD.out
          · exact HA.out j (by omega)⟩
        case measure => simp [intOf]; omega
      · have hat' : atomB s[k] = false := by simpa using hat
        have HF : Hid (isAtomL s.data.toList = false) := by show _ = _; unfold isAtomL; rw [all_no HB.out hat']; simp
        rw [hat'] at HC
        clear hat hat'
        go_wp2_with fail
        refine (HC.out _).mono ?_
        rintro e w' ⟨rfl, rfl⟩
        go_wp2
        go_ret
        exact ⟨ret_bool HF.out.symm, rfl⟩
    · have hf : s.data.toList.all atomB = true := all_of fun j hj => HA.out j (by rw [← Lib.size_eq] at hj; omega)
      by_cases he : s.data.toList = []
      · have hemp : (s.toList == []) = true := by rw [Lib.toList_data, he]; rfl
        have hemp2 : s.toList.isEmpty = true := by rw [Lib.toList_data, he]; rfl
        have HF : Hid (isAtomL s.data.toList = false) := by show _ = _; unfold isAtomL; rw [he]; rfl
        clear hf he
        go_wp2
        go_ret
        exact ⟨ret_bool HF.out.symm, rfl⟩
      · have hemp : (s.toList == []) = false := by rw [Lib.toList_data]; simpa using he
        have hemp2 : s.toList.isEmpty = false := by rw [Lib.toList_data]; simpa using he
        have HF : Hid (isAtomL s.data.toList = true) := by show _ = _; unfold isAtomL; rw [hf]; simpa using he
        clear hf he
        go_wp2
        go_ret
        exact ⟨ret_bool HF.out.symm, rfl⟩

/-- What counting keeps: the atom's box, the count's. -/
def CntI (B bt : Nat) (atom : ByteArray) (l : List ByteArray) (w : World) : Prop :=
  bt < B ∧ B < w.heap.size ∧ w.heap[bt]? = some (.cells #[.string atom] 9 (0, 0)) ∧ w.heap[B]? = some (.cells #[.int .i64 ((l.countP (fun a => a.toList == atom.toList) : Nat) : Int)] 3 (0, 0))

theorem CntI.below {B bt : Nat} {atom : ByteArray} {l : List ByteArray} {w w' : World} (h : CntI B bt atom l w) (hb : Below w.heap.size w w') : CntI B bt atom l w' := by
  obtain ⟨h1, h2, h3, h4⟩ := h
  exact ⟨h1, Nat.lt_of_lt_of_le h2 hb.size, (hb.block _ (by omega)).trans h3, (hb.block _ h2).trans h4⟩

theorem formReplace1_any (B bt : Nat) (atom : ByteArray) (l : List ByteArray) (s : ByteArray) (w : World) (h : CntI B bt atom l w) (hl : l.length ≤ 1000000) :
    Calls Try.prog 68 (#[.string s] ++ #[.pointer (some ⟨bt, 0, none⟩), .pointer (some ⟨B, 0, none⟩)]) w (ToldR (CntI B bt atom) B (l ++ [s]) w) := by
  have h0 := h
  obtain ⟨h1, h2, h3, h4⟩ := h
  obtain ⟨c1, c2⟩ := one_cell h3
  obtain ⟨c3, c4⟩ := one_cell h4
  have hcn : l.countP (fun a => a.toList == atom.toList) ≤ 1000000 := Nat.le_trans List.countP_le_length hl
  have HN : Hid ((l ++ [s]).countP (fun a => a.toList == atom.toList) = l.countP (fun a => a.toList == atom.toList) + (if s.toList == atom.toList then 1 else 0)) := by
    show _ = _; rw [List.countP_append]; simp [List.countP_cons]
  have H0 := Lib.hid h0
  have H3 := Lib.hid h3
  have H4 := Lib.hid h4
  generalize l.countP (fun a => a.toList == atom.toList) = n at *
  by_cases he : (s.toList == atom.toList) = true
  · rw [he] at HN
    simp only [if_true] at HN
    clear h0 h3 h4
    rw [show (#[Value.string s] ++ #[.pointer (some ⟨bt, 0, none⟩), .pointer (some ⟨B, 0, none⟩)]) = #[Value.string s, .pointer (some ⟨bt, 0, none⟩), .pointer (some ⟨B, 0, none⟩)] from rfl]
    go_enter Try.func68, Try.ntmps68
    go_wp2
    go_end0
    refine ⟨rfl, ⟨h1, by simpa [World.setCell] using h2, ?_, ?_⟩, (Below.refl B w).setCell (by simp) _, ?_⟩
    · rw [Below.heap_setCell _ _ _ _ (by simp; omega)]; exact H3.out
    · rw [HN.out]
      refine (heap_setCell_same w B 0 _ _ _ H4.out).trans ?_
      simp
    · intro k c fz hk
      rw [Below.heap_setCell _ _ _ _ (fun e => by simp at e; subst e; rw [H4.out] at hk; simp at hk)]
      exact hk
  · have he' : (s.toList == atom.toList) = false := by simpa using he
    rw [he'] at HN
    simp only [Bool.false_eq_true, if_false, Nat.add_zero] at HN
    clear h0 h3 h4 he
    rw [show (#[Value.string s] ++ #[.pointer (some ⟨bt, 0, none⟩), .pointer (some ⟨B, 0, none⟩)]) = #[Value.string s, .pointer (some ⟨bt, 0, none⟩), .pointer (some ⟨B, 0, none⟩)] from rfl]
    go_enter Try.func68, Try.ntmps68
    go_wp2
    go_end0
    exact ⟨rfl, ⟨h1, h2, H3.out, by rw [HN.out]; exact H4.out⟩, Below.refl _ _, FormsKept.below (Below.refl _ _)⟩

/-- What the function that is handed on for replacing keeps: the atom's box, the box of the form that is put. -/
def PutI (B bt bg : Nat) (atom : ByteArray) (C : Nat → Prop) (g : Tree) (w : World) : Prop :=
  bt < B ∧ bg < B ∧ (∀ b, C b → b < B) ∧ B ≤ w.heap.size ∧ w.heap[bt]? = some (.cells #[.string atom] 9 (0, 0)) ∧ ∃ a o l c, w.heap[bg]? = some (.cells #[.string a, .slice o l c] 50 (0, 0)) ∧ Rep w C g (.agg #[.string a, .slice o l c])

theorem PutI.below {B bt bg : Nat} {atom : ByteArray} {C : Nat → Prop} {g : Tree} {w w' : World} (h : PutI B bt bg atom C g w) (hb : Below w.heap.size w w') : PutI B bt bg atom C g w' := by
  obtain ⟨h1, h2, h3, h4, h5, a, o, l, c, h6, h7⟩ := h
  exact ⟨h1, h2, h3, Nat.le_trans h4 hb.size, (hb.block _ (by omega)).trans h5, a, o, l, c, (hb.block _ (by omega)).trans h6, Rep.keep (Keeps.below hb) _ _ h7⟩

/-- A form for an atom. -/
def putF (atom : ByteArray) (g : Tree) (a : ByteArray) : Tree := if a.toList == atom.toList then g else .node a []

/-- What putting a form hands back. -/
def PutR (C : Nat → Prop) (t : Tree) (w : World) (e : Ending) (w' : World) : Prop :=
  ∃ a o l c, e = .returned (.agg #[.string a, .slice o l c]) ∧ Rep w' (fun b => C b ∨ w.heap.size ≤ b) t (.agg #[.string a, .slice o l c]) ∧ Below w.heap.size w w'

theorem formReplace2_any (B bt bg : Nat) (atom : ByteArray) (C : Nat → Prop) (g : Tree) (s : ByteArray) (w : World) (h : PutI B bt bg atom C g w) :
    Calls Try.prog 70 (#[.string s] ++ #[.pointer (some ⟨bt, 0, none⟩), .pointer (some ⟨bg, 0, none⟩)]) w (PutR C (putF atom g s) w) := by
  obtain ⟨h1, h2, h3, h4, h5, a, o, l, c, h6, h7⟩ := h
  obtain ⟨c1, c2⟩ := one_cell h5
  obtain ⟨c3, c4⟩ := box_cells h6
  have H7 := Lib.hid h7
  rw [show (#[Value.string s] ++ #[.pointer (some ⟨bt, 0, none⟩), .pointer (some ⟨bg, 0, none⟩)]) = #[Value.string s, .pointer (some ⟨bt, 0, none⟩), .pointer (some ⟨bg, 0, none⟩)] from rfl]
  have hbt : bt < w.heap.size := by omega
  have hbg : bg < w.heap.size := by omega
  by_cases he : (s.toList == atom.toList) = true
  · have HE : Hid (putF atom g s = g) := by show _ = _; unfold putF; rw [if_pos he]
    clear h5 h6 h7
    go_enter Try.func70, Try.ntmps70
    go_wp2
    exact bodyPost_ret (v := .agg #[.string a, .slice o l c]) (by simp [results, Try.results70, go_sem]) rfl ⟨a, o, l, c, rfl, by
      rw [HE.out]; exact Rep.weak (fun b hb => .inl hb) _ _ (Rep.keep ((Keeps.alloc _ _ _)) _ _ H7.out), by first | exact (Below.refl _ _).alloc (Nat.le_refl _) _ | exact (((Below.refl _ _).alloc (Nat.le_refl _) _).setCell (by simp) _).setCell (by simp) _⟩
  · have he' : (s.toList == atom.toList) = false := by simpa using he
    have HE : Hid (putF atom g s = .node s []) := by show _ = _; unfold putF; rw [if_neg he]
    clear h5 h6 h7 he
    go_enter Try.func70, Try.ntmps70
    go_wp2
    exact bodyPost_ret (v := .agg #[.string s, .slice none 0 0]) (by simp [results, Try.results70, go_sem]) rfl ⟨s, none, 0, 0, rfl, by
      rw [HE.out]; exact Rep.leaf _ _ _, by first | exact (Below.refl _ _).alloc (Nat.le_refl _) _ | exact (((Below.refl _ _).alloc (Nat.le_refl _) _).setCell (by simp) _).setCell (by simp) _⟩

theorem substL_ofTake {f : ByteArray → Tree} {ps : List Tree} : (Tree.substL f (ps.take ps.length)) = Tree.substL f ps := by rw [List.take_length]

set_option maxRecDepth 100000 in
set_option maxHeartbeats 1600000 in
theorem replace_any (K : FuncId) (he : ∀ args w, (callFunc K args).run Try.prog w = .ok (.enter K args) w) (caps : Array Value) (J : World → Prop) (C : Nat → Prop) (f : ByteArray → Tree)
    (hJ : ∀ w w', J w → Below w.heap.size w w' → J w') (hC : ∀ w, J w → ∀ b, C b → b < w.heap.size)
    (hK : ∀ s w, J w → Calls Try.prog K (#[.string s] ++ caps) w (PutR C (f s) w)) (n : Nat) :
    ∀ (t : Tree) (A : Nat → Prop) (v : Value) (w : World), t.sz ≤ n → Rep w A t v → J w → t.sz ≤ 1000000000 →
    Calls Try.prog 69 #[v, .func (Fn.func K) #[] caps] w (PutR C (t.subst f) w) := by
  induction n with
  | zero => intro t A v w h; cases t; simp [Tree.sz] at h
  | succ n ih =>
    intro t A v w hn hr hj hb
    obtain ⟨s, ps⟩ := t
    simp only [Rep] at hr
    obtain ⟨o, ln, c, rfl, hs, hcap⟩ := hr
    obtain rfl := hs.len
    have e : ∀ args w, (callFunc K args).run Try.prog w = .ok (.enter K args) w := he
    have bel0 : Below w.heap.size w ((w.alloc (.cells #[.string s, .slice o ps.length c] 50)).alloc (.cells #[.string ⟨#[]⟩, .slice none 0 0] 50)) := ((Below.refl _ _).alloc (Nat.le_refl _) _).alloc (by simp) _
    have hx0 : ((w.alloc (.cells #[.string s, .slice o ps.length c] 50)).alloc (.cells #[.string ⟨#[]⟩, .slice none 0 0] 50)).heap[w.heap.size]? = some (.cells #[.string s, .slice o ps.length c] 50 (0, 0)) := (Lib.alloc_old _ _ _ (by simp)).trans (heap_alloc_new _ _)
    have hx1 : ((w.alloc (.cells #[.string s, .slice o ps.length c] 50)).alloc (.cells #[.string ⟨#[]⟩, .slice none 0 0] 50)).heap[w.heap.size + 1]? = some (.cells #[.string ⟨#[]⟩, .slice none 0 0] 50 (0, 0)) := by
      have := heap_alloc_new (w.alloc (.cells #[.string s, .slice o ps.length c] 50)) (.cells #[.string ⟨#[]⟩, .slice none 0 0] 50)
      rwa [World.size_alloc] at this
    have HX0 := Lib.hid hx0
    have HX1 := Lib.hid hx1
    clear hx0 hx1
    by_cases hp : ps = []
    · subst hp
      have ht : (Tree.node s []).subst f = f s := by simp [Tree.subst]
      rw [ht]
      clear ht
      go_enter Try.func69, Try.ntmps69
      go_wp2_with fail
      refine (isAtom_any _ _ _ _ _).mono ?_
      rintro e w1 ⟨rfl, hb1⟩
      have hz1 := hb1.size
      simp only [World.size_alloc] at hz1
      obtain ⟨c0, c1⟩ := box_cells ((hb1.block w.heap.size (by simp; omega)).trans HX0.out)
      have hw1 : Below w.heap.size w w1 := bel0.trans (hb1.mono (by simp; omega))
      have hr1 := (hb1.block (w.heap.size + 1) (by simp)).trans HX1.out
      have HR1 := Lib.hid hr1
      have HC := Lib.hid (hK s w1 (hJ _ _ hj hw1))
      clear hK hb1 hr1 ih
      go_wp2_with (go_at_fn K; refine HC.out.mono ?_; rintro e w2 ⟨a', o', l', c', rfl, hr2, hb2⟩; have hz2 := hb2.size; have hr3 := (hb2.block (w.heap.size + 1) (by omega)).trans HR1.out; obtain ⟨d0, d1⟩ := box_cells hr3; have f0 : w2.frozen? ⟨w.heap.size + 1, 0, none⟩ = false := Lib.frozen_of_heap hr3 0; have f1 : w2.frozen? ⟨w.heap.size + 1, 1, none⟩ = false := Lib.frozen_of_heap hr3 1)
      have hbel : Below w.heap.size w w2 := hw1.trans (hb2.mono hw1.size)
      have hCw := hC w hj
      exact bodyPost_ret (v := .agg #[.string a', .slice o' l' c']) (by simp [results, Try.results69, go_sem, d0, d1]) rfl ⟨a', o', l', c', rfl, by
        refine Rep.weak (fun b hb => ?_) _ _ (Rep.keep (((Keeps.refl _ _).setCell (fun b hb => ?_) _).setCell (fun b hb => ?_) _) _ _ hr2)
        · rcases hb with hb | hb
          · exact .inl hb
          · right; omega
        · rcases hb with hb | hb
          · have := hCw b hb; simp; omega
          · simp; omega
        · rcases hb with hb | hb
          · have := hCw b hb; simp; omega
          · simp; omega, (hbel.setCell (by simp) _).setCell (by simp) _⟩
    · have hlen : ((ps.length : Int) == 0) = false := by simpa using hp
      have ht : (Tree.node s ps).subst f = .node ⟨#[]⟩ (Tree.substL f ps) := by simp [Tree.subst, hp]
      rw [ht]
      obtain ⟨i0, hi, hz0, hz1, hz2⟩ := info_parts info50
      have hl2 := Tree.length_le_szL ps
      simp only [Tree.sz] at hb hn
      clear ht hp
      go_enter Try.func69, Try.ntmps69
      go_wp2_with fail
      refine (isAtom_any _ _ _ _ _).mono ?_
      rintro e w1 ⟨rfl, hb1⟩
      have hsz1 := hb1.size
      simp only [World.size_alloc] at hsz1
      obtain ⟨c0, c1⟩ := box_cells ((hb1.block w.heap.size (by simp; omega)).trans HX0.out)
      have hw1 : Below w.heap.size w w1 := bel0.trans (hb1.mono (by simp; omega))
      have HR1 := Lib.hid ((hb1.block (w.heap.size + 1) (by simp)).trans HX1.out)
      have hCw := hC w hj
      have HCW := Lib.hid hCw
      have hj1 := hJ _ _ hj hw1
      clear hb1 hCw
      have hlH : w.heap.size < w1.heap.size := by omega
      go_wp2
      go_loopw [17] (fun iv wr => ∃ (L : List Tree) (o1 : Option Addr) (c1 : Nat), Hid (L = Tree.substL f (ps.take L.length)) ∧ L.length ≤ ps.length ∧ iv = .int .i64 L.length ∧ Hid (wr.heap[w1.heap.size]? = some (.cells #[.string ⟨#[]⟩, .slice o1 L.length c1] 50 (0, 0))) ∧ Hid (URow wr (w1.heap.size + 1) C 50 (.slice o1 L.length c1) L) ∧ Below w1.heap.size w1 wr) (fun iv _ => ps.length - (intOf iv).toNat)
      case atStart => exact ⟨[], none, 0, rfl, Nat.zero_le _, rfl, heap_alloc_new _ _, URow.nil _ _ _ _, (Below.refl _ _).alloc (Nat.le_refl _) _⟩
      case round =>
        obtain ⟨L, o1, cc, HL, hk, rfl, HO, HU, hbr⟩ := hrel
        have hlO : w1.heap.size < wr.heap.size := (Array.getElem?_eq_some_iff.1 HO.out).1
        have hbw : Below w.heap.size w wr := hw1.trans (hbr.mono hw1.size)
        by_cases hlt : L.length < ps.length
        · obtain ⟨p, hp⟩ : ∃ p, ps[L.length]? = some p := ⟨ps[L.length], by simp [hlt]⟩
          obtain ⟨b, off, o', n', c', rfl, -, hx, hy, hrp⟩ := (RepS.keep (Keeps.below hbw) _ _ _ hs).partAt hp
          have HT : Hid (Tree.substL f (ps.take (L.length + 1)) = L ++ [p.subst f]) := by show _ = _; rw [Tree.substL_take f ps L.length p hp, ← HL.out]
          have h3 : p.sz ≤ n := by have := Tree.sz_part ps L.length p hp; omega
          have h4 : p.sz ≤ 1000000000 := by have := Tree.sz_part ps L.length p hp; omega
          have bel1 : Below wr.heap.size wr (wr.alloc (.cells #[.string p.atom, .slice o' n' c'] 50)) := (Below.refl _ _).alloc (Nat.le_refl _) _
          have hb1r := hbr.trans (bel1.mono hbr.size)
          have hO1 := (bel1.block w1.heap.size hlO).trans HO.out
          obtain ⟨d0, d1⟩ := box_cells HO.out
          have HO1 := Lib.hid hO1
          have HU1 := Lib.hid (HU.out.alloc (.cells #[.string p.atom, .slice o' n' c'] 50))
          have HC : Hid (∀ W, Below (wr.heap.size + 1) (wr.alloc (.cells #[.string p.atom, .slice o' n' c'] 50)) W → Calls Try.prog 69 #[.agg #[.string p.atom, .slice o' n' c'], .func (Fn.func K) #[] caps] W
              (fun e w' => ∃ a'' o'' l'' c'', e = .returned (.agg #[.string a'', .slice o'' l'' c'']) ∧ Hid (Rep w' (fun b => (C b ∨ w1.heap.size + 1 ≤ b) ∧ b < w'.heap.size ∧ (Value.slice o1 L.length cc).ownBlock ≠ some b) (p.subst f) (.agg #[.string a'', .slice o'' l'' c''])) ∧ Hid (URow w' (w1.heap.size + 1) C 50 (.slice o1 L.length cc) L) ∧
                Hid (w'.heap[w1.heap.size]? = some (.cells #[.string ⟨#[]⟩, .slice o1 L.length cc] 50 (0, 0))) ∧ Below w1.heap.size w1 w' ∧ w1.heap.size < w'.heap.size)) := by
            intro W hW
            have hWs := hW.size
            simp only [World.size_alloc] at hWs
            have hj2 := hJ _ _ hj1 hb1r
            have hj3 := hJ _ _ hj2 (by simpa using hW)
            refine (ih p A (.agg #[.string p.atom, .slice o' n' c']) W h3 (Rep.keep ((Keeps.alloc _ _ _).trans (Keeps.below (by simpa using hW))) _ _ hrp) hj3 h4).mono ?_
            rintro e w' ⟨a'', o'', l'', c'', rfl, hr, hb⟩
            have hbb := hW.trans (hb.mono hWs)
            have hzz := hb.size
            refine ⟨a'', o'', l'', c'', rfl, Rep.weak (fun b hb => ⟨hb.1.imp id (by omega), hb.2, fun e => ?_⟩) _ _ (Rep.bound _ _ hr), HU1.out.below (by simpa using hbb), (hbb.block _ (by omega)).trans HO1.out, hb1r.trans (hbb.mono (by omega)), by omega⟩
            have h5 := HU.out.ownLt e
            rcases hb.1 with h6 | h6
            · have := HCW.out b h6; omega
            · omega
          clear hO1 hp hrp h3 h4 ih hK
          have hLn : L.length ≤ 1000000000 := by omega
          have hwr1 : w1.heap.size < wr.heap.size + 1 := by omega
          go_wp2_with fail
          go_region_law (first
            | (refine step_append_utree (by rfl) (.tmp 22) (.tmp 26) 48 (by rfl) (w1.heap.size + 1) C 50 i0 _ 40 Try.underlying48 hi hz0 hz1 hz2 rfl (by decide) (.slice o1 L.length cc) (by rfl) L (by first | exact HU2.out.alloc _ | exact (HU2.out.alloc _).drew) w2.heap.size 0 1 (by rfl) (p.subst f) (.string a'') (.slice o'' l'' c'') (two_new w2 _ _ _).1 (two_new w2 _ _ _).2 rfl rfl (A := fun b => (C b ∨ w1.heap.size + 1 ≤ b) ∧ b < w2.heap.size ∧ (Value.slice o1 L.length cc).ownBlock ≠ some b) (Rep.keep (Keeps.alloc _ w2 (.cells #[.string a'', .slice o'' l'' c''] 50)) _ _ HR2.out) (fun b hb => ⟨hb.1, by have := hb.2.1; simp; omega, hb.2.2⟩) hLn (by simp; omega) ?_; intro g' cap w3 HU3 hb3; have hO3 := (hb3.block w1.heap.size (by omega)).trans ((Below.heap_alloc w2 (.cells #[.string a'', .slice o'' l'' c''] 50) _ hl2).trans HO2.out); obtain ⟨k0, k1⟩ := box_cells hO3; have k2 := Lib.frozen_of_heap hO3 1; have k3 : w1.heap.size < w3.heap.size := Nat.lt_of_lt_of_le (Nat.lt_succ_of_lt hl2) (by simpa using hb3.size); have HO3 := Lib.hid hO3; clear hO3; have HU3' := Lib.hid HU3; clear HU3)
            | (go_simp; go_wp2_with (go_at_call 69; refine (HC.out _ ?_).mono ?_; (first | exact (Below.refl _ _) | exact (Below.refl _ _).drew); rintro e w2 ⟨a'', o'', l'', c'', rfl, HR2, HU2, HO2, hb2, hl2⟩; obtain ⟨g0, g1⟩ := box_cells HO2.out)))
          all_goals
            have hO4 := heap_setCell_same w3 w1.heap.size 1 _ _ (.slice (some ⟨g', 0, none⟩) (L.length + 1) cap) HO3.out
            have hbr4 : Below w1.heap.size w1 (w3.setCell ⟨w1.heap.size, 1, none⟩ (.slice (some ⟨g', 0, none⟩) (L.length + 1) cap)) := ((hb2.alloc (Nat.le_of_lt (by omega)) (.cells #[.string a'', .slice o'' l'' c''] 50)).trans (hb3.mono (by omega))).setCell (by simp) _
            have hU4 := HU3'.out.setCell (a := ⟨w1.heap.size, 1, none⟩) (by simp) (fun h => by have := HCW.out _ h; simp at this; omega) (.slice (some ⟨g', 0, none⟩) (L.length + 1) cap)
            have HO4 := Lib.hid hO4
            have HU4 := Lib.hid hU4
            have HB4 := Lib.hid hbr4
            have HLT : Hid (L ++ [p.subst f] = Tree.substL f (ps.take (L ++ [p.subst f]).length)) := by show _ = _; rw [List.length_append, List.length_singleton, HT.out]
            clear hO4 hU4 hbr4 HO3 HU3' hb3 HU2 HR2 HC
            go_wp2
            go_roundw
            case rel => exact ⟨L ++ [p.subst f], some ⟨g', 0, none⟩, cap, HLT, by simp; omega, by simp, by simpa using HO4, by simpa using HU4, HB4.out⟩
            case measure => simp [intOf]; omega
        · have HF : Hid (L = Tree.substL f ps) := by
            have := HL.out
            rwa [List.take_of_length_le (by omega)] at this
          have hr3 := (hbr.block (w.heap.size + 1) (by omega)).trans HR1.out
          obtain ⟨d0, d1⟩ := box_cells hr3
          have f0 : wr.frozen? ⟨w.heap.size + 1, 0, none⟩ = false := Lib.frozen_of_heap hr3 0
          have f1 : wr.frozen? ⟨w.heap.size + 1, 1, none⟩ = false := Lib.frozen_of_heap hr3 1
          have hlr : w.heap.size + 1 < wr.heap.size := by omega
          obtain ⟨e0, e1⟩ := box_cells HO.out
          clear hr3
          go_wp2
          exact bodyPost_ret (v := .agg #[.string ⟨#[]⟩, .slice o1 L.length cc]) (by simp [results, Try.results69, go_sem, d0, d1]) rfl ⟨⟨#[]⟩, o1, L.length, cc, rfl, by
            rw [← HF.out]
            refine Rep.weak (fun b hb => ?_) _ _ (Rep.keep (((Keeps.refl _ _).setCell (fun b hb => ?_) _).setCell (fun b hb => ?_) _) _ _ (HU.out.rep ⟨#[]⟩))
            · rcases hb with hb | hb
              · exact .inl hb
              · right; omega
            · rcases hb with hb | hb
              · have := HCW.out b hb; simp; omega
              · simp; omega
            · rcases hb with hb | hb
              · have := HCW.out b hb; simp; omega
              · simp; omega, (hbw.setCell (by simp) _).setCell (by simp) _⟩
end Go.Proofs.Ytginaebioijcpaa
