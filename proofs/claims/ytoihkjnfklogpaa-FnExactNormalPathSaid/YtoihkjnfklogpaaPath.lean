/- The names that are bound at the beginning of a normal expression, of the program and of the reference. -/
import Derived.Test.YtoihkjnfklogpaaLets
import Derived.Test.YtoihkjnfklogpaaPlainI
import Derived.OwnWalk
namespace Go.Proofs.Ytoihkjnfklogpaa
open Go.RowKit

def pathOf (s : List UInt8) : Option (List ByteArray × ByteArray) := (pnorm s).map fun t => (t.pathN, t.pathE.txt)
def PathR (x : Option (List ByteArray × ByteArray)) (w : World) (e : Ending) (w' : World) : Prop :=
  ∃ v, e = .returned (.tuple #[v, .string ((x.map (·.2)).getD ⟨#[]⟩), .bool x.isSome]) ∧ SRow w' w.heap.size v ((x.map (·.1)).getD []) ∧ Below w.heap.size w w'

theorem pathOf_len (s : List UInt8) : (((pathOf s).map (·.1)).getD []).length ≤ 1000000 := by
  unfold pathOf
  cases h : pnorm s with
  | none => simp
  | some t =>
    have h1 := pathN_len _ t (Nat.le_refl _)
    have h2 := (pexpr_facts (pnorm_some.1 h).1).2.1
    simp only [Option.map_some, Option.getD_some]
    omega
theorem path_cells {W : World} {g : Nat} {ty : TypeId} {x y : Value} (h : W.heap[g]? = some (.cells #[x, y] ty (0, 0))) (a b : Value) : ((W.setCell ⟨g, 0, none⟩ a).setCell ⟨g, 1, none⟩ b).heap[g]? = some (.cells #[a, b] ty (0, 0)) :=
  Lib.heap_setCell_same (i := 1) (Lib.heap_setCell_same (i := 0) h a) b

set_option maxRecDepth 100000 in
set_option maxHeartbeats 3200000 in
theorem sNormalPath_any (s : ByteArray) (w : World) (hs : s.size ≤ 1000000000) : Calls Try.prog 9 #[.string s] w (PathR (pathOf s.data.toList) w) := by
  have HC := Lib.hid (fun W => l2Parse_any s W hs)
  have HI := Lib.hid (fun W => sNormalIs_any s W hs)
  rw [← pnorm_isSome] at HI
  have hE := SRow.empty w (base := w.heap.size) (Nat.le_refl _)
  have HE0 := Lib.hid hE
  have hb0 : Below w.heap.size w (w.alloc (.cells #[] 9)) := (Below.refl _ _).alloc (Nat.le_refl _) _
  clear hE
  go_enter Try.func9, Try.ntmps9
  cases hp : pnorm s.data.toList with
  | none =>
    rw [hp] at HI
    have HR : Hid (pathOf s.data.toList = none) := by show _ = _; unfold pathOf; rw [hp]; rfl
    clear hp HC
    go_wp2_with fail
    refine (HI.out _).mono ?_
    rintro e w1 ⟨rfl, hb1⟩
    have HROW := Lib.hid (HE0.out.below hb1)
    have HB1 := Lib.hid (hb0.trans (hb1.mono hb0.size))
    clear hb1
    go_wp2
    go_ret3
    exact ⟨.slice (some ⟨w.heap.size, 0, none⟩) 0 0, by rw [HR.out]; rfl, by rw [HR.out]; exact HROW.out, HB1.out⟩
  | some t' =>
    rw [hp] at HI
    obtain ⟨hp1, hnm⟩ := pnorm_some.1 hp
    rw [hp1] at HC
    obtain ⟨hg, hsz, htx, he, -⟩ := pexpr_facts hp1
    have HR : Hid (pathOf s.data.toList = some (t'.pathN, t'.pathE.txt)) := by show _ = _; unfold pathOf; rw [hp]; rfl
    clear hp hp1 hnm
    go_wp2_with fail
    refine (HI.out _).mono ?_
    rintro e w1 ⟨rfl, hb1⟩
    have hB1 := hb0.trans (hb1.mono hb0.size)
    have hs1 := hb1.size
    simp only [World.size_alloc] at hs1
    go_wp2_with fail
    refine (HC.out _).mono ?_
    rintro e w2 ⟨a, o, l, c, ok, t, rfl, hb2, hr, hok, ht⟩
    have hok' : ok = true := hok
    subst hok'
    obtain rfl := ht _ rfl
    have hs2 := hb2.size
    have hB2 := hB1.trans (hb2.mono hB1.size)
    have HROW0 : Hid (SRow (w2.alloc (.cells #[.string a, .slice o l c] 40)) w.heap.size (.slice (some ⟨w.heap.size, 0, none⟩) 0 0) []) := ((HE0.out.below hb1).below hb2).alloc _
    clear hok ht hb1 hb2 HE0
    have hrb := Rep.bound _ _ hr
    obtain ⟨PN, hPN⟩ : ∃ x, t.pathN = x := ⟨_, rfl⟩
    obtain ⟨PE, hPE⟩ : ∃ x, t.pathE = x := ⟨_, rfl⟩
    rw [hPN, hPE] at HR
    have HSTART : Hid (t.sz ≤ 24000 ∧ t.text.length ≤ 12000 ∧ t.good = true ∧ t.isExpr = true ∧ [] ++ t.pathN = PN ∧ t.pathE = PE ∧ ([] : List ByteArray).length + t.sz ≤ 24000) := ⟨hsz, htx, hg, he, hPN, hPE, by simpa using hsz⟩
    have HHD : Hid (∀ (u : Tree) (A : Nat → Prop) v W, Rep W A u v → u.good = true → u.sz ≤ 24000 → Calls Try.prog 29 #[v] W fun e W' => e = .returned (.string u.hd) ∧ Below W.heap.size W W') := fun u A v W hr hg hz => l4Head_any u A v W hr hg
    have HTXT : Hid (∀ (u : Tree) (A : Nat → Prop) v W, Rep W A u v → u.good = true → u.sz ≤ 24000 → u.text.length ≤ 12000 → Calls Try.prog 30 #[v] W fun e W' => e = .returned (.string u.txt) ∧ Below W.heap.size W W') := fun u A v W hr hg hz hx => l1Text_any _ u A v W (Nat.le_refl _) hr (by omega) (by omega) hg
    have HRB := Lib.hid hrb
    have hx0 := heap_alloc_new w2 (.cells #[.string a, .slice o l c] 40)
    have HX0 := Lib.hid hx0
    have HBW0 := Lib.hid (hB2.alloc hB2.size (.cells #[.string a, .slice o l c] 40))
    have HKP0 : Hid (∀ k, k ≠ w.heap.size → k < w2.heap.size → (w2.alloc (.cells #[.string a, .slice o l c] 40)).heap[k]? = w2.heap[k]?) := fun k _ hk => Below.heap_alloc _ _ _ hk
    clear hr hrb hx0 hg hsz htx he hB2 hPN hPE
    go_wp2_with fail
    go_loopg [5] t.sz (fun g lu wr => ∃ (u : Tree) (a' : ByteArray) (o' : Option Addr) (l' c' : Nat) (names : List ByteArray) (lv : Value), u.sz ≤ g ∧ lv = lu ∧ Hid (u.sz ≤ 24000 ∧ u.text.length ≤ 12000 ∧ u.good = true ∧ u.isExpr = true ∧ names ++ u.pathN = PN ∧ u.pathE = PE ∧ names.length + u.sz ≤ 24000) ∧
        Hid (wr.heap[w2.heap.size]? = some (.cells #[.string a', .slice o' l' c'] 40 (0, 0))) ∧ Hid (Rep w2 (fun z => w1.heap.size ≤ z ∧ z < w2.heap.size) u (.agg #[.string a', .slice o' l' c'])) ∧ Hid (SRow wr w.heap.size lv names) ∧ Hid (∀ k, lv.ownBlock = some k → k = w.heap.size ∨ w2.heap.size < k) ∧ Hid (∀ k, k ≠ w.heap.size → k < w2.heap.size → wr.heap[k]? = w2.heap[k]?) ∧ w2.heap.size < wr.heap.size ∧ Hid (Below w.heap.size w wr))
    case atStart => exact ⟨t, a, o, l, c, [], _, Nat.le_refl _, rfl, HSTART, HX0, HRB, HROW0, fun k hk => by simp [Value.ownBlock] at hk; exact .inl hk.symm, HKP0, (by simp), HBW0⟩
    case round =>
      obtain ⟨u, a', o', l', c', names, lv, hug, rfl, HU, HX, HRu, HRW, HOW, HKP, hlw, HBW⟩ := hrel
      obtain ⟨x1, y1⟩ := box_cells HX.out
      have HKA : Hid (∀ W : World, (∀ k, k ≠ w.heap.size → k < w2.heap.size → W.heap[k]? = w2.heap[k]?) → Keeps (fun z => w1.heap.size ≤ z ∧ z < w2.heap.size) w2 W) := fun W h b o v hb hc => (World.cell?_of_block (a := ⟨b, o, none⟩) (h b (by omega) hb.2)).trans hc
      have hrw := Rep.keep (HKA.out wr HKP.out) _ _ HRu.out
      have HHC := Lib.hid (HHD.out u _ _ wr hrw HU.out.2.2.1 HU.out.1)
      clear hrw
      go_wp2_with fail
      refine HHC.out.mono ?_
      rintro e w3 ⟨rfl, hb3⟩
      have hs3 := hb3.size
      have HX3 := Lib.hid ((hb3.block _ hlw).trans HX.out)
      have HRW3 := Lib.hid (HRW.out.below hb3)
      have HKP3 : Hid (∀ k, k ≠ w.heap.size → k < w2.heap.size → w3.heap[k]? = w2.heap[k]?) := fun k h1 h2 => (hb3.block k (by omega)).trans (HKP.out k h1 h2)
      have HBW3 := Lib.hid (HBW.out.trans (hb3.mono HBW.out.size))
      obtain ⟨x3, y3⟩ := box_cells HX3.out
      have hl3 : w2.heap.size < w3.heap.size := by omega
      clear hb3 HHC
      by_cases hlet : u.hd.data.toList = [108, 101, 116]
      · have e7 : (u.hd.toList == [108, 101, 116]) = true := by rw [Lib.toList_data, hlet]; rfl
        obtain ⟨hub, hut, hug2, hue, hua, hupe, huln⟩ := HU.out
        have hR1 := HRu.out
        obtain ⟨a'', qs⟩ := u
        cases qs with
        | nil => simp [Tree.hd] at hlet
        | cons p ps' =>
          have hhd : p.atom.data.toList = [108, 101, 116] := hlet
          obtain ⟨hk, hk4⟩ : kidAt p.atom.data.toList (ps'.length + 1) = 2 ∧ ps'.length + 1 = 4 := by
            rcases expr_heads hue with ⟨-, h2, h3⟩ | ⟨h1, -⟩ | ⟨h1, -⟩ | ⟨h1, -⟩
            · exact ⟨h3, h2⟩
            · rw [hhd] at h1; simp at h1
            · rw [hhd] at h1; simp at h1
            · exact absurd hhd h1
          obtain ⟨hgl, -⟩ := Tree.good_parts hug2
          obtain ⟨k, hkk, -, -, -, -, hkx⟩ := expr_cases hue
          have hget : ∀ i, i < 4 → ∃ q, (p :: ps')[i]? = some q := fun i hi => ⟨(p :: ps')[i]'(by simp only [List.length_cons]; omega), by simp⟩
          obtain ⟨q1, hq1⟩ := hget 1 (by omega)
          obtain ⟨q3, hq3⟩ := hget 3 (by omega)
          have hq3s := Tree.part_sz (t := .node a'' (p :: ps')) (List.mem_of_getElem? hq3)
          have hq3t := text_part_le (a := a'') (List.mem_of_getElem? hq3)
          have hpn : (Tree.node a'' (p :: ps')).pathN = q1.atom :: q3.pathN := by
            rw [pathN_let hlet]; show (nth (p :: ps') 1).atom :: Tree.pathN (nth (p :: ps') 3) = _; rw [nth_of hq1, nth_of hq3]
          have hpe : (Tree.node a'' (p :: ps')).pathE = q3.pathE := by
            rw [pathE_let hlet]; show Tree.pathE (nth (p :: ps') 3) = _; rw [nth_of hq3]
          have HU3 : Hid (q3.sz ≤ 24000 ∧ q3.text.length ≤ 12000 ∧ q3.good = true ∧ q3.isExpr = true ∧ (names ++ [q1.atom]) ++ q3.pathN = PN ∧ q3.pathE = PE ∧ (names ++ [q1.atom]).length + q3.sz ≤ 24000) :=
            ⟨by omega, by omega, Tree.good_part _ _ _ hq3 hgl, hkx 3 q3 (by omega) hq3, by rw [← hua, hpn]; simp, by rw [← hupe, hpe], by simp only [List.length_append, List.length_singleton]; omega⟩
          simp only [Rep] at hR1
          obtain ⟨o'', l'', c'', heq, hss, hcap'⟩ := hR1
          simp at heq
          obtain ⟨rfl, rfl, rfl, rfl⟩ := heq
          obtain rfl := hss.len
          obtain ⟨b, off, rfl, hA, hc⟩ := hss.uncons
          obtain ⟨o1, n1, c1, ca1, cb1, -⟩ := (RepC.keep (HKA.out w3 HKP3.out) hA _ _ hc).nth 1 (p := q1) (k := off + 2) hq1 rfl
          obtain ⟨o3, n3, c3, ca3', cb3', r3⟩ := hc.nth 3 (p := q3) (k := off + 6) hq3 rfl
          have HR3 := Lib.hid r3
          have HCC : Hid (∀ W : World, (∀ k, k ≠ w.heap.size → k < w2.heap.size → W.heap[k]? = w2.heap[k]?) → W.cell? ⟨b, off + 6, none⟩ = some (.string q3.atom) ∧ W.cell? ⟨b, off + 6 + 1, none⟩ = some (.slice o3 n3 c3)) := fun W h => ⟨(World.cell?_of_block (a := ⟨b, off + 6, none⟩) (h b (by have := hA.1; omega) hA.2)).trans ca3', (World.cell?_of_block (a := ⟨b, off + 6 + 1, none⟩) (h b (by have := hA.1; omega) hA.2)).trans cb3'⟩
          have hlq : 4 ≤ (p :: ps').length := by simp only [List.length_cons]; omega
          have hnl : names.length ≤ 1000000000 := by omega
          have HQ3S : Hid (q3.sz < (Tree.node a' (p :: ps')).sz) := hq3s
          have HUG := Lib.hid hug
          obtain ⟨lo, lc', rfl, -⟩ := HRW3.out.forms
          have hbs := HBW3.out.size
          have HGR : Hid (∀ (x : ByteArray) (W : World), (w3.alloc (.cells #[.string x] 9)).grownBy W (Value.slice lo names.length lc').ownBlock → (∀ k, k ≠ w.heap.size → k < w2.heap.size → W.heap[k]? = w2.heap[k]?) ∧ W.heap[w2.heap.size]? = some (.cells #[.string a', .slice (some ⟨b, off, none⟩) (p :: ps').length c'] 40 (0, 0)) ∧ w2.heap.size < W.heap.size) := by
            intro x W hg
            refine ⟨fun k h1 h2 => (hg.block k (by simp; omega) (fun e => by have h := HOW.out k e.symm; omega)).trans ((Below.heap_alloc _ _ _ (by omega)).trans (HKP3.out k h1 h2)), (hg.block _ (by simp; omega) (fun e => by have h := HOW.out _ e.symm; omega)).trans ((Below.heap_alloc _ _ _ hl3).trans HX3.out), ?_⟩
            have := hg.size
            simp at this
            omega
          generalize (p :: ps').length = L at *
          clear hc hss hkx hget hq1 hq3 hgl hk hk4 hkk hhd hlet hub hut hug2 hue hua hupe huln HU HX HRu hq3s hq3t hpn hpe ca3' cb3' r3 hug
          go_wp2_with (at_builtin; refine wpList_append_str rfl (.tmp 21) (.tmp 27) rfl w.heap.size _ rfl names _ 1 rfl q1.atom (by simp) HRW3.out hnl hbs ?_; intro g2 cap2 w4 hrow4 hg4 hown4; obtain ⟨hkp4, hx4, hl4⟩ := HGR.out _ _ hg4; have HKP4 := Lib.hid hkp4; have HX4 := Lib.hid hx4; obtain ⟨x4, y4⟩ := box_cells hx4; have f4 := Lib.frozen_of_heap hx4 0; have f5 := Lib.frozen_of_heap hx4 1; obtain ⟨d3, d4⟩ := HCC.out _ hkp4; clear hkp4 hx4)
          go_roundg q3.sz
          case measure => have h1 := HQ3S.out; have h2 := HUG.out; omega
          case rel =>
            have hrow5 := (hrow4.setCell (a := ⟨w2.heap.size, 0, none⟩) (fun e => by
              simp only [Value.ownBlock, Option.some.injEq] at e
              rcases hown4 with h | h
              · have := HOW.out _ h; omega
              · omega) (.string q3.atom)).setCell (a := ⟨w2.heap.size, 1, none⟩) (fun e => by
              simp only [Value.ownBlock, Option.some.injEq] at e
              rcases hown4 with h | h
              · have := HOW.out _ h; omega
              · omega) (.slice o3 n3 c3)
            have hrow6 : SRow ((w4.setCell ⟨w2.heap.size, 0, none⟩ (.string q3.atom)).setCell ⟨w2.heap.size, 1, none⟩ (.slice o3 n3 c3)) w.heap.size (.slice (some ⟨g2, 0, none⟩) (names.length + 1) cap2) (names ++ [q1.atom]) := hrow5
            refine ⟨q3, q3.atom, o3, n3, c3, names ++ [q1.atom], _, Nat.le_refl _, rfl, HU3, Lib.hid (path_cells HX4.out _ _), HR3, Lib.hid hrow6, Lib.hid ?_, Lib.hid ?_, (by simp; omega), Lib.hid ?_⟩
            · intro k hk
              simp only [Value.ownBlock, Option.some.injEq] at hk
              subst hk
              rcases hown4 with h | h
              · exact HOW.out _ h
              · right; omega
            · intro k h1 h2
              rw [Below.heap_setCell _ _ _ _ (by simp; omega), Below.heap_setCell _ _ _ _ (by simp; omega)]
              exact HKP4.out k h1 h2
            · exact (((HBW3.out.alloc HBW3.out.size _).grown hg4 (by simp; omega) (fun k hk => (HRW3.out.lt k hk).1)).setCell (by simp; omega) _).setCell (by simp; omega) _
      · have e7 : (u.hd.toList == [108, 101, 116]) = false := by rw [Lib.toList_data]; simpa using hlet
        have HPN : Hid (PN = names) := by show _ = _; rw [← HU.out.2.2.2.2.1, pathN_rest hlet, List.append_nil]
        have HPE : Hid (PE = u) := by show _ = _; rw [← HU.out.2.2.2.2.2.1, pathE_rest hlet]
        have hrw3 := Rep.keep (HKA.out w3 HKP3.out) _ _ HRu.out
        have HTC := Lib.hid (HTXT.out u _ _ w3 hrw3 HU.out.2.2.1 HU.out.1 HU.out.2.1)
        obtain ⟨lo, lc', rfl, -⟩ := HRW3.out.forms
        clear hlet hrw3
        go_wp2_with fail
        refine HTC.out.mono ?_
        rintro e w4 ⟨rfl, hb4⟩
        have HROW4 := Lib.hid (HRW3.out.below hb4)
        have HBW4 := Lib.hid (HBW3.out.trans (hb4.mono HBW3.out.size))
        clear hb4
        go_wp2
        go_ret3
        exact ⟨.slice lo names.length lc', by rw [HR.out, HPE.out]; rfl, by rw [HR.out, HPN.out]; exact HROW4.out, HBW4.out⟩

set_option maxRecDepth 100000 in
set_option maxHeartbeats 3200000 in
theorem normalPath_any (s : ByteArray) (w : World) (hs : s.size ≤ 1000000000) : Calls Try.prog 10 #[.string s] w (PathR (pathOf s.data.toList) w) := by
  have HC := Lib.hid (fun W => readNormal_any s W hs)
  go_enter Try.func10, Try.ntmps10
  go_wp2_with fail
  refine (HC.out _).mono ?_
  rintro e w1 ⟨a, o, l, c, ok, t, rfl, hb1, hr, hok, ht⟩
  have HB := Lib.hid (hb1.alloc hb1.size (.cells #[.string a, .slice o l c] 46))
  cases hp : pnorm s.data.toList with
  | none =>
    rw [hp] at hok
    have hok' : ok = false := hok
    subst hok'
    have HR : Hid (pathOf s.data.toList = none) := by show _ = _; unfold pathOf; rw [hp]; rfl
    clear hok ht hp hr hb1
    go_wp2
    go_ret3
    exact ⟨.slice none 0 0, by rw [HR.out]; rfl, by rw [HR.out]; exact SRow.nil _ _, HB.out⟩
  | some t' =>
    rw [hp] at hok
    have hok' : ok = true := hok
    subst hok'
    obtain rfl := ht _ hp
    obtain ⟨hg, hsz, htx, he, -⟩ := pexpr_facts (pnorm_some.1 hp).1
    have HR : Hid (pathOf s.data.toList = some (t.pathN, t.pathE.txt)) := by show _ = _; unfold pathOf; rw [hp]; rfl
    have hB2 := hb1
    have hs2 := hb1.size
    have HROW0 : Hid (SRow (w1.alloc (.cells #[.string a, .slice o l c] 46)) w.heap.size (.slice none 0 0) []) := SRow.nil _ _
    clear hok ht hp hb1 HB
    have hrb := Rep.bound _ _ hr
    obtain ⟨PN, hPN⟩ : ∃ x, t.pathN = x := ⟨_, rfl⟩
    obtain ⟨PE, hPE⟩ : ∃ x, t.pathE = x := ⟨_, rfl⟩
    rw [hPN, hPE] at HR
    have HSTART : Hid (t.sz ≤ 24000 ∧ t.text.length ≤ 12000 ∧ t.good = true ∧ t.isExpr = true ∧ [] ++ t.pathN = PN ∧ t.pathE = PE ∧ ([] : List ByteArray).length + t.sz ≤ 24000) := ⟨hsz, htx, hg, he, hPN, hPE, by simpa using hsz⟩
    have HHD : Hid (∀ (u : Tree) (A : Nat → Prop) v W, Rep W A u v → u.good = true → u.sz ≤ 24000 → Calls Try.prog 32 #[v] W fun e W' => e = .returned (.string u.hd) ∧ Below W.heap.size W W') := fun u A v W hr hg hz => head_any u A v W hr (by obtain ⟨a, ps⟩ := u; have := Tree.length_le_szL ps; simp only [Tree.sz, Tree.parts] at *; omega)
    have HTXT : Hid (∀ (u : Tree) (A : Nat → Prop) v W, Rep W A u v → u.good = true → u.sz ≤ 24000 → u.text.length ≤ 12000 → Calls Try.prog 33 #[v] W fun e W' => e = .returned (.string u.txt) ∧ Below W.heap.size W W') := fun u A v W hr hg hz hx => text_any u A v W hr (by omega) (by omega)
    have HRB := Lib.hid hrb
    have hx0 := heap_alloc_new w1 (.cells #[.string a, .slice o l c] 46)
    have HX0 := Lib.hid hx0
    have HBW0 := Lib.hid (hB2.alloc hB2.size (.cells #[.string a, .slice o l c] 46))
    have HKP0 : Hid (∀ k, k < w1.heap.size → (w1.alloc (.cells #[.string a, .slice o l c] 46)).heap[k]? = w1.heap[k]?) := fun k hk => Below.heap_alloc _ _ _ hk
    clear hr hrb hx0 hg hsz htx he hB2 hPN hPE
    go_wp2_with fail
    go_loopg [7] t.sz (fun g lu wr => ∃ (u : Tree) (a' : ByteArray) (o' : Option Addr) (l' c' : Nat) (names : List ByteArray) (lv : Value), u.sz ≤ g ∧ lv = lu ∧ Hid (u.sz ≤ 24000 ∧ u.text.length ≤ 12000 ∧ u.good = true ∧ u.isExpr = true ∧ names ++ u.pathN = PN ∧ u.pathE = PE ∧ names.length + u.sz ≤ 24000) ∧
        Hid (wr.heap[w1.heap.size]? = some (.cells #[.string a', .slice o' l' c'] 46 (0, 0))) ∧ Hid (Rep w1 (fun z => w.heap.size ≤ z ∧ z < w1.heap.size) u (.agg #[.string a', .slice o' l' c'])) ∧ Hid (SRow wr w.heap.size lv names) ∧ Hid (∀ k, lv.ownBlock = some k → w1.heap.size < k) ∧ Hid (∀ k, k < w1.heap.size → wr.heap[k]? = w1.heap[k]?) ∧ w1.heap.size < wr.heap.size ∧ Hid (Below w.heap.size w wr))
    case atStart => exact ⟨t, a, o, l, c, [], _, Nat.le_refl _, rfl, HSTART, HX0, HRB, HROW0, fun k hk => by simp [Value.ownBlock] at hk, HKP0, (by simp), HBW0⟩
    case round =>
      obtain ⟨u, a', o', l', c', names, lv, hug, rfl, HU, HX, HRu, HRW, HOW, HKP, hlw, HBW⟩ := hrel
      obtain ⟨x1, y1⟩ := box_cells HX.out
      have HKA : Hid (∀ W : World, (∀ k, k < w1.heap.size → W.heap[k]? = w1.heap[k]?) → Keeps (fun z => w.heap.size ≤ z ∧ z < w1.heap.size) w1 W) := fun W h b o v hb hc => (World.cell?_of_block (a := ⟨b, o, none⟩) (h b hb.2)).trans hc
      have hrw := Rep.keep (HKA.out wr HKP.out) _ _ HRu.out
      have HHC := Lib.hid (HHD.out u _ _ wr hrw HU.out.2.2.1 HU.out.1)
      clear hrw
      go_wp2_with fail
      refine HHC.out.mono ?_
      rintro e w3 ⟨rfl, hb3⟩
      have hs3 := hb3.size
      have HX3 := Lib.hid ((hb3.block _ hlw).trans HX.out)
      have HRW3 := Lib.hid (HRW.out.below hb3)
      have HKP3 : Hid (∀ k, k < w1.heap.size → w3.heap[k]? = w1.heap[k]?) := fun k h2 => (hb3.block k (by omega)).trans (HKP.out k h2)
      have HBW3 := Lib.hid (HBW.out.trans (hb3.mono HBW.out.size))
      obtain ⟨x3, y3⟩ := box_cells HX3.out
      have hl3 : w1.heap.size < w3.heap.size := by omega
      clear hb3 HHC
      by_cases hlet : u.hd.data.toList = [108, 101, 116]
      · have e7 : (u.hd.toList == [108, 101, 116]) = true := by rw [Lib.toList_data, hlet]; rfl
        obtain ⟨hub, hut, hug2, hue, hua, hupe, huln⟩ := HU.out
        have hR1 := HRu.out
        obtain ⟨a'', qs⟩ := u
        cases qs with
        | nil => simp [Tree.hd] at hlet
        | cons p ps' =>
          have hhd : p.atom.data.toList = [108, 101, 116] := hlet
          obtain ⟨hk, hk4⟩ : kidAt p.atom.data.toList (ps'.length + 1) = 2 ∧ ps'.length + 1 = 4 := by
            rcases expr_heads hue with ⟨-, h2, h3⟩ | ⟨h1, -⟩ | ⟨h1, -⟩ | ⟨h1, -⟩
            · exact ⟨h3, h2⟩
            · rw [hhd] at h1; simp at h1
            · rw [hhd] at h1; simp at h1
            · exact absurd hhd h1
          obtain ⟨hgl, -⟩ := Tree.good_parts hug2
          obtain ⟨k, hkk, -, -, -, -, hkx⟩ := expr_cases hue
          have hget : ∀ i, i < 4 → ∃ q, (p :: ps')[i]? = some q := fun i hi => ⟨(p :: ps')[i]'(by simp only [List.length_cons]; omega), by simp⟩
          obtain ⟨q1, hq1⟩ := hget 1 (by omega)
          obtain ⟨q3, hq3⟩ := hget 3 (by omega)
          have hq3s := Tree.part_sz (t := .node a'' (p :: ps')) (List.mem_of_getElem? hq3)
          have hq3t := text_part_le (a := a'') (List.mem_of_getElem? hq3)
          have hpn : (Tree.node a'' (p :: ps')).pathN = q1.atom :: q3.pathN := by
            rw [pathN_let hlet]; show (nth (p :: ps') 1).atom :: Tree.pathN (nth (p :: ps') 3) = _; rw [nth_of hq1, nth_of hq3]
          have hpe : (Tree.node a'' (p :: ps')).pathE = q3.pathE := by
            rw [pathE_let hlet]; show Tree.pathE (nth (p :: ps') 3) = _; rw [nth_of hq3]
          have HU3 : Hid (q3.sz ≤ 24000 ∧ q3.text.length ≤ 12000 ∧ q3.good = true ∧ q3.isExpr = true ∧ (names ++ [q1.atom]) ++ q3.pathN = PN ∧ q3.pathE = PE ∧ (names ++ [q1.atom]).length + q3.sz ≤ 24000) :=
            ⟨by omega, by omega, Tree.good_part _ _ _ hq3 hgl, hkx 3 q3 (by omega) hq3, by rw [← hua, hpn]; simp, by rw [← hupe, hpe], by simp only [List.length_append, List.length_singleton]; omega⟩
          simp only [Rep] at hR1
          obtain ⟨o'', l'', c'', heq, hss, hcap'⟩ := hR1
          simp at heq
          obtain ⟨rfl, rfl, rfl, rfl⟩ := heq
          obtain rfl := hss.len
          obtain ⟨b, off, rfl, hA, hc⟩ := hss.uncons
          obtain ⟨o1, n1, c1, ca1, cb1, -⟩ := (RepC.keep (HKA.out w3 HKP3.out) hA _ _ hc).nth 1 (p := q1) (k := off + 2) hq1 rfl
          obtain ⟨o3, n3, c3, ca3', cb3', r3⟩ := hc.nth 3 (p := q3) (k := off + 6) hq3 rfl
          have HR3 := Lib.hid r3
          have HCC : Hid (∀ W : World, (∀ k, k < w1.heap.size → W.heap[k]? = w1.heap[k]?) → W.cell? ⟨b, off + 6, none⟩ = some (.string q3.atom) ∧ W.cell? ⟨b, off + 6 + 1, none⟩ = some (.slice o3 n3 c3)) := fun W h => ⟨(World.cell?_of_block (a := ⟨b, off + 6, none⟩) (h b hA.2)).trans ca3', (World.cell?_of_block (a := ⟨b, off + 6 + 1, none⟩) (h b hA.2)).trans cb3'⟩
          have hlq : 4 ≤ (p :: ps').length := by simp only [List.length_cons]; omega
          have hnl : names.length ≤ 1000000000 := by omega
          have HQ3S : Hid (q3.sz < (Tree.node a' (p :: ps')).sz) := hq3s
          have HUG := Lib.hid hug
          obtain ⟨lo, lc', rfl, -⟩ := HRW3.out.forms
          have hbs := HBW3.out.size
          have HGR : Hid (∀ (x : ByteArray) (W : World), (w3.alloc (.cells #[.string x] 9)).grownBy W (Value.slice lo names.length lc').ownBlock → (∀ k, k < w1.heap.size → W.heap[k]? = w1.heap[k]?) ∧ W.heap[w1.heap.size]? = some (.cells #[.string a', .slice (some ⟨b, off, none⟩) (p :: ps').length c'] 46 (0, 0)) ∧ w1.heap.size < W.heap.size) := by
            intro x W hg
            refine ⟨fun k h2 => (hg.block k (by simp; omega) (fun e => by have h := HOW.out k e.symm; omega)).trans ((Below.heap_alloc _ _ _ (by omega)).trans (HKP3.out k h2)), (hg.block _ (by simp; omega) (fun e => by have h := HOW.out _ e.symm; omega)).trans ((Below.heap_alloc _ _ _ hl3).trans HX3.out), ?_⟩
            have := hg.size
            simp at this
            omega
          generalize (p :: ps').length = L at *
          clear hc hss hkx hget hq1 hq3 hgl hk hk4 hkk hhd hlet hub hut hug2 hue hua hupe huln HU HX HRu hq3s hq3t hpn hpe ca3' cb3' r3 hug
          go_wp2_with (at_builtin; refine wpList_append_str rfl (.tmp 18) (.tmp 24) rfl w.heap.size _ rfl names _ 1 rfl q1.atom (by simp) HRW3.out hnl hbs ?_; intro g2 cap2 w4 hrow4 hg4 hown4; obtain ⟨hkp4, hx4, hl4⟩ := HGR.out _ _ hg4; have HKP4 := Lib.hid hkp4; have HX4 := Lib.hid hx4; obtain ⟨x4, y4⟩ := box_cells hx4; have f4 := Lib.frozen_of_heap hx4 0; have f5 := Lib.frozen_of_heap hx4 1; obtain ⟨d3, d4⟩ := HCC.out _ hkp4; clear hkp4 hx4)
          go_roundg q3.sz
          case measure => have h1 := HQ3S.out; have h2 := HUG.out; omega
          case rel =>
            have hrow5 := (hrow4.setCell (a := ⟨w1.heap.size, 0, none⟩) (fun e => by
              simp only [Value.ownBlock, Option.some.injEq] at e
              rcases hown4 with h | h
              · have := HOW.out _ h; omega
              · omega) (.string q3.atom)).setCell (a := ⟨w1.heap.size, 1, none⟩) (fun e => by
              simp only [Value.ownBlock, Option.some.injEq] at e
              rcases hown4 with h | h
              · have := HOW.out _ h; omega
              · omega) (.slice o3 n3 c3)
            have hrow6 : SRow ((w4.setCell ⟨w1.heap.size, 0, none⟩ (.string q3.atom)).setCell ⟨w1.heap.size, 1, none⟩ (.slice o3 n3 c3)) w.heap.size (.slice (some ⟨g2, 0, none⟩) (names.length + 1) cap2) (names ++ [q1.atom]) := hrow5
            refine ⟨q3, q3.atom, o3, n3, c3, names ++ [q1.atom], _, Nat.le_refl _, rfl, HU3, Lib.hid (path_cells HX4.out _ _), HR3, Lib.hid hrow6, Lib.hid ?_, Lib.hid ?_, (by simp; omega), Lib.hid ?_⟩
            · intro k hk
              simp only [Value.ownBlock, Option.some.injEq] at hk
              subst hk
              rcases hown4 with h | h
              · exact HOW.out _ h
              · omega
            · intro k h2
              rw [Below.heap_setCell _ _ _ _ (by simp; omega), Below.heap_setCell _ _ _ _ (by simp; omega)]
              exact HKP4.out k h2
            · exact (((HBW3.out.alloc HBW3.out.size _).grown hg4 (by simp; omega) (fun k hk => (HRW3.out.lt k hk).1)).setCell (by simp; omega) _).setCell (by simp; omega) _
      · have e7 : (u.hd.toList == [108, 101, 116]) = false := by rw [Lib.toList_data]; simpa using hlet
        have HPN : Hid (PN = names) := by show _ = _; rw [← HU.out.2.2.2.2.1, pathN_rest hlet, List.append_nil]
        have HPE : Hid (PE = u) := by show _ = _; rw [← HU.out.2.2.2.2.2.1, pathE_rest hlet]
        have hrw3 := Rep.keep (HKA.out w3 HKP3.out) _ _ HRu.out
        have HTC := Lib.hid (HTXT.out u _ _ w3 hrw3 HU.out.2.2.1 HU.out.1 HU.out.2.1)
        obtain ⟨lo, lc', rfl, -⟩ := HRW3.out.forms
        clear hlet hrw3
        go_wp2_with fail
        refine HTC.out.mono ?_
        rintro e w4 ⟨rfl, hb4⟩
        have HROW4 := Lib.hid (HRW3.out.below hb4)
        have HBW4 := Lib.hid (HBW3.out.trans (hb4.mono HBW3.out.size))
        clear hb4
        go_wp2
        go_ret3
        exact ⟨.slice lo names.length lc', by rw [HR.out, HPE.out]; rfl, by rw [HR.out, HPN.out]; exact HROW4.out, HBW4.out⟩

end Go.Proofs.Ytoihkjnfklogpaa
