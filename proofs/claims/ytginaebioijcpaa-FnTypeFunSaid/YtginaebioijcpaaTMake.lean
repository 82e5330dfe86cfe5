/- TypeMake of the program and of the reference. -/
import Derived.Test.YtginaebioijcpaaHead
import Derived.Test.YtginaebioijcpaaPlainU
namespace Go.Proofs.Ytginaebioijcpaa
open Go.RowKit

/-- The sign of a type. -/
def sgn (fn : Bool) : ByteArray := if fn then ⟨#[62]⟩ else ⟨#[42]⟩
def typeT (fn : Bool) (x y : Tree) : Tree := .node ⟨#[]⟩ [.node (sgn fn) [], x, y]
/-- The type of both. -/
def makeOf (fn : Bool) (a b : List UInt8) : Option Tree := match ptype a, ptype b with
  | some x, some y => if (typeT fn x y).typed = true then some (typeT fn x y) else none
  | _, _ => none

theorem type_small (n : Nat) : ∀ t : Tree, t.sz ≤ n → t.good = true → t.isType = true → t.text.length + 4 ≤ 5 * t.size ∧ t.depth ≤ t.size := by
  induction n with
  | zero => intro t h; cases t; simp [Tree.sz] at h
  | succ n ih =>
    intro t hn hg ht
    obtain ⟨a, ps⟩ := t
    rcases isType_cases ht with rfl | ⟨p, x, y, rfl, hx, hy, hp⟩
    · simp only [Tree.isType, decide_eq_true_eq] at ht
      rw [text_leaf, ht]; simp [Tree.size, Tree.depth]
    · simp only [Tree.sz, Tree.szL] at hn
      have hgl := (Tree.good_parts hg).1
      simp only [Tree.goodL, Bool.and_eq_true, and_true] at hgl
      obtain ⟨x1, x2⟩ := ih x (by omega) hgl.2.1 hx
      obtain ⟨y1, y2⟩ := ih y (by omega) hgl.2.2 hy
      have hpl := leaf_of_atom hgl.1 (by rcases hp with h | h <;> rw [h] <;> simp)
      have hpt : p.text.length = 1 := by rw [hpl, text_leaf]; rcases hp with h | h <;> rw [h] <;> rfl
      have hps : p.size = 1 := by rw [hpl]; simp [Tree.size]
      have hpd : p.depth = 0 := by rw [hpl]; simp [Tree.depth]
      have h1 : (Tree.node a [p, x, y]).text.length = 5 + x.text.length + y.text.length := by simp [Tree.text, textL_cons, hpt]; omega
      have h2 : (Tree.node a [p, x, y]).size = 1 + x.size + y.size := by simp [Tree.size, Tree.sizeL, hps]; omega
      have h3 : (Tree.node a [p, x, y]).depth = max x.depth y.depth + 1 := by simp [Tree.depth, Tree.depthL, hpd]
      omega

theorem typed_fits {t : Tree} (hg : t.good = true) (ht : t.typed = true) : t.fits = true := by
  unfold Tree.typed at ht
  simp only [Bool.and_eq_true, decide_eq_true_eq] at ht
  have := type_small _ t (Nat.le_refl _) hg ht.1
  unfold Tree.fits
  simp; omega

theorem ptype_text {t : Tree} (hg : t.good = true) : ptype t.text = if t.typed = true then some t else none := by
  by_cases ht : t.typed = true
  · rw [if_pos ht]; exact ptype_some.2 ⟨parse_of_fits hg (typed_fits hg ht), ht⟩
  · rw [if_neg ht]
    unfold ptype
    by_cases hf : t.fits = true
    · rw [parse_of_fits hg hf]; simp [ht]
    · have := parse_isSome hg
      rw [show t.fits = false by simpa using hf] at this
      cases h : parse t.text with
      | none => rfl
      | some u => rw [h] at this; cases this

theorem typeT_good {fn : Bool} {x y : Tree} (hx : x.good = true) (hy : y.good = true) : (typeT fn x y).good = true := by
  unfold typeT
  simp only [Tree.good, Tree.goodL, hx, hy]
  cases fn <;> simp [sgn] <;> decide

theorem typeT_text (fn : Bool) (x y : Tree) : (typeT fn x y).text = 40 :: ((sgn fn).data.toList ++ 32 :: (x.text ++ 32 :: (y.text ++ [41]))) := by
  unfold typeT
  simp [Tree.text, textL_cons]

theorem makeOf_none1 {fn : Bool} {a b : List UInt8} (h : ptype a = none) : makeOf fn a b = none := by unfold makeOf; rw [h]
theorem makeOf_none2 {fn : Bool} {a b : List UInt8} (h : ptype b = none) : makeOf fn a b = none := by unfold makeOf; rw [h]; cases ptype a <;> rfl
theorem makeOf_some {fn : Bool} {a b : List UInt8} {x y : Tree} (h1 : ptype a = some x) (h2 : ptype b = some y) : makeOf fn a b = if (typeT fn x y).typed = true then some (typeT fn x y) else none := by unfold makeOf; rw [h1, h2]

set_option maxRecDepth 100000 in
set_option maxHeartbeats 1600000 in
theorem sTypeMake_any (fn : Bool) (a b : ByteArray) (w : World) (ha : a.size ≤ 100000000) (hb : b.size ≤ 100000000) :
    Calls Try.prog 17 #[.bool fn, .string a, .string b] w (StrR ((makeOf fn a.data.toList b.data.toList).map Tree.txt) w) := by
  have HV := Lib.hid (fun (s : ByteArray) W (h : s.size ≤ 1000000000) => sTypeValid_any s W h)
  have hV1 := fun W => HV.out a W (by omega)
  have hV2 := fun W => HV.out b W (by omega)
  have hss : (sgn fn).size = 1 := by cases fn <;> rfl
  have e1 : (ByteArray.mk #[40]).size = 1 := rfl
  have e2 : (ByteArray.mk #[32]).size = 1 := rfl
  have e3 : (ByteArray.mk #[41]).size = 1 := rfl
  have hV3 := fun (S : ByteArray) W (h : S = ByteArray.mk #[40] ++ sgn fn ++ ByteArray.mk #[32] ++ a ++ ByteArray.mk #[32] ++ b ++ ByteArray.mk #[41]) => HV.out S W (by rw [h]; simp only [ByteArray.size_append]; omega)
  cases h1 : ptype a.data.toList with
  | none =>
    have HN : Hid ((makeOf fn a.data.toList b.data.toList).map Tree.txt = none) := by show _ = _; rw [makeOf_none1 h1]; rfl
    rw [h1] at hV1
    have H1 := Lib.hid hV1
    clear h1 hV1 hV2 hV3 HV
    cases fn
    all_goals
      go_enter Try.func17, Try.ntmps17
      go_wp2_with fail
      refine (H1.out _).mono ?_
      rintro e w1 ⟨rfl, hb1⟩
      go_wp2
      go_ret2
      exact ⟨by rw [HN.out]; rfl, hb1⟩
  | some x =>
    cases h2 : ptype b.data.toList with
    | none =>
      have HN : Hid ((makeOf fn a.data.toList b.data.toList).map Tree.txt = none) := by show _ = _; rw [makeOf_none2 h2]; rfl
      rw [h1] at hV1
      rw [h2] at hV2
      have H1 := Lib.hid hV1
      have H2 := Lib.hid hV2
      clear h1 h2 hV1 hV2 hV3 HV
      cases fn
      all_goals
        go_enter Try.func17, Try.ntmps17
        go_wp2_with fail
        refine (H1.out _).mono ?_
        rintro e w1 ⟨rfl, hb1⟩
        go_wp2_with fail
        refine (H2.out _).mono ?_
        rintro e w2 ⟨rfl, hb2⟩
        go_wp2
        go_ret2
        exact ⟨by rw [HN.out]; rfl, hb1.trans (hb2.mono hb1.size)⟩
    | some y =>
      have hfx := ptype_facts h1
      have hfy := ptype_facts h2
      have hres := makeOf_some (fn := fn) h1 h2
      have htx := typeT_text fn x y
      rw [← hfx.2.2.2.2, ← hfy.2.2.2.2] at htx
      have hgood := typeT_good (fn := fn) hfx.1 hfy.1
      have hout : ByteArray.mk #[40] ++ sgn fn ++ ByteArray.mk #[32] ++ a ++ ByteArray.mk #[32] ++ b ++ ByteArray.mk #[41] = (typeT fn x y).txt := by
        refine bts_eq ?_
        rw [htx]
        simp only [data_add]
        simp
      have hV4 := fun W => hV3 _ W rfl
      rw [show (ptype (ByteArray.mk #[40] ++ sgn fn ++ ByteArray.mk #[32] ++ a ++ ByteArray.mk #[32] ++ b ++ ByteArray.mk #[41]).data.toList).isSome = (typeT fn x y).typed by
        rw [hout, Tree.txt, bts_data, ptype_text hgood]; split <;> simp_all] at hV4
      have HOUT := Lib.hid hout
      rw [h1] at hV1
      rw [h2] at hV2
      have H1 := Lib.hid hV1
      have H2 := Lib.hid hV2
      clear h1 h2 hV1 hV2 hV3 HV hfx hfy htx hgood hout
      by_cases ht : (typeT fn x y).typed = true
      · have HN : Hid ((makeOf fn a.data.toList b.data.toList).map Tree.txt = some (typeT fn x y).txt) := by show _ = _; rw [hres, if_pos ht]; rfl
        rw [ht] at hV4
        have H4 := Lib.hid hV4
        clear hV4 hres ht
        cases fn
        all_goals
          go_enter Try.func17, Try.ntmps17
          go_wp2_with fail
          refine (H1.out _).mono ?_
          rintro e w1 ⟨rfl, hb1⟩
          go_wp2_with fail
          refine (H2.out _).mono ?_
          rintro e w2 ⟨rfl, hb2⟩
          go_wp2_with fail
          refine (H4.out _).mono ?_
          rintro e w3 ⟨rfl, hb3⟩
          go_wp2
          go_ret2
          exact ⟨by rw [HN.out, ← HOUT.out]; rfl, (hb1.trans (hb2.mono hb1.size)).trans (hb3.mono (Nat.le_trans hb1.size hb2.size))⟩
      · have ht' : (typeT fn x y).typed = false := by simpa using ht
        have HN : Hid ((makeOf fn a.data.toList b.data.toList).map Tree.txt = none) := by show _ = _; rw [hres, if_neg ht]; rfl
        rw [ht'] at hV4
        have H4 := Lib.hid hV4
        clear hV4 hres ht ht'
        cases fn
        all_goals
          go_enter Try.func17, Try.ntmps17
          go_wp2_with fail
          refine (H1.out _).mono ?_
          rintro e w1 ⟨rfl, hb1⟩
          go_wp2_with fail
          refine (H2.out _).mono ?_
          rintro e w2 ⟨rfl, hb2⟩
          go_wp2_with fail
          refine (H4.out _).mono ?_
          rintro e w3 ⟨rfl, hb3⟩
          go_wp2
          go_ret2
          exact ⟨by rw [HN.out]; rfl, (hb1.trans (hb2.mono hb1.size)).trans (hb3.mono (Nat.le_trans hb1.size hb2.size))⟩

set_option maxRecDepth 100000 in
set_option maxHeartbeats 3200000 in
theorem typeMake_any (fn : Bool) (a b : ByteArray) (w : World) (ha : a.size ≤ 100000000) (hb : b.size ≤ 100000000) :
    Calls Try.prog 16 #[.bool fn, .string a, .string b] w (StrR ((makeOf fn a.data.toList b.data.toList).map Tree.txt) w) := by
  have HR1 := Lib.hid (fun W => readType_any a W (by omega))
  have HR2 := Lib.hid (fun W => readType_any b W (by omega))
  go_enter Try.func16, Try.ntmps16
  go_wp2_with fail
  refine (HR1.out _).mono ?_
  rintro e w1 ⟨a1, o1, l1, c1, ok1, t1, rfl, hb1, hr1, hok1, ht1⟩
  have HK1 := Lib.hid hok1
  have HT1 := Lib.hid ht1
  have hs1 := hb1.size
  have HQ1 := Lib.hid (Rep.bound _ _ hr1)
  clear hok1 ht1 hr1
  go_wp2_with fail
  refine (HR2.out _).mono ?_
  rintro e w2 ⟨a2, o2, l2, c2, ok2, t2, rfl, hb2, hr2, hok2, ht2⟩
  have HK2 := Lib.hid hok2
  have HT2 := Lib.hid ht2
  have hs2 := hb2.size
  simp only [World.size_alloc] at hs2
  have hx1 := box_at hb2
  have HX1 := Lib.hid hx1
  obtain ⟨c10, c11⟩ := box_cells hx1
  have hb12 : Below w1.heap.size w1 w2 := ((Below.refl _ _).alloc (Nat.le_refl _) _).trans (hb2.mono (by simp))
  have hB2 := hb1.trans (hb12.mono hs1)
  have HQ2 := Lib.hid (Rep.bound _ _ hr2)
  have HQ1' := Lib.hid (Rep.keep (Keeps.below hb12) _ _ HQ1.out)
  have hlw1 : w1.heap.size < w2.heap.size := by omega
  clear hok2 ht2 hr2 hb2 hx1 HQ1
  -- the two forms side by side
  have hxS : ((w2.alloc (.cells #[.string a2, .slice o2 l2 c2] 50)).alloc (.cells #[.string a1, .slice o1 l1 c1, .string a2, .slice o2 l2 c2] 50)).heap[w2.heap.size + 1]? = some (.cells #[.string a1, .slice o1 l1 c1, .string a2, .slice o2 l2 c2] 50 (0, 0)) := by
    have := heap_alloc_new (w2.alloc (.cells #[.string a2, .slice o2 l2 c2] 50)) (.cells #[.string a1, .slice o1 l1 c1, .string a2, .slice o2 l2 c2] 50)
    rwa [World.size_alloc] at this
  have bel2 : Below w2.heap.size w2 ((w2.alloc (.cells #[.string a2, .slice o2 l2 c2] 50)).alloc (.cells #[.string a1, .slice o1 l1 c1, .string a2, .slice o2 l2 c2] 50)) := ((Below.refl _ _).alloc (Nat.le_refl _) _).alloc (by simp) _
  have hsS : RepS ((w2.alloc (.cells #[.string a2, .slice o2 l2 c2] 50)).alloc (.cells #[.string a1, .slice o1 l1 c1, .string a2, .slice o2 l2 c2] 50)) (fun b => (w.heap.size ≤ b ∧ b < w2.heap.size) ∨ b = w2.heap.size + 1) [t1, t2] (some ⟨w2.heap.size + 1, 0, none⟩) 2 :=
    repS_two hxS (.inr rfl) (Rep.weak (fun b hb => .inl ⟨hb.1, by have := hb.2; omega⟩) _ _ (Rep.keep (Keeps.below bel2) _ _ HQ1'.out)) (Rep.weak (fun b hb => .inl ⟨by have := hb.1; simp at this; omega, hb.2⟩) _ _ (Rep.keep (Keeps.below bel2) _ _ HQ2.out))
  have HH := Lib.hid (headed_any ⟨#[42]⟩ [t1, t2] _ _ 2 _ hsS (by simp) (by simp) (fun b hb => by simp; omega))
  rw [show ([t1, t2] : List Tree).length = 2 from rfl] at HH
  have HBS := Lib.hid (hB2.trans (bel2.mono hB2.size))
  clear hsS hxS
  go_wp2_with fail
  refine HH.out.mono ?_
  rintro e w3 ⟨a3, o3, l3, c3, rfl, hr3, hb3⟩
  have hs3 := hb3.size
  simp only [World.size_alloc] at hs3
  have hB3 := HBS.out.trans (hb3.mono HBS.out.size)
  have HQ3 := Lib.hid hr3
  have hb23 : Below w2.heap.size w2 w3 := bel2.trans (hb3.mono (by simp; omega))
  clear hr3 HH
  cases fn with
  | false =>
    have hro := Rep.keep (Keeps.alloc _ w3 (.cells #[.string a3, .slice o3 l3 c3] 50)) _ _ HQ3.out
    change Rep _ _ (typeT false t1 t2) _ at hro
    have hbw := hB3.alloc hB3.size (.cells #[.string a3, .slice o3 l3 c3] 50)
    have hox := heap_alloc_new w3 (.cells #[.string a3, .slice o3 l3 c3] 50)
    clear HQ3 hb3 hb23 hb12
    have HRO := Lib.hid hro
    have HBW := Lib.hid hbw
    have HOX := Lib.hid hox
    obtain ⟨u0, u1⟩ := box_cells hox
    clear hro hbw hox
    cases ok1
    · have HN : Hid ((makeOf false a.data.toList b.data.toList).map Tree.txt = none) := by
        show _ = _
        rw [makeOf_none1 (by cases h : ptype a.data.toList with
          | none => rfl
          | some x => have := HK1.out; rw [h] at this; cases this)]; rfl
      go_wp2
      go_ret2
      exact ⟨by rw [HN.out]; rfl, HBW.out⟩
    · cases ok2
      · have HN : Hid ((makeOf false a.data.toList b.data.toList).map Tree.txt = none) := by
          show _ = _
          rw [makeOf_none2 (by cases h : ptype b.data.toList with
            | none => rfl
            | some x => have := HK2.out; rw [h] at this; cases this)]; rfl
        go_wp2
        go_ret2
        exact ⟨by rw [HN.out]; rfl, HBW.out⟩
      · obtain ⟨x, hx⟩ : ∃ x, ptype a.data.toList = some x := Option.isSome_iff_exists.1 HK1.out.symm
        obtain ⟨y, hy⟩ : ∃ y, ptype b.data.toList = some y := Option.isSome_iff_exists.1 HK2.out.symm
        obtain rfl := HT1.out _ hx
        obtain rfl := HT2.out _ hy
        have hfx := ptype_facts hx
        have hfy := ptype_facts hy
        have hgd := typeT_good (fn := false) hfx.1 hfy.1
        have hz1 := parse_sz hfx.2.2.2.1
        have hz2 := parse_sz hfy.2.2.2.1
        have hsz : (typeT false t1 t2).sz ≤ 1000000000 := by unfold typeT; simp only [Tree.sz, Tree.szL]; omega
        have hres := makeOf_some (fn := false) hx hy
        have HTY := Lib.hid (typed_any (typeT false t1 t2) _ _ _ HRO.out hsz)
        have HGD := Lib.hid hgd
        clear hx hy hfx hfy hgd
        by_cases ht : (typeT false t1 t2).typed = true
        · rw [ht] at HTY
          have HN : Hid ((makeOf false a.data.toList b.data.toList).map Tree.txt = some (typeT false t1 t2).txt) := by show _ = _; rw [hres, if_pos ht]; rfl
          have hfit := typed_fits HGD.out ht
          have htl : (typeT false t1 t2).text.length ≤ 1000000000 := by unfold Tree.fits at hfit; simp at hfit; omega
          clear hres ht hfit
          go_wp2_with fail
          refine HTY.out.mono ?_
          rintro e w8 ⟨rfl, hb8⟩
          have hB8 := HBW.out.trans (hb8.mono HBW.out.size)
          obtain ⟨v0, v1⟩ := box_cells ((hb8.block _ (Array.getElem?_eq_some_iff.1 HOX.out).1).trans HOX.out)
          have HTX := Lib.hid (text_any (typeT false t1 t2) _ _ w8 (Rep.keep (Keeps.below hb8) _ _ HRO.out) hsz htl)
          rw [show bts (typeT false t1 t2).text = (typeT false t1 t2).txt from rfl] at HTX
          go_wp2_with fail
          refine HTX.out.mono ?_
          rintro e w9 ⟨rfl, hb9⟩
          go_wp2
          go_ret2
          exact ⟨by rw [HN.out]; rfl, hB8.trans (hb9.mono hB8.size)⟩
        · have ht' : (typeT false t1 t2).typed = false := by simpa using ht
          rw [ht'] at HTY
          have HN : Hid ((makeOf false a.data.toList b.data.toList).map Tree.txt = none) := by show _ = _; rw [hres, if_neg ht]; rfl
          clear hres ht ht'
          go_wp2_with fail
          refine HTY.out.mono ?_
          rintro e w8 ⟨rfl, hb8⟩
          go_wp2
          go_ret2
          exact ⟨by rw [HN.out]; rfl, HBW.out.trans (hb8.mono HBW.out.size)⟩
  | true =>
    have hxS : ((w3.alloc (.cells #[.string a3, .slice o3 l3 c3] 50)).alloc (.cells #[.string a1, .slice o1 l1 c1, .string a2, .slice o2 l2 c2] 50)).heap[w3.heap.size + 1]? = some (.cells #[.string a1, .slice o1 l1 c1, .string a2, .slice o2 l2 c2] 50 (0, 0)) := by
      have := heap_alloc_new (w3.alloc (.cells #[.string a3, .slice o3 l3 c3] 50)) (.cells #[.string a1, .slice o1 l1 c1, .string a2, .slice o2 l2 c2] 50)
      rwa [World.size_alloc] at this
    have hxO : ((w3.alloc (.cells #[.string a3, .slice o3 l3 c3] 50)).alloc (.cells #[.string a1, .slice o1 l1 c1, .string a2, .slice o2 l2 c2] 50)).heap[w3.heap.size]? = some (.cells #[.string a3, .slice o3 l3 c3] 50 (0, 0)) := (Lib.alloc_old _ _ _ (by simp)).trans (heap_alloc_new _ _)
    have bel3 : Below w3.heap.size w3 ((w3.alloc (.cells #[.string a3, .slice o3 l3 c3] 50)).alloc (.cells #[.string a1, .slice o1 l1 c1, .string a2, .slice o2 l2 c2] 50)) := ((Below.refl _ _).alloc (Nat.le_refl _) _).alloc (by simp) _
    have hsS : RepS ((w3.alloc (.cells #[.string a3, .slice o3 l3 c3] 50)).alloc (.cells #[.string a1, .slice o1 l1 c1, .string a2, .slice o2 l2 c2] 50)) (fun b => (w.heap.size ≤ b ∧ b < w2.heap.size) ∨ b = w3.heap.size + 1) [t1, t2] (some ⟨w3.heap.size + 1, 0, none⟩) 2 :=
      repS_two hxS (.inr rfl) (Rep.weak (fun b hb => .inl ⟨hb.1, by have := hb.2; omega⟩) _ _ (Rep.keep ((Keeps.below hb23).trans (Keeps.below bel3)) _ _ HQ1'.out)) (Rep.weak (fun b hb => .inl ⟨by have := hb.1; simp at this; omega, hb.2⟩) _ _ (Rep.keep ((Keeps.below hb23).trans (Keeps.below bel3)) _ _ HQ2.out))
    have HH := Lib.hid (headed_any ⟨#[62]⟩ [t1, t2] _ _ 2 _ hsS (by simp) (by simp) (fun b hb => by simp; omega))
    rw [show ([t1, t2] : List Tree).length = 2 from rfl] at HH
    have HBS3 := Lib.hid (hB3.trans (bel3.mono hB3.size))
    have HXO := Lib.hid hxO
    have hlF : w1.heap.size < w3.heap.size := by omega
    have hlG : w2.heap.size < w3.heap.size := by omega
    have hg3 : w3.heap[w2.heap.size]? = some (.cells #[.string a2, .slice o2 l2 c2] 50 (0, 0)) := (hb3.block w2.heap.size (by simp; omega)).trans ((Lib.alloc_old _ _ _ (by simp)).trans (heap_alloc_new _ _))
    have hf3 := (hb23.block w1.heap.size hlw1).trans HX1.out
    obtain ⟨e0, e1⟩ := box_cells hf3
    obtain ⟨g0, g1⟩ := box_cells hg3
    clear hsS hxS hxO HQ3 hb3 bel2 hf3 hg3
    go_wp2_with fail
    refine HH.out.mono ?_
    rintro e w4 ⟨a4, o4, l4, c4, rfl, hr4, hb4⟩
    have hs4 := hb4.size
    simp only [World.size_alloc] at hs4
    have hB4 := HBS3.out.trans (hb4.mono HBS3.out.size)
    have hO4 := (hb4.block w3.heap.size (by simp; omega)).trans HXO.out
    obtain ⟨y0, y1⟩ := box_cells hO4
    have fy0 := Lib.frozen_of_heap hO4 0
    have fy1 := Lib.frozen_of_heap hO4 1
    have hlO : w3.heap.size < w4.heap.size := by omega
    have hro : Rep ((w4.setCell ⟨w3.heap.size, 0, none⟩ (.string a4)).setCell ⟨w3.heap.size, 1, none⟩ (.slice o4 l4 c4)) (fun b => ((w.heap.size ≤ b ∧ b < w2.heap.size) ∨ b = w3.heap.size + 1) ∨ w3.heap.size + 2 ≤ b) (typeT true t1 t2) (.agg #[.string a4, .slice o4 l4 c4]) := by
      refine Rep.weak (fun b hb => ?_) _ _ (Rep.keep (((Keeps.refl _ _).setCell (fun b hb => ?_) _).setCell (fun b hb => ?_) _) _ _ hr4)
      · rcases hb with hb | hb
        · exact .inl hb
        · right; simpa using hb
      · rcases hb with (hb | hb) | hb
        · simp; omega
        · simp; omega
        · simp at hb ⊢; omega
      · rcases hb with (hb | hb) | hb
        · simp; omega
        · simp; omega
        · simp at hb ⊢; omega
    have hbw : Below w.heap.size w ((w4.setCell ⟨w3.heap.size, 0, none⟩ (.string a4)).setCell ⟨w3.heap.size, 1, none⟩ (.slice o4 l4 c4)) := (hB4.setCell (by simp; omega) _).setCell (by simp; omega) _
    have hox : ((w4.setCell ⟨w3.heap.size, 0, none⟩ (.string a4)).setCell ⟨w3.heap.size, 1, none⟩ (.slice o4 l4 c4)).heap[w3.heap.size]? = some (.cells #[.string a4, .slice o4 l4 c4] 50 (0, 0)) := by
      have h1 := heap_setCell_same w4 w3.heap.size 0 _ _ (.string a4) hO4
      have h2 := heap_setCell_same _ w3.heap.size 1 _ _ (.slice o4 l4 c4) h1
      simpa using h2
    clear hr4 hb4 hO4 hB4 hb23 hb12 HH
    have HRO := Lib.hid hro
    have HBW := Lib.hid hbw
    have HOX := Lib.hid hox
    obtain ⟨u0, u1⟩ := box_cells hox
    clear hro hbw hox
    cases ok1
    · have HN : Hid ((makeOf true a.data.toList b.data.toList).map Tree.txt = none) := by
        show _ = _
        rw [makeOf_none1 (by cases h : ptype a.data.toList with
          | none => rfl
          | some x => have := HK1.out; rw [h] at this; cases this)]; rfl
      go_wp2
      go_ret2
      exact ⟨by rw [HN.out]; rfl, HBW.out⟩
    · cases ok2
      · have HN : Hid ((makeOf true a.data.toList b.data.toList).map Tree.txt = none) := by
          show _ = _
          rw [makeOf_none2 (by cases h : ptype b.data.toList with
            | none => rfl
            | some x => have := HK2.out; rw [h] at this; cases this)]; rfl
        go_wp2
        go_ret2
        exact ⟨by rw [HN.out]; rfl, HBW.out⟩
      · obtain ⟨x, hx⟩ : ∃ x, ptype a.data.toList = some x := Option.isSome_iff_exists.1 HK1.out.symm
        obtain ⟨y, hy⟩ : ∃ y, ptype b.data.toList = some y := Option.isSome_iff_exists.1 HK2.out.symm
        obtain rfl := HT1.out _ hx
        obtain rfl := HT2.out _ hy
        have hfx := ptype_facts hx
        have hfy := ptype_facts hy
        have hgd := typeT_good (fn := true) hfx.1 hfy.1
        have hz1 := parse_sz hfx.2.2.2.1
        have hz2 := parse_sz hfy.2.2.2.1
        have hsz : (typeT true t1 t2).sz ≤ 1000000000 := by unfold typeT; simp only [Tree.sz, Tree.szL]; omega
        have hres := makeOf_some (fn := true) hx hy
        have HTY := Lib.hid (typed_any (typeT true t1 t2) _ _ _ HRO.out hsz)
        have HGD := Lib.hid hgd
        clear hx hy hfx hfy hgd
        by_cases ht : (typeT true t1 t2).typed = true
        · rw [ht] at HTY
          have HN : Hid ((makeOf true a.data.toList b.data.toList).map Tree.txt = some (typeT true t1 t2).txt) := by show _ = _; rw [hres, if_pos ht]; rfl
          have hfit := typed_fits HGD.out ht
          have htl : (typeT true t1 t2).text.length ≤ 1000000000 := by unfold Tree.fits at hfit; simp at hfit; omega
          clear hres ht hfit
          go_wp2_with fail
          refine HTY.out.mono ?_
          rintro e w8 ⟨rfl, hb8⟩
          have hB8 := HBW.out.trans (hb8.mono HBW.out.size)
          obtain ⟨v0, v1⟩ := box_cells ((hb8.block _ (Array.getElem?_eq_some_iff.1 HOX.out).1).trans HOX.out)
          have HTX := Lib.hid (text_any (typeT true t1 t2) _ _ w8 (Rep.keep (Keeps.below hb8) _ _ HRO.out) hsz htl)
          rw [show bts (typeT true t1 t2).text = (typeT true t1 t2).txt from rfl] at HTX
          go_wp2_with fail
          refine HTX.out.mono ?_
          rintro e w9 ⟨rfl, hb9⟩
          go_wp2
          go_ret2
          exact ⟨by rw [HN.out]; rfl, hB8.trans (hb9.mono hB8.size)⟩
        · have ht' : (typeT true t1 t2).typed = false := by simpa using ht
          rw [ht'] at HTY
          have HN : Hid ((makeOf true a.data.toList b.data.toList).map Tree.txt = none) := by show _ = _; rw [hres, if_neg ht]; rfl
          clear hres ht ht'
          go_wp2_with fail
          refine HTY.out.mono ?_
          rintro e w8 ⟨rfl, hb8⟩
          go_wp2
          go_ret2
          exact ⟨by rw [HN.out]; rfl, HBW.out.trans (hb8.mono HBW.out.size)⟩
end Go.Proofs.Ytginaebioijcpaa
