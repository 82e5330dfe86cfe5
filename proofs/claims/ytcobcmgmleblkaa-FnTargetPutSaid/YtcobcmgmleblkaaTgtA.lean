/- TargetOf and TargetNext of the program and of the reference. -/
import Derived.Test.YtcobcmgmleblkaaTgtT
namespace Go.Proofs.Ytcobcmgmleblkaa
open Go.RowKit

/-- The target type of a text that is a type, and the type of what goes on. -/
def tgtOf (s : List UInt8) : Option Tree := (ptype s).map Tree.tgt
def nextOf (s : List UInt8) : Option Tree := (ptype s).map fun t => onw t.tgt

set_option maxRecDepth 100000 in
set_option maxHeartbeats 1600000 in
theorem targetOf_any (s : ByteArray) (w : World) (hs : s.size ≤ 100000000) : Calls Try.prog 12 #[.string s] w (StrR ((tgtOf s.data.toList).map Tree.txt) w) := by
  have HR := Lib.hid (fun W => readType_any s W (by omega))
  cases hp : ptype s.data.toList with
  | none =>
    have HN : Hid ((tgtOf s.data.toList).map Tree.txt = none) := by show _ = _; unfold tgtOf; rw [hp]; rfl
    have HP := Lib.hid hp
    clear hp
    go_enter Try.func12, Try.ntmps12
    go_wp2_with fail
    refine (HR.out _).mono ?_
    rintro e w1 ⟨a, o, l, c, ok, t, rfl, hb1, -, hok, -⟩
    rw [HP.out] at hok
    have hok' : ok = false := hok
    subst hok'
    clear hok
    go_wp2
    exact bodyPost_ret (v := .tuple #[.string ⟨#[]⟩, .bool false]) (by simp [results, Try.results12, go_sem]) rfl ⟨by rw [HN.out]; rfl, (by first | exact hb1 | exact hb1.alloc hb1.size _)⟩
  | some t0 =>
    obtain ⟨hg, hty, hz, -, -⟩ := ptype_facts hp
    obtain ⟨g1, g2, g3⟩ := typed_tgt hp
    have hsz : t0.sz ≤ 1000000000 := by have := parse_sz (ptype_some.1 hp).1; omega
    have HN : Hid ((tgtOf s.data.toList).map Tree.txt = some t0.tgt.txt) := by show _ = _; unfold tgtOf; rw [hp]; rfl
    have HP := Lib.hid hp
    clear hp hg hz
    go_enter Try.func12, Try.ntmps12
    go_wp2_with fail
    refine (HR.out _).mono ?_
    rintro e w1 ⟨a, o, l, c, ok, t, rfl, hb1, hr, hok, ht⟩
    rw [HP.out] at hok
    have hok' : ok = true := hok
    subst hok'
    obtain rfl := ht _ HP.out
    have HQ := Lib.hid hr
    have HT := Lib.hid (fun (D : Nat → Prop) v W hr => target_any _ t D v W (Nat.le_refl _) hr hty hsz)
    clear hok ht hr hty
    go_wp2_with fail
    refine (HT.out _ _ _ (by first | exact HQ.out | exact Rep.keep (Keeps.alloc _ _ _) _ _ HQ.out)).mono ?_
    rintro e w2 ⟨a2, o2, l2, c2, rfl, hr2, hb2⟩
    have hB2 : Below w.heap.size w w2 := by first | exact hb1.trans (hb2.mono hb1.size) | exact (hb1.alloc hb1.size _).trans (hb2.mono (by have := hb1.size; simp; omega))
    have HX := Lib.hid (fun (D : Nat → Prop) W hr => text_any t.tgt D (.agg #[.string a2, .slice o2 l2 c2]) W hr (by omega) (by omega))
    rw [show bts t.tgt.text = t.tgt.txt from rfl] at HX
    have HQ2 := Lib.hid hr2
    clear hr2
    go_wp2_with fail
    refine (HX.out _ _ (by first | exact HQ2.out | exact Rep.keep (Keeps.alloc _ _ _) _ _ HQ2.out)).mono ?_
    rintro e w3 ⟨rfl, hb3⟩
    have hB3 : Below w.heap.size w w3 := by first | exact hB2.trans (hb3.mono hB2.size) | exact (hB2.alloc hB2.size _).trans (hb3.mono (by have := hB2.size; simp; omega))
    go_wp2
    exact bodyPost_ret (v := .tuple #[.string t.tgt.txt, .bool true]) (by simp [results, Try.results12, go_sem]) rfl ⟨by rw [HN.out]; rfl, hB3⟩

set_option maxRecDepth 100000 in
set_option maxHeartbeats 1600000 in
theorem targetNext_any (s : ByteArray) (w : World) (hs : s.size ≤ 100000000) : Calls Try.prog 14 #[.string s] w (StrR ((nextOf s.data.toList).map Tree.txt) w) := by
  have HR := Lib.hid (fun W => readType_any s W (by omega))
  cases hp : ptype s.data.toList with
  | none =>
    have HN : Hid ((nextOf s.data.toList).map Tree.txt = none) := by show _ = _; unfold nextOf; rw [hp]; rfl
    have HP := Lib.hid hp
    clear hp
    go_enter Try.func14, Try.ntmps14
    go_wp2_with fail
    refine (HR.out _).mono ?_
    rintro e w1 ⟨a, o, l, c, ok, t, rfl, hb1, -, hok, -⟩
    rw [HP.out] at hok
    have hok' : ok = false := hok
    subst hok'
    clear hok
    go_wp2
    exact bodyPost_ret (v := .tuple #[.string ⟨#[]⟩, .bool false]) (by simp [results, Try.results14, go_sem]) rfl ⟨by rw [HN.out]; rfl, (by first | exact hb1 | exact hb1.alloc hb1.size _)⟩
  | some t0 =>
    obtain ⟨hg, hty, hz, -, -⟩ := ptype_facts hp
    obtain ⟨g1, g2, g3⟩ := typed_tgt hp
    have hsz : t0.sz ≤ 1000000000 := by have := parse_sz (ptype_some.1 hp).1; omega
    have HN : Hid ((nextOf s.data.toList).map Tree.txt = some (onw t0.tgt).txt) := by show _ = _; unfold nextOf; rw [hp]; rfl
    have hn1 : (onw t0.tgt).sz ≤ 1000000000 := by simp [onw, Tree.sz, Tree.szL]; omega
    have hn2 : (onw t0.tgt).text.length ≤ 1000000000 := by rw [onw_text]; simp; omega
    have HP := Lib.hid hp
    clear hp hg hz
    go_enter Try.func14, Try.ntmps14
    go_wp2_with fail
    refine (HR.out _).mono ?_
    rintro e w1 ⟨a, o, l, c, ok, t, rfl, hb1, hr, hok, ht⟩
    rw [HP.out] at hok
    have hok' : ok = true := hok
    subst hok'
    obtain rfl := ht _ HP.out
    have HQ := Lib.hid hr
    have HT := Lib.hid (fun (D : Nat → Prop) v W hr => target_any _ t D v W (Nat.le_refl _) hr hty hsz)
    clear hok ht hr hty
    go_wp2_with fail
    refine (HT.out _ _ _ (by first | exact HQ.out | exact Rep.keep (Keeps.alloc _ _ _) _ _ HQ.out)).mono ?_
    rintro e w2 ⟨a2, o2, l2, c2, rfl, hr2, hb2⟩
    have hB2 : Below w.heap.size w w2 := by first | exact hb1.trans (hb2.mono hb1.size) | exact (hb1.alloc hb1.size _).trans (hb2.mono (by have := hb1.size; simp; omega))
    have HO := Lib.hid (fun (D : Nat → Prop) W hr => onward_any t.tgt D a2 o2 l2 c2 W hr)
    have HQ2 := Lib.hid hr2
    clear hr2
    go_wp2_with fail
    refine (HO.out _ _ (by first | exact HQ2.out | exact Rep.keep (Keeps.alloc _ _ _) _ _ HQ2.out)).mono ?_
    rintro e w3 ⟨a3, o3, l3, c3, rfl, hr3, hb3⟩
    have hB3 : Below w.heap.size w w3 := by first | exact hB2.trans (hb3.mono hB2.size) | exact (hB2.alloc hB2.size _).trans (hb3.mono (by have := hB2.size; simp; omega))
    have HX := Lib.hid (fun (D : Nat → Prop) W hr => text_any (onw t.tgt) D (.agg #[.string a3, .slice o3 l3 c3]) W hr hn1 hn2)
    rw [show bts (onw t.tgt).text = (onw t.tgt).txt from rfl] at HX
    have HQ3 := Lib.hid hr3
    clear hr3 hn1 hn2
    go_wp2_with fail
    refine (HX.out _ _ (by first | exact HQ3.out | exact Rep.keep (Keeps.alloc _ _ _) _ _ HQ3.out)).mono ?_
    rintro e w4 ⟨rfl, hb4⟩
    have hB4 : Below w.heap.size w w4 := by first | exact hB3.trans (hb4.mono hB3.size) | exact (hB3.alloc hB3.size _).trans (hb4.mono (by have := hB3.size; simp; omega))
    go_wp2
    exact bodyPost_ret (v := .tuple #[.string (onw t.tgt).txt, .bool true]) (by simp [results, Try.results14, go_sem]) rfl ⟨by rw [HN.out]; rfl, hB4⟩

set_option maxRecDepth 100000 in
set_option maxHeartbeats 1600000 in
theorem l6tSource_any (s : ByteArray) (t0 : Tree) (w : World) (hs : s.size ≤ 100000000) (hp : ptype s.data.toList = some t0) :
    Calls Try.prog 30 #[.string s] w fun e w' => e = .returned (.string t0.tgt.txt) ∧ Below w.heap.size w w' := by
  obtain ⟨hg, hty, hz, -, -⟩ := ptype_facts hp
  have HR := Lib.hid (l1Parse_any s w (by omega))
  have HP := Lib.hid (ptype_some.1 hp).1
  clear hp
  go_enter Try.func30, Try.ntmps30
  go_wp2_with fail
  refine HR.out.mono ?_
  rintro e w1 ⟨a, o, l, c, ok, t, rfl, hb1, hr, hok, ht⟩
  obtain rfl := ht _ HP.out
  have HQ := Lib.hid hr
  have HT := Lib.hid (fun (D : Nat → Prop) v W hr => l6tOf_any _ t D v W (Nat.le_refl _) hr hg hty (by omega))
  clear hok ht hr hty hg
  go_wp2_with fail
  refine (HT.out _ _ _ (by first | exact HQ.out | exact Rep.keep (Keeps.alloc _ _ _) _ _ HQ.out)).mono ?_
  rintro e w2 ⟨rfl, hb2⟩
  have hB2 : Below w.heap.size w w2 := by first | exact hb1.trans (hb2.mono hb1.size) | exact (hb1.alloc hb1.size _).trans (hb2.mono (by have := hb1.size; simp; omega))
  go_wp2
  go_ret
  exact ⟨rfl, hB2⟩

set_option maxRecDepth 100000 in
set_option maxHeartbeats 1600000 in
theorem sTargetOf_any (s : ByteArray) (w : World) (hs : s.size ≤ 100000000) : Calls Try.prog 11 #[.string s] w (StrR ((tgtOf s.data.toList).map Tree.txt) w) := by
  have HV := Lib.hid (fun W => sTypeValid_any s W (by omega))
  cases hp : ptype s.data.toList with
  | none =>
    have HN : Hid ((tgtOf s.data.toList).map Tree.txt = none) := by show _ = _; unfold tgtOf; rw [hp]; rfl
    rw [hp] at HV
    change Hid (∀ W, Calls _ _ _ W fun e w' => e = .returned (.bool false) ∧ _) at HV
    clear hp
    go_enter Try.func11, Try.ntmps11
    go_wp2_with fail
    refine (HV.out _).mono ?_
    rintro e w1 ⟨rfl, hb1⟩
    go_wp2
    exact bodyPost_ret (v := .tuple #[.string ⟨#[]⟩, .bool false]) (by simp [results, Try.results11, go_sem]) rfl ⟨by rw [HN.out]; rfl, hb1⟩
  | some t0 =>
    have HN : Hid ((tgtOf s.data.toList).map Tree.txt = some t0.tgt.txt) := by show _ = _; unfold tgtOf; rw [hp]; rfl
    have HS := Lib.hid (fun W => l6tSource_any s t0 W hs hp)
    rw [hp] at HV
    change Hid (∀ W, Calls _ _ _ W fun e w' => e = .returned (.bool true) ∧ _) at HV
    clear hp
    go_enter Try.func11, Try.ntmps11
    go_wp2_with fail
    refine (HV.out _).mono ?_
    rintro e w1 ⟨rfl, hb1⟩
    go_wp2_with fail
    refine (HS.out _).mono ?_
    rintro e w2 ⟨rfl, hb2⟩
    go_wp2
    exact bodyPost_ret (v := .tuple #[.string t0.tgt.txt, .bool true]) (by simp [results, Try.results11, go_sem]) rfl ⟨by rw [HN.out]; rfl, hb1.trans (hb2.mono hb1.size)⟩

set_option maxRecDepth 100000 in
set_option maxHeartbeats 1600000 in
theorem sTargetNext_any (s : ByteArray) (w : World) (hs : s.size ≤ 100000000) : Calls Try.prog 13 #[.string s] w (StrR ((nextOf s.data.toList).map Tree.txt) w) := by
  have HV := Lib.hid (fun W => sTypeValid_any s W (by omega))
  cases hp : ptype s.data.toList with
  | none =>
    have HN : Hid ((nextOf s.data.toList).map Tree.txt = none) := by show _ = _; unfold nextOf; rw [hp]; rfl
    rw [hp] at HV
    change Hid (∀ W, Calls _ _ _ W fun e w' => e = .returned (.bool false) ∧ _) at HV
    clear hp
    go_enter Try.func13, Try.ntmps13
    go_wp2_with fail
    refine (HV.out _).mono ?_
    rintro e w1 ⟨rfl, hb1⟩
    go_wp2
    exact bodyPost_ret (v := .tuple #[.string ⟨#[]⟩, .bool false]) (by simp [results, Try.results13, go_sem]) rfl ⟨by rw [HN.out]; rfl, hb1⟩
  | some t0 =>
    have HN : Hid ((nextOf s.data.toList).map Tree.txt = some (onw t0.tgt).txt) := by show _ = _; unfold nextOf; rw [hp]; rfl
    have HS := Lib.hid (fun W => l6tSource_any s t0 W hs hp)
    have HX := Lib.hid (fun W => l6tNext_any t0.tgt W (by have := (typed_tgt hp).2.1; omega))
    rw [hp] at HV
    change Hid (∀ W, Calls _ _ _ W fun e w' => e = .returned (.bool true) ∧ _) at HV
    clear hp
    go_enter Try.func13, Try.ntmps13
    go_wp2_with fail
    refine (HV.out _).mono ?_
    rintro e w1 ⟨rfl, hb1⟩
    go_wp2_with fail
    refine (HS.out _).mono ?_
    rintro e w2 ⟨rfl, hb2⟩
    go_wp2_with fail
    refine (HX.out _).mono ?_
    rintro e w3 ⟨rfl, rfl⟩
    go_wp2
    exact bodyPost_ret (v := .tuple #[.string (onw t0.tgt).txt, .bool true]) (by simp [results, Try.results13, go_sem]) rfl ⟨by rw [HN.out]; rfl, hb1.trans (hb2.mono hb1.size)⟩
end Go.Proofs.Ytcobcmgmleblkaa
