/- Instructions: of the reference, the walk; instructions of a text. -/
import Derived.Test.YtpamfjbgnpmmoaaGreatDoorInstrL
namespace Go.Proofs.YtpamfjbgnpmmoaaGreatDoor
open Go.RowKit

/-- The part at a place is of its kind. -/
def kS (S : List UInt8) (k : Nat) (q : Tree) : Bool := kindS (S.getD (min (k + 1) S.length - 1) 0) q

theorem wrap_id {z : Int} (h0 : 0 ≤ z) (h1 : z ≤ 1000000000) : IntKind.i64.wrap z = z := by
  rw [IntKind.wrap_i64]; omega
theorem shapeS_len (h : List UInt8) : (shapeS h).length ≤ 4 := by
  unfold shapeS
  repeat' split
  all_goals simp
theorem shapeS_get {h : List UInt8} : shapeS h ≠ [114, 42] → h = [103, 101, 116] → shapeS h = [114, 114, 110] := fun _ e => by rw [e]; rfl
theorem kS_star {qs : List Tree} (h : ∀ (i : Nat) (q : Tree), qs[i]? = some q → kS [114, 42] i q = true) : qs.all (fun q => regB q.atom.data.toList) = true := by
  rw [List.all_eq_true]
  intro q hq
  obtain ⟨i, hi⟩ := List.getElem?_of_mem hq
  have := h i q hi
  unfold kS at this
  cases i with
  | zero => simpa [kindS] using this
  | succ i =>
    have e : min (i + 1 + 1) ([114, 42] : List UInt8).length - 1 = 1 := by simp
    rw [e] at this
    simpa [kindS] using this
theorem kS_no_star {qs : List Tree} {i : Nat} {q : Tree} (hq : qs[i]? = some q) (h : kS [114, 42] i q = false) : qs.all (fun q => regB q.atom.data.toList) = false := by
  rw [List.all_eq_false]
  refine ⟨q, List.mem_of_getElem? hq, ?_⟩
  unfold kS at h
  cases i with
  | zero => simpa [kindS] using h
  | succ i =>
    have e : min (i + 1 + 1) ([114, 42] : List UInt8).length - 1 = 1 := by simp
    rw [e] at h
    simpa [kindS] using h
theorem kS_all {S : List UInt8} {qs : List Tree} (hl : S.length = qs.length) (h : ∀ (i : Nat) (q : Tree), qs[i]? = some q → kS S i q = true) : all2 kindS S qs = true := by
  rw [all2_iff]
  refine ⟨hl, fun i c p h1 h2 => ?_⟩
  have := h i p h2
  unfold kS at this
  have hi := (List.getElem?_eq_some_iff.1 h1).1
  have e : min (i + 1) S.length - 1 = i := by omega
  rw [e, List.getD_eq_getElem?_getD, h1] at this
  exact this
theorem kS_no {S : List UInt8} {qs : List Tree} (hl : S.length = qs.length) {i : Nat} {q : Tree} (hq : qs[i]? = some q) (h : kS S i q = false) : all2 kindS S qs = false := by
  cases e : all2 kindS S qs with
  | false => rfl
  | true =>
    have hi : i < S.length := by have := (List.getElem?_eq_some_iff.1 hq).1; omega
    have := ((all2_iff _ _ _).1 e).2 i S[i] q (by simp [hi]) hq
    unfold kS at h
    have e : min (i + 1) S.length - 1 = i := by omega
    rw [e, List.getD_eq_getElem?_getD, List.getElem?_eq_getElem hi] at h
    simp only [Option.getD_some] at h
    rw [this] at h
    cases h

set_option maxRecDepth 100000 in
set_option maxHeartbeats 12800000 in
theorem l6tInstr_any (t : Tree) (A : Nat → Prop) (v : Value) (w : World) (hr : Rep w A t v) (hg : t.good = true) (hz : t.sz ≤ 24000) (htl : t.text.length ≤ 12000) :
    Calls Tryz.prog 30 #[v] w fun e w' => e = .returned (.bool t.instrS) ∧ Below w.heap.size w w' := by
  have hpl : t.parts.length ≤ 24000 := by obtain ⟨a, ps⟩ := t; have := Tree.length_le_szL ps; simp only [Tree.sz, Tree.parts] at *; omega
  have HHD := Lib.hid (fun v W hr => hdS_any t A v W hr hg)
  have HSH := Lib.hid (fun W => l6tShape_any t.hd W)
  obtain ⟨s, ps⟩ := t
  have hr' := hr
  simp only [Rep] at hr
  obtain ⟨o, l, c, rfl, hs, hcap⟩ := hr
  obtain rfl := hs.len
  have hsz : Tree.szL ps ≤ 24000 := by simp only [Tree.sz] at hz; omega
  have hgl := (Tree.good_parts hg).1
  have HR0 := Lib.hid (Rep.keep (Keeps.alloc A w (.cells #[.string s, .slice o ps.length c] 57)) _ _ hr')
  have B0 := boxed0 w (.string s) (.slice o ps.length c) 57
  have HN : Hid (shapeS (Tree.node s ps).hd.data.toList = [] → (Tree.node s ps).instrS = false) := fun h => by
    cases ps with
    | nil => rfl
    | cons p qs => simp only [Tree.instrS]; rw [show shapeS p.atom.data.toList = [] from h]; rfl
  have HEMP : Hid (ps = [] → shapeS (Tree.node s ps).hd.data.toList = []) := fun h => by subst h; rfl
  have HIS : Hid (∀ p qs, ps = p :: qs → shapeS (Tree.node s ps).hd.data.toList = [114, 42] → (Tree.node s ps).instrS = (decide (qs ≠ []) && qs.all (fun q => regB q.atom.data.toList))) := fun p qs h h1 => by
    subst h
    have h2 : shapeS p.atom.data.toList = [114, 42] := h1
    simp only [Tree.instrS]
    rw [h2]; simp
  have HIO : Hid (∀ p qs, ps = p :: qs → shapeS (Tree.node s ps).hd.data.toList ≠ [] → shapeS (Tree.node s ps).hd.data.toList ≠ [114, 42] → (Tree.node s ps).instrS = (all2 kindS (shapeS (Tree.node s ps).hd.data.toList) qs && (!decide (p.atom.data.toList = [103, 101, 116]) || decide (0 ≤ numV ((qs.getD 2 (.node ⟨#[]⟩ [])).atom.data.toList))))) := fun p qs h h0 h1 => by
    subst h
    have h2 : shapeS p.atom.data.toList ≠ [114, 42] := h1
    have h3 : shapeS p.atom.data.toList ≠ [] := h0
    simp only [Tree.instrS]
    rw [decide_eq_true h3, if_neg h2, Bool.true_and]
    rfl
  have HGE : Hid (∀ p qs, ps = p :: qs → p.atom.data.toList = [103, 101, 116] → shapeS (Tree.node s ps).hd.data.toList = [114, 114, 110]) := fun p qs h h1 => by
    subst h
    show shapeS p.atom.data.toList = _
    rw [h1]; rfl
  generalize hS : shapeS (Tree.node s ps).hd.data.toList = S at *
  generalize (Tree.node s ps).instrS = res at *
  generalize (Tree.node s ps).hd = hd at *
  have hstr : ∀ k (h : k < (⟨S.toArray⟩ : ByteArray).size), S[k]? = some ((⟨S.toArray⟩ : ByteArray)[k]) := fun k h => str_at h
  have hsl : (⟨S.toArray⟩ : ByteArray).size = S.length := by rw [Lib.size_eq]
  have hsn : S.length ≤ 4 := by rw [← hS]; exact shapeS_len _
  have hse : ∀ L : List UInt8, ((⟨S.toArray⟩ : ByteArray).toList == L) = (S == L) := fun L => by rw [Lib.toList_data]
  generalize (⟨S.toArray⟩ : ByteArray) = str at *
  have HSTR := Lib.hid hstr
  have HSE := Lib.hid hse
  clear hS hstr hse hg hz
  go_enter Tryz.func30, Tryz.ntmps30
  go_wp2_with fail
  refine (HHD.out _ _ HR0.out).mono ?_
  rintro e w1 ⟨rfl, hb1⟩
  have B1 := Below.next B0 hb1; obtain ⟨x1, y1, hB1, hl1⟩ := boxed B1; clear hb1
  go_wp2_with fail
  refine (HSH.out _).mono ?_
  rintro e w2 ⟨rfl, rfl⟩
  have hlp0 : 0 ≤ (ps.length : Int) := by omega
  have hpl2 : ps.length ≤ 24000 := hpl
  by_cases hS0 : S = []
  · have hres := HN.out hS0
    have he : (str.toList == []) = true := by rw [HSE.out, hS0]; rfl
    have he2 : str.toList.isEmpty = true := by simpa using he
    subst hres
    clear hsl hsn
    go_wp2
    go_ret
    exact ⟨rfl, hB1⟩
  have he : (str.toList == []) = false := by rw [HSE.out]; simpa using hS0
  have he2 : str.toList.isEmpty = false := by simpa using he
  have hpne : ps ≠ [] := fun h => hS0 (HEMP.out h)
  obtain ⟨p, qs, hpq⟩ : ∃ p qs, ps = p :: qs := by cases ps with | nil => exact absurd rfl hpne | cons p qs => exact ⟨p, qs, rfl⟩
  have hql : ps.length = qs.length + 1 := by rw [hpq]; rfl
  by_cases hst : S = [114, 42]
  · have h42 : (str.toList == [114, 42]) = true := by rw [HSE.out, hst]; rfl
    have h42b : (str.toList != [114, 42]) = false := by simpa using h42
    have hres := HIS.out p qs hpq hst
    by_cases hq0 : qs = []
    · have hf : res = false := by rw [hres, hq0]; simp
      have hl1 : decide ((ps.length : Int) < 2) = true := decide_eq_true (by rw [hq0] at hql; simp at hql; omega)
      subst hf
      clear hsl hsn hres hpq hql
      go_wp2
      go_ret
      exact ⟨rfl, hB1⟩
    · skip
      have HNO : Hid (∀ (i : Nat) (q : Tree), qs[i]? = some q → kS S i q = false → res = false) := fun i q hq h => by
        rw [hres, kS_no_star hq (by rw [← hst]; exact h), Bool.and_false]
      have HALL : Hid ((∀ (i : Nat) (q : Tree), qs[i]? = some q → kS S i q = true) → res = true) := fun h => by
        rw [hres, kS_star (by rw [← hst]; exact h)]; simp [hq0]
      have hq1 : 1 ≤ qs.length := List.length_pos_iff.2 hq0
      have hl2 := h42
      have hl3 := h42b
      have hl4 := he
      rw [hpq] at hs hgl hsz htl
      have hs2 : str.size = 2 := by rw [hsl, hst]; rfl
      have hp42 : (p.atom.toList == [103, 101, 116]) = false := eq_no (fun h => by have := HGE.out p qs hpq h; rw [hst] at this; simp at this)
      clear hres hst
      obtain ⟨b, off, rfl, hAb, hc⟩ := hs.uncons
      have hp1 : 1 ≤ ps.length := by omega
      have hp2 : (1 : Int) ≤ (ps.length : Int) := by omega
      have hp3 : decide ((ps.length : Int) < 2) = false := decide_eq_false (by omega)
      have HQL := Lib.hid hql
      have HSZ := Lib.hid hsl
      have HRC : Hid (∀ W, Below w.heap.size w W → RepC W A (p :: qs) b off) := fun W h => RepC.keep (Keeps.below h) hAb _ _ hc
      have hqq : ∀ (k : Nat) (q : Tree), qs[k]? = some q → q.good = true ∧ q.sz ≤ 24000 ∧ q.atom.size ≤ 1000000000 := fun k q hq => by
        have h1 := Tree.good_part _ (k + 1) q (by simpa using hq) hgl
        have h2 := Tree.sz_part (p :: qs) (k + 1) q (by simpa using hq)
        have h3 := part_len s (ps := p :: qs) (k := k + 1) (p := q) (by simpa using hq)
        have h4 : q.atom.size ≤ q.text.length := by
          obtain ⟨a, rs⟩ := q
          simp only [Tree.atom]
          rw [Lib.size_eq]
          cases rs with
          | nil => simp [Tree.text]
          | cons r rs => have := (Tree.good_parts h1).2; simp at this; simp [this]
        exact ⟨h1, by omega, by omega⟩
      have HQQ := Lib.hid hqq
      obtain ⟨op, np, cp, hpx, hpy, hrp⟩ := (RepC.keep (Keeps.below hB1) hAb _ _ hc).nth 0 (k := off) rfl rfl
      have hss : str.size ≤ 4 := by omega
      have hsp : 1 ≤ str.size := by have := List.length_pos_iff.2 hS0; omega
      clear hqq hpne hpq hgl hc hs hr' HN HEMP HSH HHD HR0 hsl hql hsz hpx hpy hrp
      go_wp2
      clear hl2 hl3 hl4 hp3
      go_loopw [4] (fun iv wr => ∃ k : Nat, k ≤ ps.length - 1 ∧ iv = .int .i64 ((k : Int) + 1) ∧ Hid (∀ (i : Nat) (q : Tree), i < k → qs[i]? = some q → kS S i q = true) ∧ Below w.heap.size w wr ∧ wr.cell? ⟨w.heap.size, 0, none⟩ = some (.string s) ∧ wr.cell? ⟨w.heap.size, 1, none⟩ = some (.slice (some ⟨b, off, none⟩) ps.length c)) (fun iv _ => ps.length - (intOf iv).toNat)
      case atStart => exact ⟨0, Nat.zero_le _, by go_num, fun i q h => by omega, by assumption, by assumption, by assumption⟩
      case round =>
        obtain ⟨k, hk, rfl, HK, hbr, w0, w1⟩ := hrel
        by_cases hlt : k < ps.length - 1
        · have hltq : k < qs.length := by have := HQL.out; omega
          obtain ⟨q, hq⟩ : ∃ q, qs[k]? = some q := ⟨qs[k], by simp [hltq]⟩
          obtain ⟨o', n', c', hx, hy, hrq⟩ := (HRC.out _ hbr).nth (k + 1) (p := q) (k := off + (k + 1) * 2) (by simpa using hq) rfl
          obtain ⟨hqg, hqz, hqa⟩ := HQQ.out k q hq
          have HNO2 : Hid (kS S k q = false → res = false) := HNO.out k q hq
          have HYES : Hid (kS S k q = true → ∀ (i : Nat) (q : Tree), i < k + 1 → qs[i]? = some q → kS S i q = true) := fun h i q' hi h2 => by
            by_cases hik : i = k
            · subst hik
              rw [hq] at h2
              cases h2; exact h
            · exact HK.out i q' (by omega) h2
          have HSS : Hid (∀ W, Below wr.heap.size wr W → W.cell? ⟨w.heap.size, 0, none⟩ = some (.string s) ∧ W.cell? ⟨w.heap.size, 1, none⟩ = some (.slice (some ⟨b, off, none⟩) ps.length c) ∧ W.cell? ⟨b, off + (k + 1) * 2, none⟩ = some (.string q.atom) ∧ W.cell? ⟨b, off + (k + 1) * 2 + 1, none⟩ = some (.slice o' n' c')) :=
            fun W h => ⟨(h.cell (lt_of_cell w0)).trans w0, (h.cell (lt_of_cell w1)).trans w1, (h.cell (lt_of_cell hx)).trans hx, (h.cell (lt_of_cell hy)).trans hy⟩
          have HRQ : Hid (∀ W, Below wr.heap.size wr W → Rep W A q (.agg #[.string q.atom, .slice o' n' c'])) := fun W h => Rep.keep (Keeps.below h) _ _ hrq
          have hbw0 : Below wr.heap.size wr wr.drew := (Below.refl _ _).drew
          have HBR := Lib.hid hbr
          have hk1 : k + 1 < ps.length := by omega
          have hk2 : (k : Int) + 1 < (ps.length : Int) := by omega
          have hk3 : (0 : Int) ≤ (k : Int) + 1 := by omega
          have hk0 : (0 : Int) ≤ (k : Int) := by omega
          by_cases hk00 : k + 1 ≤ str.size
          · have hjs : k < str.size := by omega
            have hjI : (k : Int) < (str.size : Int) := by omega
            have hm : IntKind.i64.wrap (min ((k : Int) + 1) (str.size : Int) - 1) = (k : Int) := by rw [show min ((k : Int) + 1) (str.size : Int) - 1 = (k : Int) by omega]; exact wrap_id (by omega) (by omega)
            have hsk := HSTR.out _ hjs
            have HKS : Hid (kS S k q = kindS (str[k]) q) := by
              show _ = _
              unfold kS
              rw [← HSZ.out, show min (k + 1) str.size - 1 = k by omega, List.getD_eq_getElem?_getD, hsk]; rfl
            have HPT := Lib.hid (fun v W hr => l6tPart_any (str[k]) q A v W hr hqg hqz hqa)
            rw [← HKS.out] at HPT
            clear hs2 hk00
            clear hq hsk hltq hqg hqz hqa HNO HK HALL HKS hrq hbr
            generalize kS S k q = kk at *
            generalize q.atom = qa at *
            cases kk
            · have HF := Lib.hid (HNO2.out rfl)
              clear HNO2 HYES
              go_wp2_with fail
              go_region_held3 (fun w' => w'.cell? ⟨w.heap.size, 0, none⟩ = some (.string s) ∧ w'.cell? ⟨w.heap.size, 1, none⟩ = some (.slice (some ⟨b, off, none⟩) ps.length c) ∧ w'.cell? ⟨b, off + (k + 1) * 2, none⟩ = some (.string qa) ∧ w'.cell? ⟨b, off + (k + 1) * 2 + 1, none⟩ = some (.slice o' n' c'))
                (first | exact HSS.out _ (by with_reducible assumption) | exact HSS.out _ hbw0)
                (first
                  | (go_at_call 45; refine (HPT.out _ _ (HRQ.out _ hbw0)).mono ?_; rintro e w9 ⟨rfl, hb9⟩; have hbw9 := hbw0.trans (hb9.mono hbw0.size)))
              all_goals
                have hB9 := HBR.out.trans (hbw9.mono HBR.out.size)
                go_wp2
                go_ret
                exact ⟨ret_bool HF.out.symm, hB9⟩
            · have HY := Lib.hid (HYES.out rfl)
              clear HNO2 HYES
              go_wp2_with fail
              go_region_held3 (fun w' => w'.cell? ⟨w.heap.size, 0, none⟩ = some (.string s) ∧ w'.cell? ⟨w.heap.size, 1, none⟩ = some (.slice (some ⟨b, off, none⟩) ps.length c) ∧ w'.cell? ⟨b, off + (k + 1) * 2, none⟩ = some (.string qa) ∧ w'.cell? ⟨b, off + (k + 1) * 2 + 1, none⟩ = some (.slice o' n' c'))
                (first | exact HSS.out _ (by with_reducible assumption) | exact HSS.out _ hbw0)
                (first
                  | (go_at_call 45; refine (HPT.out _ _ (HRQ.out _ hbw0)).mono ?_; rintro e w9 ⟨rfl, hb9⟩; have hbw9 := hbw0.trans (hb9.mono hbw0.size)))
              all_goals
                have hB9 := HBR.out.trans (hbw9.mono HBR.out.size)
                obtain ⟨v0, v1, -⟩ := HSS.out _ hbw9
                go_wp2
                go_roundw
                case rel => exact ⟨k + 1, by omega, by go_num, HY, hB9, v0, v1⟩
                case measure => simp [intOf]; omega
          · have hjs : 1 < str.size := by omega
            have hjI : (1 : Int) < (str.size : Int) := by omega
            have hm : IntKind.i64.wrap (min ((k : Int) + 1) (str.size : Int) - 1) = 1 := by rw [show min ((k : Int) + 1) (str.size : Int) - 1 = 1 by omega]; rfl
            have hsk := HSTR.out _ hjs
            have HKS : Hid (kS S k q = kindS (str[1]) q) := by
              show _ = _
              unfold kS
              rw [← HSZ.out, show min (k + 1) str.size - 1 = 1 by omega, List.getD_eq_getElem?_getD, hsk]; rfl
            have HPT := Lib.hid (fun v W hr => l6tPart_any (str[1]) q A v W hr hqg hqz hqa)
            rw [← HKS.out] at HPT
            clear hs2 hk00
            clear hq hsk hltq hqg hqz hqa HNO HK HALL HKS hrq hbr
            generalize kS S k q = kk at *
            generalize q.atom = qa at *
            cases kk
            · have HF := Lib.hid (HNO2.out rfl)
              clear HNO2 HYES
              go_wp2_with fail
              go_region_held3 (fun w' => w'.cell? ⟨w.heap.size, 0, none⟩ = some (.string s) ∧ w'.cell? ⟨w.heap.size, 1, none⟩ = some (.slice (some ⟨b, off, none⟩) ps.length c) ∧ w'.cell? ⟨b, off + (k + 1) * 2, none⟩ = some (.string qa) ∧ w'.cell? ⟨b, off + (k + 1) * 2 + 1, none⟩ = some (.slice o' n' c'))
                (first | exact HSS.out _ (by with_reducible assumption) | exact HSS.out _ hbw0)
                (first
                  | (go_at_call 45; refine (HPT.out _ _ (HRQ.out _ hbw0)).mono ?_; rintro e w9 ⟨rfl, hb9⟩; have hbw9 := hbw0.trans (hb9.mono hbw0.size)))
              all_goals
                have hB9 := HBR.out.trans (hbw9.mono HBR.out.size)
                go_wp2
                go_ret
                exact ⟨ret_bool HF.out.symm, hB9⟩
            · have HY := Lib.hid (HYES.out rfl)
              clear HNO2 HYES
              go_wp2_with fail
              go_region_held3 (fun w' => w'.cell? ⟨w.heap.size, 0, none⟩ = some (.string s) ∧ w'.cell? ⟨w.heap.size, 1, none⟩ = some (.slice (some ⟨b, off, none⟩) ps.length c) ∧ w'.cell? ⟨b, off + (k + 1) * 2, none⟩ = some (.string qa) ∧ w'.cell? ⟨b, off + (k + 1) * 2 + 1, none⟩ = some (.slice o' n' c'))
                (first | exact HSS.out _ (by with_reducible assumption) | exact HSS.out _ hbw0)
                (first
                  | (go_at_call 45; refine (HPT.out _ _ (HRQ.out _ hbw0)).mono ?_; rintro e w9 ⟨rfl, hb9⟩; have hbw9 := hbw0.trans (hb9.mono hbw0.size)))
              all_goals
                have hB9 := HBR.out.trans (hbw9.mono HBR.out.size)
                obtain ⟨v0, v1, -⟩ := HSS.out _ hbw9
                go_wp2
                go_roundw
                case rel => exact ⟨k + 1, by omega, by go_num, HY, hB9, v0, v1⟩
                case measure => simp [intOf]; omega
        · have HF := Lib.hid (HALL.out (fun i q h => HK.out i q (by have := (List.getElem?_eq_some_iff.1 h).1; have := HQL.out; omega) h))
          obtain ⟨op, np, cp, hpx, hpy, -⟩ := (HRC.out _ hbr).nth 0 (k := off) rfl rfl
          go_wp2
          go_ret
          exact ⟨ret_bool HF.out.symm, hbr⟩
  · have h42 : (str.toList == [114, 42]) = false := by rw [HSE.out]; simpa using hst
    have h42b : (str.toList != [114, 42]) = true := by simpa using h42
    have hres := HIO.out p qs hpq hS0 hst
    by_cases hlen : S.length = qs.length
    · have HNO : Hid (∀ (i : Nat) (q : Tree), qs[i]? = some q → kS S i q = false → res = false) := fun i q hq h => by
        rw [hres, kS_no hlen hq h, Bool.false_and]
      have HALL : Hid ((∀ (i : Nat) (q : Tree), qs[i]? = some q → kS S i q = true) → res = (!decide (p.atom.data.toList = [103, 101, 116]) || decide (0 ≤ numV ((qs.getD 2 (.node ⟨#[]⟩ [])).atom.data.toList)))) := fun h => by
        rw [hres, kS_all hlen h, Bool.true_and]
      have HSL := Lib.hid hlen
      have HKL : Hid (∀ (k : Nat) (q : Tree), qs[k]? = some q → k + 1 ≤ str.size) := fun k q h => by have := (List.getElem?_eq_some_iff.1 h).1; omega
      have hq1 : 1 ≤ qs.length := by have := List.length_pos_iff.2 hS0; omega
      have hl2 : ((ps.length : Int) != (str.size : Int) + 1) = false := by simp; omega
      have hl3 : ((ps.length : Int) == (str.size : Int) + 1) = true := by simp; omega
      have hl4 := he
      rw [hpq] at hs hgl htl
      have hsz : Tree.szL (p :: qs) ≤ 24000 := by rw [← hpq]; exact hsz
      have HGE : Hid (∀ p' qs', p :: qs = p' :: qs' → p'.atom.data.toList = [103, 101, 116] → S = [114, 114, 110]) := fun p' qs' h1 h2 => HGE.out p' qs' (hpq.trans h1) h2
      clear hres hst hlen HIS HIO
      obtain ⟨b, off, rfl, hAb, hc⟩ := hs.uncons
      have hp1 : 1 ≤ ps.length := by omega
      have hp2 : (1 : Int) ≤ (ps.length : Int) := by omega
      have hp3 : decide ((ps.length : Int) < 2) = false := decide_eq_false (by omega)
      have HQL := Lib.hid hql
      have HSZ := Lib.hid hsl
      have HRC : Hid (∀ W, Below w.heap.size w W → RepC W A (p :: qs) b off) := fun W h => RepC.keep (Keeps.below h) hAb _ _ hc
      have hqq : ∀ (k : Nat) (q : Tree), qs[k]? = some q → q.good = true ∧ q.sz ≤ 24000 ∧ q.atom.size ≤ 1000000000 := fun k q hq => by
        have h1 := Tree.good_part _ (k + 1) q (by simpa using hq) hgl
        have h2 := Tree.sz_part (p :: qs) (k + 1) q (by simpa using hq)
        have h3 := part_len s (ps := p :: qs) (k := k + 1) (p := q) (by simpa using hq)
        have h4 : q.atom.size ≤ q.text.length := by
          obtain ⟨a, rs⟩ := q
          simp only [Tree.atom]
          rw [Lib.size_eq]
          cases rs with
          | nil => simp [Tree.text]
          | cons r rs => have := (Tree.good_parts h1).2; simp at this; simp [this]
        exact ⟨h1, by omega, by omega⟩
      have HQQ := Lib.hid hqq
      obtain ⟨op, np, cp, hpx, hpy, hrp⟩ := (RepC.keep (Keeps.below hB1) hAb _ _ hc).nth 0 (k := off) rfl rfl
      have hss : str.size ≤ 4 := by omega
      have hsp : 1 ≤ str.size := by have := List.length_pos_iff.2 hS0; omega
      clear hqq hpne hpq hgl hc hs hr' HN HEMP HSH HHD HR0 hsl hql hsz hpx hpy hrp
      go_wp2
      clear hl2 hl3 hl4 hp3
      go_loopw [4] (fun iv wr => ∃ k : Nat, k ≤ ps.length - 1 ∧ iv = .int .i64 ((k : Int) + 1) ∧ Hid (∀ (i : Nat) (q : Tree), i < k → qs[i]? = some q → kS S i q = true) ∧ Below w.heap.size w wr ∧ wr.cell? ⟨w.heap.size, 0, none⟩ = some (.string s) ∧ wr.cell? ⟨w.heap.size, 1, none⟩ = some (.slice (some ⟨b, off, none⟩) ps.length c)) (fun iv _ => ps.length - (intOf iv).toNat)
      case atStart => exact ⟨0, Nat.zero_le _, by go_num, fun i q h => by omega, by assumption, by assumption, by assumption⟩
      case round =>
        obtain ⟨k, hk, rfl, HK, hbr, w0, w1⟩ := hrel
        by_cases hlt : k < ps.length - 1
        · have hltq : k < qs.length := by have := HQL.out; omega
          obtain ⟨q, hq⟩ : ∃ q, qs[k]? = some q := ⟨qs[k], by simp [hltq]⟩
          obtain ⟨o', n', c', hx, hy, hrq⟩ := (HRC.out _ hbr).nth (k + 1) (p := q) (k := off + (k + 1) * 2) (by simpa using hq) rfl
          obtain ⟨hqg, hqz, hqa⟩ := HQQ.out k q hq
          have HNO2 : Hid (kS S k q = false → res = false) := HNO.out k q hq
          have HYES : Hid (kS S k q = true → ∀ (i : Nat) (q : Tree), i < k + 1 → qs[i]? = some q → kS S i q = true) := fun h i q' hi h2 => by
            by_cases hik : i = k
            · subst hik
              rw [hq] at h2
              cases h2; exact h
            · exact HK.out i q' (by omega) h2
          have HSS : Hid (∀ W, Below wr.heap.size wr W → W.cell? ⟨w.heap.size, 0, none⟩ = some (.string s) ∧ W.cell? ⟨w.heap.size, 1, none⟩ = some (.slice (some ⟨b, off, none⟩) ps.length c) ∧ W.cell? ⟨b, off + (k + 1) * 2, none⟩ = some (.string q.atom) ∧ W.cell? ⟨b, off + (k + 1) * 2 + 1, none⟩ = some (.slice o' n' c')) :=
            fun W h => ⟨(h.cell (lt_of_cell w0)).trans w0, (h.cell (lt_of_cell w1)).trans w1, (h.cell (lt_of_cell hx)).trans hx, (h.cell (lt_of_cell hy)).trans hy⟩
          have HRQ : Hid (∀ W, Below wr.heap.size wr W → Rep W A q (.agg #[.string q.atom, .slice o' n' c'])) := fun W h => Rep.keep (Keeps.below h) _ _ hrq
          have hbw0 : Below wr.heap.size wr wr.drew := (Below.refl _ _).drew
          have HBR := Lib.hid hbr
          have hk1 : k + 1 < ps.length := by omega
          have hk2 : (k : Int) + 1 < (ps.length : Int) := by omega
          have hk3 : (0 : Int) ≤ (k : Int) + 1 := by omega
          have hk0 : (0 : Int) ≤ (k : Int) := by omega
          have hks := HKL.out k q hq
          have hjs : k < str.size := by omega
          have hjI : (k : Int) < (str.size : Int) := by omega
          have hm : IntKind.i64.wrap (min ((k : Int) + 1) (str.size : Int) - 1) = (k : Int) := by rw [show min ((k : Int) + 1) (str.size : Int) - 1 = (k : Int) by omega]; exact wrap_id (by omega) (by omega)
          have hsk := HSTR.out _ hjs
          have HKS : Hid (kS S k q = kindS (str[k]) q) := by
            show _ = _
            unfold kS
            rw [← HSZ.out, show min (k + 1) str.size - 1 = k by omega, List.getD_eq_getElem?_getD, hsk]; rfl
          have HPT := Lib.hid (fun v W hr => l6tPart_any (str[k]) q A v W hr hqg hqz hqa)
          rw [← HKS.out] at HPT
          clear hq hsk hltq hqg hqz hqa HNO HK HALL HKS hrq hbr
          generalize kS S k q = kk at *
          generalize q.atom = qa at *
          cases kk
          · have HF := Lib.hid (HNO2.out rfl)
            clear HNO2 HYES
            go_wp2_with fail
            go_region_held3 (fun w' => w'.cell? ⟨w.heap.size, 0, none⟩ = some (.string s) ∧ w'.cell? ⟨w.heap.size, 1, none⟩ = some (.slice (some ⟨b, off, none⟩) ps.length c) ∧ w'.cell? ⟨b, off + (k + 1) * 2, none⟩ = some (.string qa) ∧ w'.cell? ⟨b, off + (k + 1) * 2 + 1, none⟩ = some (.slice o' n' c'))
              (first | exact HSS.out _ (by with_reducible assumption) | exact HSS.out _ hbw0)
              (first
                | (go_at_call 45; refine (HPT.out _ _ (HRQ.out _ hbw0)).mono ?_; rintro e w9 ⟨rfl, hb9⟩; have hbw9 := hbw0.trans (hb9.mono hbw0.size)))
            all_goals
              have hB9 := HBR.out.trans (hbw9.mono HBR.out.size)
              go_wp2
              go_ret
              exact ⟨ret_bool HF.out.symm, hB9⟩
          · have HY := Lib.hid (HYES.out rfl)
            clear HNO2 HYES
            go_wp2_with fail
            go_region_held3 (fun w' => w'.cell? ⟨w.heap.size, 0, none⟩ = some (.string s) ∧ w'.cell? ⟨w.heap.size, 1, none⟩ = some (.slice (some ⟨b, off, none⟩) ps.length c) ∧ w'.cell? ⟨b, off + (k + 1) * 2, none⟩ = some (.string qa) ∧ w'.cell? ⟨b, off + (k + 1) * 2 + 1, none⟩ = some (.slice o' n' c'))
              (first | exact HSS.out _ (by with_reducible assumption) | exact HSS.out _ hbw0)
              (first
                | (go_at_call 45; refine (HPT.out _ _ (HRQ.out _ hbw0)).mono ?_; rintro e w9 ⟨rfl, hb9⟩; have hbw9 := hbw0.trans (hb9.mono hbw0.size)))
            all_goals
              have hB9 := HBR.out.trans (hbw9.mono HBR.out.size)
              obtain ⟨v0, v1, -⟩ := HSS.out _ hbw9
              go_wp2
              go_roundw
              case rel => exact ⟨k + 1, by omega, by go_num, HY, hB9, v0, v1⟩
              case measure => simp [intOf]; omega
        · obtain ⟨op, np, cp, hpx, hpy, -⟩ := (HRC.out _ hbr).nth 0 (k := off) rfl rfl
          have HAK : Hid (∀ (i : Nat) (q : Tree), qs[i]? = some q → kS S i q = true) := fun i q h => HK.out i q (by have := (List.getElem?_eq_some_iff.1 h).1; have := HQL.out; omega) h
          have HRS := Lib.hid (HALL.out HAK.out)
          by_cases hget : p.atom.data.toList = [103, 101, 116]
          · have hb := eq_yes hget
            have hSg := HGE.out p qs rfl hget
            have hq3 : qs.length = 3 := by rw [← HSL.out, hSg]; rfl
            obtain ⟨x, y, z, HQ3⟩ : ∃ x y z, Hid (qs = [x, y, z]) := by
              match qs, hq3 with
              | [x, y, z], _ => exact ⟨x, y, z, rfl⟩
            have hz2 : qs[2]? = some z := by rw [HQ3.out]; rfl
            have hnz : numB z.atom.data.toList = true := by
              have := HAK.out 2 z hz2
              unfold kS at this
              rw [hSg] at this
              simpa [kindS] using this
            have HNU := Lib.hid (fun W => l2Number_any z.atom W (HQQ.out 2 z hz2).2.2)
            have HP1 := numP_fst hnz
            rw [HP1, numP_snd, hnz] at HNU
            have HF : Hid (res = decide (0 ≤ numV z.atom.data.toList)) := by
              show _ = _
              rw [HRS.out, hget, HQ3.out]
              simp
            obtain ⟨oz, nz, cz, hzx, hzy, -⟩ := (HRC.out _ hbr).nth 3 (p := z) (k := off + 6) (by simpa using hz2) rfl
            have h3 : 3 < ps.length := by have := HQL.out; omega
            have h3I : (3 : Int) < (ps.length : Int) := by omega
            clear hget hSg hq3 hz2 hnz HP1
            generalize numV z.atom.data.toList = zz at *
            generalize p.atom = pa at *
            go_wp2_with fail
            refine (HNU.out _).mono ?_
            rintro e w9 ⟨rfl, rfl⟩
            go_wp2
            go_ret
            exact ⟨ret_bool HF.out.symm, hbr⟩
          · have hb := eq_no hget
            have HF : Hid (res = true) := by
              show _ = _
              rw [HRS.out, decide_eq_false hget]; rfl
            clear hget
            generalize p.atom = pa at *
            go_wp2
            go_ret
            exact ⟨ret_bool HF.out.symm, hbr⟩
    · have hf : res = false := by
        rw [hres]
        have : all2 kindS S qs = false := by
          cases e : all2 kindS S qs with
          | false => rfl
          | true => exact absurd ((all2_iff _ _ _).1 e).1 hlen
        rw [this, Bool.false_and]
      have hl2 : ((ps.length : Int) != (str.size : Int) + 1) = true := by simp; omega
      have hl3 : ((ps.length : Int) == (str.size : Int) + 1) = false := by simp; omega
      have hl5 : ¬ (ps.length : Int) = (str.size : Int) + 1 := by omega
      have hss : str.size ≤ 4 := by omega
      subst hf
      clear hsl hsn hres hpq hql hlen hst
      go_wp2
      go_ret
      exact ⟨rfl, hB1⟩
end Go.Proofs.YtpamfjbgnpmmoaaGreatDoor
