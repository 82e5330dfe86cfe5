/- Instructions: of the program, the walk. -/
import Derived.Test.YtpamfjbgnpmmoaaGreatDoorInstrJ
import Derived.Test.YtpamfjbgnpmmoaaGreatDoorPlainT
import Derived.Test.YtpamfjbgnpmmoaaGreatDoorTarget
import Derived.Deep.RegionHeld3
namespace Go.Proofs.YtpamfjbgnpmmoaaGreatDoor
open Go.RowKit

theorem isZ_e (q : Tree) : isZ q ⟨#[101]⟩ 2 = (decide (q.parts.length = 2) && decide (q.hd.data.toList = [101])) := by
  unfold isZ
  rw [Lib.toList_data, Lib.toList_data, Bool.eq_iff_iff]
  simp
  omega
theorem u8_no {x : UInt8} {n : UInt8} (h : ¬ x = n) : (((x.toNat : Nat) : Int) == ((n.toNat : Nat) : Int)) = false := by
  have : x.toNat ≠ n.toNat := fun e => h (UInt8.toNat_inj.1 e)
  simp only [beq_eq_false_iff_ne, ne_eq]
  omega
theorem str_at {S : List UInt8} {k : Nat} (h : k < (⟨S.toArray⟩ : ByteArray).size) : S[k]? = some ((⟨S.toArray⟩ : ByteArray)[k]) := by
  have hk : k < S.length := by have := h; rw [Lib.size_eq] at this; simpa using this
  rw [List.getElem?_eq_getElem hk]; rfl

theorem shapeI_len (h : List UInt8) (n : Nat) : (shapeI h n).length ≤ n + 4 := by
  unfold shapeI
  repeat' split
  all_goals simp
  all_goals omega

set_option maxRecDepth 100000 in
set_option maxHeartbeats 12800000 in
theorem isInstr_any (t : Tree) (A : Nat → Prop) (v : Value) (w : World) (hr : Rep w A t v) (hg : t.good = true) (hz : t.sz ≤ 24000) (htl : t.text.length ≤ 12000) :
    Calls Tryz.prog 20 #[v] w fun e w' => e = .returned (.bool t.instrI) ∧ Below w.heap.size w w' := by
  have hpl : t.parts.length ≤ 24000 := by obtain ⟨a, ps⟩ := t; have := Tree.length_le_szL ps; simp only [Tree.sz, Tree.parts] at *; omega
  have HHD := Lib.hid (fun v W hr => head_any t (fun b => A b ∧ b < w.heap.size) v W hr (by omega))
  have HB := Lib.hid (Rep.bound _ _ hr)
  have HSH := Lib.hid (fun W => shape_any t.hd t.parts.length W (by omega))
  obtain ⟨s, ps⟩ := t
  have hr' := hr
  simp only [Rep] at hr
  obtain ⟨o, l, c, rfl, hs, hcap⟩ := hr
  obtain rfl := hs.len
  have hs' := RepS.bound _ _ _ hs
  have hsz : Tree.szL ps ≤ 24000 := by simp only [Tree.sz] at hz; omega
  have hgl := (Tree.good_parts hg).1
  -- what comes of the shape
  have HN : Hid (shapeI (Tree.node s ps).hd.data.toList ps.length = [] → (Tree.node s ps).instrI = false) := fun h => by
    cases ps with
    | nil => rfl
    | cons p qs => simp only [Tree.instrI]; rw [show shapeI p.atom.data.toList (qs.length + 1) = [] from h]; rfl
  have HI : Hid (∀ p qs, ps = p :: qs → shapeI (Tree.node s ps).hd.data.toList ps.length ≠ [] → (Tree.node s ps).instrI = all2 kindI (shapeI (Tree.node s ps).hd.data.toList ps.length) qs) := fun p qs h hne => by
    subst h
    have hne' : shapeI p.atom.data.toList (qs.length + 1) ≠ [] := hne
    show (decide (shapeI p.atom.data.toList (qs.length + 1) ≠ []) && all2 kindI (shapeI p.atom.data.toList (qs.length + 1)) qs) = all2 kindI (shapeI p.atom.data.toList (qs.length + 1)) qs
    rw [decide_eq_true hne', Bool.true_and]
  change Hid (∀ W, Calls Tryz.prog 32 #[.string (Tree.node s ps).hd, .int .i64 ps.length] W _) at HSH
  have HEMP : Hid (ps = [] → shapeI (Tree.node s ps).hd.data.toList ps.length = []) := fun h => by subst h; rfl
  generalize hS : shapeI (Tree.node s ps).hd.data.toList ps.length = S at *
  generalize hI' : (Tree.node s ps).instrI = res at *
  generalize (Tree.node s ps).hd = hd at *
  obtain ⟨x0, x1⟩ := two_new w (.string s) (.slice o ps.length c) 44
  have hB0 : Below w.heap.size w (w.alloc (.cells #[.string s, .slice o ps.length c] 44)) := (Below.refl _ _).alloc (Nat.le_refl _) _
  have HR0 := Lib.hid (Rep.keep (Keeps.alloc _ w (.cells #[.string s, .slice o ps.length c] 44)) _ _ HB.out)
  have hSH : (⟨(shapeI hd.data.toList (Tree.node s ps).parts.length).toArray⟩ : ByteArray) = ⟨S.toArray⟩ := by rw [← hS]; rfl
  rw [hSH] at HSH
  have hS3 : ∀ w' : World, Below (w.alloc (.cells #[.string s, .slice o ps.length c] 44)).heap.size (w.alloc (.cells #[.string s, .slice o ps.length c] 44)) w' → w'.cell? ⟨w.heap.size, 0, none⟩ = some (.string s) ∧ w'.cell? ⟨w.heap.size, 1, none⟩ = some (.slice o ps.length c) ∧ Below (w.alloc (.cells #[.string s, .slice o ps.length c] 44)).heap.size (w.alloc (.cells #[.string s, .slice o ps.length c] 44)) w' :=
    fun w' h => ⟨(h.cell (lt_of_cell x0)).trans x0, (h.cell (lt_of_cell x1)).trans x1, h⟩
  have HS := Lib.hid hS3
  have hstr : ∀ k (h : k < (⟨S.toArray⟩ : ByteArray).size), S[k]? = some ((⟨S.toArray⟩ : ByteArray)[k]) := fun k h => str_at h
  have hsl : (⟨S.toArray⟩ : ByteArray).size = S.length := by rw [Lib.size_eq]
  have hsn : S.length ≤ 1000000 := by rw [← hS]; have := shapeI_len hd.data.toList ps.length; simp only [Tree.parts] at hpl; omega
  have hse : ((⟨S.toArray⟩ : ByteArray).toList == []) = (S == []) := by rw [Lib.toList_data]
  generalize (⟨S.toArray⟩ : ByteArray) = str at *
  have HSTR := Lib.hid hstr
  clear hS3 hS hSH hstr hI'
  go_enter Tryz.func20, Tryz.ntmps20
  go_wp2_with fail
  go_region_held3 (fun w' => w'.cell? ⟨w.heap.size, 0, none⟩ = some (.string s) ∧ w'.cell? ⟨w.heap.size, 1, none⟩ = some (.slice o ps.length c) ∧ Below (w.alloc (.cells #[.string s, .slice o ps.length c] 44)).heap.size (w.alloc (.cells #[.string s, .slice o ps.length c] 44)) w') (first | exact HS.out _ (by assumption) | exact HS.out _ (Below.refl _ _).drew)
    (first
      | (go_at_call 33; refine (callQ (w1 := (w.alloc (.cells #[.string s, .slice o ps.length c] 44))) ?_ (HHD.out _ _ (Rep.keep (Keeps.below (by first | assumption | exact (Below.refl _ _).drew)) _ _ HR0.out))).mono ?_; (first | assumption | exact (Below.refl _ _).drew); rintro e w' ⟨rfl, hb'⟩)
      | (go_at_call 32; refine (callQ (w1 := (w.alloc (.cells #[.string s, .slice o ps.length c] 44))) ?_ (HSH.out _)).mono ?_; (first | assumption | exact (Below.refl _ _).drew); rintro e w' ⟨rfl, hb'⟩))
  have hbq : Below (w.alloc (.cells #[.string s, .slice o ps.length c] 44)).heap.size (w.alloc (.cells #[.string s, .slice o ps.length c] 44)) w' := by assumption
  have hB1 := hB0.trans (hbq.mono hB0.size)
  obtain ⟨y0, y1, -⟩ := HS.out _ hbq
  have HW' := Lib.hid hB1
  clear hbq
  by_cases hS0 : S = []
  · have hres := HN.out hS0
    have he : (str.toList == []) = true := by rw [hse, hS0]; rfl
    have he2 : str.toList.isEmpty = true := by simpa using he
    subst hres
    clear hS0 hse
    go_wp2
    go_ret
    exact ⟨rfl, hB1⟩
  have he : (str.toList == []) = false := by rw [hse]; simpa using hS0
  have he2 : str.toList.isEmpty = false := by simpa using he
  have hpne : ps ≠ [] := fun h => hS0 (HEMP.out h)
  obtain ⟨p, qs, hpq⟩ : ∃ p qs, ps = p :: qs := by cases ps with | nil => exact absurd rfl hpne | cons p qs => exact ⟨p, qs, rfl⟩
  have hres := HI.out p qs hpq hS0
  have hql : ps.length = qs.length + 1 := by rw [hpq]; rfl
  by_cases hlen : qs.length = S.length
  · have hSL := hlen
    have HPQ := Lib.hid hpq
    rw [hpq] at hs hgl hsz
    have hql2 : 1 ≤ qs.length := by cases S with | nil => exact absurd rfl hS0 | cons c0 S' => simp at hlen; omega
    have hl2 : ((ps.length : Int) == (str.size : Int) + 1) = true := by simp; omega
    have hl4 : (ps.length : Int) = (str.size : Int) + 1 := by omega
    obtain ⟨b, off, rfl, hAb, hc⟩ := hs.uncons
    have hcm : ¬ c = 1 := by omega
    have hp1 : 1 ≤ ps.length := by omega
    have hp2 : (1 : Int) ≤ (ps.length : Int) := by omega
    have HQL := Lib.hid hql
    have HRC : Hid (∀ W, Below w.heap.size w W → RepC W A (p :: qs) b off) := fun W h => RepC.keep (Keeps.below h) hAb _ _ hc
    have HRES := Lib.hid (show res = all2 kindI S qs from hres)
    have hqq : ∀ (k : Nat) (q : Tree), qs[k]? = some q → q.good = true ∧ q.sz ≤ 24000 ∧ q.atom.size ≤ 1000000000 ∧ q.parts.length ≤ 1000000000 := fun k q hq => by
      have h1 := Tree.good_part _ (k + 1) q (by simpa using hq) hgl
      have h2 := Tree.sz_part (p :: qs) (k + 1) q (by simpa using hq)
      have h3 := part_len s (ps := p :: qs) (k := k + 1) (p := q) (by simpa using hq)
      rw [hpq] at htl
      have h4 : q.atom.size ≤ q.text.length := by
        obtain ⟨a, rs⟩ := q
        simp only [Tree.atom]
        rw [Lib.size_eq]
        cases rs with
        | nil => simp [Tree.text]
        | cons r rs => have := (Tree.good_parts h1).2; simp at this; simp [this]
      have h5 : q.parts.length ≤ q.sz := by obtain ⟨a, rs⟩ := q; have := Tree.length_le_szL rs; simp only [Tree.sz, Tree.parts]; omega
      exact ⟨h1, by omega, by omega, by omega⟩
    have HQQ := Lib.hid hqq
    have HSL := Lib.hid hSL
    have HSZ := Lib.hid hsl
    have hss : str.size ≤ 1000000 := by omega
    have hl3 : ((ps.length : Int) != (str.size : Int) + 1) = false := by simp; omega
    clear hqq hS0 hpne hpq hres hlen hgl hc hs hs' hr' hg hz htl HN HI HEMP HSH HHD HB HR0 HS HW' hSL hsl hse hsn hql hsz
    go_wp2
    clear hl2 hl3 hl4
    go_loopw [28] (fun iv wr => ∃ k : Nat, k ≤ ps.length - 1 ∧ iv = .int .i64 k ∧ Hid (∀ (i : Nat) (c : UInt8) (q : Tree), i < k → S[i]? = some c → qs[i]? = some q → kindI c q = true) ∧ Below w.heap.size w wr) (fun iv _ => ps.length - (intOf iv).toNat)
    case atStart => exact ⟨0, Nat.zero_le _, rfl, fun i c q h => by omega, by assumption⟩
    case round =>
      obtain ⟨k, hk, rfl, HK, hbr⟩ := hrel
      by_cases hlt : k < ps.length - 1
      · have hltq : k < qs.length := by have := HQL.out; omega
        obtain ⟨q, hq⟩ : ∃ q, qs[k]? = some q := ⟨qs[k], by simp [hltq]⟩
        have hks : k < str.size := by have h1 := HSZ.out; have h2 := HSL.out; omega
        have hsk := HSTR.out k hks
        obtain ⟨o', n', c', hx, hy, hrq⟩ := (HRC.out _ hbr).nth (k + 1) (p := q) (k := off + 2 + k * 2) (by simpa using hq) (by omega)
        obtain ⟨hqg, hqz, hqa, hqp⟩ := HQQ.out k q hq
        have hB2 : Below w.heap.size w (wr.alloc (.cells #[.string q.atom, .slice o' n' c'] 44)) := hbr.alloc hbr.size _
        have hrq2 := Rep.keep (Keeps.alloc _ wr (.cells #[.string q.atom, .slice o' n' c'] 44)) _ _ hrq
        obtain ⟨z0, z1⟩ := two_new wr (.string q.atom) (.slice o' n' c') 44
        have HNO : Hid (kindI (str[k]) q = false → res = false) := fun h => by
          rw [HRES.out]
          cases e : all2 kindI S qs with
          | false => rfl
          | true => have := ((all2_iff _ _ _).1 e).2 k _ q hsk hq; rw [this] at h; cases h
        have HYES : Hid (kindI (str[k]) q = true → ∀ (i : Nat) (c : UInt8) (q : Tree), i < k + 1 → S[i]? = some c → qs[i]? = some q → kindI c q = true) := fun h i c' q' hi h1 h2 => by
          by_cases hik : i = k
          · subst hik
            rw [hsk] at h1; rw [hq] at h2
            cases h1; cases h2; exact h
          · exact HK.out i c' q' (by omega) h1 h2
        have HREG := Lib.hid (fun W => isReg_any q.atom W hqa)
        have HNUM := Lib.hid (fun W => isNumeral_any q.atom W hqa)
        have HNB := Lib.hid (fun (h : numB q.atom.data.toList = true) W => number_any q.atom h W)
        have HLAB := Lib.hid (fun W => isLabel_any q.atom W hqa)
        have HIS := Lib.hid (fun v W hr => is_any q A v W ⟨#[101]⟩ 2 hr hqp)
        have HTG := Lib.hid (fun v W hr => isTarget_any false _ q false A v W (Nat.le_refl _) hr (by omega) (by simp))
        rw [isZ_e] at HIS
        have HQT := Lib.hid hrq2
        have HB2 := Lib.hid hB2
        have hkI : (k : Int) < (str.size : Int) := by omega
        have hn0 : (0 : Int) ≤ (str[k].toNat : Int) := Int.natCast_nonneg _
        have hk0 : (0 : Int) ≤ (k : Int) := Int.natCast_nonneg _
        clear hltq hq hsk hrq hrq2 hB2 hqg hqz hqa hqp
        generalize hcc : str[k] = cc at *
        by_cases c0 : cc = 100 ∨ cc = 115
        · have HKI : Hid (kindI cc q = regB q.atom.data.toList) := by show _ = _; unfold kindI; rw [if_pos c0]
          generalize regB q.atom.data.toList = bb at *
          rcases c0 with rfl | rfl
          all_goals
            cases bb
            · have HF := Lib.hid (HNO.out HKI.out)
              clear HNO HYES
              go_wp2_with fail
              refine (HREG.out _).mono ?_
              rintro e w1 ⟨rfl, hb1⟩
              go_wp2
              go_ret
              exact ⟨ret_bool HF.out.symm, HB2.out.trans (hb1.mono HB2.out.size)⟩
            · have HY := Lib.hid (HYES.out HKI.out)
              clear HNO HYES
              go_wp2_with fail
              refine (HREG.out _).mono ?_
              rintro e w1 ⟨rfl, hb1⟩
              go_wp2
              go_roundw
              case rel => exact ⟨k + 1, by omega, by go_num, HY, HB2.out.trans (hb1.mono HB2.out.size)⟩
              case measure => simp [intOf]; omega
        by_cases c110 : cc = 110
        · have HKI : Hid (kindI cc q = numB q.atom.data.toList) := by show _ = _; rw [c110]; simp [kindI]
          generalize numB q.atom.data.toList = bb at *
          subst c110
          cases bb
          · have HF := Lib.hid (HNO.out HKI.out)
            clear HNO HYES
            go_wp2_with fail
            refine (HNUM.out _).mono ?_
            rintro e w1 ⟨rfl, rfl⟩
            go_wp2
            go_ret
            exact ⟨ret_bool HF.out.symm, HB2.out⟩
          · have HY := Lib.hid (HYES.out HKI.out)
            clear HNO HYES
            go_wp2_with fail
            refine (HNUM.out _).mono ?_
            rintro e w1 ⟨rfl, rfl⟩
            go_wp2
            go_roundw
            case rel => exact ⟨k + 1, by omega, by go_num, HY, HB2.out⟩
            case measure => simp [intOf]; omega
        by_cases c109 : cc = 109
        · have HKI : Hid (kindI cc q = (numB q.atom.data.toList && decide (0 ≤ numV q.atom.data.toList))) := by show _ = _; rw [c109]; simp [kindI]
          subst c109
          cases hnb : numB q.atom.data.toList with
          | false =>
            rw [hnb] at HKI HNUM
            have HF := Lib.hid (HNO.out HKI.out)
            clear HNO HYES hnb HNB
            go_wp2_with fail
            refine (HNUM.out _).mono ?_
            rintro e w1 ⟨rfl, rfl⟩
            go_wp2
            go_ret
            exact ⟨ret_bool HF.out.symm, HB2.out⟩
          | true =>
            have HNB2 := Lib.hid (HNB.out hnb)
            rw [hnb] at HKI HNUM
            generalize numV q.atom.data.toList = z at *
            clear hnb HNB
            by_cases hz : 0 ≤ z
            · have HY := Lib.hid (HYES.out (by rw [HKI.out]; simp [hz]))
              have hz2 : decide (0 ≤ z) = true := decide_eq_true hz
              clear HNO HYES
              go_wp2_with fail
              refine (HNUM.out _).mono ?_
              rintro e w1 ⟨rfl, rfl⟩
              go_wp2_with fail
              refine (HNB2.out _).mono ?_
              rintro e w2 ⟨rfl, hb2⟩
              go_wp2
              go_roundw
              case rel => exact ⟨k + 1, by omega, by go_num, HY, HB2.out.trans (hb2.mono HB2.out.size)⟩
              case measure => simp [intOf]; omega
            · have HF := Lib.hid (HNO.out (by rw [HKI.out]; simp [hz]))
              have hz2 : decide (0 ≤ z) = false := decide_eq_false hz
              clear HNO HYES
              go_wp2_with fail
              refine (HNUM.out _).mono ?_
              rintro e w1 ⟨rfl, rfl⟩
              go_wp2_with fail
              refine (HNB2.out _).mono ?_
              rintro e w2 ⟨rfl, hb2⟩
              go_wp2
              go_ret
              exact ⟨ret_bool HF.out.symm, HB2.out.trans (hb2.mono HB2.out.size)⟩
        by_cases c108 : cc = 108
        · have HKI : Hid (kindI cc q = labelB q.atom.data.toList) := by show _ = _; rw [c108]; simp [kindI]
          generalize labelB q.atom.data.toList = bb at *
          subst c108
          cases bb
          · have HF := Lib.hid (HNO.out HKI.out)
            clear HNO HYES
            go_wp2_with fail
            refine (HLAB.out _).mono ?_
            rintro e w1 ⟨rfl, rfl⟩
            go_wp2
            go_ret
            exact ⟨ret_bool HF.out.symm, HB2.out⟩
          · have HY := Lib.hid (HYES.out HKI.out)
            clear HNO HYES
            go_wp2_with fail
            refine (HLAB.out _).mono ?_
            rintro e w1 ⟨rfl, rfl⟩
            go_wp2
            go_roundw
            case rel => exact ⟨k + 1, by omega, by go_num, HY, HB2.out⟩
            case measure => simp [intOf]; omega
        by_cases c69 : cc = 69
        · have HKI : Hid (kindI cc q = ((decide (q.parts.length = 2) && decide (q.hd.data.toList = [101])) && q.target unkI false false)) := by show _ = _; rw [c69]; simp [kindI]
          subst c69
          generalize (decide (q.parts.length = 2) && decide (q.hd.data.toList = [101])) = b1 at *
          generalize q.target unkI false false = b2 at *
          cases b1
          · have HF := Lib.hid (HNO.out HKI.out)
            clear HNO HYES
            go_wp2_with fail
            refine (HIS.out _ _ HQT.out).mono ?_
            rintro e w1 ⟨rfl, hb1⟩
            go_wp2
            go_ret
            exact ⟨ret_bool HF.out.symm, HB2.out.trans (hb1.mono HB2.out.size)⟩
          · have HRQ : Hid (∀ W, Below (wr.alloc (.cells #[.string q.atom, .slice o' n' c'] 44)).heap.size (wr.alloc (.cells #[.string q.atom, .slice o' n' c'] 44)) W → Rep W A q (.agg #[.string q.atom, .slice o' n' c'])) := fun W h => Rep.keep (Keeps.below h) _ _ HQT.out
            cases b2
            · have HF := Lib.hid (HNO.out HKI.out)
              clear HNO HYES
              go_wp2_with fail
              refine (HIS.out _ _ HQT.out).mono ?_
              rintro e w1 ⟨rfl, hb1⟩
              obtain ⟨hc1, hf1⟩ := bcell hb1; have hz1 := hb1.size; simp only [World.size_alloc] at hc1 hf1 hz1
              have hrq1 := HRQ.out _ hb1
              go_wp2_with fail
              refine (HTG.out _ _ hrq1).mono ?_
              rintro e w2 ⟨rfl, hb2⟩
              go_wp2
              go_ret
              exact ⟨ret_bool HF.out.symm, (HB2.out.trans (hb1.mono HB2.out.size)).trans (hb2.mono (Nat.le_trans HB2.out.size hb1.size))⟩
            · have HY := Lib.hid (HYES.out HKI.out)
              clear HNO HYES
              go_wp2_with fail
              refine (HIS.out _ _ HQT.out).mono ?_
              rintro e w1 ⟨rfl, hb1⟩
              obtain ⟨hc1, hf1⟩ := bcell hb1; have hz1 := hb1.size; simp only [World.size_alloc] at hc1 hf1 hz1
              have hrq1 := HRQ.out _ hb1
              go_wp2_with fail
              refine (HTG.out _ _ hrq1).mono ?_
              rintro e w2 ⟨rfl, hb2⟩
              go_wp2
              go_roundw
              case rel => exact ⟨k + 1, by omega, by go_num, HY, (HB2.out.trans (hb1.mono HB2.out.size)).trans (hb2.mono (Nat.le_trans HB2.out.size hb1.size))⟩
              case measure => simp [intOf]; omega
        by_cases c87 : cc = 87
        · have HKI : Hid (kindI cc q = q.target unkI false false) := by show _ = _; rw [c87]; simp [kindI]
          generalize q.target unkI false false = bb at *
          subst c87
          cases bb
          · have HF := Lib.hid (HNO.out HKI.out)
            clear HNO HYES
            go_wp2_with fail
            refine (HTG.out _ _ HQT.out).mono ?_
            rintro e w1 ⟨rfl, hb1⟩
            go_wp2
            go_ret
            exact ⟨ret_bool HF.out.symm, HB2.out.trans (hb1.mono HB2.out.size)⟩
          · have HY := Lib.hid (HYES.out HKI.out)
            clear HNO HYES
            go_wp2_with fail
            refine (HTG.out _ _ HQT.out).mono ?_
            rintro e w1 ⟨rfl, hb1⟩
            go_wp2
            go_roundw
            case rel => exact ⟨k + 1, by omega, by go_num, HY, HB2.out.trans (hb1.mono HB2.out.size)⟩
            case measure => simp [intOf]; omega
        · have c1 : ¬ cc = 100 := fun h => c0 (.inl h)
          have c2 : ¬ cc = 115 := fun h => c0 (.inr h)
          have HF := Lib.hid (HNO.out (by unfold kindI; simp [c1, c2, c110, c109, c108, c69, c87]))
          have e1 : ((cc.toNat : Int) == 100) = false := u8_no (n := 100) c1
          have e2 : ((cc.toNat : Int) == 115) = false := u8_no (n := 115) c2
          have e3 : ((cc.toNat : Int) == 110) = false := u8_no (n := 110) c110
          have e4 : ((cc.toNat : Int) == 109) = false := u8_no (n := 109) c109
          have e5 : ((cc.toNat : Int) == 108) = false := u8_no (n := 108) c108
          have e6 : ((cc.toNat : Int) == 69) = false := u8_no (n := 69) c69
          have e7 : ((cc.toNat : Int) == 87) = false := u8_no (n := 87) c87
          clear HNO HYES c0 c1 c2 c110 c109 c108 c69 c87
          go_wp2
          go_ret
          exact ⟨ret_bool HF.out.symm, HB2.out⟩
      · have HF : Hid (res = true) := by
          show _ = _
          rw [HRES.out, all2_iff]
          refine ⟨HSL.out.symm, fun i c' q' h1 h2 => HK.out i c' q' ?_ h1 h2⟩
          have := (List.getElem?_eq_some_iff.1 h2).1
          have := HQL.out
          omega
        go_wp2
        go_ret
        exact ⟨ret_bool HF.out.symm, hbr⟩
  · have hf : res = false := by
      rw [hres]
      cases h : all2 kindI S qs with
      | false => rfl
      | true => exact absurd ((all2_iff _ _ _).1 h).1.symm hlen
    subst hf
    have hl2 : ((ps.length : Int) == (str.size : Int) + 1) = false := by simp; omega
    have hl3 : ((ps.length : Int) != (str.size : Int) + 1) = true := by simp; omega
    have hl4 : ¬ (ps.length : Int) = (str.size : Int) + 1 := by omega
    have hss : str.size ≤ 1000000 := by omega
    clear hpq hres hse hsl hql he2
    go_wp2
    go_ret
    exact ⟨rfl, hB1⟩
end Go.Proofs.YtpamfjbgnpmmoaaGreatDoor
