/- FormMake of the program and of the reference: a form is made of parts. -/
import Derived.Test.YtcobcmgmleblkaaReplF
import Derived.Test.YtcobcmgmleblkaaPlainU
import Derived.Test.YtcobcmgmleblkaaStrs
namespace Go.Proofs.Ytcobcmgmleblkaa
open Go.RowKit

/-- All texts are read. -/
def allOf : List ByteArray → Option (List Tree)
  | [] => some []
  | s :: l => match parse s.data.toList, allOf l with
    | some t, some ts => some (t :: ts)
    | _, _ => none

theorem allOf_cons {s : ByteArray} {l : List ByteArray} {ts : List Tree} : allOf (s :: l) = some ts ↔ ∃ t ts', ts = t :: ts' ∧ parse s.data.toList = some t ∧ allOf l = some ts' := by
  simp only [allOf]
  cases parse s.data.toList with
  | none => simp
  | some t =>
    cases allOf l with
    | none => simp
    | some ts' =>
      constructor
      · intro h; cases h; exact ⟨t, ts', rfl, rfl, rfl⟩
      · rintro ⟨t', ts'', rfl, h1, h2⟩; cases h1; cases h2; rfl

theorem allOf_snoc : ∀ {l : List ByteArray} {s : ByteArray} {ts : List Tree} {t : Tree}, allOf l = some ts → parse s.data.toList = some t → allOf (l ++ [s]) = some (ts ++ [t])
  | [], s, ts, t, h, h' => by simp [allOf] at h; subst h; simp [allOf, h']
  | a :: l, s, ts, t, h, h' => by
    obtain ⟨t0, ts', rfl, h1, h2⟩ := allOf_cons.1 h
    exact allOf_cons.2 ⟨t0, ts' ++ [t], rfl, h1, allOf_snoc h2 h'⟩

theorem allOf_bad : ∀ {l : List ByteArray} {s : ByteArray}, s ∈ l → parse s.data.toList = none → allOf l = none
  | a :: l, s, hs, h => by
    cases e : allOf (a :: l) with
    | none => rfl
    | some ts =>
      obtain ⟨t, ts', -, h1, h2⟩ := allOf_cons.1 e
      rcases List.mem_cons.1 hs with rfl | hs
      · rw [h] at h1; cases h1
      · rw [allOf_bad hs h] at h2; cases h2

theorem allOf_len : ∀ {l : List ByteArray} {ts : List Tree}, allOf l = some ts → ts.length = l.length
  | [], ts, h => by simp [allOf] at h; subst h; rfl
  | a :: l, ts, h => by obtain ⟨t, ts', rfl, h1, h2⟩ := allOf_cons.1 h; simp [allOf_len h2]

theorem allOf_good : ∀ {l : List ByteArray} {ts : List Tree}, allOf l = some ts → Tree.goodL ts = true ∧ Tree.szL ts ≤ l.length * 24000 ∧ (∀ i, (Tree.opened i ts).length ≤ l.length * 12001) ∧ l = ts.map Tree.txt
  | [], ts, h => by simp [allOf] at h; subst h; simp [Tree.goodL, Tree.szL, Tree.opened]
  | a :: l, ts, h => by
    obtain ⟨t, ts', rfl, h1, h2⟩ := allOf_cons.1 h
    obtain ⟨h3, h4, h5, h6⟩ := allOf_good h2
    have h7 := parse_sz h1
    have h8 := parse_text_le h1
    refine ⟨by simp [Tree.goodL, parse_good h1, h3], by simp only [Tree.szL, List.length_cons]; omega, fun i => ?_, ?_⟩
    · have := h5 (i + 1)
      simp only [Tree.opened, List.length_cons, List.length_append]; omega
    · rw [List.map_cons, ← h6, Tree.txt, ← ((parse_iff _ _).1 h1).1, bts_of]

/-- What making a form of parts gives. -/
def makeF (l : List ByteArray) : Option ByteArray := match allOf l with
  | some ts => if ts ≠ [] ∧ (Tree.node ⟨#[]⟩ ts).fits = true then some (Tree.node ⟨#[]⟩ ts).txt else none
  | none => none

theorem makeF_none {l : List ByteArray} (h : allOf l = none) : makeF l = none := by unfold makeF; rw [h]
theorem makeF_some {l : List ByteArray} {ts : List Tree} (h : allOf l = some ts) : makeF l = if ts ≠ [] ∧ (Tree.node ⟨#[]⟩ ts).fits = true then some (Tree.node ⟨#[]⟩ ts).txt else none := by unfold makeF; rw [h]

theorem opened_ge : ∀ (ps : List Tree) (i : Nat), ps.length ≤ (Tree.opened i ps).length
  | [], _ => Nat.zero_le _
  | p :: ps, i => by have := opened_ge ps (i + 1); simp only [Tree.opened, List.length_cons, List.length_append]; omega

theorem makeF_long {l : List ByteArray} (h : 12000 < l.length) : makeF l = none := by
  cases e : allOf l with
  | none => exact makeF_none e
  | some ts =>
    rw [makeF_some e, if_neg]
    rintro ⟨h1, h2⟩
    have h3 := allOf_len e
    have h4 := opened_ge ts 0
    have h5 : (Tree.node ⟨#[]⟩ ts).text.length = (Tree.opened 0 ts).length + 1 := by rw [text_of_opened _ _ h1]; simp
    unfold Tree.fits at h2
    simp at h2; omega

theorem node_good {ts : List Tree} (h : Tree.goodL ts = true) (hn : ts ≠ []) : (Tree.node ⟨#[]⟩ ts).good = true := by
  have hi : ts.isEmpty = false := by simpa using hn
  simp [Tree.good, hi, h]

/-- How many bytes there are in a list of texts, and how many texts. -/
def totS (l : List ByteArray) : Nat := (l.map ByteArray.size).sum + l.length
theorem totS_snoc (l : List ByteArray) (s : ByteArray) : totS (l ++ [s]) = totS l + s.size + 1 := by simp [totS]; omega
theorem totS_take (l : List ByteArray) (k : Nat) : totS (l.take k) ≤ totS l := by
  induction l generalizing k with
  | nil => simp
  | cons a l ih => cases k with
    | zero => simp [totS]
    | succ k => have := ih k; simp only [totS, List.take_succ_cons, List.map_cons, List.sum_cons, List.length_cons] at *; omega
theorem totS_mem {l : List ByteArray} {s : ByteArray} (h : s ∈ l) : s.size ≤ totS l := by
  induction l with
  | nil => simp at h
  | cons a l ih =>
    simp only [totS, List.map_cons, List.sum_cons, List.length_cons] at *
    rcases List.mem_cons.1 h with rfl | h
    · omega
    · have := ih h; omega

set_option maxRecDepth 100000 in
set_option maxHeartbeats 1600000 in
theorem readAll_any (l : List ByteArray) (o : Option Addr) (n c : Nat) (w : World) (h : Strs w o n l) (hn : n ≤ 100000) (ht : totS l ≤ 100000000) :
    Calls Try.prog 55 #[.slice o n c] w fun e w' => ∃ o' l' c', e = .returned (.tuple #[.slice o' l' c', .bool (allOf l).isSome]) ∧ (∀ ts, allOf l = some ts → l' = ts.length ∧ Rep w' (fun b => w.heap.size ≤ b) (.node ⟨#[]⟩ ts) (.agg #[.string ⟨#[]⟩, .slice o' l' c'])) ∧ Below w.heap.size w w' := by
  obtain rfl : n = l.length := h.1
  have H := Lib.hid h
  have HT := Lib.hid ht
  obtain ⟨i0, hi, hz0, hz1, hz2⟩ := info_parts info50
  clear h ht
  go_enter Try.func55, Try.ntmps55
  go_wp2
  go_loopw [11, 4] (fun iv lv wr => ∃ (ts : List Tree) (o1 : Option Addr) (c1 : Nat), iv = .int .i64 ts.length ∧ lv = .slice o1 ts.length c1 ∧ ts.length ≤ l.length ∧ Hid (allOf (l.take ts.length) = some ts) ∧ Hid (TRow wr w.heap.size 38 (.slice o1 ts.length c1) ts) ∧ Below w.heap.size w wr) (fun iv _ _ => l.length - (intOf iv).toNat)
  case atStart => exact ⟨[], none, 0, rfl, rfl, Nat.zero_le _, rfl, TRow.nil _ _ _, Below.refl _ _⟩
  case round =>
    obtain ⟨ts, o1, c1, rfl, rfl, hk, HA, HR, hbr⟩ := hrel
    have hsr := hbr.size
    by_cases hlt : ts.length < l.length
    · obtain ⟨b, off, s, rfl, hls, hcs⟩ := (H.out.keep hbr).at hlt
      have hmem : s ∈ l := List.mem_of_getElem? hls
      have hss := totS_mem hmem
      have HTT := HT.out
      have HRD := Lib.hid (fun W => read_any s W (by omega))
      have HLS : Hid (l.take (ts.length + 1) = l.take ts.length ++ [s]) := by show _ = _; rw [List.take_add_one, hls]; rfl
      have hi0 : (0 : Int) ≤ (ts.length : Int) := Int.natCast_nonneg _
      have hi1 : (ts.length : Int) < (l.length : Int) := by omega
      cases hp : parse s.data.toList with
      | none =>
        have hall := allOf_bad hmem hp
        have HAL := Lib.hid hall
        have HP := Lib.hid hp
        clear hall hp hls hmem HLS
        go_wp2_with fail
        refine (HRD.out _).mono ?_
        rintro e w1 ⟨a, o2, l2, c2, ok, t, rfl, hb1, -, hok, -⟩
        rw [HP.out] at hok
        have hok' : ok = false := hok
        subst hok'
        clear hok
        go_wp2
        go_ret2
        exact ⟨none, 0, 0, by rw [HAL.out]; rfl, (fun ts' h => by rw [HAL.out] at h; cases h), (hbr.trans (hb1.mono hsr)).alloc (by have := hb1.size; omega) _⟩
      | some t0 =>
        have HP := Lib.hid hp
        have HN := Lib.hid (allOf_snoc HA.out hp)
        rw [← HLS.out] at HN
        clear hp hls hmem HLS
        go_wp2_with fail
        refine (HRD.out _).mono ?_
        rintro e w1 ⟨a, o2, l2, c2, ok, t, rfl, hb1, hr1, hok, ht1⟩
        rw [HP.out] at hok
        have hok' : ok = true := hok
        subst hok'
        obtain rfl := ht1 _ HP.out
        clear hok ht1
        have hs1 := hb1.size
        have hbw1 := hbr.trans (hb1.mono hsr)
        have HR1 := Lib.hid ((HR.out.below hb1).alloc (.cells #[.string a, .slice o2 l2 c2] 38))
        have HQ := Lib.hid (Rep.keep (Keeps.alloc _ w1 (.cells #[.string a, .slice o2 l2 c2] 38)) _ _ (Rep.bound _ _ hr1))
        have hAA : ∀ b, (wr.heap.size ≤ b ∧ b < w1.heap.size) → w.heap.size ≤ b ∧ b < (w1.alloc (.cells #[.string a, .slice o2 l2 c2] 38)).heap.size ∧ (Value.slice o1 ts.length c1).ownBlock ≠ some b := by
          intro b hb
          refine ⟨by omega, by simp; omega, fun e => ?_⟩
          have := (HR.out.ownLt e).2; omega
        have HAA := Lib.hid hAA
        have hln : ts.length ≤ 1000000000 := by omega
        have hB2 := hbw1.alloc (by omega) (.cells #[.string a, .slice o2 l2 c2] 38)
        clear hr1 hb1 hAA HR
        go_wp2_with (at_builtin; refine wpList_append_box rfl (.tmp 22) (.tmp 24) 36 rfl w.heap.size 38 i0 _ 40 Try.underlying36 hi hz0 hz1 hz2 rfl (by decide) (.slice o1 ts.length c1) rfl ts _ 1 _ rfl (by simp) t (.string a) (.slice o2 l2 c2) rfl rfl HR1.out HQ.out HAA.out hln (by simp; omega) ?_; intro g' cap w2 hrow2 hb2)
        have HR2 := Lib.hid hrow2
        have HB := Lib.hid (hB2.trans hb2)
        have hlen1 : (ts ++ [t]).length = ts.length + 1 := by simp
        have HL1 := Lib.hid hlen1
        clear hrow2 hlen1 HAA HQ HR1
        go_wp2
        go_roundw
        case rel => exact ⟨ts ++ [t], some ⟨g', 0, none⟩, cap, by rw [HL1.out]; go_num, by rw [HL1.out], by rw [HL1.out]; omega, by rw [HL1.out]; exact HN, by rw [HL1.out]; exact HR2, HB.out⟩
        case measure => simp [intOf]; omega
    · have hkn : ts.length = l.length := by omega
      have HF : Hid (allOf l = some ts) := by
        have := HA.out
        rwa [hkn, List.take_length] at this
      go_wp2
      go_ret2
      exact ⟨o1, ts.length, c1, by rw [HF.out]; rfl, (fun ts' h => by rw [HF.out] at h; cases h; exact ⟨rfl, HR.out.rep ⟨#[]⟩⟩), hbr⟩

set_option maxRecDepth 100000 in
set_option maxHeartbeats 1600000 in
theorem formMake_any (l : List ByteArray) (o : Option Addr) (n c : Nat) (w : World) (h : Strs w o n l) (ht : totS l ≤ 100000000) :
    Calls Try.prog 22 #[.slice o n c] w (StrR (makeF l) w) := by
  obtain rfl : n = l.length := h.1
  have hll : l.length ≤ 100000000 := by unfold totS at ht; omega
  by_cases hlong : 12000 < l.length
  · have HN := Lib.hid (makeF_long hlong)
    go_enter Try.func22, Try.ntmps22
    go_wp2
    go_ret2
    exact ⟨by rw [HN.out]; rfl, Below.refl _ _⟩
  · have HR := Lib.hid (readAll_any l o l.length c w h (by omega) ht)
    have HN1 := Lib.hid (fun e => makeF_none (l := l) e)
    have HN2 := Lib.hid (fun ts e => makeF_some (l := l) (ts := ts) e)
    have HG := Lib.hid (fun ts e => allOf_good (l := l) (ts := ts) e)
    have HLN := Lib.hid (fun ts e => allOf_len (l := l) (ts := ts) e)
    clear h ht
    generalize makeF l = res at *
    go_enter Try.func22, Try.ntmps22
    go_wp2_with fail
    refine HR.out.mono ?_
    rintro e w1 ⟨o', l', c', rfl, hrep, hb1⟩
    cases hal : allOf l with
    | none =>
      have hres := HN1.out hal
      subst hres
      clear hrep HN1 HN2 HG HLN HR hal
      go_wp2
      go_ret2
      exact ⟨rfl, hb1.alloc hb1.size _⟩
    | some ts =>
      obtain ⟨rfl, hr⟩ := hrep ts hal
      have hres := HN2.out ts hal
      obtain ⟨hg, hsz, htx, -⟩ := HG.out ts hal
      have hln := HLN.out ts hal
      have HRS := Lib.hid hres
      have HGD := Lib.hid hg
      have hbx := hb1.alloc hb1.size (.cells #[.string ⟨#[]⟩, .slice o' ts.length c'] 38)
      have HRX := Lib.hid (Rep.keep (Keeps.alloc _ w1 (.cells #[.string ⟨#[]⟩, .slice o' ts.length c'] 38)) _ _ hr)
      by_cases hte : ts = []
      · have hres' := HRS.out
        rw [if_neg (by simp [hte])] at hres'
        subst hres'
        subst hte
        have HBX := Lib.hid hbx
        clear hrep HN1 HN2 HG HLN HR hal hres HRS hr hbx hln hsz htx hg
        go_wp2
        go_ret2
        exact ⟨rfl, by simpa using HBX.out⟩
      · have hl1 : ((ts.length : Int) == 0) = false := by have := List.length_pos_iff.2 hte; simp; omega
        have hz : (Tree.node ⟨#[]⟩ ts).sz ≤ 1000000000 := by simp only [Tree.sz]; omega
        have htt : (Tree.node ⟨#[]⟩ ts).text.length ≤ 1000000000 := by rw [text_of_opened _ _ hte]; have := htx 0; simp; omega
        have HFI := Lib.hid (fits_any _ _ _ _ HRX.out hz htt)
        rw [show (decide ((Tree.node ⟨#[]⟩ ts).depth ≤ 60) && decide ((Tree.node ⟨#[]⟩ ts).text.length ≤ 12000)) = (Tree.node ⟨#[]⟩ ts).fits from rfl] at HFI
        have HTXT := Lib.hid (fun W hr => text_any (Tree.node ⟨#[]⟩ ts) (fun b => w.heap.size ≤ b) (.agg #[.string ⟨#[]⟩, .slice o' ts.length c']) W hr hz htt)
        rw [show bts (Tree.node ⟨#[]⟩ ts).text = (Tree.node ⟨#[]⟩ ts).txt from rfl] at HTXT
        clear hrep HN1 HN2 HG HLN HR hal hres hr hz htt hln hsz htx hg
        by_cases hf : (Tree.node ⟨#[]⟩ ts).fits = true
        · have hres' := HRS.out
          rw [if_pos ⟨hte, hf⟩] at hres'
          rw [hf] at HFI
          subst hres'
          clear HRS hte hf
          go_wp2_with fail
          refine HFI.out.mono ?_
          rintro e w2 ⟨rfl, hb2⟩
          have hB2 := hbx.trans (hb2.mono hbx.size)
          obtain ⟨v0, v1⟩ := box_cells (box_at hb2)
          have HC := Lib.hid (HTXT.out w2 (Rep.keep (Keeps.below hb2) _ _ HRX.out))
          go_wp2_with fail
          refine HC.out.mono ?_
          rintro e w3 ⟨rfl, hb3⟩
          go_wp2
          go_ret2
          exact ⟨rfl, hB2.trans (hb3.mono hB2.size)⟩
        · have hf' : (Tree.node ⟨#[]⟩ ts).fits = false := by simpa using hf
          have hres' := HRS.out
          rw [if_neg (fun h => hf h.2)] at hres'
          rw [hf'] at HFI
          subst hres'
          clear HRS hte hf hf'
          go_wp2_with fail
          refine HFI.out.mono ?_
          rintro e w2 ⟨rfl, hb2⟩
          go_wp2
          go_ret2
          exact ⟨rfl, hbx.trans (hb2.mono hbx.size)⟩

end Go.Proofs.Ytcobcmgmleblkaa
