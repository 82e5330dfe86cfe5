/- The contract of the reference's reader: it reads what 'rdT' reads, from a place of the text on. -/
import Derived.Test.YtpamfjbgnpmmoaaGreatDoorRead
namespace Go.Proofs.YtpamfjbgnpmmoaaGreatDoor
open Go.RowKit

/-- What the reference's reader hands back: a tree in new memory, and where it ends, or -1. -/
def L1R (res : Option (Tree × List UInt8)) (n : Nat) (w : World) (e : Ending) (w' : World) : Prop :=
  ∃ a o l c z t, e = .returned (.tuple #[.agg #[.string a, .slice o l c], .int .i64 z]) ∧ Below w.heap.size w w' ∧ Rep w' (fun b => w.heap.size ≤ b) t (.agg #[.string a, .slice o l c]) ∧
    (res = none → z = -1) ∧ (∀ t' r, res = some (t', r) → t = t' ∧ z = (n : Int) - (r.length : Int))

theorem info45 : (Tryz.prog.info? 57).map (fun i => (i.zero, i.size, i.bytes)) = some (some (.agg #[.string ⟨#[]⟩, .slice none 0 0]), 2, 40) := by kernel_rfl

theorem L1R.fail {w w' : World} {res : Option (Tree × List UInt8)} {n : Nat} {a : ByteArray} {o : Option Addr} {l c : Nat} {t : Tree} (h : res = none) (hb : Below w.heap.size w w') (hr : Rep w' (fun b => w.heap.size ≤ b) t (.agg #[.string a, .slice o l c])) :
    L1R res n w (.returned (.tuple #[.agg #[.string a, .slice o l c], .int .i64 (-1)])) w' := by
  subst h
  exact ⟨_, _, _, _, _, _, rfl, hb, hr, fun _ => rfl, fun _ _ h => by cases h⟩

def l1Res (f d : Nat) (s : List UInt8) : Option (Tree × List UInt8) := if 60 < d then none else rdT f d s

set_option maxRecDepth 100000 in
set_option maxHeartbeats 400000 in
theorem l1Read_out (s : ByteArray) (i d f : Nat) (w : World) (h : 60 < d ∨ s.size ≤ i) (_ : i ≤ s.size) (_ : s.size ≤ 1000000000) (_ : d ≤ 1000) :
    Calls Tryz.prog 41 #[.string s, .int .i64 i, .int .i64 d] w (L1R (l1Res (f + 1) d (s.data.toList.drop i)) s.size w) := by
  have hn : l1Res (f + 1) d (s.data.toList.drop i) = none := by
    unfold l1Res
    by_cases h60 : 60 < d
    · rw [if_pos h60]
    · rw [if_neg h60, List.drop_of_length_le (by rw [← Lib.size_eq]; omega), rdT_atom _ _ _ (by simp)]; simp
  have HN := Lib.hid hn
  clear hn
  by_cases h60 : 60 < d
  · go_enter Tryz.func41, Tryz.ntmps41
    go_wp2
    exact bodyPost_ret (v := .tuple #[.agg #[.string ⟨#[]⟩, .slice none 0 0], .int .i64 (-1)]) (by simp [results, Tryz.results41, go_sem]) rfl
      (L1R.fail HN.out (((Below.refl _ _).alloc (Nat.le_refl _) _).alloc (by simp) _) (Rep.leaf _ _ _))
  · have h2 : s.size ≤ i := by omega
    go_enter Tryz.func41, Tryz.ntmps41
    go_wp2
    exact bodyPost_ret (v := .tuple #[.agg #[.string ⟨#[]⟩, .slice none 0 0], .int .i64 (-1)]) (by simp [results, Tryz.results41, go_sem]) rfl
      (L1R.fail HN.out (((Below.refl _ _).alloc (Nat.le_refl _) _).alloc (by simp) _) (Rep.leaf _ _ _))

theorem l1_atom (s : ByteArray) (i k f d : Nat) (hd : d ≤ 60) (hi : i < s.size) (_ : k ≤ s.size) (hp : s[i] ≠ 40)
    (ht : (s.data.toList.drop i).takeWhile atomB = (s.data.toList.drop i).take (k - i) ∧ (s.data.toList.drop i).dropWhile atomB = (s.data.toList.drop i).drop (k - i)) (hik : i ≤ k) :
    ((s.extract i k).toList.isEmpty = true → l1Res (f + 1) d (s.data.toList.drop i) = none) ∧
    ((s.extract i k).toList.isEmpty = false → l1Res (f + 1) d (s.data.toList.drop i) = some (.node (s.extract i k) [], s.data.toList.drop k)) := by
  have hh : (s.data.toList.drop i).head? ≠ some 40 := by
    rw [List.head?_drop, List.getElem?_eq_getElem (by simpa using hi)]
    intro h
    exact hp (Option.some.inj h)
  have e : (s.extract i k).toList = (s.data.toList.drop i).take (k - i) := Lib.extract_toList _ _ _
  have e2 : s.extract i k = ⟨((s.data.toList.drop i).take (k - i)).toArray⟩ := Lib.extract_eq _ _ _
  unfold l1Res
  rw [if_neg (by omega), rdT_atom _ _ _ hh, ht.1, ht.2, e]
  constructor
  · intro h; rw [if_pos h]
  · intro h; rw [if_neg (by rw [h]; decide), List.drop_drop, e2, show i + (k - i) = k from by omega]

set_option maxRecDepth 100000 in
set_option maxHeartbeats 800000 in
theorem l1Read_atom (s : ByteArray) (i d f : Nat) (w : World) (hd : d ≤ 60) (hi : i < s.size) (hs : s.size ≤ 1000000000) (hp : s[i] ≠ 40) :
    Calls Tryz.prog 41 #[.string s, .int .i64 i, .int .i64 d] w (L1R (l1Res (f + 1) d (s.data.toList.drop i)) s.size w) := by
  have hp1 : ((s[i].toNat : Int) != 40) = true := by
    rw [bne_iff_ne]; intro h; exact hp (UInt8.toNat_inj.1 (by simp; omega))
  have hd1 : decide (60 < (d : Int)) = false := by simp; omega
  have hi1 : decide (s.size ≤ i) = false := by simp; omega
  go_enter Tryz.func41, Tryz.ntmps41
  go_wp2
  go_loop [1] (fun v => ∃ k : Nat, i ≤ k ∧ k ≤ s.size ∧ v = .int .i64 k ∧ (∀ j, j < k - i → ((s.data.toList.drop i)[j]?).any atomB = true)) (fun v => s.size - (intOf v).toNat)
  case atStart => exact ⟨i, Nat.le_refl _, by omega, rfl, fun j hj => by omega⟩
  case round =>
    obtain ⟨k, hik, hk, rfl, hall⟩ := hrel
    have HA := Lib.hid hall
    clear hall
    by_cases hlt : k < s.size
    · have hb : (s.data.toList.drop i)[k - i]? = some s[k] := by rw [List.getElem?_drop, show i + (k - i) = k from by omega, List.getElem?_eq_getElem (by simpa using hlt)]; rfl
      have HB := Lib.hid hb
      clear hb
      by_cases hat : atomB s[k] = true
      · go_wp2_with (go_at_call 59; refine (l1Byte_any _ _).mono ?_; rintro e w' ⟨rfl, rfl⟩)
        go_round
        case rel => exact ⟨k + 1, by omega, by omega, by go_num, fun j hj => by
          by_cases h : j = k - i
          · subst h; rw [HB.out]; simpa using hat
          · exact HA.out j (by omega)⟩
        case measure => simp [intOf]; omega
      · have hat' : atomB s[k] = false := by simpa using hat
        clear hat
        have ht := take_prefix_len atomB (s.data.toList.drop i) (k - i) (by rw [List.length_drop, ← Lib.size_eq]; omega) HA.out (fun c hc => by rw [HB.out] at hc; simp at hc; rw [← hc]; exact hat')
        have HT := Lib.hid ht
        clear ht
        have HL := l1_atom s i k f d hd hi hk hp HT.out hik
        have HK := Lib.hid HL
        clear HL
        go_wp2_with (go_at_call 59; refine (l1Byte_any _ _).mono ?_; rintro e w' ⟨rfl, rfl⟩)
        · have he : (s.extract i k).toList.isEmpty = true := by assumption
          exact bodyPost_ret (v := .tuple #[.agg #[.string (s.extract i k), .slice none 0 0], .int .i64 (-1)]) (by simp [results, Tryz.results41, go_sem]) rfl
            (L1R.fail (HK.out.1 he) (((Below.refl _ _).alloc (Nat.le_refl _) _).alloc (by simp) _) (Rep.leaf _ _ _))
        · have he : (s.extract i k).toList.isEmpty = false := by assumption
          exact bodyPost_ret (v := .tuple #[.agg #[.string (s.extract i k), .slice none 0 0], .int .i64 k]) (by simp [results, Tryz.results41, go_sem]) rfl
            ⟨_, _, _, _, _, _, rfl, (((Below.refl _ _).alloc (Nat.le_refl _) _).alloc (by simp) _), Rep.leaf _ _ _, (fun h => by rw [HK.out.2 he] at h; cases h), fun t' r h => by
              rw [HK.out.2 he] at h
              simp only [Option.some.injEq, Prod.mk.injEq] at h
              refine ⟨h.1, ?_⟩
              rw [← h.2, List.length_drop, ← Lib.size_eq]; omega⟩
    · have ht := take_prefix_len atomB (s.data.toList.drop i) (k - i) (by rw [List.length_drop, ← Lib.size_eq]; omega) HA.out (fun c hc => by rw [List.getElem?_eq_none (by rw [List.length_drop, ← Lib.size_eq]; omega)] at hc; simp at hc)
      have HT := Lib.hid ht
      clear ht
      have HL := l1_atom s i k f d hd hi hk hp HT.out hik
      have HK := Lib.hid HL
      clear HL
      go_wp2
      · have he : (s.extract i k).toList.isEmpty = true := by assumption
        exact bodyPost_ret (v := .tuple #[.agg #[.string (s.extract i k), .slice none 0 0], .int .i64 (-1)]) (by simp [results, Tryz.results41, go_sem]) rfl
          (L1R.fail (HK.out.1 he) (((Below.refl _ _).alloc (Nat.le_refl _) _).alloc (by simp) _) (Rep.leaf _ _ _))
      · have he : (s.extract i k).toList.isEmpty = false := by assumption
        exact bodyPost_ret (v := .tuple #[.agg #[.string (s.extract i k), .slice none 0 0], .int .i64 k]) (by simp [results, Tryz.results41, go_sem]) rfl
          ⟨_, _, _, _, _, _, rfl, (((Below.refl _ _).alloc (Nat.le_refl _) _).alloc (by simp) _), Rep.leaf _ _ _, (fun h => by rw [HK.out.2 he] at h; cases h), fun t' r h => by
            rw [HK.out.2 he] at h
            simp only [Option.some.injEq, Prod.mk.injEq] at h
            refine ⟨h.1, ?_⟩
            rw [← h.2, List.length_drop, ← Lib.size_eq]; omega⟩

def l1L (g d : Nat) (acc : List Tree) (r : List UInt8) : Option (Tree × List UInt8) := if d = 60 then none else rdL g d acc r

theorem l1L_close {g d : Nat} {acc : List Tree} {s r : List UInt8} {p : Tree} (h : l1Res g (d + 1) s = some (p, 41 :: r)) : l1L (g + 1) d acc s = some (.node ⟨#[]⟩ (acc ++ [p]), r) := by
  unfold l1Res at h; unfold l1L
  split at h
  · cases h
  · rw [if_neg (by omega)]; exact rdL_close h

theorem l1L_space {g d : Nat} {acc : List Tree} {s r : List UInt8} {p : Tree} (h : l1Res g (d + 1) s = some (p, 32 :: r)) : l1L (g + 1) d acc s = l1L g d (acc ++ [p]) r := by
  unfold l1Res at h; unfold l1L
  split at h
  · cases h
  · rw [if_neg (by omega), if_neg (by omega)]; exact rdL_space h

theorem l1L_none {g d : Nat} {acc : List Tree} {s : List UInt8} (h : ∀ p c r, l1Res g (d + 1) s = some (p, c :: r) → c ≠ 41 ∧ c ≠ 32) (hd : d ≤ 60) : l1L (g + 1) d acc s = none := by
  unfold l1L
  split
  · rfl
  · refine rdL_none fun p c r hh => h p c r ?_
    unfold l1Res; rw [if_neg (by omega)]; exact hh

theorem l1Res_drop {f d j : Nat} {l r : List UInt8} {t : Tree} (h : l1Res f d (l.drop j) = some (t, r)) (hj : j ≤ l.length) : ∃ k, k + r.length = l.length ∧ r = l.drop k ∧ j < k := by
  unfold l1Res at h
  split at h
  · cases h
  · obtain ⟨h1, h2, _⟩ := (rd_sound f).1 _ _ _ _ h (by omega)
    obtain ⟨c, x, hx, _⟩ := good_text_head t h1
    have hl : (l.drop j).length = t.text.length + r.length := by rw [h2, List.length_append]
    rw [List.length_drop] at hl
    refine ⟨j + t.text.length, by omega, ?_, by rw [hx]; simp⟩
    rw [← List.drop_drop, h2, List.drop_left]

set_option maxRecDepth 100000 in
set_option maxHeartbeats 1600000 in
theorem l1Read_any (n : Nat) : ∀ (s : ByteArray) (i d f : Nat) (w : World), s.size - i ≤ n → 2 * (s.size - i) + 2 ≤ f → d ≤ 61 → i ≤ s.size → s.size ≤ 1000000000 →
    Calls Tryz.prog 41 #[.string s, .int .i64 i, .int .i64 d] w (L1R (l1Res f d (s.data.toList.drop i)) s.size w) := by
  induction n with
  | zero =>
    intro s i d f w hn hf hd hi hs
    obtain ⟨f, rfl⟩ : ∃ g, f = g + 1 := ⟨f - 1, by omega⟩
    exact l1Read_out s i d f w (by omega) hi hs (by omega)
  | succ n ih =>
    intro s i d f w hn hf hd hi hs
    obtain ⟨f, rfl⟩ : ∃ g, f = g + 1 := ⟨f - 1, by omega⟩
    by_cases hout : 60 < d ∨ s.size ≤ i
    · exact l1Read_out s i d f w hout hi hs (by omega)
    have hd60 : d ≤ 60 := by omega
    have hi' : i < s.size := by omega
    by_cases hp : s[i] = 40
    · have hd1 : decide (60 < (d : Int)) = false := by simp; omega
      have hi1 : decide (s.size ≤ i) = false := by simp; omega
      have hstart : Hid (l1Res (f + 1) d (s.data.toList.drop i) = l1L f d [] (s.data.toList.drop (i + 1))) := by
        show _ = _
        rw [List.drop_eq_getElem_cons (by rw [← Lib.size_eq]; exact hi')]
        rw [show s.data.toList[i] = 40 from hp]
        unfold l1Res l1L
        rw [if_neg (by omega), rdT_paren]
      have hp1 : ((s[i].toNat : Int) != 40) = false := by rw [hp]; rfl
      obtain ⟨i0, hi, hz0, hz1, hz2⟩ := info_parts info45
      clear hp hout
      go_enter Tryz.func41, Tryz.ntmps41
      go_wp2
      go_loopw [1] (fun v wr => ∃ (k : Nat) (acc : List Tree) (g : Nat) (o : Option Addr) (c : Nat), v = .int .i64 k ∧ i ≤ k ∧ k < s.size ∧ acc.length ≤ k ∧ 2 * (s.size - k) + 1 ≤ g ∧
          Hid (l1Res (f + 1) d (s.data.toList.drop i) = l1L g d acc (s.data.toList.drop (k + 1))) ∧ RdInv 57 w wr o c acc) (fun v _ => s.size - (intOf v).toNat)
      case atStart => exact ⟨i, [], f, none, 0, rfl, Nat.le_refl _, hi', Nat.zero_le _, by omega, hstart, RdInv.start _ w⟩
      case round =>
        obtain ⟨k, acc, g, o, c, rfl, hik, hks, hal, hg, HR, hinv⟩ := hrel
        obtain ⟨g, rfl⟩ : ∃ g', g = g' + 1 := ⟨g - 1, by omega⟩
        have hcall := fun W => ih s (k + 1) (d + 1) g W (by omega) (by omega) (by omega) (by omega) hs
        rw [show ((d + 1 : Nat) : Int) = (d : Int) + 1 from by omega, show ((k + 1 : Nat) : Int) = (k : Int) + 1 from by omega] at hcall
        have HC := Lib.hid hcall
        clear hcall ih
        go_wp2_with fail
        refine (HC.out _).mono ?_
        rintro e w1 ⟨a', o', l', c', z, t, rfl, hb1, hr1, hz, hsome⟩
        have hloc : RdLoc 57 w w1 o acc.length c := hinv.loc.step (hb1.mono hinv.loc.size)
        have hbel := hloc.below
        obtain ⟨f1, f2, f3, f4, f5, f6, f8, f9⟩ := hloc.facts
        have hrow1 := hinv.row.below hb1
        have hrep1 := Rep.bound _ _ hr1
        have hown1 : ∀ b, (wr.heap.size ≤ b ∧ b < w1.heap.size) → w.heap.size + 2 ≤ b ∧ b < w1.heap.size + 1 ∧ Value.ownBlock (.slice o acc.length c) ≠ some b := by
          intro b hb
          refine ⟨by have := hinv.loc.size; omega, by omega, fun h => ?_⟩
          have := (hinv.row.ownLt h).2; omega
        cases hrd : l1Res g (d + 1) (s.data.toList.drop (k + 1)) with
        | none =>
          obtain rfl := hz hrd
          have hfin : Hid (l1Res (f + 1) d (s.data.toList.drop i) = none) := by
            show _ = _; rw [HR.out]; exact l1L_none (fun p c r h => by rw [hrd] at h; cases h) hd60
          clear hrd hz hsome HC
          go_wp2
          exact bodyPost_ret (v := .tuple #[.agg #[.string ⟨#[]⟩, .slice o acc.length c], .int .i64 (-1)]) (by simp [results, Tryz.results41, go_sem, f1, f2, f8]) rfl
            (L1R.fail hfin.out (((hbel.setCell (by simp) _).setCell (by simp) _).alloc (by simp; omega) _) (Rep.weak (fun b hb => by omega) _ _ ((((hrow1.setCell (by simp) _).setCell (by simp) _).alloc _).rep ⟨#[]⟩)))
        | some x =>
          obtain ⟨t', r⟩ := x
          obtain ⟨rfl, rfl⟩ := hsome _ _ hrd
          obtain ⟨m, hm, hmr, hkm⟩ := l1Res_drop hrd (by rw [← Lib.size_eq]; omega)
          rw [← Lib.size_eq] at hm
          have hz0' : (s.size : Int) - (r.length : Int) = (m : Int) := by omega
          rw [hz0']
          clear hz0' hsome hz
          by_cases hms : s.size ≤ m
          · have hfin : Hid (l1Res (f + 1) d (s.data.toList.drop i) = none) := by
              show _ = _; rw [HR.out]; exact l1L_none (fun p c r' h => by
                rw [hrd] at h; simp only [Option.some.injEq, Prod.mk.injEq] at h
                rw [h.2] at hm; simp at hm; omega) hd60
            clear hrd HC hmr HR
            go_wp2
            exact bodyPost_ret (v := .tuple #[.agg #[.string ⟨#[]⟩, .slice o acc.length c], .int .i64 (-1)]) (by simp [results, Tryz.results41, go_sem, f1, f2, f8]) rfl
              (L1R.fail hfin.out (((hbel.setCell (by simp) _).setCell (by simp) _).alloc (by simp; omega) _) (Rep.weak (fun b hb => by omega) _ _ ((((hrow1.setCell (by simp) _).setCell (by simp) _).alloc _).rep ⟨#[]⟩)))
          · have hm1 : m < s.size := by omega
            obtain ⟨x, hx⟩ : ∃ x, s[m]'hm1 = x := ⟨_, rfl⟩
            have hr' : r = x :: s.data.toList.drop (m + 1) := by
              rw [hmr, List.drop_eq_getElem_cons (by rw [← Lib.size_eq]; omega)]
              exact congrArg (· :: _) hx
            have hxn : ((s[m].toNat : Nat) : Int) = x.toNat := by rw [hx]
            have n40 : ∀ y : UInt8, x ≠ y → ((x.toNat : Int) == (y.toNat : Int)) = false := by
              intro y hy; simp only [beq_eq_false_iff_ne, ne_eq]; intro h; exact hy (UInt8.toNat_inj.1 (by omega))
            have N40 := Lib.hid n40
            clear n40
            by_cases h41 : x = 41
            · have hfin : Hid (l1Res (f + 1) d (s.data.toList.drop i) = some (.node ⟨#[]⟩ (acc ++ [t]), s.data.toList.drop (m + 1))) := by
                show _ = _; rw [HR.out]; rw [hr', h41] at hrd; exact l1L_close hrd
              subst h41
              clear hrd HC hmr HR hr' hx hm
              go_wp2_with (at_builtin; refine wpList_append_box rfl (.tmp 69) (.tmp 71) 55 rfl (w.heap.size + 2) 57 i0 _ 40 Tryz.underlying55 hi hz0 hz1 hz2 rfl (by decide) (.slice o acc.length c) rfl acc _ 1 _ rfl (by simp) t (.string a') (.slice o' l' c') rfl rfl (hrow1.alloc _) (Rep.keep (Keeps.alloc _ _ _) _ _ hrep1) (by simpa using hown1) (by omega) (by simp; omega) ?_; intro g' cap w2 hrow2 hb2; have hloc2 : RdLoc 57 w w2 o acc.length c := (hloc.step ((Below.refl _ _).alloc (by have := hloc.size; omega) _)).step hb2; obtain ⟨e1, e2, e3, e4, e5, e6, e8, e9⟩ := hloc2.facts; clear f1 f2 f3 f4 f5 f6)
              exact bodyPost_ret (v := .tuple #[.agg #[.string ⟨#[]⟩, .slice (some ⟨g', 0, none⟩) (acc.length + 1) cap], .int .i64 ((m : Int) + 1)]) (by simp [results, Tryz.results41, go_sem, e1, e2]) rfl
                ⟨_, _, _, _, _, _, rfl, ((hloc2.below.setCell (by simp) _).setCell (by simp) _).setCell (by simp) _, Rep.weak (fun b hb => by omega) _ _ ((((hrow2.setCell (by simp) _).setCell (by simp) _).setCell (by simp) _).rep ⟨#[]⟩), (fun h => by rw [hfin.out] at h; cases h), fun t' r2 h => by
                  rw [hfin.out] at h
                  simp only [Option.some.injEq, Prod.mk.injEq] at h
                  exact ⟨h.1, by rw [← h.2, List.length_drop, ← Lib.size_eq]; omega⟩⟩
            · have n41 : ((x.toNat : Int) == 41) = false := N40.out 41 h41
              by_cases h32 : x = 32
              · have hnext : Hid (l1Res (f + 1) d (s.data.toList.drop i) = l1L g d (acc ++ [t]) (s.data.toList.drop (m + 1))) := by
                  show _ = _; rw [HR.out]; rw [hr', h32] at hrd; exact l1L_space hrd
                subst h32
                clear hrd HC hmr HR hr' hx hm
                go_wp2_with (at_builtin; refine wpList_append_box rfl (.tmp 69) (.tmp 71) 55 rfl (w.heap.size + 2) 57 i0 _ 40 Tryz.underlying55 hi hz0 hz1 hz2 rfl (by decide) (.slice o acc.length c) rfl acc _ 1 _ rfl (by simp) t (.string a') (.slice o' l' c') rfl rfl (hrow1.alloc _) (Rep.keep (Keeps.alloc _ _ _) _ _ hrep1) (by simpa using hown1) (by omega) (by simp; omega) ?_; intro g' cap w2 hrow2 hb2; have hloc2 : RdLoc 57 w w2 o acc.length c := (hloc.step ((Below.refl _ _).alloc (by have := hloc.size; omega) _)).step hb2; obtain ⟨e1, e2, e3, e4, e5, e6, e8, e9⟩ := hloc2.facts; clear f1 f2 f3 f4 f5 f6)
                go_roundw
                case rel => exact ⟨m, acc ++ [t], g, some ⟨g', 0, none⟩, cap, rfl, by omega, hm1, by simp; omega, by omega, hnext, RdInv.next hloc2 hrow2⟩
                case measure => simp [intOf]; omega
              · have n32 : ((x.toNat : Int) == 32) = false := N40.out 32 h32
                have m32 : ((x.toNat : Int) != 32) = true := by rw [bne, n32]; rfl
                have hfin : Hid (l1Res (f + 1) d (s.data.toList.drop i) = none) := by
                  show _ = _; rw [HR.out]; exact l1L_none (fun p c r' h => by
                    rw [hrd] at h; simp only [Option.some.injEq, Prod.mk.injEq] at h
                    obtain ⟨_, h⟩ := h
                    rw [hr'] at h; simp only [List.cons.injEq] at h
                    rw [← h.1]; exact ⟨h41, h32⟩) hd60
                clear hrd HC hmr HR hr' hx hm
                go_wp2_with (at_builtin; refine wpList_append_box rfl (.tmp 69) (.tmp 71) 55 rfl (w.heap.size + 2) 57 i0 _ 40 Tryz.underlying55 hi hz0 hz1 hz2 rfl (by decide) (.slice o acc.length c) rfl acc _ 1 _ rfl (by simp) t (.string a') (.slice o' l' c') rfl rfl (hrow1.alloc _) (Rep.keep (Keeps.alloc _ _ _) _ _ hrep1) (by simpa using hown1) (by omega) (by simp; omega) ?_; intro g' cap w2 hrow2 hb2; have hloc2 : RdLoc 57 w w2 o acc.length c := (hloc.step ((Below.refl _ _).alloc (by have := hloc.size; omega) _)).step hb2; obtain ⟨e1, e2, e3, e4, e5, e6, e8, e9⟩ := hloc2.facts; clear f1 f2 f3 f4 f5 f6)
                exact bodyPost_ret (v := .tuple #[.agg #[.string ⟨#[]⟩, .slice (some ⟨g', 0, none⟩) (acc.length + 1) cap], .int .i64 (-1)]) (by simp [results, Tryz.results41, go_sem, e1, e2]) rfl
                  (L1R.fail hfin.out (((hloc2.below.setCell (by simp) _).setCell (by simp) _).setCell (by simp) _) (Rep.weak (fun b hb => by omega) _ _ ((((hrow2.setCell (by simp) _).setCell (by simp) _).setCell (by simp) _).rep ⟨#[]⟩)))
    · exact l1Read_atom s i d f w hd60 hi' hs hp

theorem l1_parse {s : List UInt8} {t : Tree} {z : Int} (hl : ¬ 12000 < s.length) (h1 : l1Res (2 * s.length + 2) 0 (s.drop 0) = none → z = -1)
    (h2 : ∀ t' r, l1Res (2 * s.length + 2) 0 (s.drop 0) = some (t', r) → t = t' ∧ z = (s.length : Int) - (r.length : Int)) :
    (z == (s.length : Int)) = (parse s).isSome ∧ (∀ t', parse s = some t' → t = t') := by
  unfold parse
  rw [if_neg hl]
  have e : l1Res (2 * s.length + 2) 0 (s.drop 0) = rdT (2 * s.length + 2) 0 s := by unfold l1Res; rw [if_neg (by omega), List.drop_zero]
  rw [e] at h1 h2
  cases hrd : rdT (2 * s.length + 2) 0 s with
  | none =>
    refine ⟨?_, fun t' h => by cases h⟩
    rw [h1 hrd]; simp only [Option.isSome_none, beq_eq_false_iff_ne, ne_eq]; omega
  | some x =>
    obtain ⟨t', r⟩ := x
    obtain ⟨rfl, rfl⟩ := h2 _ _ hrd
    cases r with
    | nil => exact ⟨by simp, fun t' h => by simpa using h⟩
    | cons c r => exact ⟨by simp only [List.length_cons, Option.isSome_none, beq_eq_false_iff_ne, ne_eq]; omega, fun t' h => by simp at h⟩

set_option maxRecDepth 100000 in
set_option maxHeartbeats 400000 in
theorem l1Parse_any (s : ByteArray) (w : World) (hs : s.size ≤ 1000000000) : Calls Tryz.prog 28 #[.string s] w (ReadP (parse s.data.toList) w) := by
  by_cases h1 : 12000 < s.size
  · have hp : parse s.data.toList = none := by unfold parse; rw [if_pos (by rw [← Lib.size_eq]; exact h1)]
    rw [hp]
    go_enter Tryz.func28, Tryz.ntmps28
    go_wp2
    exact bodyPost_ret (v := .tuple #[.agg #[.string ⟨#[]⟩, .slice none 0 0], .bool false]) (by simp [results, Tryz.results28, go_sem]) rfl ⟨_, _, _, _, _, .node ⟨#[]⟩ [], rfl, (Below.refl _ _).alloc (Nat.le_refl _) _, Rep.leaf _ _ _, rfl, fun _ h => by cases h⟩
  · have hc := fun W => l1Read_any s.size s 0 0 (2 * s.data.toList.length + 2) W (by omega) (by rw [← Lib.size_eq]; omega) (by omega) (by omega) hs
    have HC := Lib.hid hc
    clear hc
    go_enter Tryz.func28, Tryz.ntmps28
    go_wp2_with fail
    refine (HC.out _).mono ?_
    rintro e w1 ⟨a, o, l, c, z, t, rfl, hb1, hr, hz, hp⟩
    have hps := l1_parse (by rw [← Lib.size_eq]; omega) hz (by rw [← Lib.size_eq]; exact hp)
    rw [← Lib.size_eq] at hps
    have hB : Below w.heap.size w w1 := ((Below.refl _ _).alloc (Nat.le_refl _) _).trans (hb1.mono (by simp))
    have HN := Lib.hid hps
    clear hps hz hp
    obtain ⟨hc1, hf1⟩ := bcell hb1; have hz1 := hb1.size; simp only [World.size_alloc] at hc1 hf1 hz1; have hy1_0 : w.heap.size < w1.heap.size := by omega
    go_wp2
    exact bodyPost_ret (v := .tuple #[.agg #[.string a, .slice o l c], .bool (z == (s.size : Int))]) (by simp [results, Tryz.results28, go_sem, hc1, hy1_0]) rfl ⟨_, _, _, _, _, t, rfl, ((hB.setCell (by simp) _).setCell (by simp) _).alloc (by simp; omega) _,
        Rep.weak (fun b (hb : w.heap.size + 1 ≤ b) => by omega) _ _ (Rep.keep ((((Keeps.refl _ _).setCell (fun b hb => by simp at hb ⊢; omega) _).setCell (fun b hb => by simp at hb ⊢; omega) _).alloc' _) _ _ (Rep.weak (fun b hb => by simpa using hb) _ _ hr)), HN.out.1, HN.out.2⟩
end Go.Proofs.YtpamfjbgnpmmoaaGreatDoor
