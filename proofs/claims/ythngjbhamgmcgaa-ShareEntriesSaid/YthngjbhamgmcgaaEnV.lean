/-
  The walks of Name and ValidEntry on both sides.
-/
import Derived.Test.YthngjbhamgmcgaaEnN
namespace Go.Proofs.Ythngjbhamgmcgaa
open Go.RowKit
attribute [local go_sem] Oper.semAt_some
set_option linter.unusedVariables false

def inI (n lo hi : Int) : Bool := decide (lo ≤ n) && decide (n ≤ hi)
theorem rwithin_any (n lo hi : Int) (w : World) : Calls Try.prog 84 #[.int .i64 n, .int .i64 lo, .int .i64 hi] w fun e w' => e = .returned (.bool (inI n lo hi)) ∧ w = w' := by
  by_cases h1 : lo ≤ n
  · rw [show inI n lo hi = decide (n ≤ hi) from by simp [inI, h1]]
    go_enter Try.func84, Try.ntmps84
    go_wp2
    go_ret
    exact ⟨rfl, rfl⟩
  · rw [show inI n lo hi = false from by simp [inI, h1]]
    go_enter Try.func84, Try.ntmps84
    go_wp2
    go_ret
    exact ⟨rfl, rfl⟩
theorem r2within_any (n lo hi : Int) (w : World) : Calls Try.prog 86 #[.int .i64 n, .int .i64 lo, .int .i64 hi] w fun e w' => e = .returned (.bool (inI n lo hi)) ∧ w = w' := by
  by_cases h1 : lo ≤ n
  · rw [show inI n lo hi = decide (n ≤ hi) from by simp [inI, h1]]
    go_enter Try.func86, Try.ntmps86
    go_wp2
    go_ret
    exact ⟨rfl, rfl⟩
  · rw [show inI n lo hi = false from by simp [inI, h1]]
    go_enter Try.func86, Try.ntmps86
    go_wp2
    go_ret
    exact ⟨rfl, rfl⟩
theorem small_any (n : Int) (w : World) : Calls Try.prog 85 #[.int .u8 n] w fun e w' => e = .returned (.bool (inI n 97 122)) ∧ w = w' := by
  by_cases h1 : 97 ≤ n
  · rw [show inI n 97 122 = decide (n ≤ 122) from by simp [inI, h1]]
    go_enter Try.func85, Try.ntmps85
    go_wp2
    go_ret
    exact ⟨rfl, rfl⟩
  · rw [show inI n 97 122 = false from by simp [inI, h1]]
    go_enter Try.func85, Try.ntmps85
    go_wp2
    go_ret
    exact ⟨rfl, rfl⟩
/-- A letter that a name may have at place k. -/
def nameC (k : Nat) (c : Int) : Bool := inI c 97 122 || (decide (k ≠ 0) && (inI c 48 57 || decide (c = 95)))
def nameB (s : ByteArray) : Bool := decide (∀ i : Fin s.size, nameC i.1 (s[i].toNat : Int) = true) && inI s.size 1 16
def NameAt (s : ByteArray) (k : Nat) : Prop := ∀ (i : Nat) (h : i < s.size), i < k → nameC i (s[i].toNat : Int) = true
theorem NameAt.next {s : ByteArray} {k : Nat} (h : NameAt s k) (hk : k < s.size) (hc : nameC k (s[k].toNat : Int) = true) : NameAt s (k + 1) := fun i hi hlt => by
  by_cases e : i = k
  · subst e; exact hc
  · exact h i hi (by omega)
theorem name_bad {s : ByteArray} {k : Nat} (hk : k < s.size) (hc : nameC k (s[k].toNat : Int) = false) : nameB s = false := by
  unfold nameB
  rw [decide_eq_false]
  · rfl
  · intro h
    have := h ⟨k, hk⟩
    rw [show nameC k (s[k].toNat : Int) = true from this] at hc
    cases hc
theorem NameAt.all {s : ByteArray} (h : NameAt s s.size) : nameB s = inI s.size 1 16 := by
  have e : decide (∀ i : Fin s.size, nameC i.1 (s[i].toNat : Int) = true) = true := decide_eq_true fun i => h i.1 i.2 i.2
  unfold nameB
  rw [e]
  rfl
set_option maxRecDepth 100000 in
set_option maxHeartbeats 4000000 in
theorem Name_any (s : ByteArray) (w : World) (hs : s.size ≤ 9223372036854775807) : Calls Try.prog 61 #[.string s] w fun e w' => e = .returned (.bool (nameB s)) ∧ w = w' := by
  go_enter Try.func61, Try.ntmps61
  go_wp2_with fail
  go_loopw [7] (fun i wr => ∃ k : Nat, k ≤ s.size ∧ i = .int .i64 k ∧ NameAt s k ∧ wr = w) (fun i _ => s.size - (intOf i).toNat)
  case atStart => exact ⟨0, Nat.zero_le _, rfl, fun i _ h => absurd h (by omega), rfl⟩
  case round =>
    obtain ⟨k, hk, rfl, hna, hw⟩ := hrel
    subst hw
    have HN := hide hna
    clear hna
    by_cases hlt : k < s.size
    · have hc := (s[k]).toNat_lt
      obtain ⟨c, hcc⟩ : ∃ c : Nat, (s[k]).toNat = c := ⟨_, rfl⟩
      have HC := hide hcc
      have HNX := hide (fun h => HN.out.next hlt h)
      have HBD := hide (fun h => name_bad hlt h)
      rw [hcc] at hc
      simp only [hcc] at HNX HBD
      have q1 : (0 : Int) ≤ (k : Int) := by omega
      have q2 : (k : Int) < (s.size : Int) := by omega
      go_wp2_with fail
      refine (rwithin_any _ 97 122 _).mono ?_
      rintro e w' ⟨rfl, rfl⟩
      cases b1 : inI (c : Int) 97 122
      · by_cases hk0 : k = 0
        · subst hk0
          have HX := hide (HBD.out (by unfold nameC; rw [b1]; rfl))
          clear b1 hcc
          go_wp2
          go_ret
          exact ⟨ret_bool HX.out.symm, rfl⟩
        · have z0 : ((k : Int) == 0) = false := by simp; omega
          go_wp2_with fail
          refine (rwithin_any _ 48 57 _).mono ?_
          rintro e w' ⟨rfl, rfl⟩
          cases b2 : inI (c : Int) 48 57
          · by_cases h95 : c = 95
            · have z1 : ((c : Int) != 95) = false := by simp; omega
              have HX := hide (HNX.out (by unfold nameC; rw [b1, b2, h95, decide_eq_true hk0]; rfl))
              clear b1 b2 h95 hk0
              go_wp2
              go_roundw
              case rel => exact ⟨k + 1, by omega, by go_num, HX.out, trivial⟩
              case measure => simp [intOf]; omega
            · have z1 : ((c : Int) != 95) = true := by simp; omega
              have HX := hide (HBD.out (by unfold nameC; rw [b1, b2, decide_eq_false (show ¬ (c : Int) = 95 by omega)]; simp))
              clear b1 b2 h95 hk0
              go_wp2
              go_ret
              exact ⟨ret_bool HX.out.symm, rfl⟩
          · have HX := hide (HNX.out (by unfold nameC; rw [b1, b2, decide_eq_true hk0]; rfl))
            clear b1 b2 hk0
            go_wp2
            go_roundw
            case rel => exact ⟨k + 1, by omega, by go_num, HX.out, trivial⟩
            case measure => simp [intOf]; omega
      · have HX := hide (HNX.out (by unfold nameC; rw [b1]; rfl))
        clear b1
        go_wp2
        go_roundw
        case rel => exact ⟨k + 1, by omega, by go_num, HX.out, trivial⟩
        case measure => simp [intOf]; omega
    · obtain rfl : k = s.size := by omega
      have HX := hide HN.out.all
      go_wp2_with fail
      refine (rwithin_any _ 1 16 _).mono ?_
      rintro e w' ⟨rfl, rfl⟩
      go_wp2
      go_ret
      exact ⟨ret_bool HX.out.symm, rfl⟩
set_option maxRecDepth 100000 in
set_option maxHeartbeats 4000000 in
theorem RName_any (s : ByteArray) (w : World) (hs : s.size ≤ 9223372036854775807) : Calls Try.prog 62 #[.string s] w fun e w' => e = .returned (.bool (nameB s)) ∧ w = w' := by
  go_enter Try.func62, Try.ntmps62
  go_wp2_with fail
  go_loopw [3] (fun i wr => ∃ k : Nat, k ≤ s.size ∧ i = .int .i64 k ∧ NameAt s k ∧ wr = w) (fun i _ => s.size - (intOf i).toNat)
  case atStart => exact ⟨0, Nat.zero_le _, rfl, fun i _ h => absurd h (by omega), rfl⟩
  case round =>
    obtain ⟨k, hk, rfl, hna, hw⟩ := hrel
    subst hw
    have HN := hide hna
    clear hna
    by_cases hlt : k < s.size
    · have hc := (s[k]).toNat_lt
      obtain ⟨c, hcc⟩ : ∃ c : Nat, (s[k]).toNat = c := ⟨_, rfl⟩
      have HC := hide hcc
      have HNX := hide (fun h => HN.out.next hlt h)
      have HBD := hide (fun h => name_bad hlt h)
      rw [hcc] at hc
      simp only [hcc] at HNX HBD
      have q1 : (0 : Int) ≤ (k : Int) := by omega
      have q2 : (k : Int) < (s.size : Int) := by omega
      go_wp2_with fail
      refine (small_any _ _).mono ?_
      rintro e w' ⟨rfl, rfl⟩
      cases b1 : inI (c : Int) 97 122
      · by_cases hk0 : k = 0
        · subst hk0
          have HX := hide (HBD.out (by unfold nameC; rw [b1]; rfl))
          clear b1
          go_wp2
          go_ret
          exact ⟨ret_bool HX.out.symm, rfl⟩
        · have z0 : ((k : Int) == 0) = false := by simp; omega
          by_cases h95 : c = 95
          · have z1 : ((c : Int) != 95) = false := by simp; omega
            have HX := hide (HNX.out (by unfold nameC; rw [b1, h95, decide_eq_true hk0]; rfl))
            clear b1 h95 hk0
            go_wp2
            go_roundw
            case rel => exact ⟨k + 1, by omega, by go_num, HX.out, trivial⟩
            case measure => simp [intOf]; omega
          · have z1 : ((c : Int) != 95) = true := by simp; omega
            have hn95 : decide ((c : Int) = 95) = false := decide_eq_false (by omega)
            by_cases hlo : (c : Int) < 48
            · have HX := hide (HBD.out (by unfold nameC; rw [b1, hn95, show inI (c : Int) 48 57 = false by unfold inI; rw [decide_eq_false (by omega)]; rfl]; simp))
              clear b1 h95 hk0 hn95
              go_wp2
              go_ret
              exact ⟨ret_bool HX.out.symm, rfl⟩
            · by_cases hhi : (57 : Int) < (c : Int)
              · have HX := hide (HBD.out (by unfold nameC; rw [b1, hn95, show inI (c : Int) 48 57 = false by unfold inI; rw [decide_eq_false (show ¬ (c : Int) ≤ 57 by omega)]; simp]; simp))
                clear b1 h95 hk0 hn95
                go_wp2
                go_ret
                exact ⟨ret_bool HX.out.symm, rfl⟩
              · have HX := hide (HNX.out (by unfold nameC; rw [b1, decide_eq_true hk0, show inI (c : Int) 48 57 = true by unfold inI; rw [decide_eq_true (show (48 : Int) ≤ (c : Int) by omega), decide_eq_true (show (c : Int) ≤ 57 by omega)]; rfl]; rfl))
                clear b1 h95 hk0 hn95
                go_wp2
                go_roundw
                case rel => exact ⟨k + 1, by omega, by go_num, HX.out, trivial⟩
                case measure => simp [intOf]; omega
      · have HX := hide (HNX.out (by unfold nameC; rw [b1]; rfl))
        clear b1
        go_wp2
        go_roundw
        case rel => exact ⟨k + 1, by omega, by go_num, HX.out, trivial⟩
        case measure => simp [intOf]; omega
    · obtain rfl : k = s.size := by omega
      have HX := hide HN.out.all
      go_wp2_with fail
      refine (r2within_any _ 1 16 _).mono ?_
      rintro e w' ⟨rfl, rfl⟩
      go_wp2
      go_ret
      exact ⟨ret_bool HX.out.symm, rfl⟩
def fitB (s : ByteArray) : Bool := decide ((s.size : Int) ≤ 65536)
theorem fits_e (s : ByteArray) (w : World) (hs : s.size ≤ 9223372036854775807) : Calls Try.prog 45 #[.string s] w fun e w' => e = .returned (.bool (fitB s)) ∧ w = w' := by
  go_enter Try.func45, Try.ntmps45
  go_wp2
  go_ret
  exact ⟨rfl, rfl⟩
/-- A valid entry, and the sizes that a text can have. -/
def okE (x : En) : Bool := decide (0 ≤ x.g) && decide (x.g < 128) && nameB x.nm && fitB x.ky && fitB x.vl
structure SzE (x : En) : Prop where
  a : x.nm.size ≤ 9223372036854775807
  b : x.ky.size ≤ 9223372036854775807
  c : x.vl.size ≤ 9223372036854775807
set_option maxRecDepth 100000 in
set_option maxHeartbeats 4000000 in
theorem ValidE_any (x : En) (w : World) (hs : SzE x) : Calls Try.prog 32 #[.agg #[.int .i64 x.g, .string x.nm, .string x.ky, .string x.vl]] w (RetG w (.bool (okE x))) := by
  obtain ⟨p, hp⟩ : ∃ p, okE x = p := ⟨_, rfl⟩
  have HP := hide hp
  rw [hp]
  clear hp
  have hG := Grn.new w (.cells #[.int .i64 x.g, .string x.nm, .string x.ky, .string x.vl] 57)
  have hs1 := hs.a
  have hs2 := hs.b
  have hs3 := hs.c
  by_cases h0 : 0 ≤ x.g
  · by_cases h1 : x.g < 128
    · go_enter Try.func32, Try.ntmps32
      go_wp2_with fail
      refine (Name_any x.nm _ hs1).mono ?_
      rintro e w' ⟨rfl, rfl⟩
      cases b1 : nameB x.nm
      · have HX := hide (show false = p by rw [← HP.out]; unfold okE; rw [b1]; simp)
        clear b1
        go_wp2
        go_ret
        exact ⟨ret_bool HX.out, hG⟩
      · have HX := hide (show (fitB x.ky && fitB x.vl) = p by rw [← HP.out]; unfold okE; rw [b1, decide_eq_true h0, decide_eq_true h1]; rfl)
        clear b1
        go_wp2_with fail
        refine (fits_e x.ky _ hs2).mono ?_
        rintro e w' ⟨rfl, rfl⟩
        cases b2 : fitB x.ky
        · have HY := hide (show false = p by rw [← HX.out, b2]; rfl)
          clear b2
          go_wp2
          go_ret
          exact ⟨ret_bool HY.out, hG⟩
        · have HY := hide (show fitB x.vl = p by rw [← HX.out, b2]; rfl)
          clear b2
          go_wp2_with fail
          refine (fits_e x.vl _ hs3).mono ?_
          rintro e w' ⟨rfl, rfl⟩
          go_wp2
          go_ret
          exact ⟨ret_bool HY.out, hG⟩
    · have HX := hide (show false = p by rw [← HP.out]; unfold okE; rw [decide_eq_false h1]; simp)
      go_enter Try.func32, Try.ntmps32
      go_wp2
      go_ret
      exact ⟨ret_bool HX.out, hG⟩
  · have HX := hide (show false = p by rw [← HP.out]; unfold okE; rw [decide_eq_false h0]; simp)
    go_enter Try.func32, Try.ntmps32
    go_wp2
    go_ret
    exact ⟨ret_bool HX.out, hG⟩
set_option maxRecDepth 100000 in
set_option maxHeartbeats 4000000 in
theorem RValidE_any (x : En) (w : World) (hs : SzE x) : Calls Try.prog 33 #[.agg #[.int .i64 x.g, .string x.nm, .string x.ky, .string x.vl]] w (RetG w (.bool (okE x))) := by
  obtain ⟨p, hp⟩ : ∃ p, okE x = p := ⟨_, rfl⟩
  have HP := hide hp
  rw [hp]
  clear hp
  have hG := Grn.new w (.cells #[.int .i64 x.g, .string x.nm, .string x.ky, .string x.vl] 57)
  have hs1 := hs.a
  have hs2 := hs.b
  have hs3 := hs.c
  by_cases h0 : 0 ≤ x.g
  · by_cases h1 : x.g < 128
    · go_enter Try.func33, Try.ntmps33
      go_wp2_with fail
      refine (RName_any x.nm _ hs1).mono ?_
      rintro e w' ⟨rfl, rfl⟩
      cases b1 : nameB x.nm
      · have HX := hide (show false = p by rw [← HP.out]; unfold okE; rw [b1]; simp)
        clear b1
        go_wp2
        go_ret
        exact ⟨ret_bool HX.out, hG⟩
      · have HX := hide (show (fitB x.ky && fitB x.vl) = p by rw [← HP.out]; unfold okE; rw [b1, decide_eq_true h0, decide_eq_true h1]; rfl)
        clear b1
        by_cases b2 : (x.ky.size : Int) ≤ 65536
        · have HY := hide (show decide ((x.vl.size : Int) ≤ 65536) = p by rw [← HX.out]; unfold fitB; rw [decide_eq_true b2]; rfl)
          go_wp2
          go_ret
          exact ⟨ret_bool HY.out, hG⟩
        · have HY := hide (show false = p by rw [← HX.out]; unfold fitB; rw [decide_eq_false b2]; rfl)
          go_wp2
          go_ret
          exact ⟨ret_bool HY.out, hG⟩
    · have HX := hide (show false = p by rw [← HP.out]; unfold okE; rw [decide_eq_false h1]; simp)
      go_enter Try.func33, Try.ntmps33
      go_wp2
      go_ret
      exact ⟨ret_bool HX.out, hG⟩
  · have HX := hide (show false = p by rw [← HP.out]; unfold okE; rw [decide_eq_false h0]; simp)
    go_enter Try.func33, Try.ntmps33
    go_wp2
    go_ret
    exact ⟨ret_bool HX.out, hG⟩
end Go.Proofs.Ythngjbhamgmcgaa
