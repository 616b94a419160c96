/- A history that is read: whether it may be one. -/
import Derived.Test.YtomcdnkafgmleaaP3
import Derived.LoopTactic
namespace Go.Proofs.Ytomcdnkafgmleaa
open Go.RowKit

/-- a slice value reads as a list of ints: it is empty, or leads to a row of cells -/
def Ints (w : World) (v : Value) (h : List Int) : Prop :=
  (∃ a cap, v = .slice a 0 cap ∧ h = []) ∨
  (∃ b off cap, 0 < h.length ∧ h.length ≤ 9223372036854775807 ∧ v = .slice (some ⟨b, off, none⟩) h.length cap ∧ ∀ i, i < h.length → w.cell? ⟨b, off + i, none⟩ = some (.int .i64 (h.getD i 0)))

/-- may a number stand in a history -/
def okN (n : Int) : Bool := decide (0 ≤ n ∧ n ≤ 1099511627776)
def fcode (h : List Int) : Int := if 4096 < h.length then 1 else if h.all okN then 0 else 172

theorem okN_iff (n : Int) : okN n = true ↔ 0 ≤ n ∧ n ≤ 1099511627776 := by unfold okN; simp
theorem okN_getD {h : List Int} (hall : h.all okN = true) {k : Nat} (hk : k < h.length) : 0 ≤ h.getD k 0 ∧ h.getD k 0 ≤ 1099511627776 := by
  have := List.all_eq_true.1 hall (h.getD k 0) (by rw [List.getD_eq_getElem?_getD, List.getElem?_eq_getElem hk]; exact List.getElem_mem hk)
  exact (okN_iff _).1 this
/-- the first that may not -/
theorem first_bad : ∀ (h : List Int), h.all okN = false → ∃ m, m < h.length ∧ okN (h.getD m 0) = false ∧ ∀ k, k < m → okN (h.getD k 0) = true
  | [], hb => by simp at hb
  | x :: h, hb => by
    by_cases hx : okN x = true
    · have hb' : h.all okN = false := by simpa [hx] using hb
      obtain ⟨m, hm, h1, h2⟩ := first_bad h hb'
      refine ⟨m + 1, by simp; omega, by simpa using h1, fun k hk => ?_⟩
      cases k with
      | zero => simpa using hx
      | succ k => simpa using h2 k (by omega)
    · exact ⟨0, by simp, by simpa using hx, fun k hk => by omega⟩

theorem fault_empty (a : Option Addr) (cap : Nat) (w : World) : Calls Try.prog 48 #[.slice a 0 cap] w fun e w' => e = .returned (.int .i64 0) ∧ w = w' := by
  go_enter Try.func48, Try.ntmps48
  go_wp2
  go_loop [10] (fun i => i = .int .i64 0) (fun _ => 0)
  case atStart => exact rfl
  case round =>
    obtain rfl := hrel
    go_wp2
    go_ret
    exact ⟨rfl, rfl⟩
theorem history_empty (a : Option Addr) (cap : Nat) (w : World) : Calls Try.prog 50 #[.slice a 0 cap] w fun e w' => e = .returned (.int .i64 0) ∧ w = w' := by
  go_enter Try.func50, Try.ntmps50
  go_wp2
  go_loop [3] (fun i => i = .int .i64 0) (fun _ => 0)
  case atStart => exact rfl
  case round =>
    obtain rfl := hrel
    go_wp2
    go_ret
    exact ⟨rfl, rfl⟩

theorem fault_long (b off len cap : Nat) (w : World) (hl : 4096 < len) (hm : len ≤ 9223372036854775807) : Calls Try.prog 48 #[.slice (some ⟨b, off, none⟩) len cap] w fun e w' => e = .returned (.int .i64 1) ∧ w = w' := by
  go_enter Try.func48, Try.ntmps48
  go_wp2
  go_ret
  exact ⟨rfl, rfl⟩
theorem history_long (b off len cap : Nat) (w : World) (hl : 4096 < len) (hm : len ≤ 9223372036854775807) : Calls Try.prog 50 #[.slice (some ⟨b, off, none⟩) len cap] w fun e w' => e = .returned (.int .i64 1) ∧ w = w' := by
  go_enter Try.func50, Try.ntmps50
  go_wp2
  go_ret
  exact ⟨rfl, rfl⟩

theorem fault_ok (b off len cap : Nat) (f : Nat → Int) (w : World) (hl : len ≤ 4096) (hc : ∀ i, i < len → w.cell? ⟨b, off + i, none⟩ = some (.int .i64 (f i))) (hok : ∀ i, i < len → 0 ≤ f i ∧ f i ≤ 1099511627776) :
    Calls Try.prog 48 #[.slice (some ⟨b, off, none⟩) len cap] w fun e w' => e = .returned (.int .i64 0) ∧ w = w' := by
  have Hc := Lib.hid hc
  have Hok := Lib.hid hok
  clear hc hok
  go_enter Try.func48, Try.ntmps48
  go_wp2
  go_loop [10] (fun i => ∃ k : Nat, k ≤ len ∧ i = .int .i64 k) (fun i => len - (intOf i).toNat)
  case atStart => exact ⟨0, Nat.zero_le _, rfl⟩
  case round =>
    obtain ⟨k, hk, rfl⟩ := hrel
    by_cases hlt : k < len
    · have c := Hc.out k hlt
      have o := Hok.out k hlt
      have q := Lib.hid (fun w => within_c (f k) 0 1099511627776 true w (by simpa using o))
      clear o
      go_wp2_with (go_at_call 44; refine (q.out _).mono ?_; rintro e w' ⟨rfl, rfl⟩)
      go_round
      case rel => exact ⟨k + 1, by omega, by go_num⟩
      case measure => simp [intOf]; omega
    · go_wp2
      go_ret
      exact ⟨rfl, rfl⟩

theorem fault_bad (b off len cap m : Nat) (f : Nat → Int) (w : World) (hl : len ≤ 4096) (hm : m < len) (hc : ∀ i, i < len → w.cell? ⟨b, off + i, none⟩ = some (.int .i64 (f i))) (hok : ∀ i, i < m → 0 ≤ f i ∧ f i ≤ 1099511627776) (hbad : ¬ (0 ≤ f m ∧ f m ≤ 1099511627776)) :
    Calls Try.prog 48 #[.slice (some ⟨b, off, none⟩) len cap] w fun e w' => e = .returned (.int .i64 172) ∧ w = w' := by
  have Hc := Lib.hid hc
  have Hok := Lib.hid hok
  have Hbad := Lib.hid hbad
  clear hc hok hbad
  go_enter Try.func48, Try.ntmps48
  go_wp2
  go_loop [10] (fun i => ∃ k : Nat, k ≤ m ∧ i = .int .i64 k) (fun i => len - (intOf i).toNat)
  case atStart => exact ⟨0, Nat.zero_le _, rfl⟩
  case round =>
    obtain ⟨k, hk, rfl⟩ := hrel
    by_cases hlt : k < m
    · have c := Hc.out k (by omega)
      have o := Hok.out k hlt
      have q := Lib.hid (fun w => within_c (f k) 0 1099511627776 true w (by simpa using o))
      clear o
      go_wp2_with (go_at_call 44; refine (q.out _).mono ?_; rintro e w' ⟨rfl, rfl⟩)
      go_round
      case rel => exact ⟨k + 1, by omega, by go_num⟩
      case measure => simp [intOf]; omega
    · obtain rfl : k = m := by omega
      have c := Hc.out k (by omega)
      have q := Lib.hid (fun w => within_c (f k) 0 1099511627776 false w (by simpa using Hbad.out))
      go_wp2_with (go_at_call 44; refine (q.out _).mono ?_; rintro e w' ⟨rfl, rfl⟩)
      go_ret
      exact ⟨rfl, rfl⟩

theorem history_ok (b off len cap : Nat) (f : Nat → Int) (w : World) (hl : len ≤ 4096) (hc : ∀ i, i < len → w.cell? ⟨b, off + i, none⟩ = some (.int .i64 (f i))) (hok : ∀ i, i < len → 0 ≤ f i ∧ f i ≤ 1099511627776) :
    Calls Try.prog 50 #[.slice (some ⟨b, off, none⟩) len cap] w fun e w' => e = .returned (.int .i64 0) ∧ w = w' := by
  have Hc := Lib.hid hc
  have Hok := Lib.hid hok
  clear hc hok
  go_enter Try.func50, Try.ntmps50
  go_wp2
  go_loop [3] (fun i => ∃ k : Nat, k ≤ len ∧ i = .int .i64 k) (fun i => len - (intOf i).toNat)
  case atStart => exact ⟨0, Nat.zero_le _, rfl⟩
  case round =>
    obtain ⟨k, hk, rfl⟩ := hrel
    by_cases hlt : k < len
    · have c := Hc.out k hlt
      obtain ⟨o1, o2⟩ := Hok.out k hlt
      go_wp2
      go_round
      case rel => exact ⟨k + 1, by omega, by go_num⟩
      case measure => simp [intOf]; omega
    · go_wp2
      go_ret
      exact ⟨rfl, rfl⟩

theorem history_bad (b off len cap m : Nat) (f : Nat → Int) (w : World) (hl : len ≤ 4096) (hm : m < len) (hc : ∀ i, i < len → w.cell? ⟨b, off + i, none⟩ = some (.int .i64 (f i))) (hok : ∀ i, i < m → 0 ≤ f i ∧ f i ≤ 1099511627776) (hbad : ¬ (0 ≤ f m ∧ f m ≤ 1099511627776)) :
    Calls Try.prog 50 #[.slice (some ⟨b, off, none⟩) len cap] w fun e w' => e = .returned (.int .i64 172) ∧ w = w' := by
  have Hc := Lib.hid hc
  have Hok := Lib.hid hok
  have Hbad := Lib.hid hbad
  clear hc hok hbad
  go_enter Try.func50, Try.ntmps50
  go_wp2
  go_loop [3] (fun i => ∃ k : Nat, k ≤ m ∧ i = .int .i64 k) (fun i => len - (intOf i).toNat)
  case atStart => exact ⟨0, Nat.zero_le _, rfl⟩
  case round =>
    obtain ⟨k, hk, rfl⟩ := hrel
    by_cases hlt : k < m
    · have c := Hc.out k (by omega)
      obtain ⟨o1, o2⟩ := Hok.out k hlt
      go_wp2
      go_round
      case rel => exact ⟨k + 1, by omega, by go_num⟩
      case measure => simp [intOf]; omega
    · obtain rfl : k = m := by omega
      have c := Hc.out k (by omega)
      have hb := Hbad.out
      rcases (by omega : f k < 0 ∨ (0 ≤ f k ∧ 1099511627776 < f k)) with h1 | ⟨h1, h2⟩
      · clear hb
        go_wp2
        go_ret
        exact ⟨rfl, rfl⟩
      · clear hb
        go_wp2
        go_ret
        exact ⟨rfl, rfl⟩

/-- may it be a history: both answer the same -/
theorem fault_any (v : Value) (h : List Int) (w : World) (hv : Ints w v h) : (Calls Try.prog 48 #[v] w fun e w' => e = .returned (.int .i64 (fcode h)) ∧ w = w') ∧ (Calls Try.prog 50 #[v] w fun e w' => e = .returned (.int .i64 (fcode h)) ∧ w = w') := by
  rcases hv with ⟨a, cap, rfl, rfl⟩ | ⟨b, off, cap, h0, hm, rfl, hc⟩
  · exact ⟨fault_empty a cap w, history_empty a cap w⟩
  · unfold fcode
    by_cases hl : 4096 < h.length
    · rw [if_pos hl]
      exact ⟨fault_long b off _ cap w hl hm, history_long b off _ cap w hl hm⟩
    · rw [if_neg hl]
      cases hall : h.all okN
      · obtain ⟨m, hm, h1, h2⟩ := first_bad h hall
        have h3 : ¬ (0 ≤ h.getD m 0 ∧ h.getD m 0 ≤ 1099511627776) := fun g => by rw [(okN_iff _).2 g] at h1; cases h1
        exact ⟨fault_bad b off _ cap m _ w (by omega) hm hc (fun i hi => (okN_iff _).1 (h2 i hi)) h3, history_bad b off _ cap m _ w (by omega) hm hc (fun i hi => (okN_iff _).1 (h2 i hi)) h3⟩
      · exact ⟨fault_ok b off _ cap _ w (by omega) hc (fun i hi => okN_getD hall hi), history_ok b off _ cap _ w (by omega) hc (fun i hi => okN_getD hall hi)⟩
end Go.Proofs.Ytomcdnkafgmleaa
