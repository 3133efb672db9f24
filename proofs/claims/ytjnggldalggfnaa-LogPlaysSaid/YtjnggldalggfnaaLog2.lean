/-
  Log: where a stretch lies, how much room there is, Reserve, New, and what is asked of a place.
-/
import Derived.Test.YtjnggldalggfnaaLog1
namespace Go.Proofs.Ytjnggldalggfnaa
open Go.RowKit
theorem lowN (w : World) (n : Nat) : Below w.heap.size w (w.drewN n) := ⟨rfl, rfl, rfl, Nat.le_refl _, fun _ _ => rfl⟩
theorem quiet_eq {P : Program} {f : FuncId} {args : Array Value} {w : World} {n : Nat} {v : Value} (h : Calls P f args (w.drewN n) fun e w' => e = .returned v ∧ w.drewN n = w') :
    Calls P f args (w.drewN n) fun e w' => e = .returned v ∧ ∃ m, w' = w.drewN m := h.mono fun _ _ ⟨h1, h2⟩ => ⟨h1, n, h2.symm⟩
theorem ret_i64 {a b : Int} (h : a = b) : Ending.returned (.int .i64 a) = .returned (.int .i64 b) := by rw [h]
theorem sector_any {g b : Nat} {L : PLog.Lg} {own : List Nat} (w : World) (h : IsLog w g L b own) (x : Nat) (hx : x ≤ 9000000000000000000) :
    Calls Try.prog 61 #[.pointer (some ⟨g, 0, none⟩), .int .u64 x] w fun e w' => e = .returned (.int .i64 (PLog.sec L.pl L.n x : Nat)) ∧ Below w.heap.size w w' := by
  obtain ⟨_, c1, c2, _⟩ := h.cells
  have hn := h.1.n4
  have hn5 := h.1.n5
  have hp := h.1.place
  have hs := PLog.sec_lt (pl := L.pl) (x := x) (show 0 < L.n by omega)
  have e : ((PLog.sec L.pl L.n x : Nat) : Int) = (L.pl : Int) + (x : Int) / 110 % L.n := by unfold PLog.sec; simp
  clear h
  obtain ⟨S, hS⟩ : ∃ S, PLog.sec L.pl L.n x = S := ⟨_, rfl⟩
  obtain ⟨n, hnn⟩ : ∃ n, L.n = n := ⟨_, rfl⟩
  obtain ⟨p, hpp⟩ : ∃ p, L.pl = p := ⟨_, rfl⟩
  rw [hS, hnn, hpp] at e
  rw [hS, hnn, hpp] at hs
  rw [hpp] at c1 hp
  rw [hnn] at c2 hn hn5 hp
  rw [hS]
  have w1 : IntKind.u64.wrap (n : Int) = n := IntWalk.u64_in _ (by omega)
  have z : ¬ (n : Int) = 0 := by omega
  obtain ⟨Q, hQ⟩ : ∃ Q : Nat, (x : Int) / 110 = Q := ⟨x / 110, by omega⟩
  obtain ⟨R, hR⟩ : ∃ R : Nat, (Q : Int) % n = R := ⟨Q % n, by omega⟩
  have hRn : (R : Int) < n := by rw [← hR]; exact Int.emod_lt_of_pos _ (by omega)
  have t1 : (x : Int).tdiv 110 = Q := by rw [Int.tdiv_eq_ediv_of_nonneg (by omega)]; exact hQ
  have t2 : (Q : Int).tmod n = R := by rw [Int.tmod_eq_emod_of_nonneg (by omega)]; exact hR
  have w2 : IntKind.i64.wrap (R : Int) = R := IntWalk.i64_in _ (by omega)
  have w4 : IntKind.u64.wrap (Q : Int) = Q := IntWalk.u64_in _ (by omega)
  have w3 : IntKind.i64.wrap ((p : Int) + R) = S := by rw [IntWalk.i64_in _ (by omega), e, hQ, hR]
  clear e hQ hS hnn hpp hR
  go_enter Try.func61, Try.ntmps61
  go_wp2_with fail
  go_quiet (fail)
  go_wp2
  go_ret
  exact ⟨rfl, lowN _ _⟩
theorem room_nil (w : World) : Calls Try.prog 19 #[.pointer none] w fun e w' => e = .returned (.int .i64 0) ∧ w = w' := by
  go_enter Try.func19, Try.ntmps19
  go_wp2_with fail
  refine (made_nil _).mono ?_; rintro e w1 ⟨rfl, rfl⟩
  go_wp2
  go_ret
  exact ⟨rfl, rfl⟩
theorem room_any {g b : Nat} {L : PLog.Lg} {own : List Nat} (w : World) (h : IsLog w g L b own) :
    Calls Try.prog 19 #[.pointer (some ⟨g, 0, none⟩)] w fun e w' => e = .returned (.int .i64 (L.room : Nat)) ∧ Below w.heap.size w w' := by
  have H := Lib.hid h
  obtain ⟨_, _, c2, _, c6, c7, _, c9⟩ := h.cells
  have hn := h.1.n4
  have hn5 := h.1.n5
  have hnx := h.1.next5
  have hfn := L.first_next
  have hr := h.1.ring
  have hbl := PLog.begin_le L.first
  have HR : Hid ((L.room : Int) = (L.n : Int) * 110 - ((L.next : Int) - (PLog.begin L.first : Nat)) - L.reserved) := Lib.hid (by unfold PLog.Lg.room; omega)
  clear h
  obtain ⟨R, hR⟩ : ∃ R, L.room = R := ⟨_, rfl⟩
  obtain ⟨n, hnn⟩ : ∃ n, L.n = n := ⟨_, rfl⟩
  obtain ⟨x, hxx⟩ : ∃ x, L.next = x := ⟨_, rfl⟩
  obtain ⟨f, hff⟩ : ∃ f, L.first = f := ⟨_, rfl⟩
  obtain ⟨r, hrr⟩ : ∃ r, L.reserved = r := ⟨_, rfl⟩
  rw [hR, hnn, hxx, hff, hrr] at HR
  rw [hnn] at c2 hn hn5
  rw [hff] at c6
  rw [hxx] at c7 hnx
  rw [hrr] at c9
  rw [hxx, hff] at hfn
  rw [hxx, hff, hrr, hnn] at hr
  rw [hff] at hbl
  rw [hR]
  have HBG : Hid (∀ W, Calls Try.prog 32 #[.int .u64 f] W fun e w' => e = .returned (.int .u64 (PLog.begin f : Nat)) ∧ W = w') := Lib.hid (fun W => begin_any f (by omega) W)
  obtain ⟨B, hB⟩ : ∃ B, PLog.begin f = B := ⟨_, rfl⟩
  rw [hB] at HBG HR hbl hr
  obtain ⟨U, hU⟩ : ∃ U : Nat, U = x - B := ⟨_, rfl⟩
  obtain ⟨V, hV⟩ : ∃ V : Nat, V = n * 110 := ⟨_, rfl⟩
  obtain ⟨X, hX⟩ : ∃ X : Nat, X = V - U := ⟨_, rfl⟩
  have w1 : IntKind.i64.wrap ((n : Int) * 110) = V := by rw [IntWalk.i64_in _ (by omega)]; omega
  have w2 : IntKind.u64.wrap ((x : Int) - B) = U := by rw [IntWalk.u64_in _ (by omega)]; omega
  have w3 : IntKind.i64.wrap (U : Int) = U := IntWalk.i64_in _ (by omega)
  have w4 : IntKind.i64.wrap ((V : Int) - U) = X := by rw [IntWalk.i64_in _ (by omega)]; omega
  have w5 : IntKind.i64.wrap ((X : Int) - r) = R := by rw [IntWalk.i64_in _ (by have := HR.out; omega)]; have := HR.out; omega
  have z0 : max (0 : Int) (R : Int) = R := by omega
  clear hR hnn hxx hff hrr hB hU hV hX
  go_enter Try.func19, Try.ntmps19
  go_wp2_with fail
  refine (made_any _ H.out).mono ?_; rintro e w1 ⟨rfl, rfl⟩
  go_wp2_with fail
  go_quiet ((go_at_call 32; exact quiet_eq (HBG.out _)))
  go_wp2
  all_goals (
    go_ret
    exact ⟨ret_i64 (by omega), lowN _ _⟩)
end Go.Proofs.Ytjnggldalggfnaa
