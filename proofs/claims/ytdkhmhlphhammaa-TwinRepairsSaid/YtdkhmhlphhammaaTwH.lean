/-
  Twin: the calls by which pages are written home.
-/
import Derived.Test.YtdkhmhlphhammaaTwV
namespace Go.Proofs.Ytdkhmhlphhammaa
open Go.RowKit
open PTwin (Hm)
theorem elem_fn : ElemT Try.prog 87 37 1 8 := ElemT.mk' (z := .nilFunc) Try.underlying87 (by kernel_rfl) rfl (by decide)
theorem news_at (w : World) (vs : List Value) (e : TypeId) (fz : Nat × Nat) {g : Nat} (hg : w.heap.size = g) : ∀ j u, vs[j]? = some u → (w.alloc (.cells vs.toArray e fz)).cell? ((⟨g, 0, none⟩ : Addr).add j) = some u := by
  subst hg; exact news_alloc w vs e fz
def okIn (w W : World) (u : Value) (g : Nat) : Prop := w.heap.size ≤ g ∧ g < W.heap.size ∧ u.ownBlock ≠ some g
/-- a list of calls under way: its closures, the disk's box *)-/
def Hs (w W : World) (b m : Nat) (u : Value) (cs : List PTwin.Cal) : Prop := ∃ xs, Sl W (w.heap.size + 1) 37 1 u m xs ∧ Clos W b (okIn w W u) xs cs ∧ Below w.heap.size w W ∧ W.heap[w.heap.size]? = some (.cells #[.pointer (some ⟨b, 0, none⟩)] 25 (0, 0))
theorem Hs.form {w W : World} {b m : Nat} {u : Value} {cs : List PTwin.Cal} (h : Hs w W b m u cs) : ∃ p c, u = .slice p m c := by
  obtain ⟨xs, h1, _⟩ := h
  exact Sl.form h1
theorem hs_below {w W : World} {b m : Nat} {u : Value} {cs : List PTwin.Cal} (h : Hs w W b m u cs) : Below w.heap.size w W := by
  obtain ⟨xs, h1, h2, h3, h4⟩ := h
  exact h3
theorem Hs.alloc {w W : World} {b m : Nat} {u : Value} {cs : List PTwin.Cal} (h : Hs w W b m u cs) (o : Obj) : Hs w (W.alloc o) b m u cs := by
  obtain ⟨xs, h1, h2, h3, h4⟩ := h
  refine ⟨xs, h1.alloc o, h2.keep (fun g hg => ⟨hg.1, by rw [World.size_alloc]; have := hg.2.1; omega, hg.2.2⟩) (fun g hg => Below.heap_alloc _ _ _ hg.2.1), h3.alloc h3.size o, ?_⟩
  exact (Below.heap_alloc _ _ _ (Array.getElem?_eq_some_iff.1 h4).1).trans h4
theorem Hs.lt {w W : World} {b m : Nat} {u : Value} {cs : List PTwin.Cal} (h : Hs w W b m u cs) : w.heap.size < W.heap.size := by
  obtain ⟨xs, h1, h2, h3, h4⟩ := h
  exact (Array.getElem?_eq_some_iff.1 h4).1
theorem grown_same {W W' : World} {row : Option Nat} (hg : W.grownBy W' row) {g : Nat} (h1 : g < W.heap.size) (h2 : row ≠ some g) : W'.heap[g]? = W.heap[g]? := hg.block g h1 (fun e => h2 e.symm)
theorem okIn.cell {w W W' : World} {u u' : Value} {g : Nat} (h : okIn w W u g) (hg : W.grownBy W' u.ownBlock) (ho : ∀ k, u'.ownBlock = some k → u.ownBlock = some k ∨ W.heap.size ≤ k) : okIn w W' u' g ∧ W'.heap[g]? = W.heap[g]? :=
  ⟨⟨h.1, by have := hg.size; have := h.2.1; omega, fun e => by
    rcases ho g e with h1 | h1
    · exact h.2.2 h1
    · have := h.2.1; omega⟩, grown_same hg h.2.1 h.2.2⟩
/-- behind an append of a closure -/
theorem Hs.push {w W W' : World} {b m : Nat} {u u' : Value} {cs : List PTwin.Cal} {xs : List Value} {x : Value} {c : PTwin.Cal} (h2 : Clos W b (okIn w W u) xs cs) (h1 : Sl W (w.heap.size + 1) 37 1 u m xs) (h3 : Below w.heap.size w W) (h4 : W.heap[w.heap.size]? = some (.cells #[.pointer (some ⟨b, 0, none⟩)] 25 (0, 0)))
    (hx : Clo W b (okIn w W u) x c) (hsl : Sl W' (w.heap.size + 1) 37 1 u' (m + 1) (xs ++ [x])) (hg : W.grownBy W' u.ownBlock) (ho : ∀ k, u'.ownBlock = some k → u.ownBlock = some k ∨ W.heap.size ≤ k) : Hs w W' b (m + 1) u' (cs ++ [c]) := by
  refine ⟨xs ++ [x], hsl, ?_, h3.grown hg h3.size (fun k e => by have := (h1.lt k e).1; omega), ?_⟩
  · exact (h2.append (Clos.one hx)).keep (fun g hgk => (hgk.cell hg ho).1) (fun g hgk => (hgk.cell hg ho).2)
  · exact (grown_same hg (Array.getElem?_eq_some_iff.1 h4).1 (fun e => by have := (h1.lt _ e).1; omega)).trans h4
theorem homes_take (base : Nat) (l : List Hm) (k : Nat) (h : k < l.length) : (l.take (k + 1)).flatMap (PTwin.homeC base) = (l.take k).flatMap (PTwin.homeC base) ++ PTwin.homeC base l[k] := by
  rw [List.take_succ_eq_append_getElem h, List.flatMap_append]; simp
theorem homeC_take (base : Nat) (h : Hm) (j : Nat) (hj : j < 4) : (PTwin.homeC base h).take (j + 1) = (PTwin.homeC base h).take j ++ [.wr (base + h.page * 4 + j) (PTwin.piece h.bytes j)] := by
  have h2 : j < (PTwin.homeC base h).length := by rw [PTwin.homeC_length]; exact hj
  rw [List.take_succ_eq_append_getElem h2]
  simp [PTwin.homeC]
theorem Hs.home {w wi W5 : World} {b m G K j p : Nat} {u u' : Value} {cs : List PTwin.Cal} {xs : List Value} {B : ByteArray} (h1 : Sl wi (w.heap.size + 1) 37 1 u m xs) (h2 : Clos wi b (okIn w wi u) xs cs) (h3 : Below w.heap.size w wi) (h4 : wi.heap[w.heap.size]? = some (.cells #[.pointer (some ⟨b, 0, none⟩)] 25 (0, 0)))
    (hG : wi.heap[G]? = some (.cells #[.int .u32 p, .string B] 34 (0, 0)) ∧ okIn w wi u G) (hj : j < 4) (hB : B.size = 512) (hK : K ≤ 100000000000)
    (hsl : Sl W5 (w.heap.size + 1) 37 1 u' (m + 1) (xs ++ [.func (.func 50) #[] #[.pointer (some ⟨w.heap.size, 0, none⟩), .pointer (some ⟨wi.heap.size + 1, 0, none⟩), .pointer (some ⟨G, 0, none⟩), .pointer (some ⟨wi.heap.size, 0, none⟩)]]))
    (hg : (((wi.alloc (.cells #[.int .i64 j] 3)).alloc (.cells #[.int .i64 K] 3)).alloc (.cells #[.func (.func 50) #[] #[.pointer (some ⟨w.heap.size, 0, none⟩), .pointer (some ⟨wi.heap.size + 1, 0, none⟩), .pointer (some ⟨G, 0, none⟩), .pointer (some ⟨wi.heap.size, 0, none⟩)]] 37)).grownBy W5 u.ownBlock)
    (ho : ∀ k, u'.ownBlock = some k → u.ownBlock = some k ∨ (((wi.alloc (.cells #[.int .i64 j] 3)).alloc (.cells #[.int .i64 K] 3)).alloc (.cells #[.func (.func 50) #[] #[.pointer (some ⟨w.heap.size, 0, none⟩), .pointer (some ⟨wi.heap.size + 1, 0, none⟩), .pointer (some ⟨G, 0, none⟩), .pointer (some ⟨wi.heap.size, 0, none⟩)]] 37)).heap.size ≤ k) :
    Hs w W5 b (m + 1) u' (cs ++ [.wr K (PTwin.piece B.data.toList j)]) ∧ W5.heap[G]? = some (.cells #[.int .u32 p, .string B] 34 (0, 0)) ∧ okIn w W5 u' G := by
  generalize hx : Value.func (.func 50) #[] #[.pointer (some ⟨w.heap.size, 0, none⟩), .pointer (some ⟨wi.heap.size + 1, 0, none⟩), .pointer (some ⟨G, 0, none⟩), .pointer (some ⟨wi.heap.size, 0, none⟩)] = x at *
  have b1 := Boxed.new wi 3 (.int .i64 j)
  have b2 := Boxed.new (wi.alloc (.cells #[.int .i64 j] 3)) 3 (.int .i64 K)
  rw [World.size_alloc] at b2
  generalize hW1 : wi.alloc (.cells #[.int .i64 j] 3) = W1 at *
  have s1 : W1.heap.size = wi.heap.size + 1 := by rw [← hW1, World.size_alloc]
  generalize hW2 : W1.alloc (.cells #[.int .i64 K] 3) = W2 at *
  have s2 : W2.heap.size = wi.heap.size + 1 + 1 := by rw [← hW2, World.size_alloc, s1]
  have e1 : ∀ g, g < wi.heap.size → W2.heap[g]? = wi.heap[g]? := fun g h => by
    rw [← hW2, Below.heap_alloc _ _ _ (by omega), ← hW1, Below.heap_alloc _ _ _ h]
  have hlt := (Array.getElem?_eq_some_iff.1 h4).1
  have hub : ∀ k, u.ownBlock = some k → k < wi.heap.size := fun k e => (h1.lt k e).2
  have k2 : ∀ g, okIn w wi u g → okIn w W2 u g := fun g hg => ⟨hg.1, by have := hg.2.1; omega, hg.2.2⟩
  have hu0 : u.ownBlock ≠ some w.heap.size := fun e => by have := (h1.lt _ e).1; omega
  have hle := h3.size
  have x1 : Clo W2 b (okIn w W2 u) x (.wr K (PTwin.piece B.data.toList j)) := by
    refine .inl ⟨w.heap.size, wi.heap.size + 1, G, wi.heap.size, K, j, B, hx.symm, ⟨Nat.le_refl _, by omega, hu0⟩, ⟨by omega, by omega, fun e => by have := hub _ e; omega⟩, k2 _ hG.2, ⟨hle, by omega, fun e => by have := hub _ e; omega⟩, ?_, b2.cell, ?_, ?_, hj, hB, hK, rfl⟩
    · exact (World.cell?_of_block (e1 _ hlt)).trans (by simp [World.cell?, h4])
    · exact (World.cell?_of_block (e1 _ hG.2.2.1)).trans (by simp [World.cell?, hG.1])
    · have := (b1.alloc (.cells #[.int .i64 K] 3)).cell
      rwa [hW2] at this
  have hG2 : W2.heap[G]? = some (.cells #[.int .u32 p, .string B] 34 (0, 0)) := (e1 _ hG.2.2.1).trans hG.1
  have c1 : Clos W2 b (okIn w W2 u) xs cs := h2.keep k2 (fun g hg => e1 g hg.2.1)
  have sl2 : Sl W2 (w.heap.size + 1) 37 1 u m xs := h1.keep (fun k e => e1 k (hub k e))
  have b3 : Below w.heap.size w W2 := by rw [← hW2, ← hW1]; exact (h3.alloc hle _).alloc (by rw [World.size_alloc]; omega) _
  have h42 := (e1 _ hlt).trans h4
  -- the closure's own row
  generalize hW3 : W2.alloc (.cells #[x] 37) = W3 at *
  have s3 : W3.heap.size = W2.heap.size + 1 := by rw [← hW3, World.size_alloc]
  have e3 : ∀ g, g < W2.heap.size → W3.heap[g]? = W2.heap[g]? := fun g h => by rw [← hW3, Below.heap_alloc _ _ _ h]
  have k3 : ∀ g, okIn w W2 u g → okIn w W3 u g := fun g hg => ⟨hg.1, by have := hg.2.1; omega, hg.2.2⟩
  have b4 : Below w.heap.size w W3 := by rw [← hW3]; exact b3.alloc (by omega) _
  refine ⟨Hs.push (c1.keep k3 (fun g hg => e3 g hg.2.1)) (sl2.keep (fun k e => e3 k (by have := hub k e; omega))) b4 ((e3 _ (by omega)).trans h42) (x1.keep k3 (fun g hg => e3 g hg.2.1)) hsl hg ho, ?_, ((k3 _ (k2 _ hG.2)).cell hg ho).1⟩
  exact ((k3 _ (k2 _ hG.2)).cell hg ho).2.trans ((e3 _ (by have := hG.2.2.1; omega)).trans hG2)
set_option maxRecDepth 20000 in
set_option maxHeartbeats 4000000 in
theorem homes_any (w : World) (b base : Nat) (l : List Hm) (v : Value) (hl : l.length ≤ 1000) (hb : base ≤ 100000) (hp : ∀ h ∈ l, h.page < 4294967296 ∧ h.bytes.length = 512) (h : HomeIn w v l) :
    Calls Try.prog 39 #[.pointer (some ⟨b, 0, none⟩), .int .i64 base, v] w fun e w' => ∃ u xs, e = .returned u ∧ Sl w' w.heap.size 37 1 u (4 * l.length + 1) xs ∧ Clos w' b (fun g => w.heap.size ≤ g ∧ g < w'.heap.size ∧ u.ownBlock ≠ some g) xs (PTwin.homes base l) ∧ Below w.heap.size w w' := by
  have hmf : ∀ (fn : Fn) (first cap : Array Value) (w : World), (Instr.makeFunc fn first cap).run Try.prog w = .ok (.func fn first cap) w := fun _ _ _ _ => rfl
  obtain ⟨pv, cv, rfl, hcv, hcm⟩ := RdS.form h
  have HIN := Lib.hid h
  have HP := Lib.hid hp
  obtain ⟨W0, hW0⟩ : ∃ W0, w.alloc (.cells #[.pointer (some ⟨b, 0, none⟩)] 25) = W0 := ⟨_, rfl⟩
  have HST : Hid (Hs w W0 b 0 (.slice none 0 0) []) := Lib.hid (by
    rw [← hW0]
    exact ⟨[], Sl.nil _ _ _ _, Clos.nil _ _ _, (Below.refl _ _).alloc (Nat.le_refl _) _, heap_alloc_new w _⟩)
  unfold maxLen at hcm
  clear h hp
  go_enter Try.func39, Try.ntmps39
  go_wp2
  go_loopw [6, 13] (fun uv iv wr => ∃ k : Nat, k ≤ l.length ∧ iv = .int .i64 k ∧ Hid (Hs w wr b (4 * k) uv ((l.take k).flatMap (PTwin.homeC base)))) (fun _ iv _ => l.length - (intOf iv).toNat)
  case atStart => exact ⟨0, by omega, rfl, HST⟩
  case round =>
    clear HST hW0
    obtain ⟨k, hk, rfl, HS⟩ := hrel
    obtain ⟨pu, cu, rfl⟩ := Hs.form HS.out
    by_cases hlt : k < l.length
    · have i1 : (k : Int) < l.length := by omega
      have k0 : (0 : Int) ≤ k := by omega
      obtain ⟨g, off, rfl, hg, c0, c1⟩ := home_cells (l := l) (c := cv) (p := pv) (show HomeIn wr _ l from RdS.step HIN.out (hs_below HS.out)) hlt
      obtain ⟨hp4, hp5⟩ := HP.out _ (List.getElem_mem hlt)
      obtain ⟨p, hpp⟩ : ∃ p, l[k].page = p := ⟨_, rfl⟩
      obtain ⟨B, hBB⟩ : ∃ B : ByteArray, (⟨l[k].bytes.toArray⟩ : ByteArray) = B := ⟨_, rfl⟩
      have HB5 : Hid (B.size = 512) := Lib.hid (by rw [← hBB]; exact hp5)
      have HHC : Hid (∀ j, j < 4 → (PTwin.homeC base l[k]).take (j + 1) = (PTwin.homeC base l[k]).take j ++ [.wr (base + p * 4 + j) (PTwin.piece B.data.toList j)]) := Lib.hid (fun j hj => by rw [homeC_take base _ j hj, hpp, ← hBB])
      have HTK := Lib.hid (homes_take base l k hlt)
      have HL4 := Lib.hid (PTwin.homeC_length base l[k])
      obtain ⟨C, hC⟩ : ∃ C, PTwin.homeC base l[k] = C := ⟨_, rfl⟩
      rw [hC] at HHC HTK HL4
      obtain ⟨E, hE⟩ : ∃ E, (l.take k).flatMap (PTwin.homeC base) = E := ⟨_, rfl⟩
      rw [hE] at HS HTK
      rw [hpp] at c0 hp4
      rw [hBB] at c1
      obtain ⟨G, hGG⟩ : ∃ G, wr.heap.size = G := ⟨_, rfl⟩
      obtain ⟨wi0, hwi⟩ : ∃ W, wr.alloc (.cells #[.int .u32 p, .string B] 34) = W := ⟨_, rfl⟩
      have HS0 : Hid (Hs w wi0 b (4 * k + 0) (.slice pu (4 * k) cu) (E ++ C.take 0)) := Lib.hid (by rw [← hwi]; simpa using HS.out.alloc _)
      have HG0 : Hid (wi0.heap[G]? = some (.cells #[.int .u32 p, .string B] 34 (0, 0)) ∧ okIn w wi0 (.slice pu (4 * k) cu) G) := Lib.hid (by
        rw [← hwi, ← hGG]
        refine ⟨heap_alloc_new wr _, ?_, by rw [World.size_alloc]; omega, fun e => ?_⟩
        · exact (hs_below HS.out).size
        · obtain ⟨xs, q1, _⟩ := HS.out
          have := (q1.lt _ e).2
          omega)
      clear HS hpp hBB hC hE hp5 hlt
      go_wp2
      go_loopw [6, 17] (fun uv jv wi => ∃ j : Nat, j ≤ 4 ∧ jv = .int .i64 j ∧ Hid (Hs w wi b (4 * k + j) uv (E ++ C.take j)) ∧ Hid (wi.heap[G]? = some (.cells #[.int .u32 p, .string B] 34 (0, 0)) ∧ okIn w wi uv G)) (fun _ jv _ => 4 - (intOf jv).toNat)
      case atStart => exact ⟨0, by omega, rfl, HS0, HG0⟩
      case round =>
        clear HS0 HG0
        obtain ⟨j, hj, rfl, HS, HG⟩ := hrel
        clear hwi hGG
        obtain ⟨pu2, cu2, rfl⟩ := Hs.form HS.out
        by_cases hj4 : j < 4
        · have j1 : (j : Int) < 4 := by omega
          obtain ⟨xs, h1, h2, h3, h4⟩ := HS.out
          obtain ⟨Q, hQ⟩ : ∃ Q : Nat, p * 4 = Q := ⟨_, rfl⟩
          obtain ⟨F, hF⟩ : ∃ F : Nat, base + Q = F := ⟨_, rfl⟩
          obtain ⟨K, hK⟩ : ∃ K : Nat, F + j = K := ⟨_, rfl⟩
          have w1 : IntKind.i64.wrap (p : Int) = p := IntWalk.i64_in _ (by omega)
          have w2 : IntKind.i64.wrap ((p : Int) * 4) = Q := by rw [IntWalk.i64_in _ (by omega)]; omega
          have w3 : IntKind.i64.wrap ((base : Int) + Q) = F := by rw [IntWalk.i64_in _ (by omega)]; omega
          have w4 : IntKind.i64.wrap ((F : Int) + j) = K := by rw [IntWalk.i64_in _ (by omega)]; omega
          have HKN : Hid (base + p * 4 + j = K ∧ K ≤ 100000000000) := Lib.hid (by omega)
          have hG0 : wr.cell? ⟨G, 0, none⟩ = some (.int .u32 p) := by simp [World.cell?, HG.out.1]
          have hGA : ∀ o, (wr.alloc o).cell? ⟨G, 0, none⟩ = some (.int .u32 p) := fun o => (World.cell?_alloc_some wr ⟨G, 0, none⟩ o (by rw [hG0]; rfl)).trans hG0
          have HA := Lib.hid h1
          have HB := Lib.hid h2
          have HC := Lib.hid h3
          have HD := Lib.hid h4
          have HJ := Lib.hid hj4
          have hls := (Array.getElem?_eq_some_iff.1 h4).1
          clear h1 h2 h3 h4 HS hj4 hQ hF hK hj hp4 hG0
          go_wp2_with (at_builtin; (with_reducible apply wpList_append_sl elem_fn (((HA.out.alloc _).alloc _).alloc _) [_]); (· rfl); (· rfl); (· rfl); (· rfl); (· rfl); (· exact news_at _ [_] _ _ (by simp only [World.size_alloc])); (· intro u hu; simp at hu; subst hu; rfl); (· unfold maxLen; omega); (· omega); (· rw [World.size_alloc, World.size_alloc, World.size_alloc]; omega); intro v' w5 g1 g2 _ g4)
          obtain ⟨q1, q2, q3⟩ := Hs.home HA.out HB.out HC.out HD.out HG.out HJ.out HB5.out HKN.out.2 g1 g2 g4
          have HN : Hid (Hs w w5 b (4 * k + (j + 1)) v' (E ++ C.take (j + 1))) := Lib.hid (by
            rw [HHC.out j HJ.out, HKN.out.1, ← List.append_assoc]
            exact q1)
          have HGN := Lib.hid (⟨q2, q3⟩ : _ ∧ _)
          clear q1 q2 q3 g1 g2 g4 HA HB HC HD HG
          go_wp2
          exact ⟨⟨j + 1, by have := HJ.out; omega, by go_num, HN, HGN⟩, by have := HJ.out; simp [intOf]; omega⟩
        · obtain rfl : j = 4 := by omega
          have j1 : ¬ (4 : Int) < 4 := by omega
          have HN : Hid (Hs w wr b (4 * (k + 1)) (.slice pu2 (4 * k + 4) cu2) ((l.take (k + 1)).flatMap (PTwin.homeC base))) := Lib.hid (by
            have h := HS.out
            rw [List.take_of_length_le (by rw [HL4.out]; exact Nat.le_refl _), ← HTK.out] at h
            exact h)
          clear HS HG hj
          go_wp2
          exact ⟨⟨k + 1, by omega, by go_num, HN⟩, by simp [intOf]; omega⟩
    · have hkn : k = l.length := by omega
      subst hkn
      have i1 : ¬ (l.length : Int) < l.length := by omega
      obtain ⟨xs, h1, h2, h3, h4⟩ := HS.out
      have c3 : wr.cell? ⟨w.heap.size, 0, none⟩ = some (.pointer (some ⟨b, 0, none⟩)) := by simp [World.cell?, h4]
      have HA := Lib.hid h1
      have HB := Lib.hid h2
      have HC := Lib.hid h3
      have HD := Lib.hid h4
      have hsz := h3.size
      clear h1 h2 h3 h4 HS hlt hk
      go_wp2_with (at_builtin; (with_reducible apply wpList_append_sl elem_fn (HA.out.alloc _) [_]); (· rfl); (· rfl); (· rfl); (· rfl); (· rfl); (· exact news_at _ [_] _ _ rfl); (· intro u hu; simp at hu; subst hu; rfl); (· unfold maxLen; omega); (· omega); (· have := (Array.getElem?_eq_some_iff.1 HD.out).1; rw [World.size_alloc]; omega); intro v' w5 g1 g2 _ g4)
      go_ret
      have hlt := (Array.getElem?_eq_some_iff.1 HD.out).1
      have k2 : ∀ g, okIn w wr (.slice pu (4 * l.length) cu) g → okIn w (wr.alloc (.cells #[.func (.func 11) #[.pointer (some ⟨b, 0, none⟩)] #[]] 37)) (.slice pu (4 * l.length) cu) g := fun g hg => ⟨hg.1, by rw [World.size_alloc]; have := hg.2.1; omega, hg.2.2⟩
      obtain ⟨ys, q1, q2, q3, q4⟩ := Hs.push (c := .sy) (HB.out.keep k2 (fun g hg => Below.heap_alloc _ _ _ hg.2.1)) (HA.out.alloc _) (HC.out.alloc hsz _) ((Below.heap_alloc _ _ _ hlt).trans HD.out) (.inr (.inr ⟨rfl, rfl⟩)) g1 g2 g4
      refine ⟨_, rfl, ys, q1.base_le (by omega), ?_, q3⟩
      have e : PTwin.homes base l = (l.take l.length).flatMap (PTwin.homeC base) ++ [.sy] := by rw [List.take_length]; rfl
      rw [e]
      exact q2
end Go.Proofs.Ytdkhmhlphhammaa
