/- How many tables there are, on both sides. -/
import Derived.Test.YtldehffhpblliaaProg
import Derived.Test.YtldehffhpblliaaLook
namespace Go.Proofs.Ytldehffhpblliaa
open Go.RowKit Plain
set_option linter.unusedVariables false
set_option linter.unusedSimpArgs false
attribute [local go_sem ↓] Go.wp_at_zero Go.wp_at_succ

def allT (ev p : Int) : Nat := p.toNat ^ (ev.toNat - 1)
def MCount (ev : Int) (l : List Q4) (p : Int) : Int × Bool := if okT ev p l then ((cntT (kbT l ev.toNat p.toNat) (allT ev p) : Nat), true) else (0, false)

theorem optRow_slice {n p B : Nat} {w : World} {f : Value} {o : Option Nat} (hn : n ≤ 1048576) (h : OptRow n p B w f o) : ∃ A x y, f = .slice A x y := by
  cases o with
  | none => exact ⟨none, 0, 0, h⟩
  | some q => obtain ⟨A1, cp1, e1, _⟩ := own_rd (show w.ownsRow B _ 1 f n _ from h) (size_le hn); exact ⟨_, _, _, e1⟩

set_option maxHeartbeats 400000 in
theorem CountClo_any (bx : Nat) (c s : Int) (u : Value) (w : World) (hb : w.heap[bx]? = some (.cells #[.int .i64 c] 2 (0, 0))) (h0 : 0 ≤ c) (h1 : c ≤ 4096) :
    Calls Try.prog 55 #[u, .int .i64 s, .pointer (some ⟨bx, 0, none⟩)] w fun e w' => e = .returned (.bool true) ∧ w'.heap[bx]? = some (.cells #[.int .i64 (c + 1)] 2 (0, 0)) ∧ w.grownBy w' (some bx) := by
  have c0 : w.cell? ⟨bx, 0, none⟩ = some (.int .i64 c) := (cell_of_row _ _ 0 _ _ _ hb).trans rfl
  have HB := hd hb
  clear hb
  go_enter Try.func55, Try.ntmps55
  go_wp2_with ((with_reducible refine wpList_store_box _ bx _ _ HB.out size_int 0 (.int .i64 (c + 1)) ?_ ?_ ?_ ?_ ?_); exact rfl; exact rfl; exact rfl; exact (show 0 < 1 by decide); intro w' hb' hg')
  go_ret
  exact ⟨rfl, hb', hg'⟩

set_option maxHeartbeats 1000000 in
set_option maxRecDepth 100000 in
theorem CountTables_any (w : World) (ev : Int) (v : Value) (l : List Q4) (s : Sl w 4 v l.length (q4s l)) (p : Int) :
    Calls Try.prog 37 #[.int .i64 ev, v, .int .i64 p] w fun e w' => e = .returned (.tuple #[.int .i64 (MCount ev l p).1, .bool (MCount ev l p).2]) ∧ Below w.heap.size w w' := by
  have hmf : ∀ (fn : Fn) (first cap : Array Value) (w : World), (Instr.makeFunc fn first cap).run Try.prog w = .ok (.func fn first cap) w := fun _ _ _ _ => rfl
  have S := hd s
  cases hok : okT ev p l with
  | false =>
    have H := hd (show MCount ev l p = (0, false) by rw [MCount, hok]; rfl)
    have T := hd (fun w' h => tables_CountTables_no w.heap.size ev p v l w' (S.out.below h) hok)
    clear hok s
    go_enter Try.func37, Try.ntmps37
    go_wp2_with fail
    refine (T.out _ (by go_grown)).mono ?_
    rintro e w1 ⟨rfl, hb⟩
    have hb2 : Below w.heap.size w w1 := below_tr hb (by go_grown)
    have HB := hd hb2
    clear hb hb2
    go_wp2
    go_ret2
    rw [H.out]
    exact ⟨rfl, HB.out⟩
  | true =>
    obtain ⟨n, m, rfl, rfl⟩ := okT_nat hok
    have H := hd (show MCount n l m = (((cntT (kbT l n m) (m ^ (n - 1)) : Nat) : Int), true) by rw [MCount, hok]; rfl)
    have hall := (okT_facts hok).2.1
    have CL := hd (cnt_le (kbT l n m))
    have CN := hd (fun k (h : kbT l n m k = false) => (tab_no (sm := fun _ => 0) h).1)
    have CY := hd (fun k (h : kbT l n m k = true) => (show cntT (kbT l n m) (k + 1) = cntT (kbT l n m) k + 1 by rw [cntT, h]; rfl))
    have T := hd (fun w1 (hB : Below w.heap.size w w1) (hs1 : w1.heap.size = w.heap.size + 1) (hx : w1.heap[w.heap.size]? = some (.cells #[.int .i64 0] 2 (0, 0))) =>
      tables_CountTables_run w.heap.size n m v l w1 hok true (fun k w2 => w2.heap[w.heap.size]? = some (.cells #[.int .i64 (cntT (kbT l n m) k)] 2 (0, 0)) ∧ Below w.heap.size w w2 ∧ w.heap.size + 1 ≤ w2.heap.size) (fun _ => True)
        (fun k w2 h => S.out.below h.2.1) (fun k w2 h => by omega)
        (fun k w2 w3 g h hg hgr => ⟨by rw [hgr.block _ (by omega) (by intro e; have := Option.some.inj e; omega)]; exact h.1, below_row hgr h.2.1 (fun q hq => by have := Option.some.inj hq; omega), by have := hgr.size; omega⟩)
        (fun k w2 hk hkb h => by rw [CN.out k hkb]; exact h)
        (fun k w2 u hk hkb h _ => by
          have hck := CL.out k
          refine (CountClo_any w.heap.size (cntT (kbT l n m) k) _ u w2 h.1 (by omega) (by omega)).mono ?_
          rintro e w3 ⟨rfl, h3, hg3⟩
          refine ⟨rfl, ?_, fun i hi1 hi2 => hg3.block i hi2 (by intro e; have := Option.some.inj e; omega)⟩
          rw [if_pos rfl, CY.out k hkb]
          exact ⟨by push_cast; exact h3, below_row hg3 h.2.1 (fun q hq => by cases hq; exact Nat.le_refl _), by have := hg3.size; omega⟩)
        ⟨hx, hB, by omega⟩)
    clear hok s
    go_enter Try.func37, Try.ntmps37
    go_wp2_with fail
    refine (T.out _ (by go_grown) (by simp) (by first | (simp only [heap_alloc_get]; simp) | simp)).mono ?_
    rintro e w1 ⟨rfl, h⟩
    simp only [if_true] at h
    obtain ⟨h1, h2, h3⟩ := h
    have c0 : w1.cell? ⟨w.heap.size, 0, none⟩ = some (.int .i64 (cntT (kbT l n m) (m ^ (n - 1)))) := (cell_of_row _ _ 0 _ _ _ h1).trans rfl
    have HB := hd h2
    clear h1 h2 h3
    go_wp2
    go_ret2
    rw [H.out]
    exact ⟨rfl, HB.out⟩

set_option maxHeartbeats 1000000 in
set_option maxRecDepth 100000 in
theorem specCountTables_any (w : World) (ev : Int) (v : Value) (l : List Q4) (s : Sl w 4 v l.length (q4s l)) (p : Int) :
    Calls Try.prog 34 #[.int .i64 ev, v, .int .i64 p] w fun e w' => e = .returned (.tuple #[.int .i64 (MCount ev l p).1, .bool (MCount ev l p).2]) ∧ Below w.heap.size w w' := by
  have A1 := hd (l05Rules_any ev v l p w s)
  have S := hd s
  clear s
  cases h1 : rulesB ev p l with
  | false =>
    have H := hd (show MCount ev l p = (0, false) by rw [MCount, okT, h1]; rfl)
    rw [h1] at A1
    clear h1
    go_enter Try.func34, Try.ntmps34
    go_wp2_with (first | (go_at_call 51; refine A1.out.mono ?_; rintro e w' ⟨rfl, hb⟩))
    go_ret2
    rw [H.out]
    exact ⟨rfl, hb⟩
  | true =>
    rw [h1] at A1
    have h2 := h1
    simp only [rulesB, Bool.and_eq_true, inR_iff] at h2
    obtain ⟨n, rfl⟩ := Int.eq_ofNat_of_zero_le (show 0 ≤ ev by omega)
    obtain ⟨m, rfl⟩ := Int.eq_ofNat_of_zero_le (show 0 ≤ p by omega)
    by_cases hbig : m ^ (n - 1) ≤ 4096
    · have hok : okT n m l = true := by rw [okT, h1]; simpa using hbig
      have H := hd (show MCount n l m = (((cntT (kbT l n m) (m ^ (n - 1)) : Nat) : Int), true) by rw [MCount, hok]; rfl)
      have L := hd (fun w' h => l05Look_run n m v l w' (S.out.below h) hok)
      have N12 : n ≤ 1048576 := by omega
      clear h1 h2 hok hbig
      go_enter Try.func34, Try.ntmps34
      go_wp2_with (first | (go_at_call 51; refine A1.out.mono ?_; rintro e w1 ⟨rfl, hb⟩) | (go_at_call 52; refine (L.out _ hb).mono ?_; rintro e w2 ⟨f, b, rfl, k1, k2, hb2⟩; obtain ⟨A1, x1, y1, rfl⟩ := optRow_slice N12 k1; obtain ⟨A2, x2, y2, rfl⟩ := optRow_slice N12 k2))
      go_ret2
      rw [H.out]
      refine ⟨rfl, ?_⟩
      have := below_tr hb2 hb
      first | exact this | exact this.alloc this.size _ | (exact below_tr (by go_grown) this)
    · have H := hd (show MCount n l m = (0, false) by rw [MCount, okT, h1]; simp [hbig])
      have L := hd (fun w' => l05Look_big n m v l w' (by omega) (by omega) (by omega) (by omega) (by omega))
      clear h1 h2 hbig
      go_enter Try.func34, Try.ntmps34
      go_wp2_with (first | (go_at_call 51; refine A1.out.mono ?_; rintro e w1 ⟨rfl, hb⟩) | (go_at_call 52; refine (L.out _).mono ?_; rintro e w2 ⟨rfl, hb2⟩))
      go_ret2
      rw [H.out]
      refine ⟨rfl, ?_⟩
      have := below_tr hb2 hb
      first | exact this | exact this.alloc this.size _ | (exact below_tr (by go_grown) this)
end Go.Proofs.Ytldehffhpblliaa
