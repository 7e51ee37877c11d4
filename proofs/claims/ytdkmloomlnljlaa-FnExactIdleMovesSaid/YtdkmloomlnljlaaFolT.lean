/- Which trip can follow which, in plain numbers. No program stands here. -/
import Derived.Test.YtdkmloomlnljlaaWords
import Derived.Test.YtdkmloomlnljlaaPlain
namespace Go.Proofs.Ytdkmloomlnljlaa.Plain

/-- trip b can follow a -/
def folB (m : List Int) (a b : Q4) : Bool := decide (a.b + m.getD (a.d * 8 + b.c).toNat 0 ≤ b.a)
/-- the j-th place of the table of all pairs -/
def cellF (l : List Q4) (m : List Int) (j : Nat) : Bool := match l[j / l.length]?, l[j % l.length]? with | some a, some b => folB m a b | _, _ => false
def partF (l : List Q4) (m : List Int) (j : Nat) : List Bool := (List.range j).map (cellF l m)
theorem partF_succ (l : List Q4) (m : List Int) (j : Nat) : partF l m (j + 1) = partF l m j ++ [cellF l m j] := by simp [partF, List.range_succ]
theorem partF_len (l : List Q4) (m : List Int) (j : Nat) : (partF l m j).length = j := by simp [partF]
theorem cellF_at {l : List Q4} {m : List Int} {i k : Nat} {a b : Q4} (ha : l[i]? = some a) (hb : l[k]? = some b) : cellF l m (i * l.length + k) = folB m a b := by
  have hk : k < l.length := (List.getElem?_eq_some_iff.1 hb).1
  have h1 : (i * l.length + k) / l.length = i := by rw [Nat.mul_comm, Nat.mul_add_div (by omega), Nat.div_eq_of_lt hk]; rfl
  have h2 : (i * l.length + k) % l.length = k := by rw [Nat.mul_comm, Nat.mul_add_mod, Nat.mod_eq_of_lt hk]
  rw [cellF, h1, h2, ha, hb]
end Go.Proofs.Ytdkmloomlnljlaa.Plain
