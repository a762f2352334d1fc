/- The plain law of requests: get, put and delete come back from their bytes. -/
import Derived.Test.YtbkgcfoilgggjaaDoorReqCheck
import Derived.Test.YtbkgcfoilgggjaaDoorPackLaw
set_option linter.unusedVariables false
set_option linter.unusedSimpArgs false
namespace Go.Proofs.YtbkgcfoilgggjaaDoor

def plainQ (kind : Int) (key value : Bs) : Req := ⟨kind, 0, 0, 0, 0, 0, key, value, 0, 0, false⟩
theorem bytes_get (kind : Int) (h : kind = 2 ∨ kind = 5 ∨ kind = 4) (key : Bs) : bytesR (plainQ kind key []) = u8 kind :: (vbytes 0 ++ (u8 0 :: (vbytes 0 ++ (vbytes key.length ++ key)))) := by
  rcases h with rfl | rfl | rfl <;> simp [bytesR, form, plainQ, putF, IntKind.wrap_u8]
theorem bytes_put (key value : Bs) : bytesR (plainQ 3 key value) = u8 3 :: (vbytes 0 ++ (u8 0 :: (vbytes 0 ++ (vbytes key.length ++ (key ++ (vbytes value.length ++ value)))))) := by
  simp [bytesR, form, plainQ, putF, IntKind.wrap_u8]
theorem read_get (kind : Int) (h : kind = 2 ∨ kind = 5 ∨ kind = 4) (key : Bs) (hk : key.length ≤ 39) : readR (bytesR (plainQ kind key [])) = (plainQ kind key [], true) := by
  rw [bytes_get kind h]
  have hu : ((u8 kind).toNat : Int) = kind := u8_toNat (by omega) (by omega)
  have hf : form kind = [104, 99, 107] := by rcases h with rfl | rfl | rfl <;> rfl
  have e1 := fun rest => rNum_vbytes 4611686018427387904 0 rest false (by decide) (by decide) (by decide)
  have e2 := rBytes_put' 39 key [] false (by omega) (by decide)
  rw [List.append_nil] at e2
  unfold readR
  simp only [rByte_cons, hu, hf]
  simp [takes, takeF, zeroQ, e1, rByte_cons, e2, plainQ, doneE, u8]
theorem read_put (key value : Bs) (hk : key.length ≤ 39) (hv : value.length ≤ 2048) : readR (bytesR (plainQ 3 key value)) = (plainQ 3 key value, true) := by
  rw [bytes_put]
  have hu : ((u8 3).toNat : Int) = 3 := u8_toNat (by omega) (by omega)
  have hf : form 3 = [104, 99, 107, 118] := rfl
  have e1 := fun rest => rNum_vbytes 4611686018427387904 0 rest false (by decide) (by decide) (by decide)
  have e2 := fun rest => rBytes_put' 39 key rest false (by omega) (by decide)
  have e3 := rBytes_put' 2048 value [] false (by omega) (by decide)
  rw [List.append_nil] at e3
  unfold readR
  simp only [rByte_cons, hu, hf]
  simp [takes, takeF, zeroQ, e1, rByte_cons, e2, e3, plainQ, doneE, u8]
end Go.Proofs.YtbkgcfoilgggjaaDoor
